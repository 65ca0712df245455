/- Contracts of package disk, third part. -/
import Derived.Test.YtpikcbgkdnkeaaaDisk2
set_option linter.unusedSimpArgs false
set_option linter.unusedVariables false
namespace Go.Proofs.Ytpikcbgkdnkeaaa
open Go.RowKit

section
variable {w w' : World} {p : Nat} {g : Option Nat} {sz ba sy li : Int} {bs : List UInt8}

/-- How far a disk's bytes stay behind a crash. -/
def crashTo (e sy li keep : Int) : Int := if 0 ≤ li then max (min e (min li (sy + min (max keep 0) 67108864))) sy else max (min e (sy + min (max keep 0) 67108864)) sy

set_option maxHeartbeats 400000 in
theorem arm_c (hd : IsDisk w p g sz ba bs sy (-1)) (n : Int) (h0 : 0 ≤ n) :
    Calls Try.prog 10 #[.pointer (some ⟨p, 0, none⟩), .int .i64 n] w fun e w' => e = .returned (.tuple #[]) ∧ IsDisk w' p g sz ba bs sy (ba + bs.length + min (max n 0) 1099511627776) ∧ Kept (· = p) w w' := by
  obtain ⟨a, c, c0, c1, c2, c3, c4, f2, f3, f4, f0, f1, hown, hc, hcm, hp⟩ := hd.opened
  have hb := hd.baLo
  have hb2 := hd.baHi
  have hl := hd.len
  have hs := hd.szHi
  go_enter Try.func10, Try.ntmps10
  go_wp2_with (first
      | (go_at_call 23; refine (made_c hd).mono ?_; rintro e w' ⟨rfl, rfl⟩)
      | (go_at_call 14; refine (end_c (by first | exact hd | exact hd.drewN _)).mono ?_; rintro e w' ⟨rfl, n2, rfl⟩))
  go_end0
  exact ⟨rfl, (hd.drewN _).setLimit _ (by omega), ((Kept.refl _ _).dN _).st _ (.inl rfl)⟩

set_option maxHeartbeats 800000 in
theorem crash_c (hd : IsDisk w p g sz ba bs sy li) (keep : Int) :
    Calls Try.prog 12 #[.pointer (some ⟨p, 0, none⟩), .int .i64 keep] w fun e w' => e = .returned (.tuple #[]) ∧ IsDisk w' p g sz ba (bs.take (crashTo (ba + bs.length) sy li keep - ba).toNat) (crashTo (ba + bs.length) sy li keep) (-1) ∧ Kept (· = p) w w' := by
  obtain ⟨a, c, c0, c1, c2, c3, c4, f2, f3, f4, f0, f1, hown, hc, hcm, hp⟩ := hd.opened
  have hb := hd.baLo
  have hb2 := hd.baHi
  have hl := hd.len
  have hs := hd.szHi
  have hsz := hd.szLo
  have hsyl := hd.syLo
  have hsyh := hd.syHi
  have fin : ∀ (to : Int) (n2 : Nat) (a2 : Option Addr) (c2' : Nat), sy ≤ to → to ≤ ba + bs.length → Own w 5 1 (.slice a2 (to - ba).toNat c2') (to - ba).toNat ((bs.map bv).take (to - ba).toNat) g →
      ∀ (w1 : World), w1 = (((w.drewN n2).setCell ⟨p, 2, none⟩ (.slice a2 (to - ba).toNat c2')).setCell ⟨p, 3, none⟩ (.int .i64 to)).setCell ⟨p, 4, none⟩ (.int .i64 (-1)) →
        IsDisk w1 p g sz ba (bs.take (to - ba).toNat) to (-1) ∧ Kept (· = p) w w1 := by
    rintro to n2 a2 c2' h1 h2 h3 w1 rfl
    have hp2 : (w.drewN n2).heap[p]? = _ := hp
    have K1 : Kept (· = p) w ((((w.drewN n2).setCell ⟨p, 2, none⟩ (.slice a2 (to - ba).toNat c2')).setCell ⟨p, 3, none⟩ (.int .i64 to)).setCell ⟨p, 4, none⟩ (.int .i64 (-1))) := ((((Kept.refl (· = p) w).dN _).st _ (.inl rfl)).st _ (.inl rfl)).st _ (.inl rfl)
    refine ⟨⟨⟨_, heap_setCell_same (heap_setCell_same (heap_setCell_same hp2 _) _) _, ?_⟩, ?_, ?_, ?_, ?_, ?_, ?_, ?_, ?_⟩, K1⟩
    · rw [List.map_take, List.length_take, Nat.min_eq_left (by omega)]
      exact h3.kept K1 (hown.ne hp (by decide))
    all_goals ((try simp only [List.length_take]); omega)
  have FIN := Lib.hid fin
  clear fin
  by_cases hli : 0 ≤ li
  · rw [crashTo, if_pos hli]
    obtain ⟨a2, c2', hsl, hrd⟩ := hown.slice3_run (P := Try.prog) (t := 22) (hi := max (min (ba + bs.length) (min li (sy + min (max keep 0) 67108864))) sy - ba) Try.underlying22 size_u8 hc (by omega) (by omega)
    rw [Nat.mul_one] at hrd
    have e1 : IntKind.i64.wrap (max (min (ba + bs.length) (min li (sy + min (max keep 0) 67108864))) sy - ba) = max (min (ba + bs.length) (min li (sy + min (max keep 0) 67108864))) sy - ba := IntWalk.i64_in _ (by omega)
    have FN := Lib.hid (FIN.out (max (min (ba + bs.length) (min li (sy + min (max keep 0) 67108864))) sy))
    go_enter Try.func12, Try.ntmps12
    go_wp2_with (first
      | (go_at_call 23; refine (made_c hd).mono ?_; rintro e w' ⟨rfl, rfl⟩)
      | (go_at_call 14; refine (end_c (by first | exact hd | exact hd.drewN _)).mono ?_; rintro e w' ⟨rfl, n2, rfl⟩))
    refine wp_region_tail 20 (by kernel_rfl) (by kernel_rfl) ?_
    simp only [List.take_succ_cons, List.take_zero, List.drop_succ_cons, List.drop_zero]
    repeat still_step
    refine wpStill_nil ?_
    go_wp2
    go_end0
    exact ⟨rfl, FN.out _ _ _ (by omega) (by omega) hrd _ rfl⟩
  · rw [crashTo, if_neg hli]
    obtain ⟨a2, c2', hsl, hrd⟩ := hown.slice3_run (P := Try.prog) (t := 22) (hi := max (min (ba + bs.length) (sy + min (max keep 0) 67108864)) sy - ba) Try.underlying22 size_u8 hc (by omega) (by omega)
    rw [Nat.mul_one] at hrd
    have e1 : IntKind.i64.wrap (max (min (ba + bs.length) (sy + min (max keep 0) 67108864)) sy - ba) = max (min (ba + bs.length) (sy + min (max keep 0) 67108864)) sy - ba := IntWalk.i64_in _ (by omega)
    have FN := Lib.hid (FIN.out (max (min (ba + bs.length) (sy + min (max keep 0) 67108864)) sy))
    go_enter Try.func12, Try.ntmps12
    go_wp2_with (first
      | (go_at_call 23; refine (made_c hd).mono ?_; rintro e w' ⟨rfl, rfl⟩)
      | (go_at_call 14; refine (end_c (by first | exact hd | exact hd.drewN _)).mono ?_; rintro e w' ⟨rfl, n2, rfl⟩))
    refine wp_region_tail 20 (by kernel_rfl) (by kernel_rfl) ?_
    simp only [List.take_succ_cons, List.take_zero, List.drop_succ_cons, List.drop_zero]
    repeat still_step
    refine wpStill_nil ?_
    go_wp2
    go_end0
    exact ⟨rfl, FN.out _ _ _ (by omega) (by omega) hrd _ rfl⟩

end
end Go.Proofs.Ytpikcbgkdnkeaaa
