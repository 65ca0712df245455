/- Contracts of package disk, fourth part. -/
import Derived.Test.YtpikcbgkdnkeaaaDisk3
set_option linter.unusedSimpArgs false
set_option linter.unusedVariables false
namespace Go.Proofs.Ytpikcbgkdnkeaaa
open Go.RowKit

section
variable {w w' : World} {p : Nat} {g : Option Nat} {sz ba sy li : Int} {bs : List UInt8}

theorem same_c {x y : Value} {xs ys : List UInt8} {gx gy : Option Nat} (hx : Reads w 1 x xs.length (xs.map bv) gx) (hy : Reads w 1 y ys.length (ys.map bv) gy) (b : Bool) (hb : decide (xs = ys) = b) :
    Calls Try.prog 16 #[x, y] w fun e w' => e = .returned (.bool b) ∧ w' = w := by
  have hx1 := hx.string_run (P := Try.prog) (src := 22) (dst := 9) Try.underlying22 Try.underlying5 Try.underlying9
  have hy1 := hy.string_run (P := Try.prog) (src := 22) (dst := 9) Try.underlying22 Try.underlying5 Try.underlying9
  clear hx hy
  have hb' : (xs == ys) = b := by
    rw [← hb, Bool.eq_iff_iff]; simp
  clear hb
  go_enter Try.func16, Try.ntmps16
  go_wp2
  go_ret
  exact ⟨rfl, rfl⟩

set_option maxHeartbeats 800000 in
theorem trim_c (hd : IsDisk w p g sz ba bs sy li) (at_ : Int) (h1 : ba ≤ at_) (h3 : at_ ≤ sy) (h4 : at_ ≤ 1000000000000) (hfz : frz li (ba + bs.length) = false) :
    Calls Try.prog 19 #[.pointer (some ⟨p, 0, none⟩), .int .i64 at_] w fun e w' => e = .returned (.int .i64 0) ∧ ∃ g', IsDisk w' p g' sz at_ (bs.drop (at_ - ba).toNat) sy li ∧ Kept (· = p) w w' ∧ (∀ k, g' = some k → w.heap.size ≤ k) := by
  obtain ⟨i0, hi, hz0, hz1, hz2⟩ := info_parts info_u8
  obtain ⟨a, c, c0, c1, c2, c3, c4, f2, f3, f4, f0, f1, hown, hc, hcm, hp⟩ := hd.opened
  have hb := hd.baLo
  have hb2 := hd.baHi
  have hl := hd.len
  have hs := hd.szHi
  have hsz := hd.szLo
  have hsyl := hd.syLo
  have hsyh := hd.syHi
  have hli := hd.liLo
  have g1 : decide (ba ≤ at_) = true := by simpa using h1
  have g2 : decide (at_ ≤ sy) = true := by simp; omega
  have HB := Lib.hid hfz
  clear hfz
  obtain ⟨a2, c2', hsl, hrd⟩ := hown.reads.sliceFrom_run (P := Try.prog) (t := 22) (lo := at_ - ba) Try.underlying22 size_u8 hc (by omega) (by omega)
  rw [Nat.mul_one, ← List.map_drop] at hrd
  have e1 : IntKind.i64.wrap (at_ - ba) = at_ - ba := IntWalk.i64_in _ (by omega)
  go_enter Try.func19, Try.ntmps19
  go_wp2_with (first
    | (go_at_call 23; refine (made_c hd).mono ?_; rintro e w' ⟨rfl, rfl⟩)
    | (go_at_call 15; refine (synced_c hd).mono ?_; rintro e w' ⟨rfl, rfl⟩)
    | (go_at_call 24; refine (in_c hd _ _).mono ?_; rintro e w' ⟨rfl, rfl⟩)
    | (go_at_call 11; refine (frozen_c hd false HB.out).mono ?_; rintro e w' ⟨rfl, n1, rfl⟩))
  refine wp_region_mix 1 12 (by kernel_rfl) (by kernel_rfl) (fun _ _ d _ _ h => by cases d <;> exact h) ?_
  simp only [List.take_succ_cons, List.take_zero, List.drop_succ_cons, List.drop_zero]
  repeat (quiet_step (fail))
  refine wpQuiet_nil ?_
  rintro _ ⟨nq, rfl⟩
  go_wp2_with (first
    | (at_builtin; refine wpList_append_Own rfl _ _ 22 22 rfl 5 i0 (.int .u8 0) 1 1 Try.underlying22 hi hz0 hz1 hz2 rfl rfl (Own.nil _ _ _) rfl (by exact Reads.src (by first | exact (hrd.drewN _).drew | exact hrd.drewN _) Try.underlying22 (bv_one _)) (by unfold maxLen; omega) (by omega) ?_; intro a1 k1 w1 g1' hown1 hk1 hg1; have hp1 : w1.heap[p]? = _ := (hk1.block p (lt_in hp) (by simp)).trans hp; have q1 := cell_in (k := 2) hp1; have q2 := frozen_in (k := 2) hp1; have q3 := cell_in (k := 1) hp1; have q4 := frozen_in (k := 1) hp1))
  go_ret
  simp only [Nat.zero_add, List.nil_append] at hown1
  have K0 : Kept (· = p) w' w1 := (((Kept.refl (· = p) w').dN n1).dN nq).trans (hk1.mono fun i _ e => by cases e)
  refine ⟨rfl, g1', ⟨⟨_, heap_setCell_same (heap_setCell_same hp1 _) _, ?_⟩, ?_, ?_, ?_, ?_, ?_, ?_, ?_, ?_⟩, ?_, ?_⟩
  · rw [List.length_drop]
    exact hown1.kept (((Kept.refl (· = p) w1).st _ (.inl rfl)).st _ (.inl rfl)) (hown1.ne hp1 (by decide))
  all_goals try ((try simp only [List.length_drop]); omega)
  · exact (K0.st _ (.inl rfl)).st _ (.inl rfl)
  · intro k hk
    rcases hg1 k hk with e | e
    · cases e
    · exact e

end
end Go.Proofs.Ytpikcbgkdnkeaaa
