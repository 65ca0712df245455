/- The runs of the law MonNone: whatever the message, for all numbers. -/
import Derived.Test.YtfchbkmegicfoaaGreatMonLivesRun
import Derived.Test.YtfchbkmegicfoaaGreatOpen
set_option linter.unusedSimpArgs false
set_option linter.unusedVariables false
namespace Go.Proofs.YtfchbkmegicfoaaGreat
open Go

theorem follows_mixed : Tryz.prog.follows .mixedOrders = true := by kernel_rfl

theorem lives_c (w : World) : Calls Tryz.prog 12 #[] w fun e w' => e = .returned (.bool true) ∧ Go.RowKit.Below w.heap.size w w' := by
  obtain ⟨h', hx⟩ := Ex.isTrue_inv lives_run
  refine (Ex.ex_calls (ρ := fun _ => default) (args' := []) Ex.tab_sound Ex.noNG follows_mixed (Ex.sums_ok _ _) hx Ex.rels_nil).mono fun e w' hy => ?_
  obtain ⟨v', μ', rfl, hb, hv⟩ := hy
  exact ⟨by rw [Ex.rel_bool_inv hv], hb⟩

def Ex.S1 : Ex.Sums := fun f => bif Nat.beq f 12 then some Ex.sTrue else Ex.S0 f

theorem Ex.sums_ok1 (ρ : Nat → Value) (fl : Nat) : Ex.SumsOK Tryz.prog ρ fl Ex.S1 := by
  intro f g args h v h' hs hg μ w args' hr ha
  unfold Ex.S1 at hs
  cases h1 : Nat.beq f 12 with
  | false => rw [h1] at hs; exact Ex.sums_ok ρ fl f g args h v h' hs hg μ w args' hr ha
  | true =>
    rw [h1] at hs
    obtain rfl := Option.some.inj hs
    obtain rfl := Nat.eq_of_beq_eq_true h1
    exact Ex.sTrue_ok lives_c hg hr ha

def monRun (id n : Ex.AV) : Prop := Ex.isTrue (Ex.ex Tryz.prog (Ex.tabOf Tryz.prog Ex.NT0) Ex.S1 100000 (.call 3 [.agg ((List.range' 0 46).map .ext), id, n] none) .nil) = true

set_option maxRecDepth 100000 in
theorem monRun_lo : monRun (.ext 46) (.rng 47 none (some 0)) := by unfold monRun; decide +kernel
set_option maxRecDepth 100000 in
theorem monRun_hi : monRun (.ext 46) (.rng 47 (some 6) none) := by unfold monRun; decide +kernel
set_option maxRecDepth 100000 in
theorem monRun_1lo : monRun (.rng 46 none (some (-1))) (.lit (.int .i64 1)) := by unfold monRun; decide +kernel
set_option maxRecDepth 100000 in
theorem monRun_1hi : monRun (.rng 46 (some 1) none) (.lit (.int .i64 1)) := by unfold monRun; decide +kernel
set_option maxRecDepth 100000 in
theorem monRun_1_0 : monRun (.lit (.int .i64 0)) (.lit (.int .i64 1)) := by unfold monRun; decide +kernel
set_option maxRecDepth 100000 in
theorem monRun_2lo : monRun (.rng 46 none (some (-1))) (.lit (.int .i64 2)) := by unfold monRun; decide +kernel
set_option maxRecDepth 100000 in
theorem monRun_2hi : monRun (.rng 46 (some 2) none) (.lit (.int .i64 2)) := by unfold monRun; decide +kernel
set_option maxRecDepth 100000 in
theorem monRun_2_0 : monRun (.lit (.int .i64 0)) (.lit (.int .i64 2)) := by unfold monRun; decide +kernel
set_option maxRecDepth 100000 in
theorem monRun_2_1 : monRun (.lit (.int .i64 1)) (.lit (.int .i64 2)) := by unfold monRun; decide +kernel
set_option maxRecDepth 100000 in
theorem monRun_3lo : monRun (.rng 46 none (some (-1))) (.lit (.int .i64 3)) := by unfold monRun; decide +kernel
set_option maxRecDepth 100000 in
theorem monRun_3hi : monRun (.rng 46 (some 3) none) (.lit (.int .i64 3)) := by unfold monRun; decide +kernel
set_option maxRecDepth 100000 in
theorem monRun_3_0 : monRun (.lit (.int .i64 0)) (.lit (.int .i64 3)) := by unfold monRun; decide +kernel
set_option maxRecDepth 100000 in
theorem monRun_3_1 : monRun (.lit (.int .i64 1)) (.lit (.int .i64 3)) := by unfold monRun; decide +kernel
set_option maxRecDepth 100000 in
theorem monRun_3_2 : monRun (.lit (.int .i64 2)) (.lit (.int .i64 3)) := by unfold monRun; decide +kernel
set_option maxRecDepth 100000 in
theorem monRun_4lo : monRun (.rng 46 none (some (-1))) (.lit (.int .i64 4)) := by unfold monRun; decide +kernel
set_option maxRecDepth 100000 in
theorem monRun_4hi : monRun (.rng 46 (some 4) none) (.lit (.int .i64 4)) := by unfold monRun; decide +kernel
set_option maxRecDepth 100000 in
theorem monRun_4_0 : monRun (.lit (.int .i64 0)) (.lit (.int .i64 4)) := by unfold monRun; decide +kernel
set_option maxRecDepth 100000 in
theorem monRun_4_1 : monRun (.lit (.int .i64 1)) (.lit (.int .i64 4)) := by unfold monRun; decide +kernel
set_option maxRecDepth 100000 in
theorem monRun_4_2 : monRun (.lit (.int .i64 2)) (.lit (.int .i64 4)) := by unfold monRun; decide +kernel
set_option maxRecDepth 100000 in
theorem monRun_4_3 : monRun (.lit (.int .i64 3)) (.lit (.int .i64 4)) := by unfold monRun; decide +kernel
set_option maxRecDepth 100000 in
theorem monRun_5lo : monRun (.rng 46 none (some (-1))) (.lit (.int .i64 5)) := by unfold monRun; decide +kernel
set_option maxRecDepth 100000 in
theorem monRun_5hi : monRun (.rng 46 (some 5) none) (.lit (.int .i64 5)) := by unfold monRun; decide +kernel
set_option maxRecDepth 100000 in
theorem monRun_5_0 : monRun (.lit (.int .i64 0)) (.lit (.int .i64 5)) := by unfold monRun; decide +kernel
set_option maxRecDepth 100000 in
theorem monRun_5_1 : monRun (.lit (.int .i64 1)) (.lit (.int .i64 5)) := by unfold monRun; decide +kernel
set_option maxRecDepth 100000 in
theorem monRun_5_2 : monRun (.lit (.int .i64 2)) (.lit (.int .i64 5)) := by unfold monRun; decide +kernel
set_option maxRecDepth 100000 in
theorem monRun_5_3 : monRun (.lit (.int .i64 3)) (.lit (.int .i64 5)) := by unfold monRun; decide +kernel
set_option maxRecDepth 100000 in
theorem monRun_5_4 : monRun (.lit (.int .i64 4)) (.lit (.int .i64 5)) := by unfold monRun; decide +kernel

end Go.Proofs.YtfchbkmegicfoaaGreat
