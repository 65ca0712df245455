/- The walk of the law WireNames. -/
import Derived.Test.YtcpejidmancbdaaAwake
import Derived.Test.YtcpejidmancbdaaOpen
set_option linter.unusedSimpArgs false
set_option linter.unusedVariables false
namespace Go.Proofs.Ytcpejidmancbdaa
open Go.RowKit Go.ChangeShapes Go.WideShapes Go.ChangeAt

theorem names_core {w : World} : Calls Try.prog 3 #[] w fun e w' => e = .returned (.bool true) ∧ Kept (fun _ => False) w w' := by
  go_enter Try.func3, Try.ntmps3
  go_wp2_with (first
    | (go_at_call 9; refine (num_c _).mono ?_; rintro e w' ⟨rfl, rfl⟩)
    | (go_at_call 10; refine awake_c.mono ?_; rintro e w9 ⟨rfl, k9⟩))
  go_ret
  exact ⟨rfl, k9⟩

theorem wireNames_walk {W : World} : Calls Try.prog 3 #[] W fun e w' => e = .returned (.bool true) ∧ Below W.heap.size W w' :=
  names_core.mono fun e w' ⟨he, hk⟩ => ⟨he, hk.below (Nat.le_refl _) (fun _ h => h.elim)⟩

end Go.Proofs.Ytcpejidmancbdaa
