/- The walk of the law JournalNone, whatever its arguments. -/
import Derived.Test.YtjlfonibjbilmaaJournalNoneRun
import Derived.Test.YtjlfonibjbilmaaOpen
set_option linter.unusedSimpArgs false
set_option linter.unusedVariables false
namespace Go.Proofs.Ytjlfonibjbilmaa
open Go.RowKit Go.ChangeShapes Go.WideShapes Go.ChangeAt

theorem follows_mixed : Try.prog.follows .mixedOrders = true := by kernel_rfl

set_option maxRecDepth 100000 in
theorem journalNone_walk {W : World} {base : Nat} {v0 v1 : Value} {A0 A1 A2 : Prop} (k0 : Value.okWide Try.prog W .any base 22 v0) (_ : A0) (k1 : Value.okWide Try.prog W .any base 3 v1) (_ : A1) (_ : A2) :
    Calls Try.prog 3 #[v0, v1] W fun e w' => e = .returned (.bool true) ∧ Below W.heap.size W w' := by
  have o0 := Ex.okWide_one Try.underlying22 rfl k0
  have o1 := Ex.okWide_one Try.underlying3 rfl k1
  obtain ⟨h', hx⟩ := Ex.isTrue_inv journalNone_run
  have hr : Ex.rels (fun i => if i = 0 then v0 else v1) (fun _ => none) W [.ext 0, .ext 1] [v0, v1] :=
    Ex.rels_cons (Ex.rel_ext (i := 0) o0) (Ex.rels_cons (Ex.rel_ext (i := 1) o1) Ex.rels_nil)
  refine (Ex.ex_calls Ex.tab_sound Ex.noNG follows_mixed (Ex.sums_ok _ _) hx hr).mono fun e w' hy => ?_
  obtain ⟨v', μ', rfl, hb, hv⟩ := hy
  exact ⟨by rw [Ex.rel_bool_inv hv], hb⟩

end Go.Proofs.Ytjlfonibjbilmaa
