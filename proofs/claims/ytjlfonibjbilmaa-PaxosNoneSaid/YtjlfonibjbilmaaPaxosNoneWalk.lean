/- The walk of the law PaxosNone. -/
import Derived.Test.YtjlfonibjbilmaaPaxosNoneRun
import Derived.Test.YtjlfonibjbilmaaOpen
set_option linter.unusedSimpArgs false
set_option linter.unusedVariables false
namespace Go.Proofs.Ytjlfonibjbilmaa
open Go.RowKit Go.ChangeShapes Go.WideShapes Go.ChangeAt

theorem follows_mixed : Try.prog.follows .mixedOrders = true := by kernel_rfl

theorem msg_cells : Try.prog.cellsOf 72 = 46 := by kernel_rfl

set_option maxRecDepth 100000 in
theorem paxosNone_walk {W : World} {base : Nat} {v0 : Value} {A0 A1 : Prop} (k0 : Value.okWide Try.prog W .any base 72 v0) (_ : A0) (_ : A1) :
    Calls Try.prog 4 #[v0] W fun e w' => e = .returned (.bool true) ∧ Below W.heap.size W w' := by
  obtain ⟨cs, rfl, h1, h2⟩ := Ex.okWide_agg Try.underlying72 rfl k0
  rw [msg_cells] at h1
  obtain ⟨h', hx⟩ := Ex.isTrue_inv paxosNone_run
  have hr : Ex.rels (fun i => cs.toList.getD i default) (fun _ => none) W [.agg ((List.range' 0 46).map .ext)] [.agg cs] := by
    refine Ex.rels_cons ?_ Ex.rels_nil
    unfold Ex.rel
    refine ⟨cs.toList, by simp, Ex.rels_exts 46 0 cs.toList (by simpa using h1) fun i v hv => ⟨?_, h2 i v (by simpa using hv)⟩⟩
    rw [Nat.zero_add, List.getD_eq_getElem?_getD, hv]
    rfl
  refine (Ex.ex_calls Ex.tab_sound Ex.noNG follows_mixed (Ex.sums_ok _ _) hx hr).mono fun e w' hy => ?_
  obtain ⟨v', μ', rfl, hb, hv⟩ := hy
  exact ⟨by rw [Ex.rel_bool_inv hv], hb⟩

end Go.Proofs.Ytjlfonibjbilmaa
