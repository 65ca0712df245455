/- The walk of the law ClientNone. -/
import Derived.Test.YtfchbkmegicfoabGreatClientNoneRun
import Derived.Test.YtfchbkmegicfoabGreatOpen
set_option linter.unusedSimpArgs false
set_option linter.unusedVariables false
namespace Go.Proofs.YtfchbkmegicfoabGreat
open Go.RowKit Go.ChangeShapes Go.WideShapes Go.ChangeAt

theorem follows_mixed : Tryz.prog.follows .mixedOrders = true := by kernel_rfl

theorem arg_cells : Tryz.prog.cellsOf 50 = 55 := by kernel_rfl

set_option maxRecDepth 100000 in
theorem clientNone_walk {W : World} {base : Nat} {v0 : Value} {A0 A1 : Prop} (k0 : Value.okWide Tryz.prog W .any base 50 v0) (_ : A0) (_ : A1) :
    Calls Tryz.prog 3 #[v0] W fun e w' => e = .returned (.bool true) ∧ Below W.heap.size W w' := by
  obtain ⟨cs, rfl, h1, h2⟩ := Ex.okWide_agg Tryz.underlying50 rfl k0
  rw [arg_cells] at h1
  obtain ⟨h', hx⟩ := Ex.isTrue_inv clientNone_run
  have hr : Ex.rels (fun i => cs.toList.getD i default) (fun _ => none) W [.agg ((List.range' 0 55).map .ext)] [.agg cs] := by
    refine Ex.rels_cons ?_ Ex.rels_nil
    unfold Ex.rel
    refine ⟨cs.toList, by simp, Ex.rels_exts 55 0 cs.toList (by simpa using h1) fun i v hv => ⟨?_, h2 i v (by simpa using hv)⟩⟩
    rw [Nat.zero_add, List.getD_eq_getElem?_getD, hv]
    rfl
  refine (Ex.ex_calls Ex.tab_sound Ex.noNG follows_mixed (Ex.sums_ok _ _) hx hr).mono fun e w' hy => ?_
  obtain ⟨v', μ', rfl, hb, hv⟩ := hy
  exact ⟨by rw [Ex.rel_bool_inv hv], hb⟩

end Go.Proofs.YtfchbkmegicfoabGreat
