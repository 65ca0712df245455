/- The walk of the law PlaceMods, its arguments opened. -/
import Derived.Test.YtfikkjdffmchfaaPgNone
set_option linter.unusedSimpArgs false
set_option linter.unusedVariables false
namespace Go.Proofs.Ytfikkjdffmchfaa
open Go.RowKit Go.ChangeShapes Go.WideShapes Go.ChangeAt

theorem placeMods_walk {H : Type} {enc : TypeId × Value → H} {W : World} {base : Nat} {v0 v1 : Value} {d0 d1 : DataW H} {p0 p1 : List MemPlace}
    (k0 : Value.okWide Try.prog W .any base 41 v0) (h0 : DataW.Trod enc Try.prog W 0 (fun _ => true) true 41 v0 d0 p0)
    (k1 : Value.okWide Try.prog W .any base 3 v1) (h1 : DataW.Trod enc Try.prog W 0 (fun _ => true) true 3 v1 d1 p1)
    {ts : List TypeId} {ds : List (DataW H)} (hsz : (DataW.weightsEach Try.prog ([41, 3] ++ ts) ([d0, d1] ++ ds)).all (· ≤ reachBytes) = true) :
    Calls Try.prog 4 #[v0, v1] W fun e w' => e = .returned (.bool true) ∧ Below W.heap.size W w' := by
  obtain ⟨x, rfl, rfl, rfl, wf1⟩ := open_int Try.underlying41 k0 h0
  obtain ⟨n, rfl, rfl, rfl, wf2⟩ := open_int Try.underlying3 k1 h1
  simp only [Lit.wf, IntKind.min, IntKind.max, IntKind.signed, IntKind.bits] at wf1 wf2
  simp at wf1 wf2
  obtain ⟨m, rfl⟩ : ∃ m : Nat, x = (m : Int) := ⟨x.toNat, by omega⟩
  exact (mods_core m n (by omega) (by omega) (by omega)).mono fun e w' ⟨he, hk⟩ => ⟨he, hk.below (Nat.le_refl _) (fun _ h => h.elim)⟩

end Go.Proofs.Ytfikkjdffmchfaa
