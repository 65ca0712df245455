/- The walk of the law DiskKeeps: all ways together. -/
import Derived.Test.YtpikcbgkdnkeaaaDiskKeepsWalkC
set_option linter.unusedSimpArgs false
set_option linter.unusedVariables false
namespace Go.Proofs.Ytpikcbgkdnkeaaa
open Go.RowKit Go.ChangeShapes Go.WideShapes Go.ChangeAt
open Go.ChangeMaps (open_string shut_string)

theorem kept_bel {F : Nat → Prop} {w w' : World} (h : Kept F w w') (hf : ∀ k, F k → w.heap.size ≤ k) : Below w.heap.size w w' := h.below (Nat.le_refl _) hf

theorem diskKeeps_walk {H : Type} {enc : TypeId × Value → H} {W : World} {base : Nat} {v0 v1 v2 : Value} {d0 d1 d2 : DataW H} {p0 p1 p2 : List MemPlace}
    (k0 : Value.okWide Try.prog W .any base 22 v0) (h0 : DataW.Trod enc Try.prog W 0 (fun _ => true) true 22 v0 d0 p0)
    (k1 : Value.okWide Try.prog W .any base 22 v1) (h1 : DataW.Trod enc Try.prog W 0 (fun _ => true) true 22 v1 d1 p1)
    (k2 : Value.okWide Try.prog W .any base 23 v2) (h2 : DataW.Trod enc Try.prog W 0 (fun _ => true) true 23 v2 d2 p2)
    {ts : List TypeId} {ds : List (DataW H)} (hsz : (DataW.weightsEach Try.prog ([22, 22, 23] ++ ts) ([d0, d1, d2] ++ ds)).all (· ≤ reachBytes) = true) :
    Calls Try.prog 3 #[v0, v1, v2] W fun e w' => e = .returned (.bool true) ∧ Below W.heap.size W w' := by
  obtain ⟨ks, g0, hr0, hg0, hm0⟩ := open_bytes Try.underlying22 Try.underlying5 (by kernel_rfl) (by kernel_rfl) k0 h0 hsz (j := 0) rfl rfl
  obtain ⟨tr, g1, hr1, hg1, hm1⟩ := open_bytes Try.underlying22 Try.underlying5 (by kernel_rfl) (by kernel_rfl) k1 h1 hsz (j := 1) rfl rfl
  obtain ⟨arm, keep, rfl, wf1, wf2⟩ := open_arr2 Try.underlying23 Try.underlying3 (by kernel_rfl) (by kernel_rfl) k2 h2
  simp only [Lit.wf, IntKind.min, IntKind.max, IntKind.signed, IntKind.bits] at wf1 wf2
  simp at wf1 wf2
  have fin : ∀ (e : Ending) (w' : World), (e = .returned (.bool true) ∧ Kept (fun _ => False) W w') → e = .returned (.bool true) ∧ Below W.heap.size W w' := fun e w' ⟨he, hk⟩ => ⟨he, kept_bel hk (fun _ h => h.elim)⟩
  by_cases hb : 67108864 < (ks.length : Int) + tr.length + 1
  · exact (keeps_big hr0 hr1 arm keep hm0 hm1 hb).mono fin
  · by_cases ha : arm < 0
    · exact (keeps_plain hr0 hr1 hg0 hg1 arm keep (by omega) (by omega) (by omega) (by omega) (by omega) ha).mono fin
    · by_cases hf : (tr.length : Int) ≤ arm
      · exact (keeps_armed hr0 hr1 hg0 hg1 arm keep (by omega) (by omega) (by omega) (by omega) (by omega) (by omega) hf).mono fin
      · by_cases hk : arm ≤ keep
        · exact (keeps_frozen1 hr0 hr1 hg0 hg1 arm keep (by omega) (by omega) (by omega) (by omega) (by omega) (by omega) (by omega) hk).mono fin
        · by_cases hz : keep < 0
          · exact (keeps_frozen3 hr0 hr1 hg0 hg1 arm keep (by omega) (by omega) (by omega) (by omega) (by omega) (by omega) (by omega) (by omega) hz).mono fin
          · exact (keeps_frozen2 hr0 hr1 hg0 hg1 arm keep (by omega) (by omega) (by omega) (by omega) (by omega) (by omega) (by omega) (by omega) (by omega)).mono fin

end Go.Proofs.Ytpikcbgkdnkeaaa
