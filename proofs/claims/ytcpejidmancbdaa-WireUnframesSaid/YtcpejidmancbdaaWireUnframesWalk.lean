/- The walk of the law WireUnframes. -/
import Derived.Test.YtcpejidmancbdaaAwake
import Derived.Test.YtcpejidmancbdaaUnframeRef
import Derived.Test.YtcpejidmancbdaaOpen
set_option linter.unusedSimpArgs false
set_option linter.unusedVariables false
namespace Go.Proofs.Ytcpejidmancbdaa
open Go.RowKit Go.ChangeShapes Go.WideShapes Go.ChangeAt

set_option maxRecDepth 100000 in
set_option maxHeartbeats 800000 in
theorem unframes_core {w : World} {v : Value} {bs : List UInt8} {g : Option Nat} (hr : Reads w 1 v bs.length (bs.map bv) g) (hgl : ∀ k, g = some k → k < w.heap.size) (hm : bs.length ≤ 140737488351232) :
    Calls Try.prog 4 #[v] w fun e w' => e = .returned (.bool true) ∧ Kept (fun _ => False) w w' := by
  obtain ⟨r, hu⟩ : ∃ r, unfr bs = r := ⟨_, rfl⟩
  obtain ⟨ct, n, er⟩ := r
  obtain ⟨a, cp, rfl, hc⟩ := hr.shape
  go_enter Try.func4, Try.ntmps4
  go_wp2_with fail
  refine (unframe_c hr hgl hm _ hu).mono ?_
  rintro e w1 ⟨⟨v1, rfl, g1, o1, -⟩, k1⟩
  go_wp2_with fail
  refine (unframeRef_c (hr.kept k1 (fun _ _ h => h)) (fun k hk => Nat.lt_of_lt_of_le (hgl k hk) k1.size) hm _ hu).mono ?_
  rintro e w2 ⟨⟨v2, rfl, g2, o2, -⟩, k2⟩
  go_wp2_with fail
  refine (same_c (o1.kept k2 (fun _ _ h => h)).reads o2.reads).mono ?_
  rintro e w3 ⟨rfl, rfl⟩
  go_wp2_with (first
    | (go_at_call 9; refine (num_c _).mono ?_; rintro e w' ⟨rfl, rfl⟩)
    | (go_at_call 10; refine awake_c.mono ?_; rintro e w9 ⟨rfl, k9⟩))
  go_ret
  exact ⟨rfl, (k1.trans k2).trans k9⟩

set_option maxRecDepth 100000 in
theorem wireUnframes_walk {H : Type} {enc : TypeId × Value → H} {W : World} {base : Nat} {v0 : Value} {d0 : DataW H} {p0 : List MemPlace}
    (k0 : Value.okWide Try.prog W .any base 25 v0) (h0 : DataW.Trod enc Try.prog W 0 (fun _ => true) true 25 v0 d0 p0)
    {ts : List TypeId} {ds : List (DataW H)} (hsz : (DataW.weightsEach Try.prog ([25] ++ ts) ([d0] ++ ds)).all (· ≤ reachBytes) = true) :
    Calls Try.prog 4 #[v0] W fun e w' => e = .returned (.bool true) ∧ Below W.heap.size W w' := by
  obtain ⟨bs, g, hr, hl, hm⟩ := open_bytes Try.underlying25 Try.underlying5 (by kernel_rfl) (by kernel_rfl) k0 h0 hsz (j := 0) rfl rfl
  by_cases hb : bs = []
  · have hr' : Reads W 1 v0 bs.length (bs.map bv) none := by
      obtain ⟨a, cp, rfl, hc⟩ := hr.shape
      subst hb
      exact ⟨by simp, .inl ⟨_, _, rfl, rfl⟩⟩
    exact (unframes_core hr' (fun k hk => by cases hk) hm).mono fun e w' ⟨he, hk⟩ => ⟨he, hk.below (Nat.le_refl _) (fun _ h => h.elim)⟩
  · exact (unframes_core hr (fun k hk => hl k hk hb) hm).mono fun e w' ⟨he, hk⟩ => ⟨he, hk.below (Nat.le_refl _) (fun _ h => h.elim)⟩

end Go.Proofs.Ytcpejidmancbdaa
