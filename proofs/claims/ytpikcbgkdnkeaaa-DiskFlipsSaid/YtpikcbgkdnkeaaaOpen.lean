/- Opening a law's arguments; the frame of a law's proof. -/
import Derived.Test.YtpikcbgkdnkeaaaRows
import Derived.Test.YtpikcbgkdnkeaaaLib
import Derived.ProofKit
import Derived.OpenShut
import Derived.ShutString
import Derived.ChangeOld
import Derived.SizedLaws
set_option linter.unusedSimpArgs false
set_option linter.unusedVariables false
namespace Go.Proofs.Ytpikcbgkdnkeaaa
open Go.RowKit Go.ChangeShapes Go.WideShapes Go.ChangeAt
open Go.ChangeMaps (open_string shut_string)

theorem own : ownKnob Try.prog.godebug = none := by kernel_rfl
theorem laidOut : laidOutB Try.prog = true := by kernel_rfl

section
variable {H : Type} {enc : TypeId × Value → H} {P : Program} {W W' : World}

theorem below_trodAll (hl : laidOutB P = true) (hb : Below W.heap.size W W') : ∀ {ts : List TypeId} {vs : List Value} {ds : List (DataW H)} {ps : List MemPlace},
    ts.all (fun t => P.readableRec t && decide (t < P.types.size)) = true → DataW.TrodAll enc P W 0 (fun _ => true) true ts vs ds ps → DataW.TrodAll enc P W' 0 (fun b => decide (b < W.heap.size)) true ts vs ds ps
  | [], _, _, _, _, h => by obtain ⟨rfl, rfl, rfl⟩ := trodAll_nil h; exact trodAll_mk0
  | t :: ts, vs, ds, ps, hr, h => by
    obtain ⟨v, vs', d, ds', p, q, rfl, rfl, rfl, h1, h2⟩ := trodAll_cons h
    simp only [List.all_cons, Bool.and_eq_true, decide_eq_true_eq] at hr
    refine trodAll_cons_mk (Below.trod hl hr.1.1 hr.1.2 h1 hb ?_) (below_trodAll hl hb (by simpa using hr.2) h2)
    obtain ⟨m, hm⟩ := h1
    exact DataW.trod_lt m _ _ _ hm

/-- A slice of bytes that came in. -/
theorem open_bytes {r : Reach} {b0 : Nat} {t e : TypeId} {v : Value} {d : DataW H} {p : List MemPlace} (ht : P.underlying t = some (.slice e)) (he : P.underlying e = some (.int .u8)) (hc : P.cellsOf e = 1) (hb : P.bytesOf e = 1)
    (hv : Value.okWide P W r b0 t v) (h : DataW.Trod enc P W 0 (fun _ => true) true t v d p) {ts : List TypeId} {ds : List (DataW H)} (hsz : (DataW.weightsEach P ts ds).all (· ≤ reachBytes) = true) {j : Nat} (hj : ts[j]? = some t) (hd : ds[j]? = some d) :
    ∃ (bs : List UInt8) (g : Option Nat), Reads W 1 v bs.length (bs.map bv) g ∧ (∀ k, g = some k → bs ≠ [] → k < W.heap.size) ∧ bs.length ≤ 140737488351232 := by
  obtain ⟨a0, len0, cap0, rfl⟩ := okWide_slice ht hv
  obtain ⟨fuel, hf⟩ := h
  rcases open_ints ht he hc hf with ⟨hcs, hx⟩ | ⟨x, l, c, zs, hcs, _, hl, hm, hz, hx, hcell, hwz⟩
  · simp [Value.cells] at hcs
    obtain ⟨rfl, rfl, rfl⟩ := hcs
    exact ⟨[], none, ⟨by simp, .inl ⟨_, 0, rfl, rfl⟩⟩, (fun k e => by cases e), by simp⟩
  · simp [Value.cells] at hcs
    obtain ⟨rfl, rfl, rfl⟩ := hcs
    simp only [if_true] at hz
    have hx1 : d = _ := congrArg Prod.fst hx
    have hs := sized_slice hsz hj (by rw [hd, hx1]) ht
    rw [hb] at hs
    simp only [lits, List.length_map, List.length_take, List.length_drop, reachBytes] at hs
    obtain ⟨b, off, spot⟩ := x
    have hlen : ((zs.take len0).map fun n => UInt8.ofNat n.toNat).length = len0 := by rw [List.length_map, List.length_take]; omega
    by_cases h0 : len0 = 0
    · subst h0
      exact ⟨[], none, ⟨by simp, .inl ⟨_, _, rfl, rfl⟩⟩, (fun k e => by cases e), by simp⟩
    · have hsp : spot = none := by
        have := hcell 0 (by omega)
        simpa [Addr.add] using World.cell?_spot this
      subst hsp
      refine ⟨(zs.take len0).map fun n => UInt8.ofNat n.toNat, some b, ⟨by rw [List.length_map, Nat.mul_one], .inr ⟨b, off, cap0, rfl, by rw [hlen], by rw [hlen]; exact hl, hm, fun j hj => ?_⟩⟩, ?_, by rw [hlen]; omega⟩
      · rw [List.length_map, hlen] at hj
        have h1 := hcell j (by omega)
        rw [addr_add] at h1
        have hzj : zs.getD j 0 ∈ zs := by
          rw [List.getD_eq_getElem?_getD, List.getElem?_eq_getElem (by omega)]
          exact List.getElem_mem _
        have hw := hwz _ hzj
        simp only [Lit.wf, IntKind.min, IntKind.max, IntKind.signed, IntKind.bits] at hw
        simp at hw
        rw [h1, List.getElem?_map, List.getElem?_map, List.getElem?_take, if_pos hj, List.getElem?_eq_getElem (by omega)]
        simp only [Option.map_some, bv]
        rw [List.getD_eq_getElem?_getD]
        rw [List.getElem?_eq_getElem (by omega)] at hw ⊢
        simp only [Option.getD_some] at hw ⊢
        congr 2
        rw [UInt8.toNat_ofNat']
        omega
      · rintro k ⟨⟩ _
        exact World.block_lt_of_cell? _ _ (hcell 0 (by omega))

end
end Go.Proofs.Ytpikcbgkdnkeaaa
