/- Opening a law's arguments; the frame of a law's proof. -/
import Derived.Test.YtfchbkmegicfoaaGreatRows
import Derived.Test.YtfchbkmegicfoaaGreatLib
import Derived.ProofKit
import Derived.OpenShut
import Derived.ShutString
import Derived.ChangeOld
import Derived.SizedLaws
set_option linter.unusedSimpArgs false
set_option linter.unusedVariables false
namespace Go.Proofs.YtfchbkmegicfoaaGreat
open Go.RowKit Go.ChangeShapes Go.WideShapes Go.ChangeAt
open Go.ChangeMaps (open_string shut_string)

theorem own : ownKnob Tryz.prog.godebug = none := by kernel_rfl
theorem laidOut : laidOutB Tryz.prog = true := by kernel_rfl

section
variable {H : Type} {enc : TypeId × Value → H} {P : Program} {W W' : World}

theorem below_trodAll (hl : laidOutB P = true) (hb : Below W.heap.size W W') : ∀ {ts : List TypeId} {vs : List Value} {ds : List (DataW H)} {ps : List MemPlace},
    ts.all (fun t => P.readableRec t && decide (t < P.types.size)) = true → DataW.TrodAll enc P W 0 (fun _ => true) true ts vs ds ps → DataW.TrodAll enc P W' 0 (fun b => decide (b < W.heap.size)) true ts vs ds ps
  | [], _, _, _, _, h => by obtain ⟨rfl, rfl, rfl⟩ := trodAll_nil h; exact trodAll_mk0
  | t :: ts, vs, ds, ps, hr, h => by
    obtain ⟨v, vs', d, ds', p, q, rfl, rfl, rfl, h1, h2⟩ := trodAll_cons h
    simp only [List.all_cons, Bool.and_eq_true, decide_eq_true_eq] at hr
    refine trodAll_cons_mk (Below.trod hl hr.1.1 hr.1.2 h1 hb ?_) (below_trodAll hl hb (by simpa using hr.2) h2)
    obtain ⟨m, hm⟩ := h1
    exact DataW.trod_lt m _ _ _ hm

/-- A slice of bytes, out of a reading. -/
theorem bytes_of_trod {base fuel : Nat} {t e : TypeId} {cs : List Value} {x : DataW H × List MemPlace} (ht : P.underlying t = some (.slice e)) (he : P.underlying e = some (.int .u8)) (hc : P.cellsOf e = 1) (hb : P.bytesOf e = 1)
    (hf : DataW.trod enc P W base (fun _ => true) true fuel t cs = some x) (hw : ∀ n ∈ x.1.weights P t, n ≤ reachBytes) :
    ∃ (v : Value) (bs : List UInt8) (g : Option Nat), cs = [v] ∧ Reads W 1 v bs.length (bs.map bv) g ∧ (∀ k, g = some k → bs ≠ [] → k < W.heap.size) ∧ bs.length ≤ 140737488351232 := by
  rcases open_ints ht he hc hf with ⟨hcs, hx⟩ | ⟨y, len0, cap0, zs, hcs, _, hl, hm, hz, hx, hcell, hwz⟩
  · exact ⟨_, [], none, hcs, ⟨by simp, .inl ⟨_, 0, rfl, rfl⟩⟩, (fun k e => by cases e), by simp⟩
  · simp only [if_true] at hz
    have hs : (len0 + (cap0 - len0)) * 1 ≤ reachBytes := by
      refine hw _ ?_
      rw [hx]
      simp only [DataW.weights, ht, List.mem_cons]
      left
      rw [hb]
      simp only [lits, List.length_map, List.length_take, List.length_drop]
      omega
    simp only [reachBytes] at hs
    obtain ⟨b, off, spot⟩ := y
    have hlen : ((zs.take len0).map fun n => UInt8.ofNat n.toNat).length = len0 := by rw [List.length_map, List.length_take]; omega
    by_cases h0 : len0 = 0
    · subst h0
      exact ⟨_, [], none, hcs, ⟨by simp, .inl ⟨_, _, rfl, rfl⟩⟩, (fun k e => by cases e), by simp⟩
    · have hsp : spot = none := by
        have := hcell 0 (by omega)
        simpa [Addr.add] using World.cell?_spot this
      subst hsp
      refine ⟨_, (zs.take len0).map fun n => UInt8.ofNat n.toNat, some b, hcs, ⟨by rw [List.length_map, Nat.mul_one], .inr ⟨b, off, cap0, rfl, by rw [hlen], by rw [hlen]; exact hl, hm, fun j hj => ?_⟩⟩, ?_, by rw [hlen]; omega⟩
      · rw [List.length_map, hlen] at hj
        have h1 := hcell j (by omega)
        rw [addr_add] at h1
        have hzj : zs.getD j 0 ∈ zs := by
          rw [List.getD_eq_getElem?_getD, List.getElem?_eq_getElem (by omega)]
          exact List.getElem_mem _
        have hw := hwz _ hzj
        simp only [Lit.wf, IntKind.min, IntKind.max, IntKind.signed, IntKind.bits] at hw
        simp at hw
        rw [h1, List.getElem?_map, List.getElem?_map, List.getElem?_take, if_pos hj, List.getElem?_eq_getElem (by omega)]
        simp only [Option.map_some, bv]
        rw [List.getD_eq_getElem?_getD]
        rw [List.getElem?_eq_getElem (by omega)] at hw ⊢
        simp only [Option.getD_some] at hw ⊢
        congr 2
        rw [UInt8.toNat_ofNat']
        omega
      · rintro k ⟨⟩ _
        exact World.block_lt_of_cell? _ _ (hcell 0 (by omega))

theorem weights_le {ts : List TypeId} {ds : List (DataW H)} (hsz : (DataW.weightsEach P ts ds).all (· ≤ reachBytes) = true) {j : Nat} {t : TypeId} {d : DataW H} (hj : ts[j]? = some t) (hd : ds[j]? = some d) : ∀ n ∈ d.weights P t, n ≤ reachBytes := fun n hn => by
  have := List.all_eq_true.1 hsz n (DataW.weights_mem_each hj hd n hn)
  simpa using this

/-- A slice of bytes that came in. -/
theorem open_bytes {r : Reach} {b0 : Nat} {t e : TypeId} {v : Value} {d : DataW H} {p : List MemPlace} (ht : P.underlying t = some (.slice e)) (he : P.underlying e = some (.int .u8)) (hc : P.cellsOf e = 1) (hb : P.bytesOf e = 1)
    (hv : Value.okWide P W r b0 t v) (h : DataW.Trod enc P W 0 (fun _ => true) true t v d p) {ts : List TypeId} {ds : List (DataW H)} (hsz : (DataW.weightsEach P ts ds).all (· ≤ reachBytes) = true) {j : Nat} (hj : ts[j]? = some t) (hd : ds[j]? = some d) :
    ∃ (bs : List UInt8) (g : Option Nat), Reads W 1 v bs.length (bs.map bv) g ∧ (∀ k, g = some k → bs ≠ [] → k < W.heap.size) ∧ bs.length ≤ 140737488351232 := by
  obtain ⟨a0, len0, cap0, rfl⟩ := okWide_slice ht hv
  obtain ⟨fuel, hf⟩ := h
  obtain ⟨v, bs, g, hcs, h1, h2, h3⟩ := bytes_of_trod ht he hc hb hf (weights_le hsz hj hd)
  simp [Value.cells] at hcs
  subst hcs
  exact ⟨bs, g, h1, h2, h3⟩

/-- A slice of slices of bytes: element i lies in cell i of a row. -/
structure Bytess (W : World) (v : Value) (n : Nat) (L : List (List UInt8)) : Prop where
  len : L.length = n
  shape : ∃ a c, v = .slice a n c ∧ n ≤ c
  small : n ≤ 140737488351232
  elem : ∀ i, i < n → ∃ b off c x g, v = .slice (some ⟨b, off, none⟩) n c ∧ b < W.heap.size ∧ W.cell? ⟨b, off + i, none⟩ = some x ∧ Reads W 1 x (L.getD i []).length ((L.getD i []).map bv) g ∧ (∀ k, g = some k → L.getD i [] ≠ [] → k < W.heap.size) ∧ (L.getD i []).length ≤ 140737488351232

theorem weightsAll_mem {e : TypeId} : ∀ {l : List (DataW H)} {i : Nat} {d : DataW H}, l[i]? = some d → ∀ n ∈ d.weights P e, n ∈ DataW.weightsAll P e l
  | d0 :: l, 0, d, h, n, hn => by simp at h; subst h; simp [DataW.weightsAll, hn]
  | d0 :: l, i + 1, d, h, n, hn => by
    simp only [List.getElem?_cons_succ] at h
    simp only [DataW.weightsAll, List.mem_append]
    exact .inr (weightsAll_mem h n hn)

theorem open_bytess {r : Reach} {b0 : Nat} {t s e : TypeId} {v : Value} {d : DataW H} {p : List MemPlace} (ht : P.underlying t = some (.slice s)) (hs : P.underlying s = some (.slice e)) (he : P.underlying e = some (.int .u8)) (hcs : P.cellsOf s = 1) (hbs : P.bytesOf s = 24) (hc : P.cellsOf e = 1) (hb : P.bytesOf e = 1)
    (hv : Value.okWide P W r b0 t v) (h : DataW.Trod enc P W 0 (fun _ => true) true t v d p) {ts : List TypeId} {ds : List (DataW H)} (hsz : (DataW.weightsEach P ts ds).all (· ≤ reachBytes) = true) {j : Nat} (hj : ts[j]? = some t) (hd : ds[j]? = some d) :
    ∃ n L, Bytess W v n L := by
  obtain ⟨a0, len0, cap0, rfl⟩ := okWide_slice ht hv
  obtain ⟨fuel, hf⟩ := h
  have hwt := weights_le hsz hj hd
  rcases DataW.trod_slice ht hf with ⟨h0, hx⟩ | ⟨a, len, cap, elems, rest, m, rfl, h0, hx, hba, hl, hm, hlen, hel, hsp, hns⟩
  · simp [Value.cells] at h0
    obtain ⟨rfl, rfl, rfl⟩ := h0
    exact ⟨0, [], rfl, ⟨_, _, rfl, Nat.le_refl _⟩, by omega, fun i hi => by omega⟩
  · simp [Value.cells] at h0
    obtain ⟨rfl, rfl, rfl⟩ := h0
    obtain ⟨rfl, rfl⟩ := Prod.mk.inj hx
    have hbig : (elems.length + rest.length) * 24 ≤ reachBytes := by
      refine hwt _ ?_
      simp [DataW.weights, ht, hbs]
    simp only [reachBytes] at hbig
    rw [hcs] at hel
    simp only [Nat.mul_one] at hel
    have key : ∀ i, i < len0 → ∃ (bs : List UInt8) (x : Value) (g : Option Nat), W.cell? (a.add i) = some x ∧ Reads W 1 x bs.length (bs.map bv) g ∧ (∀ k, g = some k → bs ≠ [] → k < W.heap.size) ∧ bs.length ≤ 140737488351232 := by
      intro i hi
      have h1 := hel i hi
      obtain ⟨y, hy⟩ : ∃ y, elems[i]? = some y := ⟨_, List.getElem?_eq_getElem (by omega)⟩
      rw [hy] at h1
      obtain ⟨l, hl1, hl2⟩ := Option.bind_eq_some_iff.1 h1
      obtain ⟨x, bs, g, e1, h3, h4, h5⟩ := bytes_of_trod hs he hc hb hl2 (fun n hn => hwt n (by
        simp only [DataW.weights, ht, List.mem_cons, List.mem_append]
        exact .inr (.inl (weightsAll_mem (i := i) (by rw [List.getElem?_map, hy]; rfl) n hn))))
      subst e1
      have hcell : W.cell? (a.add i) = some x := cell_of_cells?_one hl1
      exact ⟨bs, x, g, hcell, h3, h4, h5⟩
    have key' : ∀ i, ∃ bs : List UInt8, i < len0 → ∃ (x : Value) (g : Option Nat), W.cell? (a.add i) = some x ∧ Reads W 1 x bs.length (bs.map bv) g ∧ (∀ k, g = some k → bs ≠ [] → k < W.heap.size) ∧ bs.length ≤ 140737488351232 := by
      intro i
      by_cases hi : i < len0
      · obtain ⟨bs, h⟩ := key i hi
        exact ⟨bs, fun _ => h⟩
      · exact ⟨[], fun h => absurd h hi⟩
    obtain ⟨F, hF⟩ := Classical.axiomOfChoice key'
    refine ⟨len0, (List.range len0).map F, by simp, ⟨_, _, rfl, hl⟩, by omega, fun i hi => ?_⟩
    have hgd : ((List.range len0).map F).getD i [] = F i := by
      rw [List.getD_eq_getElem?_getD, List.getElem?_map, List.getElem?_range hi]; rfl
    rw [hgd]
    obtain ⟨x, g, h1, h2, h3, h4⟩ := hF i hi
    obtain ⟨b, off, spot⟩ := a
    have hsp : spot = none := by
      obtain ⟨x0, g0, h0, -⟩ := hF 0 (by omega)
      simpa [Addr.add] using World.cell?_spot h0
    subst hsp
    rw [addr_add] at h1
    exact ⟨b, off, _, x, g, rfl, World.block_lt_of_cell? _ _ h1, h1, h2, h3, h4⟩

/-- An array of two integers, by value. -/
theorem open_arr2 {r : Reach} {b0 : Nat} {t e : TypeId} {k : IntKind} {v : Value} {d : DataW H} {p : List MemPlace} (ht : P.underlying t = some (.array 2 e)) (he : P.underlying e = some (.int k)) (hc : P.cellsOf e = 1) (hct : P.cellsOf t = 2)
    (hv : Value.okWide P W r b0 t v) (h : DataW.Trod enc P W 0 (fun _ => true) true t v d p) :
    ∃ x y : Int, v = .agg #[.int k x, .int k y] ∧ (Lit.int k x).wf = true ∧ (Lit.int k y).wf = true := by
  unfold Value.okWide at hv
  rw [ht] at hv
  obtain ⟨cs, rfl, hsz, -⟩ := hv
  rw [hct] at hsz
  obtain ⟨fuel, hf⟩ := h
  obtain ⟨xs, m, rfl, hx, hl, hxl, hel⟩ := DataW.trod_array ht hf
  obtain ⟨l⟩ := cs
  obtain ⟨c0, c1, rfl⟩ : ∃ c0 c1, l = [c0, c1] := by
    match l, hsz with
    | [c0, c1], _ => exact ⟨c0, c1, rfl⟩
  have e0 := hel 0 (by omega)
  have e1 := hel 1 (by omega)
  rw [hc] at e0 e1
  simp [Value.cells] at e0 e1
  have hx0 : ∃ y, xs[0]? = some y := ⟨_, List.getElem?_eq_getElem (by omega)⟩
  have hx1 : ∃ y, xs[1]? = some y := ⟨_, List.getElem?_eq_getElem (by omega)⟩
  obtain ⟨y0, hy0⟩ := hx0
  obtain ⟨y1, hy1⟩ := hx1
  rw [hy0] at e0
  rw [hy1] at e1
  obtain ⟨n0, q0, -, w0⟩ := DataW.trod_int he e0
  obtain ⟨n1, q1, -, w1⟩ := DataW.trod_int he e1
  simp at q0 q1
  subst q0 q1
  exact ⟨n0, n1, rfl, w0, w1⟩

end
end Go.Proofs.YtfchbkmegicfoaaGreat
