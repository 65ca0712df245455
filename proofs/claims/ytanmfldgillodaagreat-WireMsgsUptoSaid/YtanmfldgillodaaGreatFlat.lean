/- Opening slices of flat structs (all cells are integers or truth values). -/
import Derived.Test.YtanmfldgillodaaGreatOpen
set_option linter.unusedSimpArgs false
set_option linter.unusedVariables false
namespace Go.Proofs.YtanmfldgillodaaGreat
open Go.RowKit Go.ChangeShapes Go.WideShapes Go.ChangeAt

/-- The kind of a cell. -/
inductive CK where
  | int (k : IntKind)
  | bool

def CK.ty : CK → TypeDesc
  | .int k => .int k
  | .bool => .bool

def CK.ok : CK → Value → Prop
  | .int k, v => ∃ n, v = .int k n ∧ (Lit.int k n).wf = true
  | .bool, v => ∃ b, v = .bool b

/-- Cells of these kinds. -/
def Fits (ks : List CK) (cs : List Value) : Prop := cs.length = ks.length ∧ ∀ (i : Nat) (k : CK), ks[i]? = some k → ∃ v, cs[i]? = some v ∧ k.ok v

/-- Type t is a struct of such cells. -/
def IsFlat (P : Program) (t : TypeId) (ks : List CK) : Prop := P.cellsOf t = ks.length ∧ ∃ fs, P.underlying t = some (.struct fs) ∧ fs.toList.map (fun f => (f.offset, P.underlying f.type, P.cellsOf f.type)) = ks.zipIdx.map (fun x => (x.2, some x.1.ty, 1))

section
variable {H : Type} {enc : TypeId × Value → H} {P : Program} {W : World}

theorem take_one {l : List Value} {i : Nat} (h : i < l.length) : (l.drop i).take 1 = [l[i]] := by
  rw [List.drop_eq_getElem_cons h]; rfl

theorem flat_of_trod {base fuel : Nat} {spare : Nat → Bool} {held : Bool} {t : TypeId} {ks : List CK} {cs : List Value} {x : DataW H × List MemPlace} (hi : IsFlat P t ks) (hf : DataW.trod enc P W base spare held fuel t cs = some x) : Fits ks cs := by
  obtain ⟨hn, fs, ht, hs⟩ := hi
  obtain ⟨xs, m, rfl, hx, hl, hxl, hel⟩ := DataW.trod_struct ht hf
  rw [hn] at hl
  refine ⟨hl, fun i k hk => ?_⟩
  have hik : i < ks.length := (List.getElem?_eq_some_iff.1 hk).1
  have h1 := congrArg (fun l => l[i]?) hs
  simp only [List.getElem?_map, List.getElem?_zipIdx, hk, Option.map_some] at h1
  obtain ⟨f, hf1, hf2⟩ := Option.map_eq_some_iff.1 h1
  simp only [Prod.mk.injEq, Nat.zero_add] at hf2
  obtain ⟨e1, e2, e3⟩ := hf2
  have h2 := hel i f (by simpa using hf1)
  have hfl : i < fs.size := by simpa using (List.getElem?_eq_some_iff.1 hf1).1
  rw [e1, e3, take_one (by omega), List.getElem?_eq_getElem (by omega)] at h2
  refine ⟨cs[i], List.getElem?_eq_getElem (by omega), ?_⟩
  cases k with
  | int k =>
    obtain ⟨n, q, -, w0⟩ := DataW.trod_int e2 h2
    exact ⟨n, by simpa using q, w0⟩
  | bool =>
    obtain ⟨b, q, -⟩ := DataW.trod_bool e2 h2
    exact ⟨b, by simpa using q⟩

theorem flatten_get {m : Nat} : ∀ {L : List (List Value)}, (∀ l ∈ L, l.length = m) → ∀ {i : Nat} {l : List Value}, L[i]? = some l → ∀ f, f < m → L.flatten[i * m + f]? = l[f]?
  | [], _, i, l, h, f, hf => by simp at h
  | a :: r, hm, 0, l, h, f, hf => by
    simp at h
    subst h
    have := hm a (by simp)
    rw [List.flatten_cons, List.getElem?_append_left (by omega)]
    simp
  | a :: r, hm, i + 1, l, h, f, hf => by
    simp only [List.getElem?_cons_succ] at h
    have := hm a (by simp)
    have e : (i + 1) * m = i * m + m := by rw [Nat.add_mul, Nat.one_mul]
    rw [List.flatten_cons, List.getElem?_append_right (by omega), show (i + 1) * m + f - a.length = i * m + f by omega]
    exact flatten_get (fun l hl => hm l (by simp [hl])) h f hf

theorem flatten_len {m : Nat} : ∀ {L : List (List Value)}, (∀ l ∈ L, l.length = m) → L.flatten.length = L.length * m
  | [], _ => by simp
  | a :: r, h => by
    have h1 := h a (by simp)
    have h2 := flatten_len (L := r) (fun l hl => h l (by simp [hl]))
    rw [List.flatten_cons, List.length_append, h2, h1, List.length_cons, Nat.add_mul, Nat.one_mul]
    omega

/-- A slice of flat structs, out of a reading. -/
theorem flats_of_trod {fuel : Nat} {t e : TypeId} {ks : List CK} {cs : List Value} {x : DataW H × List MemPlace} {B : Nat} (ht : P.underlying t = some (.slice e)) (hi : IsFlat P e ks) (h0 : 0 < ks.length) (hb : P.bytesOf e = B)
    (hf : DataW.trod enc P W 0 (fun _ => true) true fuel t cs = some x) (hw : ∀ n ∈ x.1.weights P t, n ≤ reachBytes) :
    ∃ (v : Value) (L : List (List Value)) (g : Option Nat), cs = [v] ∧ Reads W ks.length v L.length L.flatten g ∧ (∀ k, g = some k → k < W.heap.size) ∧ (∀ l ∈ L, Fits ks l) ∧ L.length * B ≤ reachBytes := by
  rcases DataW.trod_slice ht hf with ⟨h1, hx⟩ | ⟨a, len, cap, elems, rest, m, rfl, h1, hx, hba, hl, hm, hlen, hel, hsp, hns⟩
  · exact ⟨_, [], none, h1, ⟨by simp, .inl ⟨_, _, rfl, rfl⟩⟩, (fun k e => by cases e), by simp, by simp⟩
  · have hc : P.cellsOf e = ks.length := hi.1
    have hbig : (elems.length + rest.length) * B ≤ reachBytes := by
      refine hw _ ?_
      rw [hx]
      simp [DataW.weights, ht, hb]
    rw [hc] at hel
    have key : ∀ i, ∃ l : List Value, i < len → Fits ks l ∧ ∀ f, f < ks.length → W.cell? ((a.add (i * ks.length)).add f) = l[f]? := by
      intro i
      by_cases hi' : i < len
      · have h2 := hel i hi'
        rw [List.getElem?_eq_getElem (by omega)] at h2
        obtain ⟨l, hl1, hl2⟩ := Option.bind_eq_some_iff.1 h2
        have h3 := World.cells?_some hl1
        exact ⟨l, fun _ => ⟨flat_of_trod hi hl2, fun f hf => h3.2.2 f hf⟩⟩
      · exact ⟨[], fun h => absurd h hi'⟩
    obtain ⟨F, hF⟩ := Classical.axiomOfChoice key
    obtain ⟨b, off, spot⟩ := a
    by_cases hz : len = 0
    · subst hz
      exact ⟨_, [], none, h1, ⟨by simp, .inl ⟨_, _, rfl, rfl⟩⟩, (fun k e => by cases e), by simp, by simp⟩
    have hspot : spot = none := by
      obtain ⟨hfit, hc0⟩ := hF 0 (by omega)
      have h4 := hc0 0 h0
      rw [List.getElem?_eq_getElem (by rw [hfit.1]; exact h0)] at h4
      simpa [Addr.add] using World.cell?_spot h4
    subst hspot
    have hall : ∀ l ∈ (List.range len).map F, Fits ks l := by
      intro l hl'
      obtain ⟨i, hi', rfl⟩ := List.mem_map.1 hl'
      exact (hF i (by simpa using hi')).1
    have hlens : ∀ l ∈ (List.range len).map F, l.length = ks.length := fun l h => (hall l h).1
    have hfl := flatten_len hlens
    have hll : ((List.range len).map F).length = len := by simp
    refine ⟨_, (List.range len).map F, some b, h1, ⟨hfl, .inr ⟨b, off, cap, rfl, by rw [hll], by rw [hll]; exact hl, hm, fun j hj => ?_⟩⟩, ?_, hall, ?_⟩
    · rw [hfl, hll] at hj
      have hj1 : j / ks.length < len := Nat.div_lt_of_lt_mul (by rw [Nat.mul_comm]; exact hj)
      have hj2 : j % ks.length < ks.length := Nat.mod_lt _ h0
      have h5 := (hF _ hj1).2 _ hj2
      have h6 := flatten_get hlens (i := j / ks.length) (l := F (j / ks.length)) (by rw [List.getElem?_map, List.getElem?_range hj1]; rfl) _ hj2
      have h7 : j / ks.length * ks.length + j % ks.length = j := by rw [Nat.mul_comm]; exact Nat.div_add_mod _ _
      rw [h7] at h6
      rw [h6, ← h5]
      rw [addr_add, addr_add, Nat.add_assoc, h7]
    · rintro k ⟨⟩
      obtain ⟨hfit, hc0⟩ := hF 0 (by omega)
      have h4 := hc0 0 h0
      rw [List.getElem?_eq_getElem (by rw [hfit.1]; exact h0), addr_add, addr_add] at h4
      exact World.block_lt_of_cell? _ _ h4
    · rw [hll]
      refine Nat.le_trans (Nat.mul_le_mul_right _ ?_) hbig
      omega

end
end Go.Proofs.YtanmfldgillodaaGreat
