/- Opening data with depth: a reading of a value gives the value as plain data, of which the bytes are not more than 12 times the bulk. -/
import Derived.Test.YtanmfldgillodaaGreatPr1
set_option linter.unusedSimpArgs false
set_option linter.unusedVariables false
namespace Go.Proofs.YtanmfldgillodaaGreat
open Go.RowKit Go.ChangeShapes Go.WideShapes Go.ChangeAt

/-- A block that is there. -/
def Old (w : World) (k : Nat) : Prop := k < w.heap.size

section
variable {H : Type} (enc : TypeId × Value → H)

/-- A value of type t that is read is plain data. -/
def Opens (P : Program) (W : World) (t : TypeId) {α : Type} (R : World → (Nat → Prop) → List Value → α → Prop) (len : α → Nat) : Prop :=
  ∀ (fuel : Nat) (cs : List Value) (x : DataW H × List MemPlace), DataW.trod enc P W 0 (fun _ => true) true fuel t cs = some x → ∃ y, R W (Old W) cs y ∧ len y ≤ 12 * Rows.uptoBulk x.1

variable {enc} {P : Program} {W : World}

theorem opens_int {t : TypeId} (ht : P.underlying t = some (.int .i64)) : Opens enc P W t intIs (fun _ => 8) := by
  intro fuel cs x h
  obtain ⟨n, rfl, rfl, hw⟩ := DataW.trod_int ht h
  refine ⟨n, ⟨rfl, ?_⟩, ?_⟩
  · simp only [Lit.wf, IntKind.min, IntKind.max, IntKind.signed, IntKind.bits] at hw
    simp at hw
    exact hw
  · simp [Rows.uptoBulk]

theorem opens_bool {t : TypeId} (ht : P.underlying t = some .bool) : Opens enc P W t flagIs (fun _ => 1) := by
  intro fuel cs x h
  obtain ⟨b, rfl, rfl⟩ := DataW.trod_bool ht h
  exact ⟨b, rfl, by simp [Rows.uptoBulk]⟩

theorem bulkAll_append (l r : List (DataW H)) : Rows.uptoBulkAll (l ++ r) = Rows.uptoBulkAll l + Rows.uptoBulkAll r := by
  induction l with
  | nil => simp [Rows.uptoBulkAll]
  | cons x l ih => simp only [List.cons_append, Rows.uptoBulkAll, ih]; omega

theorem flat_le {α : Type} (e : α → List UInt8) : ∀ (ys : List α) (ds : List (DataW H)), ys.length = ds.length → (∀ (i : Nat) (y : α) (d : DataW H), ys[i]? = some y → ds[i]? = some d → (e y).length ≤ 12 * Rows.uptoBulk d) → (ys.flatMap e).length ≤ 12 * Rows.uptoBulkAll ds
  | [], ds, _, _ => by simp
  | y :: ys, d :: ds, hl, h => by
    have h1 := h 0 y d rfl rfl
    have h2 := flat_le e ys ds (by simpa using hl) (fun i y' d' a b => h (i + 1) y' d' (by simpa using a) (by simpa using b))
    simp only [List.flatMap_cons, List.length_append, Rows.uptoBulkAll]
    omega

theorem opens_list {t e : TypeId} {size : Nat} {α : Type} {R : World → (Nat → Prop) → List Value → α → Prop} {f : α → List UInt8} (ht : P.underlying t = some (.slice e)) (hc : P.cellsOf e = size) (h0 : 0 < size) (ho : Opens enc P W e R (fun y => (f y).length)) :
    Opens enc P W t (sliceIs size R) (fun ys => 4 + (ys.flatMap f).length) := by
  intro fuel cs x hf
  rcases DataW.trod_slice ht hf with ⟨rfl, rfl⟩ | ⟨a, len, cap, elems, rest, m, rfl, rfl, rfl, hba, hl, hm, hlen, hel, hsp, hns⟩
  · exact ⟨[], ⟨_, rfl, none, 0, rfl, Nat.le_refl _, Nat.zero_le _, fun k x h => by simp at h⟩, by simp [Rows.uptoBulk]⟩
  · rw [hc] at hel
    have key : ∀ i, ∃ y : Option α, i < len → ∃ y' l, y = some y' ∧ l.length = size ∧ (∀ f, f < size → W.cell? ((a.add (i * size)).add f) = l[f]?) ∧ R W (Old W) l y' ∧ ∀ d, elems[i]? = some d → (f y').length ≤ 12 * Rows.uptoBulk d.1 := by
      intro i
      by_cases hi : i < len
      · have h2 := hel i hi
        rw [List.getElem?_eq_getElem (by omega)] at h2
        obtain ⟨l, hl1, hl2⟩ := Option.bind_eq_some_iff.1 h2
        have h3 := World.cells?_some hl1
        obtain ⟨y, hy1, hy2⟩ := ho _ _ _ hl2
        refine ⟨some y, fun _ => ⟨y, l, rfl, h3.2.1, fun f hf => h3.2.2 f hf, hy1, fun d hd => ?_⟩⟩
        rw [List.getElem?_eq_getElem (by omega)] at hd
        cases hd
        exact hy2
      · exact ⟨none, fun h => absurd h hi⟩
    obtain ⟨F, hF⟩ := Classical.axiomOfChoice key
    obtain ⟨b, off, spot⟩ := a
    have hys : ∃ ys : List α, ys.length = len ∧ ∀ (i : Nat) (y : α), ys[i]? = some y → F i = some y := by
      have : ∀ n, n ≤ len → ∃ ys : List α, ys.length = n ∧ ∀ (i : Nat) (y : α), ys[i]? = some y → F i = some y := by
        intro n
        induction n with
        | zero => exact fun _ => ⟨[], rfl, fun i y h => by simp at h⟩
        | succ n ih =>
          intro hn
          obtain ⟨ys, h1, h2⟩ := ih (by omega)
          obtain ⟨y, l, hy, -⟩ := hF n (by omega)
          refine ⟨ys ++ [y], by simp [h1], fun i z hz => ?_⟩
          by_cases hi : i < n
          · rw [List.getElem?_append_left (by omega)] at hz
            exact h2 i z hz
          · have := (List.getElem?_eq_some_iff.1 hz).1
            simp only [List.length_append, List.length_singleton] at this
            obtain rfl : i = n := by omega
            rw [List.getElem?_append_right (by omega), h1, Nat.sub_self] at hz
            simp at hz
            rw [← hz]; exact hy
      exact this len (Nat.le_refl _)
    obtain ⟨ys, hyl, hy⟩ := hys
    refine ⟨ys, ⟨_, rfl, some ⟨b, off, spot⟩, cap, by rw [hyl], by rw [hyl]; exact hl, hm, fun k x hx => ?_⟩, ?_⟩
    · have hk : k < len := by have := (List.getElem?_eq_some_iff.1 hx).1; omega
      obtain ⟨y', l, e1, e2, e3, e4, -⟩ := hF k hk
      rw [hy k x hx] at e1
      cases e1
      have hspot : spot = none := by
        obtain ⟨y0, l0, -, q2, q3, -⟩ := hF 0 (by omega)
        have h4 := q3 0 h0
        rw [List.getElem?_eq_getElem (by omega)] at h4
        simpa [Addr.add] using World.cell?_spot h4
      subst hspot
      have h4 := e3 0 h0
      rw [List.getElem?_eq_getElem (by omega)] at h4
      rw [addr_add, addr_add] at h4
      refine ⟨b, off, l, rfl, World.block_lt_of_cell? _ _ h4, e2, fun f hf => ?_, e4⟩
      rw [← e3 f hf, addr_add, addr_add]
    · have hle := flat_le f ys (elems.map (·.1)) (by rw [List.length_map]; omega) (fun i y d h1 h2 => by
        have hk : i < len := by have := (List.getElem?_eq_some_iff.1 h1).1; omega
        obtain ⟨y', l, e1, -, -, -, e5⟩ := hF i hk
        rw [hy i y h1] at e1
        cases e1
        rw [List.getElem?_map] at h2
        obtain ⟨d', hd', rfl⟩ := Option.map_eq_some_iff.1 h2
        exact e5 d' hd')
      simp only [Rows.uptoBulk]
      omega

end
end Go.Proofs.YtanmfldgillodaaGreat
