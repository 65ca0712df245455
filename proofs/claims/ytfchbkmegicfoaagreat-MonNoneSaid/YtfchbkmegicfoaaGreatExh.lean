/- The abstract heap held against the real one, and what an operation may do to both. -/
import Derived.Test.YtfchbkmegicfoaaGreatExr
set_option linter.unusedSimpArgs false
set_option linter.unusedVariables false
namespace Go.Proofs.YtfchbkmegicfoaaGreat.Ex
open Go Go.RowKit

variable {P : Program} {ρ : Nat → Value}

def live : AB → Bool
  | .gone => false
  | _ => true

def entRel (ρ : Nat → Value) (μ : Mu) (w : World) (a : AE) (e : MapEntry) : Prop := e.key = a.key ∧ keyV a.key = true ∧ rel ρ μ w a.val e.val ∧ e.born = a.born

def entsRel (ρ : Nat → Value) (μ : Mu) (w : World) : List AE → List MapEntry → Prop
  | [], l => l = []
  | a :: r, l => ∃ e es, l = e :: es ∧ entRel ρ μ w a e ∧ entsRel ρ μ w r es

def loopRel (ρ : Nat → Value) (μ : Mu) (w : World) (a : ALoop) (l : Loop) : Prop :=
  l.state = a.state ∧ l.pending = a.pending ∧ l.fn = a.fn ∧ rels ρ μ w a.tmps.L l.tmps.toList ∧ l.params.toList = a.params ∧ l.assign = a.assign ∧ l.body = a.body

/-- The cells of a window. -/
def window (ρ : Nat → Value) (μ : Mu) (w : World) (base : Nat) (l : List AV) (cur : Array Value) : Prop :=
  base + l.length ≤ cur.size ∧ ∀ (i : Nat) (x : AV), l[i]? = some x → ∃ v, cur[base + i]? = some v ∧ rel ρ μ w x v

/-- Is it the type of a block that no slice is cut of? -/
def bigT (P : Program) (e : TypeId) : Bool := Nat.blt 200 (((P.info? e).map (·.size)).getD 0)

def objRel (P : Program) (ρ : Nat → Value) (μ : Mu) (w : World) (base : Nat) : AB → Obj → Prop
  | .cells l e, o => ∃ cur, o = .cells cur e (0, 0) ∧ window ρ μ w base l cur ∧ (bigT P e = true → base = 0 ∧ cur.size = l.length)
  | .frz l e, o => ∃ cur fz, o = .cells cur e fz ∧ window ρ μ w base l cur
  | .map es clock, o => ∃ es', o = .map es' clock ∧ base = 0 ∧ entsRel ρ μ w es es'.toList
  | .loop a, o => ∃ l, o = .loop l ∧ base = 0 ∧ loopRel ρ μ w a l
  | .iter m since seen last, o => base = 0 ∧ ∃ m', o = .mapIter m' since seen.toArray last ∧ (match m with | none => m' = none | some b => ∃ r, μ b = some (r, 0) ∧ m' = some r)
  | .defd, o => o = .deferred (some []) ∧ base = 0
  | .gone, _ => True

section
variable {μ μ' : Mu} {w w' : World}

theorem entsRel.mono (hm : More μ μ') (hg : Grows w w') : ∀ {l : List AE} {l' : List MapEntry}, entsRel ρ μ w l l' → entsRel ρ μ' w' l l'
  | [], l', h => h
  | a :: r, l', h => by
    obtain ⟨e, es, rfl, ⟨h1, h2, h3, h4⟩, h5⟩ := h
    exact ⟨e, es, rfl, ⟨h1, h2, rel.mono hm hg _ _ h3, h4⟩, entsRel.mono hm hg h5⟩

theorem window.mono (hm : More μ μ') (hg : Grows w w') {base : Nat} {l : List AV} {cur : Array Value} (h : window ρ μ w base l cur) : window ρ μ' w' base l cur :=
  ⟨h.1, fun i x hx => let ⟨v, h1, h2⟩ := h.2 i x hx; ⟨v, h1, rel.mono hm hg _ _ h2⟩⟩

theorem objRel.mono (hm : More μ μ') (hg : Grows w w') {base : Nat} {ab : AB} {o : Obj} (h : objRel P ρ μ w base ab o) : objRel P ρ μ' w' base ab o := by
  cases ab with
  | cells l e => obtain ⟨cur, h1, h2, h3⟩ := h; exact ⟨cur, h1, h2.mono hm hg, h3⟩
  | frz l e => obtain ⟨cur, fz, h1, h2⟩ := h; exact ⟨cur, fz, h1, h2.mono hm hg⟩
  | map es clock => obtain ⟨es', h1, h2, h3⟩ := h; exact ⟨es', h1, h2, h3.mono hm hg⟩
  | loop a => obtain ⟨l, h1, h0, h2, h3, h4, h5, h6, h7, h8⟩ := h; exact ⟨l, h1, h0, h2, h3, h4, rels.mono hm hg _ _ h5, h6, h7, h8⟩
  | iter m since seen last =>
    obtain ⟨h0, m', h1, h2⟩ := h
    refine ⟨h0, m', h1, ?_⟩
    cases m with
    | none => exact h2
    | some b => obtain ⟨r, h3, h4⟩ := h2; exact ⟨r, hm _ _ h3, h4⟩
  | defd => exact h
  | gone => trivial
end

structure HRL (P : Program) (ρ : Nat → Value) (fl : Nat) (μ : Mu) (h : List AB) (w : World) : Prop where
  floor : fl ≤ w.heap.size
  dom : ∀ b x, μ b = some x → b < h.length
  obj : ∀ (b r base : Nat) (ab : AB), μ b = some (r, base) → h[b]? = some ab → fl ≤ r ∧ r < w.heap.size ∧ ∃ o, w.heap[r]? = some o ∧ objRel P ρ μ w base ab o
  inj : ∀ (b b' r base base' : Nat) (ab ab' : AB), μ b = some (r, base) → μ b' = some (r, base') → h[b]? = some ab → h[b']? = some ab' → live ab = true → live ab' = true → b = b'

structure EffL (P : Program) (ρ : Nat → Value) (fl : Nat) (μ : Mu) (h : List AB) (w : World) (μ' : Mu) (h' : List AB) (w' : World) : Prop where
  more : More μ μ'
  len : h.length ≤ h'.length
  new : ∀ b x, μ b = none → μ' b = some x → h.length ≤ b
  keep : ∀ b, b < h.length → μ b = none → h'[b]? = h[b]?
  gone : ∀ b : Nat, h[b]? = some .gone → h'[b]? = some .gone
  grows : Grows w w'
  size : w.heap.size ≤ w'.heap.size
  own : ∀ b r base, μ b = none → μ' b = some (r, base) → w.heap.size ≤ r ∨ ∃ (b0 base0 : Nat) (ab : AB), μ b0 = some (r, base0) ∧ h[b0]? = some ab ∧ live ab = true
  rest : ∀ r, r < w.heap.size → (∀ (b base : Nat) (ab : AB), μ b = some (r, base) → h[b]? = some ab → live ab = false) → w'.heap[r]? = w.heap[r]?
  same : w'.tape = w.tape ∧ w'.os = w.os ∧ w'.output = w.output
  hr : HRL P ρ fl μ' h' w'

theorem EffL.refl {fl : Nat} {μ : Mu} {h : List AB} {w : World} (hr : HRL P ρ fl μ h w) : EffL P ρ fl μ h w μ h w :=
  ⟨More.refl μ, Nat.le_refl _, fun b x h1 h2 => (by rw [h1] at h2; cases h2), fun _ _ _ => rfl, fun _ h => h, Grows.refl w, Nat.le_refl _, fun b r base h1 h2 => (by rw [h1] at h2; cases h2), fun _ _ _ => rfl, ⟨rfl, rfl, rfl⟩, hr⟩

/-- Draws change nothing. -/
theorem EffL.drew {fl : Nat} {μ : Mu} {h : List AB} {w : World} (hr : HRL P ρ fl μ h w) (n : Nat) : EffL P ρ fl μ h w μ h (w.drewN n) := by
  have hg : Grows w (w.drewN n) := fun r cur e fz h => ⟨cur, e, fz, h, rfl⟩
  exact ⟨More.refl μ, Nat.le_refl _, fun b x h1 h2 => (by rw [h1] at h2; cases h2), fun _ _ _ => rfl, fun _ h => h, hg, Nat.le_refl _, fun b r base h1 h2 => (by rw [h1] at h2; cases h2), fun _ _ _ => rfl, ⟨rfl, rfl, rfl⟩,
    ⟨hr.floor, hr.dom, fun b r base ab h1 h2 => let ⟨h3, h4, o, h5, h6⟩ := hr.obj b r base ab h1 h2; ⟨h3, h4, o, h5, h6.mono (More.refl μ) hg⟩, hr.inj⟩⟩

theorem live_false {ab : AB} (h : live ab = false) : ab = .gone := by
  cases ab <;> first | rfl | cases h

theorem EffL.trans {fl : Nat} {μ μ1 μ2 : Mu} {h h1 h2 : List AB} {w w1 w2 : World} (hr : HRL P ρ fl μ h w) (a : EffL P ρ fl μ h w μ1 h1 w1) (b : EffL P ρ fl μ1 h1 w1 μ2 h2 w2) : EffL P ρ fl μ h w μ2 h2 w2 := by
  refine ⟨a.more.trans b.more, Nat.le_trans a.len b.len, fun c x hc hx => ?_, fun c hc hn => ?_, fun c hc => b.gone c (a.gone c hc), a.grows.trans b.grows, Nat.le_trans a.size b.size, fun c r base hc hx => ?_, fun r hr1 hno => ?_, ?_, b.hr⟩
  · cases h3 : μ1 c with
    | some y => exact a.new c y hc h3
    | none => exact Nat.le_trans a.len (b.new c x h3 hx)
  · have h3 : μ1 c = none := by
      cases h4 : μ1 c with
      | none => rfl
      | some y => exact absurd (a.new c y hn h4) (by omega)
    rw [b.keep c (Nat.lt_of_lt_of_le hc a.len) h3, a.keep c hc hn]
  · cases h3 : μ1 c with
    | some y =>
      have h4 := b.more c y h3
      rw [hx] at h4
      obtain rfl := Option.some.inj h4
      exact a.own c r base hc h3
    | none =>
      rcases b.own c r base h3 hx with h4 | ⟨b0, base0, ab, h5, h6, h7⟩
      · exact .inl (Nat.le_trans a.size h4)
      · cases h8 : μ b0 with
        | some y =>
          have h9 := a.more b0 y h8
          rw [h5] at h9
          obtain rfl := Option.some.inj h9
          have hd := hr.dom b0 _ h8
          have hx2 : h[b0]? = some h[b0] := List.getElem?_eq_getElem hd
          refine .inr ⟨b0, base0, h[b0], h8, hx2, ?_⟩
          cases hl : live h[b0] with
          | true => rfl
          | false =>
            rw [live_false hl] at hx2
            rw [a.gone b0 hx2] at h6
            obtain rfl := Option.some.inj h6
            cases h7
        | none => exact a.own b0 r base0 h8 h5
  · have e1 := a.rest r hr1 hno
    rw [← e1]
    refine b.rest r (Nat.lt_of_lt_of_le hr1 a.size) (fun c base ab hc hab => ?_)
    cases h3 : μ c with
    | some y =>
      have h4 := a.more c y h3
      rw [hc] at h4
      obtain rfl := Option.some.inj h4
      have hd := hr.dom c _ h3
      have hx2 : h[c]? = some h[c] := List.getElem?_eq_getElem hd
      have hl := hno c base _ h3 hx2
      rw [live_false hl] at hx2
      rw [a.gone c hx2] at hab
      obtain rfl := Option.some.inj hab
      rfl
    | none =>
      rcases a.own c r base h3 hc with h4 | ⟨b0, base0, ab0, h5, h6, h7⟩
      · omega
      · rw [hno b0 base0 ab0 h5 h6] at h7
        cases h7
  · exact ⟨b.same.1.trans a.same.1, b.same.2.1.trans a.same.2.1, b.same.2.2.trans a.same.2.2⟩

def up (μ : Mu) (b : Nat) (x : Nat × Nat) : Mu := fun c => if c = b then some x else μ c

theorem up_same (μ : Mu) (b : Nat) (x : Nat × Nat) : up μ b x b = some x := by simp [up]
theorem up_ne {μ : Mu} {b c : Nat} {x : Nat × Nat} (h : c ≠ b) : up μ b x c = μ c := by simp [up, h]

theorem more_up {μ : Mu} {b : Nat} {x : Nat × Nat} (h : μ b = none) : More μ (up μ b x) := fun c y hc => by
  by_cases hcb : c = b
  · subst hcb
    rw [h] at hc
    cases hc
  · rw [up_ne hcb]
    exact hc

theorem grows_alloc (w : World) (o : Obj) : Grows w (w.alloc o) := fun r cur e fz h => ⟨cur, e, fz, by rw [Below.heap_alloc w o r (lt_in h)]; exact h, rfl⟩

/-- A new block. -/
theorem EffL.alloc {fl : Nat} {μ : Mu} {h : List AB} {w : World} (hr : HRL P ρ fl μ h w) {ab : AB} {o : Obj} (ho : objRel P ρ μ w 0 ab o) : EffL P ρ fl μ h w (up μ h.length (w.heap.size, 0)) (h ++ [ab]) (w.alloc o) := by
  have hn : μ h.length = none := by
    cases hx : μ h.length with
    | none => rfl
    | some x => exact absurd (hr.dom _ _ hx) (by omega)
  have hm : More μ (up μ h.length (w.heap.size, 0)) := more_up hn
  have hg := grows_alloc w o
  have hs : (w.alloc o).heap.size = w.heap.size + 1 := by simp
  refine ⟨hm, by simp, fun b x h1 h2 => ?_, fun b hb _ => List.getElem?_append_left hb, fun b hb => ?_, hg, by omega, fun b r base h1 h2 => ?_, fun r h1 _ => Below.heap_alloc w o r h1, ⟨rfl, rfl, rfl⟩, ?_⟩
  · by_cases hb : b = h.length
    · omega
    · rw [up_ne hb, h1] at h2
      cases h2
  · rw [List.getElem?_append_left (List.getElem?_eq_some_iff.1 hb).1]
    exact hb
  · by_cases hb : b = h.length
    · subst hb
      rw [up_same] at h2
      simp only [Option.some.injEq, Prod.mk.injEq] at h2
      exact .inl (by omega)
    · rw [up_ne hb, h1] at h2
      cases h2
  · refine ⟨by have := hr.floor; omega, fun b x hb => ?_, fun b r base ab' h1 h2 => ?_, fun b b' r base base' ab1 ab2 h1 h2 h3 h4 h5 h6 => ?_⟩
    · by_cases hbb : b = h.length
      · simp [hbb]
      · rw [up_ne hbb] at hb
        have := hr.dom b x hb
        simp
        omega
    · by_cases hbb : b = h.length
      · subst hbb
        rw [up_same] at h1
        simp only [Option.some.injEq, Prod.mk.injEq] at h1
        obtain ⟨rfl, rfl⟩ := h1
        rw [List.getElem?_append_right (Nat.le_refl _), Nat.sub_self] at h2
        simp only [List.getElem?_cons_zero, Option.some.injEq] at h2
        subst h2
        exact ⟨hr.floor, by omega, o, heap_alloc_new' w o, ho.mono hm hg⟩
      · rw [up_ne hbb] at h1
        rw [List.getElem?_append_left (hr.dom b _ h1)] at h2
        obtain ⟨h3, h4, o', h5, h6⟩ := hr.obj b r base ab' h1 h2
        exact ⟨h3, by omega, o', by rw [Below.heap_alloc w o r h4]; exact h5, h6.mono hm hg⟩
    · by_cases hbb : b = h.length
      · by_cases hbb' : b' = h.length
        · omega
        · rw [up_ne hbb'] at h2
          rw [hbb, up_same] at h1
          simp only [Option.some.injEq, Prod.mk.injEq] at h1
          have hd := hr.dom b' _ h2
          rw [List.getElem?_append_left hd] at h4
          have := (hr.obj b' r base' ab2 h2 h4).2.1
          omega
      · rw [up_ne hbb] at h1
        have hd := hr.dom b _ h1
        rw [List.getElem?_append_left hd] at h3
        by_cases hbb' : b' = h.length
        · rw [hbb', up_same] at h2
          simp only [Option.some.injEq, Prod.mk.injEq] at h2
          have := (hr.obj b r base ab1 h1 h3).2.1
          omega
        · rw [up_ne hbb'] at h2
          rw [List.getElem?_append_left (hr.dom b' _ h2)] at h4
          exact hr.inj b b' r base base' ab1 ab2 h1 h2 h3 h4 h5 h6

/-- The real world changed in one block alone. -/
structure One (r : Nat) (w w' : World) : Prop where
  size : w'.heap.size = w.heap.size
  other : ∀ k, k ≠ r → w'.heap[k]? = w.heap[k]?
  grows : Grows w w'
  same : w'.tape = w.tape ∧ w'.os = w.os ∧ w'.output = w.output

/-- A live block becomes another one. -/
theorem EffL.upd {fl : Nat} {μ : Mu} {h : List AB} {w w' : World} (hr : HRL P ρ fl μ h w) {b r base : Nat} {ab ab' : AB} {o' : Obj} (hb : μ b = some (r, base)) (hab : h[b]? = some ab) (hl : live ab = true)
    (hw : One r w w') (ho : w'.heap[r]? = some o') (hrel : objRel P ρ μ w' base ab' o') : EffL P ρ fl μ h w μ (h.set b ab') w' := by
  have hlt := (List.getElem?_eq_some_iff.1 hab).1
  refine ⟨More.refl μ, by simp, fun c x h1 h2 => (by rw [h1] at h2; cases h2), fun c hc hn => ?_, fun c hc => ?_, hw.grows, by rw [hw.size]; exact Nat.le_refl _, fun c r' base' h1 h2 => (by rw [h1] at h2; cases h2), fun k hk hno => ?_, hw.same, ?_⟩
  · rw [List.getElem?_set_ne (fun e => by rw [e, hn] at hb; cases hb)]
  · by_cases hcb : b = c
    · subst hcb
      rw [hab] at hc
      obtain rfl := Option.some.inj hc
      cases hl
    · rw [List.getElem?_set_ne hcb]
      exact hc
  · exact hw.other k (fun e => by subst e; rw [hno b base ab hb hab] at hl; cases hl)
  · refine ⟨by rw [hw.size]; exact hr.floor, fun c x hc => by rw [List.length_set]; exact hr.dom c x hc, fun c r' base' ac hc hac => ?_, fun c c' r' base1 base2 a1 a2 h1 h2 h3 h4 h5 h6 => ?_⟩
    · by_cases hcb : b = c
      · subst hcb
        rw [hb] at hc
        simp only [Option.some.injEq, Prod.mk.injEq] at hc
        obtain ⟨rfl, rfl⟩ := hc
        rw [List.getElem?_set_self hlt] at hac
        obtain rfl := Option.some.inj hac
        obtain ⟨h3, h4, _⟩ := hr.obj b r base ab hb hab
        exact ⟨h3, by rw [hw.size]; exact h4, o', ho, hrel⟩
      · rw [List.getElem?_set_ne hcb] at hac
        obtain ⟨h3, h4, o, h5, h6⟩ := hr.obj c r' base' ac hc hac
        refine ⟨h3, by rw [hw.size]; exact h4, ?_⟩
        cases hl2 : live ac with
        | false =>
          rw [live_false hl2]
          by_cases hk : r' = r
          · subst hk
            exact ⟨o', ho, trivial⟩
          · exact ⟨o, by rw [hw.other r' hk]; exact h5, trivial⟩
        | true =>
          have hk : r' ≠ r := fun e => hcb (by subst e; exact hr.inj b c r' base base' ab ac hb hc hab hac hl hl2)
          exact ⟨o, by rw [hw.other r' hk]; exact h5, h6.mono (More.refl μ) hw.grows⟩
    · have key : ∀ c a, (h.set b ab')[c]? = some a → live a = true → ∃ a0, h[c]? = some a0 ∧ live a0 = true := fun c a hc hla => by
        by_cases hcb : b = c
        · subst hcb
          exact ⟨ab, hab, hl⟩
        · rw [List.getElem?_set_ne hcb] at hc
          exact ⟨a, hc, hla⟩
      obtain ⟨b1, q1, q2⟩ := key c a1 h3 h5
      obtain ⟨b2, q3, q4⟩ := key c' a2 h4 h6
      exact hr.inj c c' r' base1 base2 b1 b2 h1 h2 q1 q3 q2 q4

/-- A live block is given up, and a new number stands for its real block. -/
theorem EffL.move {fl : Nat} {μ : Mu} {h : List AB} {w w' : World} (hr : HRL P ρ fl μ h w) {b r base base' : Nat} {ab ab' : AB} {o' : Obj} (hb : μ b = some (r, base)) (hab : h[b]? = some ab) (hl : live ab = true)
    (hw : One r w w') (ho : w'.heap[r]? = some o') (hrel : objRel P ρ μ w' base' ab' o') : EffL P ρ fl μ h w (up μ h.length (r, base')) (h.set b .gone ++ [ab']) w' := by
  have e1 := EffL.upd (ab' := .gone) hr hb hab hl hw ho trivial
  have hlt := (List.getElem?_eq_some_iff.1 hab).1
  have hls : (h.set b .gone).length = h.length := List.length_set
  have hn : μ h.length = none := by
    cases hx : μ h.length with
    | none => rfl
    | some x => exact absurd (hr.dom _ _ hx) (by omega)
  have hm : More μ (up μ h.length (r, base')) := more_up hn
  obtain ⟨f1, f2, _⟩ := hr.obj b r base ab hb hab
  refine ⟨hm, by simp, fun c x h1 h2 => ?_, fun c hc hx => ?_, fun c hc => ?_, hw.grows, e1.size, fun c r' bs h1 h2 => ?_, e1.rest, hw.same, ?_⟩
  · by_cases hcb : c = h.length
    · omega
    · rw [up_ne hcb, h1] at h2
      cases h2
  · rw [List.getElem?_append_left (by omega)]
    exact e1.keep c hc hx
  · have := e1.gone c hc
    rw [List.getElem?_append_left (List.getElem?_eq_some_iff.1 this).1]
    exact this
  · by_cases hcb : c = h.length
    · subst hcb
      rw [up_same] at h2
      simp only [Option.some.injEq, Prod.mk.injEq] at h2
      obtain ⟨rfl, rfl⟩ := h2
      exact .inr ⟨b, base, ab, hb, hab, hl⟩
    · rw [up_ne hcb, h1] at h2
      cases h2
  · refine ⟨e1.hr.floor, fun c x hc => ?_, fun c r' bs ac hc hac => ?_, fun c c' r' b1 b2 a1 a2 h1 h2 h3 h4 h5 h6 => ?_⟩
    · by_cases hcb : c = h.length
      · simp [hcb]
      · rw [up_ne hcb] at hc
        have := hr.dom c x hc
        simp
        omega
    · by_cases hcb : c = h.length
      · subst hcb
        rw [up_same] at hc
        simp only [Option.some.injEq, Prod.mk.injEq] at hc
        obtain ⟨rfl, rfl⟩ := hc
        rw [List.getElem?_append_right (by omega), hls, Nat.sub_self] at hac
        simp only [List.getElem?_cons_zero, Option.some.injEq] at hac
        subst hac
        exact ⟨f1, by rw [hw.size]; exact f2, o', ho, hrel.mono hm (Grows.refl _)⟩
      · rw [up_ne hcb] at hc
        rw [List.getElem?_append_left (by rw [hls]; exact hr.dom c _ hc)] at hac
        obtain ⟨h3, h4, o, h5, h6⟩ := e1.hr.obj c r' bs ac hc hac
        exact ⟨h3, h4, o, h5, h6.mono hm (Grows.refl _)⟩
    · have key : ∀ d bd ad, d ≠ h.length → up μ h.length (r, base') d = some (r', bd) → (h.set b .gone ++ [ab'])[d]? = some ad → live ad = true → r' ≠ r := fun d bd ad hd q1 q2 q3 => by
        rw [up_ne hd] at q1
        rw [List.getElem?_append_left (by rw [hls]; exact hr.dom d _ q1)] at q2
        intro e
        subst e
        by_cases hdb : b = d
        · subst hdb
          rw [List.getElem?_set_self hlt] at q2
          obtain rfl := Option.some.inj q2
          cases q3
        · rw [List.getElem?_set_ne hdb] at q2
          exact hdb (hr.inj b d r' base bd ab ad hb q1 hab q2 hl q3)
      by_cases hc1 : c = h.length
      · by_cases hc2 : c' = h.length
        · omega
        · have := key c' b2 a2 hc2 h2 h4 h6
          rw [hc1, up_same] at h1
          simp only [Option.some.injEq, Prod.mk.injEq] at h1
          exact absurd h1.1.symm this
      · by_cases hc2 : c' = h.length
        · have := key c b1 a1 hc1 h1 h3 h5
          rw [hc2, up_same] at h2
          simp only [Option.some.injEq, Prod.mk.injEq] at h2
          exact absurd h2.1.symm this
        · rw [up_ne hc1] at h1
          rw [up_ne hc2] at h2
          rw [List.getElem?_append_left (by rw [hls]; exact hr.dom c _ h1)] at h3
          rw [List.getElem?_append_left (by rw [hls]; exact hr.dom c' _ h2)] at h4
          exact e1.hr.inj c c' r' b1 b2 a1 a2 h1 h2 h3 h4 h5 h6


/-! The same of the trees. -/

def AH.L (h : AH) : List AB := vL .gone h
theorem L_n (h : AH) : h.L.length = h.n := vL_n _ _
theorem L_at (h : AH) (b : Nat) : h.L[b]? = h.at b := vL_at _ _ _
theorem L_put (h : AH) (b : Nat) (x : AB) : (h.put b x).L = h.L.set b x := vL_put _ _ _ _
theorem L_push (h : AH) (x : AB) : (h.push x).L = h.L ++ [x] := vL_push _ _ _

theorem n_put (h : AH) (b : Nat) (x : AB) : (h.put b x).n = h.n := by rw [← L_n, L_put, List.length_set, L_n]
theorem n_push (h : AH) (x : AB) : (h.push x).n = h.n + 1 := rfl
theorem at_lt {h : AH} {b : Nat} {x : AB} (hx : h.at b = some x) : b < h.n := by
  rw [← L_at] at hx
  rw [← L_n]
  exact (List.getElem?_eq_some_iff.1 hx).1
theorem at_some {h : AH} {b : Nat} (hb : b < h.n) : ∃ x, h.at b = some x := by
  rw [← L_n] at hb
  exact ⟨h.L[b], by rw [← L_at]; exact List.getElem?_eq_getElem hb⟩
theorem at_push_lt {h : AH} {b : Nat} (x : AB) (hb : b < h.n) : (h.push x).at b = h.at b := by
  rw [← L_at, L_push, List.getElem?_append_left (by rw [L_n]; exact hb), L_at]
theorem at_push_n (h : AH) (x : AB) : (h.push x).at h.n = some x := by
  rw [← L_at, L_push, List.getElem?_append_right (by rw [L_n]; exact Nat.le_refl _), L_n, Nat.sub_self]
  rfl
theorem at_put_same {h : AH} {b : Nat} (x : AB) (hb : b < h.n) : (h.put b x).at b = some x := by
  rw [← L_at, L_put, List.getElem?_set_self (by rw [L_n]; exact hb)]
theorem at_put_ne {h : AH} {b c : Nat} (x : AB) (hb : b ≠ c) : (h.put b x).at c = h.at c := by
  rw [← L_at, L_put, List.getElem?_set_ne hb, L_at]
theorem nil_at (b : Nat) : AH.nil.at b = none := by rw [← L_at]; rfl

def HR (P : Program) (ρ : Nat → Value) (fl : Nat) (μ : Mu) (h : AH) (w : World) : Prop := HRL P ρ fl μ h.L w
def Eff (P : Program) (ρ : Nat → Value) (fl : Nat) (μ : Mu) (h : AH) (w : World) (μ' : Mu) (h' : AH) (w' : World) : Prop := EffL P ρ fl μ h.L w μ' h'.L w'

section trees
variable {fl : Nat} {μ μ' μ1 μ2 : Mu} {h h' h1 h2 : AH} {w w' w1 w2 : World}

theorem HR.floor (hr : HR P ρ fl μ h w) : fl ≤ w.heap.size := HRL.floor hr
theorem HR.dom (hr : HR P ρ fl μ h w) (b : Nat) (x : Nat × Nat) (hb : μ b = some x) : b < h.n := by rw [← L_n]; exact HRL.dom hr b x hb
theorem HR.obj (hr : HR P ρ fl μ h w) (b r base : Nat) (ab : AB) (hb : μ b = some (r, base)) (hx : h.at b = some ab) : fl ≤ r ∧ r < w.heap.size ∧ ∃ o, w.heap[r]? = some o ∧ objRel P ρ μ w base ab o :=
  HRL.obj hr b r base ab hb (by rw [L_at]; exact hx)
theorem HR.inj (hr : HR P ρ fl μ h w) (b b' r base base' : Nat) (ab ab' : AB) (h1 : μ b = some (r, base)) (h2 : μ b' = some (r, base')) (h3 : h.at b = some ab) (h4 : h.at b' = some ab') (h5 : live ab = true) (h6 : live ab' = true) : b = b' :=
  HRL.inj hr b b' r base base' ab ab' h1 h2 (by rw [L_at]; exact h3) (by rw [L_at]; exact h4) h5 h6

theorem Eff.more (e : Eff P ρ fl μ h w μ' h' w') : More μ μ' := EffL.more e
theorem Eff.len (e : Eff P ρ fl μ h w μ' h' w') : h.n ≤ h'.n := by rw [← L_n, ← L_n]; exact EffL.len e
theorem Eff.new (e : Eff P ρ fl μ h w μ' h' w') (b : Nat) (x : Nat × Nat) (h1 : μ b = none) (h2 : μ' b = some x) : h.n ≤ b := by rw [← L_n]; exact EffL.new e b x h1 h2
theorem Eff.keep (e : Eff P ρ fl μ h w μ' h' w') (b : Nat) (hb : b < h.n) (hn : μ b = none) : h'.at b = h.at b := by
  rw [← L_at, ← L_at]
  exact EffL.keep e b (by rw [L_n]; exact hb) hn
theorem Eff.gone (e : Eff P ρ fl μ h w μ' h' w') (b : Nat) (hb : h.at b = some .gone) : h'.at b = some .gone := by
  rw [← L_at] at hb ⊢
  exact EffL.gone e b hb
theorem Eff.grows (e : Eff P ρ fl μ h w μ' h' w') : Grows w w' := EffL.grows e
theorem Eff.size (e : Eff P ρ fl μ h w μ' h' w') : w.heap.size ≤ w'.heap.size := EffL.size e
theorem Eff.own (e : Eff P ρ fl μ h w μ' h' w') (b r base : Nat) (h1 : μ b = none) (h2 : μ' b = some (r, base)) : w.heap.size ≤ r ∨ ∃ (b0 base0 : Nat) (ab : AB), μ b0 = some (r, base0) ∧ h.at b0 = some ab ∧ live ab = true := by
  rcases EffL.own e b r base h1 h2 with h3 | ⟨b0, base0, ab, h3, h4, h5⟩
  · exact .inl h3
  · exact .inr ⟨b0, base0, ab, h3, by rw [← L_at]; exact h4, h5⟩
theorem Eff.rest (e : Eff P ρ fl μ h w μ' h' w') (r : Nat) (hr : r < w.heap.size) (hno : ∀ (b base : Nat) (ab : AB), μ b = some (r, base) → h.at b = some ab → live ab = false) : w'.heap[r]? = w.heap[r]? :=
  EffL.rest e r hr (fun b base ab h1 h2 => hno b base ab h1 (by rw [← L_at]; exact h2))
theorem Eff.same (e : Eff P ρ fl μ h w μ' h' w') : w'.tape = w.tape ∧ w'.os = w.os ∧ w'.output = w.output := EffL.same e
theorem Eff.hr (e : Eff P ρ fl μ h w μ' h' w') : HR P ρ fl μ' h' w' := EffL.hr e

theorem Eff.refl (hr : HR P ρ fl μ h w) : Eff P ρ fl μ h w μ h w := EffL.refl hr
theorem Eff.drew (hr : HR P ρ fl μ h w) (n : Nat) : Eff P ρ fl μ h w μ h (w.drewN n) := EffL.drew hr n
theorem Eff.trans (hr : HR P ρ fl μ h w) (a : Eff P ρ fl μ h w μ1 h1 w1) (b : Eff P ρ fl μ1 h1 w1 μ2 h2 w2) : Eff P ρ fl μ h w μ2 h2 w2 := EffL.trans hr a b
theorem Eff.alloc (hr : HR P ρ fl μ h w) {ab : AB} {o : Obj} (ho : objRel P ρ μ w 0 ab o) : Eff P ρ fl μ h w (up μ h.n (w.heap.size, 0)) (h.push ab) (w.alloc o) := by
  unfold Eff
  rw [L_push, ← L_n]
  exact EffL.alloc hr ho
theorem Eff.upd (hr : HR P ρ fl μ h w) {b r base : Nat} {ab ab' : AB} {o' : Obj} (hb : μ b = some (r, base)) (hab : h.at b = some ab) (hl : live ab = true)
    (hw : One r w w') (ho : w'.heap[r]? = some o') (hrel : objRel P ρ μ w' base ab' o') : Eff P ρ fl μ h w μ (h.put b ab') w' := by
  unfold Eff
  rw [L_put]
  exact EffL.upd hr hb (by rw [L_at]; exact hab) hl hw ho hrel
theorem Eff.move (hr : HR P ρ fl μ h w) {b r base base' : Nat} {ab ab' : AB} {o' : Obj} (hb : μ b = some (r, base)) (hab : h.at b = some ab) (hl : live ab = true)
    (hw : One r w w') (ho : w'.heap[r]? = some o') (hrel : objRel P ρ μ w' base' ab' o') : Eff P ρ fl μ h w (up μ h.n (r, base')) ((h.put b .gone).push ab') w' := by
  unfold Eff
  rw [L_push, L_put, ← L_n]
  exact EffL.move hr hb (by rw [L_at]; exact hab) hl hw ho hrel
/-- A heap that is the same to look at. -/
theorem Eff.alike (e : Eff P ρ fl μ h w μ' h' w') (hh : h'.L = h1.L) : Eff P ρ fl μ h w μ' h1 w' := by
  unfold Eff at e ⊢
  rw [← hh]
  exact e

end trees

end Go.Proofs.YtfchbkmegicfoaaGreat.Ex
