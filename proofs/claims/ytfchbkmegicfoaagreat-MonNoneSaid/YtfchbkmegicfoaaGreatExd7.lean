/- Regions that draw their order: whatever order is drawn, the real machine comes to what the abstract one came to. -/
import Derived.Test.YtfchbkmegicfoaaGreatExd6
set_option linter.unusedSimpArgs false
set_option linter.unusedVariables false
namespace Go.Proofs.YtfchbkmegicfoaaGreat.Ex
open Go Go.RowKit

variable {P : Program} {T : TT} {S : Sums} {ρ : Nat → Value} {fl : Nat} {ops : Array Oper} {h : AH}

theorem HRL.extend {h : List AB} {μ : Mu} {w : World} (hr : HRL P ρ fl μ h w) (ex : List AB) : HRL P ρ fl μ (h ++ ex) w := by
  have key : ∀ (b : Nat) (x : Nat × Nat) (ab : AB), μ b = some x → (h ++ ex)[b]? = some ab → h[b]? = some ab := fun b x ab hb hx => by
    rwa [List.getElem?_append_left (hr.dom b x hb)] at hx
  refine ⟨hr.floor, fun b x hb => by have := hr.dom b x hb; simp; omega, fun b r base ab hb hx => hr.obj b r base ab hb (key b _ ab hb hx), fun b b' r base base' ab ab' h1 h2 h3 h4 h5 h6 => hr.inj b b' r base base' ab ab' h1 h2 (key b _ ab h1 h3) (key b' _ ab' h2 h4) h5 h6⟩

theorem EffL.extend {μ μ' : Mu} {w w' : World} {h h' : List AB} (e : EffL P ρ fl μ h w μ' h' w') (ex : List AB) : EffL P ρ fl μ h w μ' (h' ++ ex) w' := by
  refine ⟨e.more, by have := e.len; simp; omega, e.new, fun b hb hn => ?_, fun b hb => ?_, e.grows, e.size, e.own, e.rest, e.same, e.hr.extend ex⟩
  · rw [List.getElem?_append_left (Nat.lt_of_lt_of_le hb e.len)]
    exact e.keep b hb hn
  · have := e.gone b hb
    rw [List.getElem?_append_left (List.getElem?_eq_some_iff.1 this).1]
    exact this

/-- A block that stands in the abstract heap is made in the real one. -/
theorem EffL.late {μ μ' : Mu} {w w' : World} {h h' : List AB} {b : Nat} {ab : AB} {ob : Obj} (hr : HRL P ρ fl μ h w) (e : EffL P ρ fl μ h w μ' h' w') (hb : h.length ≤ b) (hn : μ' b = none) (hx : h'[b]? = some ab) (ho : objRel P ρ μ' w' 0 ab ob) :
    EffL P ρ fl μ h w (up μ' b (w'.heap.size, 0)) h' (w'.alloc ob) := by
  have hm : More μ' (up μ' b (w'.heap.size, 0)) := more_up hn
  have hg := grows_alloc w' ob
  have hs : (w'.alloc ob).heap.size = w'.heap.size + 1 := by simp
  have hblt := (List.getElem?_eq_some_iff.1 hx).1
  refine ⟨e.more.trans hm, e.len, fun c x h1 h2 => ?_, e.keep, e.gone, e.grows.trans hg, by have := e.size; omega, fun c r base h1 h2 => ?_, fun r h1 h2 => ?_, e.same, ?_⟩
  · by_cases hc : c = b
    · omega
    · rw [up_ne hc] at h2
      exact e.new c x h1 h2
  · by_cases hc : c = b
    · subst hc
      rw [up_same] at h2
      simp only [Option.some.injEq, Prod.mk.injEq] at h2
      have := e.size
      exact .inl (by omega)
    · rw [up_ne hc] at h2
      exact e.own c r base h1 h2
  · rw [Below.heap_alloc w' ob r (Nat.lt_of_lt_of_le h1 e.size)]
    exact e.rest r h1 h2
  · refine ⟨by have := e.hr.floor; omega, fun c x hc => ?_, fun c r base ac hc hac => ?_, fun c c' r base base' a1 a2 h1 h2 h3 h4 h5 h6 => ?_⟩
    · by_cases hcb : c = b
      · omega
      · rw [up_ne hcb] at hc
        exact e.hr.dom c x hc
    · by_cases hcb : c = b
      · subst hcb
        rw [up_same] at hc
        simp only [Option.some.injEq, Prod.mk.injEq] at hc
        obtain ⟨rfl, rfl⟩ := hc
        rw [hx] at hac
        obtain rfl := Option.some.inj hac
        exact ⟨e.hr.floor, by omega, ob, heap_alloc_new' w' ob, ho.mono hm hg⟩
      · rw [up_ne hcb] at hc
        obtain ⟨h3, h4, o', h5, h6⟩ := e.hr.obj c r base ac hc hac
        exact ⟨h3, by omega, o', by rw [Below.heap_alloc w' ob r h4]; exact h5, h6.mono hm hg⟩
    · by_cases hc1 : c = b
      · by_cases hc2 : c' = b
        · omega
        · rw [up_ne hc2] at h2
          rw [hc1, up_same] at h1
          simp only [Option.some.injEq, Prod.mk.injEq] at h1
          have := (e.hr.obj c' r base' a2 h2 h4).2.1
          omega
      · rw [up_ne hc1] at h1
        by_cases hc2 : c' = b
        · rw [hc2, up_same] at h2
          simp only [Option.some.injEq, Prod.mk.injEq] at h2
          have := (e.hr.obj c r base a1 h1 h3).2.1
          omega
        · rw [up_ne hc2] at h2
          exact e.hr.inj c c' r base base' a1 a2 h1 h2 h3 h4 h5 h6

theorem Eff.extend {μ μ' : Mu} {w w' : World} {h' h1 : AH} {ex : List AB} (e : Eff P ρ fl μ h w μ' h' w') (hh : h1.L = h'.L ++ ex) : Eff P ρ fl μ h w μ' h1 w' := by
  unfold Eff
  rw [hh]
  exact EffL.extend e ex

theorem Eff.late {μ μ' : Mu} {w w' : World} {h' : AH} {b : Nat} {ab : AB} {ob : Obj} (hr : HR P ρ fl μ h w) (e : Eff P ρ fl μ h w μ' h' w') (hb : h.n ≤ b) (hn : μ' b = none) (hx : h'.at b = some ab) (ho : objRel P ρ μ' w' 0 ab ob) :
    Eff P ρ fl μ h w (up μ' b (w'.heap.size, 0)) h' (w'.alloc ob) :=
  EffL.late hr e (by rw [L_n]; exact hb) hn (by rw [L_at]; exact hx) ho

def IsRead (T : TT) (ops : Array Oper) (e : Ent) (rd : RD) : Prop := kindOf T e.o = .reads ∧ wantedA ops e.tmps e.o = some true ∧ rdOf e.o e.tmps = some rd

/-- The operations up to the next act. -/
theorem seg (hT : TT.Sound P T) {tf : TM} {hf : AH} {rsf : Reads} : ∀ (B0 : List Ent) (tA : TM) (HA : AH) (RA : Reads), Tr P T ρ fl ops B0 tA HA RA tf hf rsf →
    ∃ Sg B tS HS RS exs, B0 = Sg ++ B ∧ Tr P T ρ fl ops Sg tA HA RA tS HS RS ∧ Tr P T ρ fl ops B tS HS RS tf hf rsf ∧ (∀ e ∈ Sg, actK (kindOf T e.o) = false) ∧ (∀ a B', B = a :: B' → actK (kindOf T a.o) = true) ∧ HS.L = HA.L ++ exs ∧
      (∀ e ∈ Sg, Pend T ops e → HA.n ≤ e.h.n ∧ e.h.n < HS.n ∧ ∃ ab, e.h1 = e.h.push ab ∧ HS.at e.h.n = some ab) ∧
      (∀ e ∈ Sg, ∀ e2 ∈ Sg, Pend T ops e → Pend T ops e2 → e.h.n = e2.h.n → e.i = e2.i) ∧ (∀ x ∈ RA, x ∈ RS) ∧ (∀ e ∈ Sg, ∀ rd, IsRead T ops e rd → (e.i, rd, e.v) ∈ RS)
  | [], tA, HA, RA, tr => ⟨[], [], tA, HA, RA, [], rfl, ⟨rfl, rfl, rfl⟩, tr, fun e he => (by cases he), fun a B' h => (by cases h), by simp, fun e he => (by cases he), fun e he => (by cases he), fun x hx => hx, fun e he => (by cases he)⟩
  | e :: r, tA, HA, RA, tr => by
    cases hk : actK (kindOf T e.o) with
    | true => exact ⟨[], e :: r, tA, HA, RA, [], rfl, ⟨rfl, rfl, rfl⟩, tr, fun e he => (by cases he), fun a B' h => (by obtain ⟨rfl, _⟩ := List.cons.inj h; exact hk), by simp, fun e he => (by cases he), fun e he => (by cases he), fun x hx => hx, fun e he => (by cases he)⟩
    | false =>
      obtain ⟨q1, q2, rs1, q3, q4⟩ := tr
      obtain ⟨p1, p2, p3⟩ := rest_step hT q3 hk
      obtain ⟨Sg, B, tS, HS, RS, exs, s1, s2, s3, s4, s5, s6, s7, s8, s9, s10⟩ := seg hT r _ e.h1 rs1 q4
      have hex : ∃ ex1, e.h1.L = HA.L ++ ex1 := by
        rcases p1 with ⟨_, ab, h⟩ | ⟨_, h⟩
        · exact ⟨[ab], by rw [h, q2, L_push]⟩
        · exact ⟨[], by rw [h, q2]; simp⟩
      obtain ⟨ex1, hex⟩ := hex
      have hlen : HA.n ≤ e.h1.n := by rw [← L_n, ← L_n, hex]; simp
      have hS : HS.L = HA.L ++ (ex1 ++ exs) := by rw [s6, hex]; simp
      have hself : Pend T ops e → HA.n = e.h.n ∧ e.h1.n = HA.n + 1 ∧ ∃ ab, e.h1 = e.h.push ab ∧ HS.at e.h.n = some ab := fun hp => by
        rcases p1 with ⟨_, ab, h⟩ | ⟨hn, _⟩
        · refine ⟨by rw [q2], by rw [h, q2]; rfl, ab, h, ?_⟩
          rw [← L_at, s6, h, L_push, List.getElem?_append_left (by simp [L_n]), List.getElem?_append_right (by rw [L_n]; exact Nat.le_refl _), L_n, Nat.sub_self]
          rfl
        · exact absurd hp hn
      refine ⟨e :: Sg, B, tS, HS, RS, ex1 ++ exs, by rw [s1]; rfl, ⟨q1, q2, rs1, q3, s2⟩, s3, ?_, s5, hS, ?_, ?_, fun x hx => s9 x (p2 x hx), ?_⟩
      · intro x hx
        cases hx with
        | head => exact hk
        | tail _ hm => exact s4 x hm
      · intro x hx hp
        cases hx with
        | head =>
          obtain ⟨h1, h2, ab, h3, h4⟩ := hself hp
          exact ⟨by omega, at_lt h4, ab, h3, h4⟩
        | tail _ hm =>
          obtain ⟨h1, h2⟩ := s7 x hm hp
          exact ⟨by omega, h2⟩
      · intro x hx y hy hpx hpy hl
        cases hx with
        | head =>
          cases hy with
          | head => rfl
          | tail _ hm =>
            obtain ⟨h1, h2, _⟩ := hself hpx
            have := (s7 y hm hpy).1
            omega
        | tail _ hm =>
          cases hy with
          | head =>
            obtain ⟨h1, h2, _⟩ := hself hpy
            have := (s7 x hm hpx).1
            omega
          | tail _ hm2 => exact s8 x hm y hm2 hpx hpy hl
      · intro x hx rd hrd
        cases hx with
        | head => exact s9 _ (p3 rd hrd.1 hrd.2.1 hrd.2.2)
        | tail _ hm => exact s10 x hm rd hrd

/-- What holds at each point of any order. -/
structure Inv (P : Program) (T : TT) (ρ : Nat → Value) (fl : Nat) (ops : Array Oper) (es : List Ent) (t0 : TM) (h0 : AH) (tf : TM) (hf : AH) (rsf : Reads) (μ0 : Mu) (w0 : World)
    (listed : Array Bool) (f : Frame) (w : World) (A B : List Ent) (tA : TM) (HA : AH) (RA : Reads) (μ : Mu) : Prop where
  cut : es = A ++ B
  trA : Tr P T ρ fl ops A t0 h0 [] tA HA RA
  trB : Tr P T ρ fl ops B tA HA RA tf hf rsf
  actsA : ∀ e ∈ A, actK (kindOf T e.o) = true → on listed e.i
  actsB : ∀ e ∈ B, actK (kindOf T e.o) = true → ¬ on listed e.i
  head : ∀ a B', B = a :: B' → actK (kindOf T a.o) = true
  eff : Eff P ρ fl μ0 h0 w0 μ HA w
  tmps : rels ρ μ w (foldX listed es t0.L) f.tmps.toList
  pend : ∀ e ∈ A, Pend T ops e → h0.n ≤ e.h.n ∧ e.h.n < HA.n ∧ (¬ on listed e.i → μ e.h.n = none ∧ ∃ ab, e.h1 = e.h.push ab ∧ HA.at e.h.n = some ab)
  dist : ∀ e ∈ A, ∀ e2 ∈ A, Pend T ops e → Pend T ops e2 → e.h.n = e2.h.n → e.i = e2.i
  reads : ∀ e ∈ A, ∀ rd, IsRead T ops e rd → ¬ on listed e.i → (e.i, rd, e.v) ∈ RA

end Go.Proofs.YtfchbkmegicfoaaGreat.Ex
