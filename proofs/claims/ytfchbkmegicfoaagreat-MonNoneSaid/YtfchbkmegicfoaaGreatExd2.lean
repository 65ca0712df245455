/- Regions that draw their order: new blocks made late; sameness of values; orders. -/
import Derived.Test.YtfchbkmegicfoaaGreatExd1
set_option linter.unusedSimpArgs false
set_option linter.unusedVariables false
namespace Go.Proofs.YtfchbkmegicfoaaGreat.Ex
open Go Go.RowKit

variable {P : Program} {T : TT} {ρ : Nat → Value} {fl : Nat} {μ μ' : Mu} {h : AH} {w w' : World} {tmps : TM} {o : Oper} {n : AN} {h1 : AH}

theorem alloc_cases (hk : kindOf T o = .alloc) : (∃ t, o.op = .alloc t) ∨ (∃ t x, o.op = .box t x) ∨ (∃ t m ps, o.op = .buildSlice t m ps) ∨ (∃ t l c, o.op = .makeSlice t l c) ∨ ∃ t r, o.op = .makeMap t r := by
  unfold kindOf at hk
  split at hk <;> try cases hk
  case h_17 t ho => exact .inl ⟨t, ho⟩
  case h_18 t x ho => exact .inr (.inl ⟨t, x, ho⟩)
  case h_19 t m ps ho => exact .inr (.inr (.inl ⟨t, m, ps, ho⟩))
  case h_20 t l c ho => exact .inr (.inr (.inr (.inl ⟨t, l, c, ho⟩)))
  case h_21 t r ho => exact .inr (.inr (.inr (.inr ⟨t, r, ho⟩)))
  case h_24 => split at hk <;> cases hk
  case h_25 => split at hk <;> try cases hk
               split at hk <;> cases hk

def AllocOK (P : Program) (T : TT) (o : Oper) (tmps : TM) (mk : Nat → AV) (ab : AB) : Prop :=
  (∀ h2, aop P T o tmps h2 = some (.val (mk h2.n), h2.push ab)) ∧ live ab = true ∧
  ∀ (ρ : Nat → Value) (μ : Mu) (w : World) (ev : Operand → Value), EnvR ρ μ w tmps ev → ∃ ob v', (execOp ev o).run P w = .ok (.value v') (w.alloc ob) ∧ objRel P ρ μ w 0 ab ob ∧ ∀ (μ1 : Mu) (w1 : World) (b : Nat), μ1 b = some (w.heap.size, 0) → rel ρ μ1 w1 (mk b) v'

theorem rel_ptr_at {b r : Nat} (hb : μ b = some (r, 0)) : rel ρ μ w (.ptr b 0) (.pointer (some ⟨r, 0, none⟩)) := by unfold rel; exact ⟨r, 0, hb, rfl⟩
theorem rel_sl_at {b r len k : Nat} (hb : μ b = some (r, 0)) (hk : len ≤ k) (hm : k ≤ maxLen) : rel ρ μ w (.sl b 0 len (.kn k)) (.slice (some ⟨r, 0, none⟩) len k) := by
  unfold rel
  exact ⟨r, 0, 0, k, hb, rfl, .inr rfl, rfl, hk, hm⟩
theorem rel_mp_at {b r : Nat} (hb : μ b = some (r, 0)) : rel ρ μ w (.mp b) (.map (some r)) := by unfold rel; exact ⟨r, hb, rfl⟩

theorem alloc_any (hT : TT.Sound P T) (hk : kindOf T o = .alloc) (ha : aop P T o tmps h = some (n, h1)) : ∃ mk ab, n = .val (mk h.n) ∧ h1 = h.push ab ∧ AllocOK P T o tmps mk ab := by
  obtain ⟨ds, op, ty, pos, after, guard⟩ := o
  rcases alloc_cases hk with ⟨t, ho⟩ | ⟨t, x, ho⟩ | ⟨t, m, ps, ho⟩ | ⟨t, l, c, ho⟩ | ⟨t, r, ho⟩ <;> (simp only at ho; subst ho)
  · simp only [aop, aAlloc, Option.map_eq_some_iff, Prod.mk.injEq] at ha
    obtain ⟨z, z1, rfl, rfl⟩ := ha
    refine ⟨fun b => .ptr b 0, .cells z.cells t, rfl, rfl, fun h2 => by simp [aop, aAlloc, z1], rfl, fun ρ μ w ev he => ?_⟩
    obtain ⟨v, h2, h3⟩ := run_zero hT z1 w
    exact ⟨.cells v.cells t, .pointer (some ⟨w.heap.size, 0, none⟩), by simp [execOp, Instr.alloc, h2, newVar, newRow], ⟨v.cells, rfl, whole_of (rel_cells (ofVal1_rel h3))⟩, fun μ1 w1 b hb => rel_ptr_at hb⟩
  · simp only [aop, aBox] at ha
    split at ha
    case h_2 => cases ha
    rename_i z hz
    split at ha
    case isFalse => cases ha
    rename_i hone
    simp only [Option.some.injEq, Prod.mk.injEq] at ha
    obtain ⟨rfl, rfl⟩ := ha
    refine ⟨fun b => .ptr b 0, .cells z.cells t, rfl, rfl, fun h2 => by simp [aop, aBox, hz, hone], rfl, fun ρ μ w ev he => ?_⟩
    exact ⟨.cells (ev x).cells t, .pointer (some ⟨w.heap.size, 0, none⟩), by simp [execOp, Instr.box, newVar, newRow], ⟨_, rfl, whole_of (rel_cells (he x z hz))⟩, fun μ1 w1 b hb => rel_ptr_at hb⟩
  · have ha0 := ha
    simp only [aop, aBuildSlice] at ha
    split at ha
    case h_2 => cases ha
    rename_i e ps' hu hps
    split at ha
    case h_2 => cases ha
    rename_i i hi
    split at ha
    case isFalse => cases ha
    rename_i hc
    simp only [Option.map_eq_some_iff, Prod.mk.injEq] at ha
    obtain ⟨l, hf, rfl, rfl⟩ := ha
    have hc0 := hc
    simp only [Bool.and_eq_true, decide_eq_true_eq] at hc
    refine ⟨fun b => .sl b 0 m (.kn m), .cells l e, rfl, rfl, fun h2 => by simp [aop, aBuildSlice, hu, hps, hi, hc, hf], rfl, fun ρ μ w ev he => ?_⟩
    obtain ⟨z, hz, hz2⟩ := run_zero hT (show zeroT T e = some i.zero by simp [zeroT, hi]) w
    have hzr := rel_cells (ofVal1_rel (ρ := ρ) (μ := μ) (w := w) hz2)
    have hs := run_size hT (show sizeT T e = some i.size by simp [sizeT, hi]) w
    have hrow : rels ρ μ w (rep i.zero.cells m) ((Array.range (m * i.size)).map (fun k => (if m * i.size = 0 then (#[] : Array Value) else z.cells)[k % (if m * i.size = 0 then (#[] : Array Value) else z.cells).size]!)).toList := by
      by_cases h0 : m * i.size = 0
      · have : rep i.zero.cells m = [] := List.eq_nil_of_length_eq_zero (by rw [rep_length, hc.1.1]; exact h0)
        rw [this, h0]
        simp [rels_nil]
      · simp only [h0, if_false]
        have := rep_rels hzr m
        rw [hc.1.1] at this
        exact this
    obtain ⟨rres, q1, q2⟩ := fillA_sound (evalParts_sound he hps) hrow hf
    have hmm : m ≤ maxLen := by simp only [maxLen]; omega
    refine ⟨.cells rres e, .slice (some ⟨w.heap.size, 0, none⟩) m m, ?_, ⟨rres, rfl, whole_of q2⟩, fun μ1 w1 b hb => rel_sl_at hb (Nat.le_refl _) hmm⟩
    have h24 : ¬ (m * i.size > 2 ^ 24) := by omega
    by_cases h0 : m * i.size = 0
    · simp only [h0, if_true] at q1
      have e0 : Array.range 0 = #[] := rfl
      simp only [e0, List.map_toArray, List.map_nil] at q1
      simp [execOp, Instr.buildSlice, run_und hT hu, hs, h0, e0, q1, newRow]
    · simp only [h0, if_false] at q1
      simp [execOp, Instr.buildSlice, run_und hT hu, hs, h0, h24, hz, q1, newRow]
  · simp only [aop, aMakeSlice] at ha
    split at ha
    case h_2 => cases ha
    rename_i e k m hu hl hc
    split at ha
    case h_2 => cases ha
    rename_i i hi
    split at ha
    case isFalse => cases ha
    rename_i hcond
    have hcond0 := hcond
    simp only [Bool.and_eq_true, decide_eq_true_eq] at hcond
    obtain ⟨⟨⟨c1, c2⟩, c3⟩, c4⟩ := hcond
    simp only [Option.some.injEq, Prod.mk.injEq] at ha
    obtain ⟨rfl, rfl⟩ := ha
    refine ⟨fun b => .sl b 0 k (.kn m), .cells (rep i.zero.cells m) e, rfl, rfl, fun h2 => by simp [aop, aMakeSlice, hu, hl, hc, hi, c1, c2, c3, c4], rfl, fun ρ μ w ev he => ?_⟩
    obtain ⟨al, al1, al2⟩ := Option.bind_eq_some_iff.1 hl
    obtain ⟨ac, ac1, ac2⟩ := Option.bind_eq_some_iff.1 hc
    obtain ⟨kl, il, e1, e2, rfl⟩ := natA_inv al2 (he l _ al1)
    obtain ⟨kc, ic, f1, f2, rfl⟩ := natA_inv ac2 (he c _ ac1)
    obtain ⟨info, z, g1, g2, g3, g4, g5⟩ := hT.info e i hi
    have hzr := rel_cells (ofVal1_rel (ρ := ρ) (μ := μ) (w := w) g5)
    have hb : (info.bytes : Int) * ic ≤ 281474976710656 := by
      have h1 : ((i.bytes * ic.toNat : Nat) : Int) ≤ 281474976710656 := by omega
      rw [Int.natCast_mul, Int.toNat_of_nonneg f2, ← g3] at h1
      exact h1
    have hrun := run_make (P := P) w t e info z (und_P hT hu) g1 g4 kl kc il ic e2 (by omega) hb (by omega)
    have hrow := rep_rels hzr ic.toNat
    rw [c4] at hrow
    exact ⟨.cells (madeCells z.cells (ic.toNat * info.size)) e, .slice (some ⟨w.heap.size, 0, none⟩) il.toNat ic.toNat, by simp [execOp, e1, f1, hrun], ⟨_, rfl, whole_of (by rw [g2]; exact hrow)⟩, fun μ1 w1 b hb => rel_sl_at hb c1 (by simp only [maxLen]; omega)⟩
  · cases r with
    | some r => cases ha
    | none =>
      simp only [aop, Option.some.injEq, Prod.mk.injEq] at ha
      obtain ⟨rfl, rfl⟩ := ha
      exact ⟨.mp, .map [] 0, rfl, rfl, fun h2 => rfl, rfl, fun ρ μ w ev he => ⟨.map #[] 0, .map (some w.heap.size), by simp [execOp, Instr.makeMap], ⟨#[], rfl, rfl, rfl⟩, fun μ1 w1 b hb => rel_mp_at hb⟩⟩

/-! Sameness. -/

theorem scalEq_sound {a b : Value} (hs : scalEq a b = true) : a = b := by
  unfold scalEq at hs
  split at hs <;> first | rfl | cases hs | skip
  · simpa using hs
  · simp only [Bool.and_eq_true, beq_iff_eq] at hs
    rw [hs.1, hs.2]
  · rename_i x y
    have : x.data.toList = y.data.toList := by simpa using hs
    have : x.data = y.data := Array.ext' this
    obtain ⟨x⟩ := x
    obtain ⟨y⟩ := y
    simp only at this
    rw [this]

theorem capEq_sound {a b : Cap} (hs : capEq a b = true) : a = b := by
  cases a <;> cases b <;> simp [capEq] at hs <;> rw [hs]


theorem same_sound : ∀ (n : Nat) (a b : AV), AV.same n a b = true → a = b := fun n => by
  induction n with
  | zero =>
    intro a b hs
    cases a <;> cases b <;> simp only [AV.same, Bool.false_eq_true, Bool.and_eq_true, beq_iff_eq] at hs
    · rw [scalEq_sound hs]
    · rw [hs.1, hs.2]
    · rw [hs.1.1.1, hs.1.1.2, hs.1.2, capEq_sound hs.2]
    · rw [hs]
    · rw [hs]
  | succ n ih =>
    have lst : ∀ (l m : List AV), l.length = m.length → ((l.zip m).all fun (x, y) => AV.same n x y) = true → l = m := fun l => by
      induction l with
      | nil => intro m hl _; exact (List.eq_nil_of_length_eq_zero hl.symm).symm
      | cons x xs ihl =>
        intro m hl ha
        cases m with
        | nil => cases hl
        | cons y ys =>
          simp only [List.zip_cons_cons, List.all_cons, Bool.and_eq_true] at ha
          rw [ih x y ha.1, ihl ys (by simpa using hl) ha.2]
    intro a b hs
    cases a <;> cases b <;> simp only [AV.same, Bool.false_eq_true, Bool.and_eq_true, beq_iff_eq] at hs
    · rw [scalEq_sound hs]
    · rw [hs.1, hs.2]
    · rw [hs.1.1.1, hs.1.1.2, hs.1.2, capEq_sound hs.2]
    · rw [hs]
    · rw [lst _ _ hs.1 hs.2]
    · rw [lst _ _ hs.1 hs.2]
    · rw [hs.1, ih _ _ hs.2]
    · rw [hs]


end Go.Proofs.YtfchbkmegicfoaaGreat.Ex
