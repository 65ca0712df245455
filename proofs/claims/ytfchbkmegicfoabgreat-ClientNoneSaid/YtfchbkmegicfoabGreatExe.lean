/- How a run of the abstract machine is told. -/
import Derived.Test.YtfchbkmegicfoabGreatExs9
import Derived.Test.YtfchbkmegicfoabGreatChecked
set_option linter.unusedSimpArgs false
set_option linter.unusedVariables false
namespace Go.Proofs.YtfchbkmegicfoabGreat.Ex
open Go Go.RowKit

variable {P : Program} {ρ : Nat → Value} {fl : Nat}

/-! How a run is told. -/

def isTrue : Option (Out × AH) → Bool
  | some (.ended (.ret (.lit (.bool true))) none, _) => true
  | _ => false

theorem isTrue_inv {x : Option (Out × AH)} (h : isTrue x = true) : ∃ h', x = some (.ended (.ret (.lit (.bool true))) none, h') := by
  unfold isTrue at h
  split at h
  · exact ⟨_, rfl⟩
  · cases h

theorem noNG : NoNG Tryz.prog := by
  have h : (Tryz.prog.funcs.all fun fn => !(fn.name == "runtime.NumGoroutine")) = true := by decide +kernel
  intro f fn hf
  have := Array.all_eq_true_iff_forall_mem.1 h fn (Array.mem_of_getElem? hf)
  simpa using this

theorem rel_ext {μ : Mu} {w : World} {i : Nat} (h : (ρ i).oneCell' = true) : rel ρ μ w (.ext i) (ρ i) := by
  unfold rel
  exact ⟨rfl, h⟩

theorem rels_exts {μ : Mu} {w : World} : ∀ (n k : Nat) (l : List Value), l.length = n → (∀ (i : Nat) (v : Value), l[i]? = some v → ρ (k + i) = v ∧ v.oneCell' = true) → rels ρ μ w ((List.range' k n).map .ext) l
  | 0, k, l, hl, _ => by rw [List.eq_nil_of_length_eq_zero hl]; exact rels_nil
  | n + 1, k, [], hl, _ => by cases hl
  | n + 1, k, v :: r, hl, h => by
    obtain ⟨h1, h2⟩ := h 0 v rfl
    rw [Nat.add_zero] at h1
    subst h1
    exact rels_cons (rel_ext h2) (rels_exts n (k + 1) r (by simpa using hl) (fun i u hu => by
      have := h (i + 1) u (by simpa using hu)
      rwa [show k + (i + 1) = k + 1 + i by omega] at this))

theorem cell_one {P : Program} {w : World} {r : Reach} {base : Nat} {t : TypeId} {v : Value} (h : Cell.okWide P w r base t v) : v.oneCell' = true := by
  cases v <;> first | rfl | skip
  all_goals
    exfalso
    unfold Cell.okWide Cell.ok at h
    cases hq : P.underlying t with
    | none => rw [hq] at h; exact h
    | some d => rw [hq] at h; cases d <;> exact h

theorem okWide_one {P : Program} {w : World} {r : Reach} {base : Nat} {t : TypeId} {v : Value} {d : TypeDesc} (hu : P.underlying t = some d) (hd : isAggD d = false) (h : Value.okWide P w r base t v) : v.oneCell' = true := by
  unfold Value.okWide at h
  rw [hu] at h
  cases d <;> first | exact cell_one h | cases hd

theorem okWide_agg {P : Program} {w : World} {r : Reach} {base : Nat} {t : TypeId} {v : Value} {d : TypeDesc} (hu : P.underlying t = some d) (hd : isAggD d = true) (h : Value.okWide P w r base t v) :
    ∃ cs : Array Value, v = .agg cs ∧ cs.size = P.cellsOf t ∧ ∀ (i : Nat) (u : Value), cs[i]? = some u → u.oneCell' = true := by
  unfold Value.okWide at h
  rw [hu] at h
  cases d <;> first | cases hd | skip
  all_goals
    obtain ⟨cs, h1, h2, ts, _, _, h3⟩ := h
    refine ⟨cs, h1, h2, fun i u hu => ?_⟩
    obtain ⟨t', _, h4⟩ := h3 i u hu
    exact cell_one h4

end Go.Proofs.YtfchbkmegicfoabGreat.Ex
