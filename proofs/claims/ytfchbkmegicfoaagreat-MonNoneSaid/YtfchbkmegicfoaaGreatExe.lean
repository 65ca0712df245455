/- How a run of the abstract machine is told. -/
import Derived.Test.YtfchbkmegicfoaaGreatExs9
import Derived.Test.YtfchbkmegicfoaaGreatChecked
set_option linter.unusedSimpArgs false
set_option linter.unusedVariables false
namespace Go.Proofs.YtfchbkmegicfoaaGreat.Ex
open Go Go.RowKit

variable {P : Program} {ρ : Nat → Value} {fl : Nat}

/-- A world that has grown alone. -/
theorem EffL.below {μ : Mu} {h : List AB} {w w' : World} (hr : HRL P ρ fl μ h w) (hb : Below w.heap.size w w') : EffL P ρ fl μ h w μ h w' := by
  have hg : Grows w w' := fun k cur e fz hc => ⟨cur, e, fz, by rw [hb.block k (lt_in hc)]; exact hc, rfl⟩
  refine ⟨More.refl μ, Nat.le_refl _, fun c x h1 h2 => (by rw [h1] at h2; cases h2), fun c hc hn => rfl, fun c hc => hc, hg, hb.size, fun c r' base' h1 h2 => (by rw [h1] at h2; cases h2), fun k hk2 hno => hb.block k hk2, ⟨hb.tape, hb.os, hb.output⟩, ?_⟩
  refine ⟨Nat.le_trans hr.floor hb.size, hr.dom, fun c r' base' ac hc hac => ?_, hr.inj⟩
  obtain ⟨q1, q2, o, q3, q4⟩ := hr.obj c r' base' ac hc hac
  exact ⟨q1, Nat.lt_of_lt_of_le q2 hb.size, o, by rw [hb.block r' q2]; exact q3, q4.mono (More.refl μ) hg⟩

theorem Eff.below {μ : Mu} {h : AH} {w w' : World} (hr : HR P ρ fl μ h w) (hb : Below w.heap.size w w') : Eff P ρ fl μ h w μ h w' := EffL.below hr hb

/-- A call without arguments that answers true, summed up. -/
def sTrue : List AV → AH → Option (AV × AH)
  | [], h => some (.lit (.bool true), h)
  | _, _ => none

theorem sTrue_ok {f : FuncId} (hc : ∀ w, Calls P f #[] w fun e w' => e = .returned (.bool true) ∧ Below w.heap.size w w') {args : List AV} {h : AH} {v : AV} {h' : AH} (hg : sTrue args h = some (v, h')) {μ : Mu} {w : World} {args' : List Value} (hr : HR P ρ fl μ h w) (ha : rels ρ μ w args args') :
    Calls P f args'.toArray w fun e w' => ∃ μ' v', e = .returned v' ∧ Eff P ρ fl μ h w μ' h' w' ∧ rel ρ μ' w' v v' := by
  unfold sTrue at hg
  split at hg
  case h_2 => cases hg
  simp only [Option.some.injEq, Prod.mk.injEq] at hg
  obtain ⟨rfl, rfl⟩ := hg
  obtain rfl := rels_nil_inv ha
  refine (hc w).mono fun e w' hy => ?_
  obtain ⟨rfl, hb⟩ := hy
  exact ⟨μ, _, rfl, Eff.below hr hb, rel_lit rfl⟩

/-! How a run is told. -/

def isTrue : Option (Out × AH) → Bool
  | some (.ended (.ret (.lit (.bool true))) none, _) => true
  | _ => false

theorem isTrue_inv {x : Option (Out × AH)} (h : isTrue x = true) : ∃ h', x = some (.ended (.ret (.lit (.bool true))) none, h') := by
  unfold isTrue at h
  split at h
  · exact ⟨_, rfl⟩
  · cases h

theorem noNG : NoNG Tryz.prog := by
  have h : (Tryz.prog.funcs.all fun fn => !(fn.name == "runtime.NumGoroutine")) = true := by decide +kernel
  intro f fn hf
  have := Array.all_eq_true_iff_forall_mem.1 h fn (Array.mem_of_getElem? hf)
  simpa using this

theorem rel_ext {μ : Mu} {w : World} {i : Nat} (h : (ρ i).oneCell' = true) : rel ρ μ w (.ext i) (ρ i) := by
  unfold rel
  exact ⟨rfl, h⟩

theorem rels_exts {μ : Mu} {w : World} : ∀ (n k : Nat) (l : List Value), l.length = n → (∀ (i : Nat) (v : Value), l[i]? = some v → ρ (k + i) = v ∧ v.oneCell' = true) → rels ρ μ w ((List.range' k n).map .ext) l
  | 0, k, l, hl, _ => by rw [List.eq_nil_of_length_eq_zero hl]; exact rels_nil
  | n + 1, k, [], hl, _ => by cases hl
  | n + 1, k, v :: r, hl, h => by
    obtain ⟨h1, h2⟩ := h 0 v rfl
    rw [Nat.add_zero] at h1
    subst h1
    exact rels_cons (rel_ext h2) (rels_exts n (k + 1) r (by simpa using hl) (fun i u hu => by
      have := h (i + 1) u (by simpa using hu)
      rwa [show k + (i + 1) = k + 1 + i by omega] at this))

theorem cell_one {P : Program} {w : World} {r : Reach} {base : Nat} {t : TypeId} {v : Value} (h : Cell.okWide P w r base t v) : v.oneCell' = true := by
  cases v <;> first | rfl | skip
  all_goals
    exfalso
    unfold Cell.okWide Cell.ok at h
    cases hq : P.underlying t with
    | none => rw [hq] at h; exact h
    | some d => rw [hq] at h; cases d <;> exact h

theorem okWide_one {P : Program} {w : World} {r : Reach} {base : Nat} {t : TypeId} {v : Value} {d : TypeDesc} (hu : P.underlying t = some d) (hd : isAggD d = false) (h : Value.okWide P w r base t v) : v.oneCell' = true := by
  unfold Value.okWide at h
  rw [hu] at h
  cases d <;> first | exact cell_one h | cases hd

theorem okWide_agg {P : Program} {w : World} {r : Reach} {base : Nat} {t : TypeId} {v : Value} {d : TypeDesc} (hu : P.underlying t = some d) (hd : isAggD d = true) (h : Value.okWide P w r base t v) :
    ∃ cs : Array Value, v = .agg cs ∧ cs.size = P.cellsOf t ∧ ∀ (i : Nat) (u : Value), cs[i]? = some u → u.oneCell' = true := by
  unfold Value.okWide at h
  rw [hu] at h
  cases d <;> first | cases hd | skip
  all_goals
    obtain ⟨cs, h1, h2, ts, _, _, h3⟩ := h
    refine ⟨cs, h1, h2, fun i u hu => ?_⟩
    obtain ⟨t', _, h4⟩ := h3 i u hu
    exact cell_one h4

end Go.Proofs.YtfchbkmegicfoaaGreat.Ex
