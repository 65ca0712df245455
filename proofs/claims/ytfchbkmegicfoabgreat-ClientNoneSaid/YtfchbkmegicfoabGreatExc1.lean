/- The atomic addition is summed up, for the abstract machine. -/
import Derived.Test.YtfchbkmegicfoabGreatExe
import Derived.Test.YtfchbkmegicfoabGreatAdd64
set_option linter.unusedSimpArgs false
set_option linter.unusedVariables false
namespace Go.Proofs.YtfchbkmegicfoabGreat.Ex
open Go Go.RowKit

def sAdd : List AV → AH → Option (AV × AH)
  | [.ptr b off, .lit (.int .i64 y)], h => match getB h b with
    | some (l, e) => match l[off]? with
      | some (.lit (.int .i64 x)) => (put l off [.lit (.int .i64 (IntKind.i64.wrap (x + y)))]).map fun l' => (.lit (.int .i64 (IntKind.i64.wrap (x + y))), h.put b (.cells l' e))
      | _ => none
    | none => none
  | _, _ => none

def S0 : Sums := fun f => bif Nat.beq f 26 then some sAdd else none

theorem sums_ok (ρ : Nat → Value) (fl : Nat) : SumsOK Tryz.prog ρ fl S0 := by
  intro f g args h v h' hs hg μ w args' hr ha
  unfold S0 at hs
  cases h1 : Nat.beq f 26 with
  | false => rw [h1] at hs; cases hs
  | true =>
  rw [h1] at hs
  obtain rfl := Option.some.inj hs
  obtain rfl := Nat.eq_of_beq_eq_true h1
  unfold sAdd at hg
  split at hg
  case h_2 => cases hg
  rename_i b off y
  split at hg
  case h_2 => cases hg
  rename_i l e hgb
  split at hg
  case h_2 => cases hg
  rename_i x hx
  simp only [Option.map_eq_some_iff, Prod.mk.injEq] at hg
  obtain ⟨l', hp, rfl, rfl⟩ := hg
  obtain ⟨vp, vs, rfl, r1, r2⟩ := rels_cons_inv ha
  obtain ⟨vy, vs2, rfl, r3, r4⟩ := rels_cons_inv r2
  obtain rfl := rels_nil_inv r4
  obtain rfl := rel_lit_inv r3
  obtain ⟨r, base, m1, rfl⟩ := rel_ptr_inv r1
  obtain ⟨cur, k1, k2, k3⟩ := getB_sound hr m1 hgb
  obtain ⟨v0, v1, v2⟩ := k2.2 off _ hx
  obtain rfl := rel_lit_inv v2
  have hcells : rels ρ μ w [AV.lit (.int .i64 (IntKind.i64.wrap (x + y)))] [.int .i64 (IntKind.i64.wrap (x + y))] := rels_cons (rel_lit rfl) rels_nil
  have hc : w.cell? ⟨r, base + off, none⟩ = some (.int .i64 x) := by rw [cell_in k1]; exact v1
  obtain ⟨ef, _, fz⟩ := setCells_eff hr m1 hgb hp hcells
  have hz : w.frozen? ⟨r, base + off, none⟩ = false := fz 0 (by simp)
  refine (add64_c ⟨r, base + off, none⟩ x y _ w hc hz rfl).mono fun e w' hy => ?_
  obtain ⟨rfl, rfl⟩ := hy
  exact ⟨μ, _, rfl, ef, rel_lit rfl⟩

end Go.Proofs.YtfchbkmegicfoabGreat.Ex
