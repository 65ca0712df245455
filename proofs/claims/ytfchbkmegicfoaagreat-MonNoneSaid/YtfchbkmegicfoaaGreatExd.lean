/- Regions that draw their order: what an operation hangs on. -/
import Derived.Test.YtfchbkmegicfoaaGreatExk
set_option linter.unusedSimpArgs false
set_option linter.unusedVariables false
namespace Go.Proofs.YtfchbkmegicfoaaGreat.Ex
open Go Go.RowKit

variable {P : Program} {T : TT} {ρ : Nat → Value} {fl : Nat} {μ μ' : Mu} {h : AH} {w w' : World} {t1 t2 : TM} {o : Oper}

theorem evals_congr : ∀ {l : List Operand}, (∀ x ∈ l, evalA t1 x = evalA t2 x) → evals t1 l = evals t2 l
  | [], _ => rfl
  | x :: r, hh => by
    simp only [evals]
    rw [hh x (by simp), evals_congr (fun y hy => hh y (by simp [hy]))]

theorem evalParts_congr : ∀ {l : List (Nat × Operand)}, (∀ x ∈ l.map (·.2), evalA t1 x = evalA t2 x) → evalParts t1 l = evalParts t2 l
  | [], _ => rfl
  | (i, x) :: r, hh => by
    simp only [evalParts]
    rw [hh x (by simp), evalParts_congr (fun y hy => hh y (by simp at hy ⊢; exact .inr hy))]

theorem litAll_congr : ∀ {l : List Operand}, (∀ x ∈ l, evalA t1 x = evalA t2 x) → litAll t1 l = litAll t2 l
  | [], _ => rfl
  | x :: r, hh => by
    simp only [litAll]
    rw [hh x (by simp), litAll_congr (fun y hy => hh y (by simp [hy]))]

theorem litOp_congr (hh : ∀ x ∈ o.op.operands, evalA t1 x = evalA t2 x) : litOp P o t1 = litOp P o t2 := by
  unfold litOp
  rw [litAll_congr (fun x hx => hh x (by simpa using hx))]
  cases hs : notSelect o.op with
  | false => rfl
  | true =>
    rw [execOp_congr (ρ := litEnv t1) (ρ' := litEnv t2) o (fun cs b hcs => by rw [hcs] at hs; cases hs) (fun x hx => by simp only [litEnv]; rw [hh x hx])]

theorem orLit_congr {k1 k2 : Unit → AR} (hh : ∀ x ∈ o.op.operands, evalA t1 x = evalA t2 x) (hk : k1 () = k2 ()) : orLit P o t1 h k1 = orLit P o t2 h k2 := by
  unfold orLit
  rw [litOp_congr hh]
  split
  · rfl
  · exact hk

theorem optNat_congr {x : Option Operand} (hh : ∀ y ∈ x.toArray, evalA t1 y = evalA t2 y) : optNat t1 x = optNat t2 x := by
  cases x with
  | none => rfl
  | some y =>
    have := hh y (by simp)
    simp only [optNat]
    rw [this]

/-- An operation looks at its operands alone. -/
theorem aop_congr (hh : ∀ x ∈ o.op.operands, evalA t1 x = evalA t2 x) : aop P T o t1 h = aop P T o t2 h := by
  obtain ⟨dst, op, ty, pos, after, guard⟩ := o
  cases op <;> simp only [aop]
  case move x => rw [hh x (by simp [Op.operands])]
  case assign x => rw [hh x (by simp [Op.operands])]
  case pick c a b =>
    simp only [aPick]
    rw [hh c (by simp [Op.operands]), hh a (by simp [Op.operands]), hh b (by simp [Op.operands])]
  case box t x => simp only [aBox]; rw [hh x (by simp [Op.operands])]
  case build t ps =>
    simp only [aBuild]
    rw [evalParts_congr (fun x hx => hh x (by simpa [Op.operands] using hx))]
  case buildSlice t m ps =>
    simp only [aBuildSlice]
    rw [evalParts_congr (fun x hx => hh x (by simpa [Op.operands] using hx))]
  case load t a => simp only [aLoad]; rw [hh a (by simp [Op.operands])]
  case store t a x =>
    simp only [aStore]
    rw [hh a (by simp [Op.operands]), hh x (by simp [Op.operands])]
  case nilCheck x =>
    simp only [aNilCheck]
    rw [hh x (by simp [Op.operands]), orLit_congr hh rfl]
  case binOp op t x y yt =>
    have e1 := hh x (by simp [Op.operands])
    have e2 := hh y (by simp [Op.operands])
    simp only [aBin, aSame]
    rw [e1, e2, orLit_congr hh rfl]
  case unOp op t x => simp only [aUn]; rw [hh x (by simp [Op.operands])]
  case convert src dst x =>
    simp only [aConvert]
    rw [hh x (by simp [Op.operands])]
    split
    · split
      · rfl
      · exact orLit_congr hh rfl
    · exact orLit_congr hh rfl
    · rfl
  case makeInterface t x => simp only [aMakeInterface]; rw [hh x (by simp [Op.operands])]
  case makeFunc f a b =>
    simp only [aMakeFunc]
    rw [evals_congr (fun x hx => hh x (by simp [Op.operands]; left; simpa using hx)), evals_congr (fun x hx => hh x (by simp [Op.operands]; right; simpa using hx))]
  case makeSlice t l c =>
    simp only [aMakeSlice]
    rw [hh l (by simp [Op.operands]), hh c (by simp [Op.operands])]
  case slice t x lo hi mx =>
    simp only [aSlice]
    have e1 := hh x (by simp [Op.operands])
    have e2 : optNat t1 lo = optNat t2 lo := optNat_congr (fun y hy => hh y (by simp [Op.operands] at hy ⊢; simp [hy]))
    have e3 : optNat t1 hi = optNat t2 hi := optNat_congr (fun y hy => hh y (by simp [Op.operands] at hy ⊢; simp [hy]))
    have e4 : optNat t1 mx = optNat t2 mx := optNat_congr (fun y hy => hh y (by simp [Op.operands] at hy ⊢; simp [hy]))
    refine orLit_congr hh ?_
    rw [e1, e2, e3, e4]
  case fieldAddr t x i => simp only [aFieldAddr]; rw [hh x (by simp [Op.operands])]
  case field t x i => simp only [aField]; rw [hh x (by simp [Op.operands])]
  case indexAddr t x ix =>
    simp only [aIndexAddr]
    rw [hh x (by simp [Op.operands]), hh ix (by simp [Op.operands])]
  case index t x ix =>
    simp only [aIndex]
    have e1 := hh x (by simp [Op.operands])
    have e2 := hh ix (by simp [Op.operands])
    refine orLit_congr hh ?_
    rw [e1, e2]
  case lookup t m k ok =>
    simp only [aLookup]
    rw [hh m (by simp [Op.operands]), hh k (by simp [Op.operands])]
  case mapUpdate t m k x =>
    simp only [aUpdate]
    rw [hh m (by simp [Op.operands]), hh k (by simp [Op.operands]), hh x (by simp [Op.operands])]
  case insert t m k x =>
    simp only [aUpdate]
    rw [hh m (by simp [Op.operands]), hh k (by simp [Op.operands]), hh x (by simp [Op.operands])]
  case extract x i => simp only [aExtract]; rw [hh x (by simp [Op.operands])]
  case range t x => simp only [aRange]; rw [hh x (by simp [Op.operands])]
  case entry x => simp only [aEntry]; rw [hh x (by simp [Op.operands])]
  case next x s => simp only [aNext]; rw [hh x (by simp [Op.operands])]
  case typeAssert x xt t ok => simp only [aAssert]; rw [hh x (by simp [Op.operands])]
  case panic x => simp only [aPanic]; rw [hh x (by simp [Op.operands])]
  case call c =>
    obtain ⟨callee, args, at'⟩ := c
    have e1 : evals t1 args.toList = evals t2 args.toList := evals_congr (fun x hx => hh x (by simp [Op.operands, Call.operands]; right; simpa using hx))
    cases callee with
    | builtin b =>
      simp only [aCall, aBuiltin]
      rw [e1, orLit_congr hh rfl]
    | value f =>
      simp only [aCall]
      rw [e1, hh f (by simp [Op.operands, Call.operands])]
    | invoke r name =>
      simp only [aCall]
      rw [e1, hh r (by simp [Op.operands, Call.operands])]
  case defer c =>
    obtain ⟨callee, args, at'⟩ := c
    have e1 : evals t1 args.toList = evals t2 args.toList := evals_congr (fun x hx => hh x (by simp [Op.operands, Call.operands]; right; simpa using hx))
    cases callee with
    | builtin b => rfl
    | value f =>
      simp only [aDefer]
      rw [e1, hh f (by simp [Op.operands, Call.operands])]
    | invoke r name => rfl
  case makeMap t r => cases r <;> rfl

theorem rdOf_congr (hh : ∀ x ∈ o.op.operands, evalA t1 x = evalA t2 x) : rdOf o t1 = rdOf o t2 := by
  obtain ⟨dst, op, ty, pos, after, guard⟩ := o
  cases op <;> simp only [rdOf]
  case load t a => rw [hh a (by simp [Op.operands])]
  case lookup t m k ok => rw [hh m (by simp [Op.operands]), hh k (by simp [Op.operands])]
  case convert src dst x => rw [hh x (by simp [Op.operands])]
  case call c =>
    obtain ⟨callee, args, at'⟩ := c
    have e1 : evals t1 args.toList = evals t2 args.toList := evals_congr (fun x hx => hh x (by simp [Op.operands, Call.operands]; right; simpa using hx))
    simp only [e1]

theorem wantedA_congr {ops : Array Oper} (hh : ∀ j want d, o.guard = some (j, want) → (ops[j]?).bind (·.dst) = some d → t1.at d = t2.at d) : wantedA ops t1 o = wantedA ops t2 o := by
  unfold wantedA
  split
  · rfl
  · rename_i j want hg
    split
    · rename_i d hd
      rw [hh j want d hg hd]
    · rfl

end Go.Proofs.YtfchbkmegicfoaaGreat.Ex
