/- The abstract machine's control, held against the real machine's steps. -/
import Derived.Test.YtfchbkmegicfoaaGreatExn
set_option linter.unusedSimpArgs false
set_option linter.unusedVariables false
namespace Go.Proofs.YtfchbkmegicfoaaGreat.Ex
open Go Go.RowKit

variable {P : Program} {T : TT} {S : Sums} {ρ : Nat → Value} {fl : Nat} {μ μ' : Mu} {h : AH} {w w' : World}

theorem frame_env {fr : AFr} {f : Frame} (hu : FrU P ρ μ w fr f) : EnvR ρ μ w fr.tmps f.eval :=
  envR_of hu.tmps (fun t => by simp [Frame.eval]) (fun _ => rfl) (fun _ => rfl)

theorem wantedA_sound {ops : Array Oper} {tmps : TM} {rt : Array Value} {o : Oper} {b : Bool} (ht : rels ρ μ w tmps.L rt.toList) (hw : wantedA ops tmps o = some b) : Region.wanted o (yielded ops rt) = b := by
  unfold wantedA at hw
  unfold Region.wanted
  cases hg : o.guard with
  | none => rw [hg] at hw; exact Option.some.inj hw
  | some p =>
    obtain ⟨j, want⟩ := p
    rw [hg] at hw
    simp only at hw ⊢
    split at hw
    case h_2 => cases hw
    rename_i d hd
    split at hw
    · rename_i c hc
      obtain rfl := Option.some.inj hw
      obtain ⟨v, h1, h2⟩ := rels_get ht ((TL_at _ _).trans hc)
      obtain rfl := rel_bool_inv h2
      rw [Array.getElem?_toList] at h1
      simp [yielded, hd, h1]
    · rename_i hc
      obtain rfl := Option.some.inj hw
      obtain ⟨v, h1, h2⟩ := rels_get ht ((TL_at _ _).trans hc)
      obtain ⟨l', rfl, _⟩ := rel_tup_inv h2
      rw [Array.getElem?_toList] at h1
      simp [yielded, hd, h1]
    · cases hw

section steps
variable {f : Frame} {cs : List Frame} {ops : Array Oper} {i : Nat} {r : List Nat} {l : List Item} {o : Oper}

theorem stepG_oper (hm : f.mode = .run) (ht : f.todo = .inRegion ops (i :: r) :: l) (ho : ops[i]? = some o) (hw : Region.wanted o (yielded ops f.tmps) = true) (hd : f.roundOf = none ∨ ∀ c, o.op ≠ .defer c) :
    stepG P true { frame := f, callers := cs, status := .running, dying := none } w = stepG.apply P true f cs none (execOp f.eval o) w := by
  rcases hd with hd | hd
  · simp [stepG, stepG.exec, stepG.oper, Frame.oper?, hm, ht, ho, hw, hd]
  · cases hro : f.roundOf with
    | none => simp [stepG, stepG.exec, stepG.oper, Frame.oper?, hm, ht, ho, hw, hro]
    | some rl =>
      simp only [stepG, hm, stepG.exec, ht, ho, Option.map_some, hw, Option.getD_some, if_true, stepG.oper, Frame.oper?, hro]
      split <;> first | rfl | (rename_i heq1 heq2; exact absurd heq2 (hd _)) | (rename_i heq; exact absurd heq (hd _))

variable (hm : f.mode = .run) (ht : f.todo = .inRegion ops (i :: r) :: l) (ho : ops[i]? = some o) (hw : Region.wanted o (yielded ops f.tmps) = true) (hd : f.roundOf = none ∨ ∀ c, o.op ≠ .defer c)

include hm ht ho hw hd

theorem step_value {v : Value} (hr : (execOp f.eval o).run P w = .ok (.value v) w' ∨ ((execOp f.eval o).run P w = .ok .skip w' ∧ v = undef)) : step P (lone f cs w) = .next (lone (f.finish v) cs w') := by
  rcases hr with hr | ⟨hr, rfl⟩ <;> exact step_lone_go (by rw [stepG_oper hm ht ho hw hd]; simp [stepG.apply, hr])

theorem step_enter {g : FuncId} {args : Array Value} (hr : (execOp f.eval o).run P w = .ok (.enter g args) w') : step P (lone f cs w) = .next (lone (Frame.enter P g args .normal) (f :: cs) w') :=
  step_lone_go (by rw [stepG_oper hm ht ho hw hd]; simp [stepG.apply, hr, ht])

theorem step_round {rl : Nat} {g : FuncId} {tmps : Array Value} {a b : Code} (hr : (execOp f.eval o).run P w = .ok (.round rl g tmps a b) w') : step P (lone f cs w) = .next (lone (Frame.round rl g tmps a b .normal) (f :: cs) w') :=
  step_lone_go (by rw [stepG_oper hm ht ho hw hd]; simp [stepG.apply, hr, ht])

theorem step_deferred {d : Deferred} (hr : (execOp f.eval o).run P w = .ok (.defer d) w') : step P (lone f cs w) = .next (lone ({ f with defers := d :: f.defers }.finish undef) cs w') :=
  step_lone_go (by rw [stepG_oper hm ht ho hw hd]; simp [stepG.apply, hr])

theorem step_panic {v : Value} (hr : (execOp f.eval o).run P w = .halt (.panic v) w') : step P (lone f cs w) = .next (lone (f.raise [{ v, recovered := false }]) cs w') :=
  step_lone_go (by rw [stepG_oper hm ht ho hw hd]; simp [stepG.apply, hr])

theorem step_recover_some {v : Value} {cs' : List Frame} (hro : f.roundOf = none) (hr : (execOp f.eval o).run P w = .ok .recover w') (htr : tryRecover f cs = some (v, cs')) : step P (lone f cs w) = .next (lone (f.finish v) cs' w') :=
  step_lone_go (by rw [stepG_oper hm ht ho hw hd]; simp [stepG.apply, hr, hro, htr])

theorem step_recover_none (hro : f.roundOf = none) (hr : (execOp f.eval o).run P w = .ok .recover w') (htr : tryRecover f cs = none) : step P (lone f cs w) = .next (lone (f.finish .nilIface) cs w') :=
  step_lone_go (by rw [stepG_oper hm ht ho hw hd]; simp [stepG.apply, hr, hro, htr])

end steps

theorem step_unwanted {f : Frame} {cs : List Frame} {ops : Array Oper} {i : Nat} {r : List Nat} {l : List Item} {o : Oper} (hm : f.mode = .run) (ht : f.todo = .inRegion ops (i :: r) :: l) (ho : ops[i]? = some o) (hw : Region.wanted o (yielded ops f.tmps) = false) :
    step P (lone f cs w) = .next (lone (f.finish undef) cs w) :=
  step_lone_go (by simp [stepG, stepG.exec, hm, ht, ho, hw])

theorem finish_region {f : Frame} {ops : Array Oper} {i : Nat} {r : List Nat} {l : List Item} {o : Oper} (ht : f.todo = .inRegion ops (i :: r) :: l) (ho : ops[i]? = some o) (v : Value) :
    f.finish v = { f with tmps := (match o.dst with | some d => f.tmps.setIfInBounds d v | none => f.tmps), todo := .inRegion ops r :: l } := by
  simp only [Frame.finish, ht, ho, Option.bind_some]
  cases o.dst <;> rfl

theorem setTmp_rels {tmps : TM} {rt : Array Value} {d : Option Tmp} {a : AV} {v : Value} (ht : rels ρ μ w tmps.L rt.toList) (hv : rel ρ μ w a v) : rels ρ μ w (setTmp tmps d a).L (match d with | some d => rt.setIfInBounds d v | none => rt).toList := by
  cases d with
  | none => exact ht
  | some d => simp only [setTmp, Array.toList_setIfInBounds, TL_set]; exact rels_set d ht hv

/-- A frame in which an operation is done. -/
theorem FrU.fin {fr : AFr} {f : Frame} {ops : Array Oper} {i : Nat} {r : List Nat} {l : List Item} {o : Oper} {a : AV} {v : Value} (hu : FrU P ρ μ w fr f) (ht : f.todo = .inRegion ops (i :: r) :: l) (ho : ops[i]? = some o) (hv : rel ρ μ w a v) (k : List AI) :
    FrU P ρ μ w { fr with tmps := setTmp fr.tmps o.dst a, todo := k } (f.finish v) := by
  rw [finish_region ht ho]
  exact ⟨hu.fn, setTmp_rels hu.tmps hv, hu.defers, hu.kind, hu.round, hu.rc⟩

theorem FrB.fin {fr : AFr} {f : Frame} {ops : Array Oper} {i : Nat} {r : List Nat} {l : List Item} {k : List AI} {o : Oper} {a : AV} {v : Value} (hu : FrU P ρ μ w fr f) (hm : f.mode = .run) (ht : f.todo = .inRegion ops (i :: r) :: l) (hk : itemsR μ k l) (ho : ops[i]? = some o) (hv : rel ρ μ w a v) :
    FrB P ρ μ w { fr with tmps := setTmp fr.tmps o.dst a, todo := .reg ops r :: k } (f.finish v) := by
  refine ⟨hu.fin ht ho hv _, ?_, ?_⟩
  · rw [finish_region ht ho]
    exact ⟨_, l, rfl, rfl, hk⟩
  · rw [finish_region ht ho]
    exact hm

/-! A frame is left. -/

theorem leave_ret_n {g : FuncId} {f c : Frame} {cs : List Frame} {v : AV} (he : endR P ρ μ w g .normal f (.ret v)) : ∃ v', rel ρ μ w v v' ∧ step P (lone f (c :: cs) w) = .next (lone (c.finish v') cs w) := by
  obtain ⟨h1, h2, h3, h4, fn, v', h5, h6, h7⟩ := he
  subst h1
  exact ⟨v', h7, step_lone_go (by simp [stepG, unwind, doReturn, h2, h3, h4, h5, h6])⟩

theorem chain_noexit : ∀ {c : Chain} {l : List PanicEntry}, chainR ρ μ w c l → l.dropWhile (!·.goexit) = []
  | [], l, hh => by obtain rfl : l = [] := hh; rfl
  | (a, b) :: r, l, hh => by
    obtain ⟨v, l', rfl, _, h3⟩ := hh
    rw [List.dropWhile_cons_of_pos (by simp)]
    exact chain_noexit h3

theorem leave_ret_d {g : FuncId} {f c : Frame} {cs : List Frame} {v : AV} {m : Mode} (he : endR P ρ μ w g .deferred f (.ret v)) (hm : modeR ρ μ w m c.mode) :
    ∃ mo, modeR ρ μ w (settleA m) mo ∧ step P (lone f (c :: cs) w) = .next (lone { c with mode := mo } cs w) := by
  obtain ⟨h1, h2, h3, h4, fn, v', h5, h6, h7⟩ := he
  subst h1
  obtain ⟨cfn, ctmps, ctodo, cdefers, cmode, ckind, cround⟩ := c
  simp only at hm
  cases m with
  | ret =>
    have hm : cmode = .returning := hm
    subst hm
    exact ⟨.returning, rfl, step_lone_go (by simp [stepG, unwind, doReturn, h2, h3, h4, h5, h6])⟩
  | pan ch =>
    obtain ⟨c', e1, e2⟩ := hm
    subst e1
    cases ch with
    | nil =>
      obtain rfl : c' = [] := e2
      exact ⟨.panicking [], ⟨[], rfl, rfl⟩, step_lone_go (by simp [stepG, unwind, doReturn, h2, h3, h4, h5, h6])⟩
    | cons p r =>
      obtain ⟨a, b⟩ := p
      obtain ⟨u, l', rfl, e3, e4⟩ := e2
      cases b with
      | true =>
        have := chain_noexit e4
        exact ⟨.returning, rfl, step_lone_go (by simp [stepG, unwind, doReturn, h2, h3, h4, h5, h6, this])⟩
      | false =>
        exact ⟨_, ⟨_, rfl, u, l', rfl, e3, e4⟩, step_lone_go (by simp [stepG, unwind, doReturn, h2, h3, h4, h5, h6])⟩

theorem leave_pan {g : FuncId} {k : CallKind} {f c : Frame} {cs : List Frame} {ch : Chain} (he : endR P ρ μ w g k f (.pan ch)) : ∃ ch', chainR ρ μ w ch ch' ∧ step P (lone f (c :: cs) w) = .next (lone (c.raise ch') cs w) := by
  obtain ⟨h1, h2, h3, c', fn, h4, h5, h6⟩ := he
  subst h1
  exact ⟨c', h6, step_lone_go (by simp [stepG, unwind, Frame.catches, h2, h4, h5])⟩

theorem chainR_append {a b : Chain} {l m : List PanicEntry} (h1 : chainR ρ μ w a l) (h2 : chainR ρ μ w b m) : chainR ρ μ w (a ++ b) (l ++ m) := by
  induction a generalizing l with
  | nil => obtain rfl : l = [] := h1; exact h2
  | cons p r ih =>
    obtain ⟨x, y⟩ := p
    obtain ⟨v, l', rfl, h3, h4⟩ := h1
    exact ⟨v, l' ++ m, rfl, h3, ih h4⟩

theorem raise_mode {m : Mode} {c : Frame} {ch : Chain} {ch' : List PanicEntry} (hm : modeR ρ μ w m c.mode) (hc : chainR ρ μ w ch ch') : ∃ mo, c.raise ch' = { c with mode := mo } ∧ modeR ρ μ w (raisedA m ch) mo := by
  cases m with
  | ret =>
    have hm : c.mode = .returning := hm
    exact ⟨.panicking ch', by simp [Frame.raise, hm], ch', rfl, hc⟩
  | pan old =>
    obtain ⟨c', e1, e2⟩ := hm
    exact ⟨.panicking (ch' ++ c'), by simp [Frame.raise, e1], _, rfl, chainR_append hc e2⟩

theorem raise_run {c : Frame} {ch' : List PanicEntry} (hm : c.mode = .run) : c.raise ch' = { c with mode := .panicking ch' } := by simp [Frame.raise, hm]

def NoNG (P : Program) : Prop := ∀ (f : FuncId) (fn : Func), P.funcs[f]? = some fn → (fn.name == "runtime.NumGoroutine") = false

theorem callFunc_run (hNG : NoNG P) {g : FuncId} {fn : Func} {c : Code} (hf : P.funcs[g]? = some fn) (hb : fn.body = some c) (args : Array Value) (w : World) : (callFunc g args).run P w = .ok (.enter g args) w := by
  have : ¬ fn.name = "runtime.NumGoroutine" := by simpa using hNG g fn hf
  simp [callFunc, hf, hb, this]

end Go.Proofs.YtfchbkmegicfoaaGreat.Ex
