/- Part 4 of the proof: Exz, Exk, Exd, Exd1, Exd2, Exd3, Exd4, Exd5, Exd6. -/
import Derived.Test.YtkgbeihcepociaaDoorM3
section

set_option linter.unusedSimpArgs false
set_option linter.unusedVariables false
namespace Go.Proofs.YtkgbeihcepociaaDoor.Ex
open Go Go.RowKit
variable {P : Program} {T : TT} {S : Sums} {ρ : Nat → Value} {fl : Nat} {μ μ' : Mu} {h : AH} {w w' : World} {rec : Rec}
theorem eval_with (f : Frame) (a : List Item) (b : List Deferred) : Frame.eval { f with todo := a, defers := b } = f.eval := by
  funext x
  cases x <;> rfl
theorem eval_const (f : Frame) (v : Value) : f.eval (.const v) = v := rfl
theorem apply_enter {F : Frame} {cs : List Frame} {s : Sem Next} {W W' : World} {g : FuncId} {args : Array Value} (hr : s.run P W = .ok (.enter g args) W') (hk : ∀ d b c e k, F.todo ≠ .call d b c e :: k) :
    (stepG.apply P true F cs none s W).bare = .go { frame := Frame.enter P g args .normal, callers := F :: cs, status := .running, dying := none } W' := by
  simp [stepG.apply, hr]
  split
  · rename_i heq; exact absurd heq (hk _ _ _ _ _)
  · rfl
section code
variable {fr : AFr} {k : List AI} {out : Out} {h' : AH}
theorem todo_code {c : Code} (hfr : fr.todo = .code c :: k) {f : Frame} (hf : FrB P ρ μ w fr f) : ∃ l, f.todo = .code c :: l ∧ itemsR μ k l := by
  have := hf.todo
  rw [hfr] at this
  obtain ⟨it, l, h1, h2, h3⟩ := this
  simp only [itemR] at h2
  subst h2
  exact ⟨l, h1, h3⟩
/-- A step to other items, the frame else as it was. -/
theorem goOn_ok (hrec : RecOK P ρ fl rec) {k1 : List AI} (hx : goOn rec fr k1 h = some (out, h'))
    (hstep : ∀ μ w f cs, HR P ρ fl μ h w → FrB P ρ μ w fr f → ∃ b, itemsR μ k1 b ∧ step P (lone f cs w) = .next (lone { f with todo := b } cs w)) : outR P ρ fl fr h h' out :=
  outR.go hstep (hrec _ _ _ _ hx)
theorem left_ok {j : Option Code} (hl : ∀ μ w f, HR P ρ fl μ h w → FrB P ρ μ w fr f → leftAt j f.todo) : outR P ρ fl fr h h (.left j fr) :=
  fun μ w f cs hr hf hc => ⟨Same.refl fr, μ, w, f, cs, Eff.refl hr, .refl P _, hf.u, hf.mode, hl μ w f hr hf, csTo.refl hc⟩
/-! Loops over functions. -/
theorem xRange_ok (hT : TT.Sound P T) (hNG : NoNG P) (hrec : RecOK P ρ fl rec) {f0 : Operand} {params : Array Tmp} {asg body : Code} (hfr : fr.todo = .code (.rangeFunc f0 params asg body) :: k)
    (hx : xRange P rec fr k h f0 params asg body = some (out, h')) : outR P ρ fl fr h h' out := by
  unfold xRange at hx
  split at hx
  case h_2 => cases hx
  rename_i fv hro hfv
  split at hx
  case h_2 => cases hx
  rename_i g args hca
  generalize hA : (h.push AB.defd).push (AB.loop { state := .ready, pending := none, fn := fr.fn, tmps := fr.tmps, params := params.toList, assign := asg, body }) = hh at hx
  cases hcall : rec (.call g args none) hh with
  | none => rw [hcall] at hx; cases hx
  | some p =>
    obtain ⟨out1, h2⟩ := p
    cases out1 with
    | left j fr' => have := hrec _ _ _ _ hcall; exact this.elim
    | raised c fr' => have := hrec _ _ _ _ hcall; exact this.elim
    | ended e cm =>
      rw [hcall] at hx
      -- the real machine, up to the callee's end
      have key : ∀ μ w f cs, HR P ρ fl μ h w → FrB P ρ μ w fr f → ∃ (μ1 : Mu) (w1 : World) (l : List Item) (rl : Nat) (rd : Deferred), Eff P ρ fl μ h w μ1 h2 w1 ∧ itemsR μ1 k l ∧ μ1 (h.n + 1) = some (rl, 0) ∧ defR P ρ μ1 w1 (.coll h.n) rd ∧
          roundEnd P ρ μ1 w1 (lone f cs w) { f with todo := .inRangeFunc rl :: l, defers := rd :: f.defers } cs e := fun μ w f cs hr hf => by
        obtain ⟨l, t1, t2⟩ := todo_code hfr hf
        have e1 := Eff.alloc hr (ab := .defd) (o := .deferred (some [])) ⟨rfl, rfl⟩
        have e2 := Eff.alloc e1.hr (ab := .loop { state := .ready, pending := none, fn := fr.fn, tmps := fr.tmps, params := params.toList, assign := asg, body }) (o := .loop { state := .ready, pending := none, fn := f.fn, tmps := f.tmps, params, assign := asg, body, defers := w.heap.size })
          ⟨_, rfl, rfl, rfl, rfl, hf.u.fn, rels.mono e1.more e1.grows _ _ hf.u.tmps, rfl, rfl, rfl⟩
        have e3 := e1.trans hr e2
        have hlen : (h.push AB.defd).n = h.n + 1 := rfl
        rw [hA] at e3
        have hsz : (w.alloc (.deferred (some []))).heap.size = w.heap.size + 1 := by simp
        rw [hlen, hsz] at e3
        have hl0 := (Eff.alloc hr (ab := .defd) (o := .deferred (some [])) ⟨rfl, rfl⟩).more
        have hml : (up (up μ h.n (w.heap.size, 0)) (h.n + 1) (w.heap.size + 1, 0)) (h.n + 1) = some (w.heap.size + 1, 0) := up_same _ _ _
        have hmd : (up (up μ h.n (w.heap.size, 0)) (h.n + 1) (w.heap.size + 1, 0)) h.n = some (w.heap.size, 0) := by rw [up_ne (by omega), up_same]
        obtain ⟨d, d1, d2, args', d3, d4⟩ := callA_sound (rel.mono e3.more e3.grows _ _ (frame_env hf.u f0 _ hfv))
          (rels_cons (show rel ρ (up (up μ h.n (w.heap.size, 0)) (h.n + 1) (w.heap.size + 1, 0)) _ (.fn (.yield (h.n + 1)) [] []) (.func (.yield (w.heap.size + 1)) #[] #[]) by
            unfold rel
            exact ⟨.yield (w.heap.size + 1), [], [], rfl, ⟨_, hml, rfl⟩, rels_nil, rels_nil⟩) rels_nil) hca
        obtain ⟨s1, μ1, w1, s2, s3⟩ := call_back hNG hrec hcall e3.hr d3 { f with todo := .inRangeFunc (w.heap.size + 1) :: l, defers := { target := .collected w.heap.size, args := #[] } :: f.defers } cs
        refine ⟨μ1, w1, l, w.heap.size + 1, { target := .collected w.heap.size, args := #[] }, e3.trans hr s2, t2.mono (e3.more.trans s2.more), s2.more _ _ hml, ⟨w.heap.size, s2.more _ _ hmd, rfl⟩, s3.of_steps (.one (step_lone_go ?_))⟩
        have hron : f.roundOf = none := by
          have := hf.u.round
          rw [hro] at this
          exact this
        have hin := d4 ((w.alloc (.deferred (some []))).alloc (.loop { state := .ready, pending := none, fn := f.fn, tmps := f.tmps, params, assign := asg, body, defers := w.heap.size }))
        rw [s1] at hin
        have hof := d1 ((w.alloc (.deferred (some []))).alloc (.loop { state := .ready, pending := none, fn := f.fn, tmps := f.tmps, params, assign := asg, body, defers := w.heap.size }))
        have hst : (stepG P true { frame := f, callers := cs, status := .running, dying := none } w).bare = (stepG.apply P true { f with todo := .inRangeFunc (w.heap.size + 1) :: l, defers := { target := .collected w.heap.size, args := #[] } :: f.defers } cs none
            (do let d ← resolve (Frame.eval { f with todo := .inRangeFunc (w.heap.size + 1) :: l, defers := { target := .collected w.heap.size, args := #[] } :: f.defers }) { callee := .value f0, args := #[.const (.func (.yield (w.heap.size + 1)) #[] #[])], argTypes := #[] } 0; invoke d.target d.args)
            ((w.alloc (.deferred (some []))).alloc (.loop { state := .ready, pending := none, fn := f.fn, tmps := f.tmps, params, assign := asg, body, defers := w.heap.size }))).bare := by
          simp [stepG, stepG.exec, hf.mode, t1, Instr.enterLoop, hron]
        rw [hst]
        refine apply_enter ?_ (by simp)
        rw [eval_with]
        simp [resolve, eval_const, hof, hin]
      cases e with
      | ret v =>
        simp only [xRange1] at hx
        refine outR.pre (fr1 := { fr with todo := .endRF (h.n + 1) :: k, defers := .coll h.n :: fr.defers }) ⟨rfl, rfl, rfl⟩ (fun μ w f cs hr hf hc => ?_) (hrec _ _ _ _ hx)
        obtain ⟨μ1, w1, l, rl, rd, q1, q2, q3, q4, v', q5, q6⟩ := key μ w f cs hr hf
        have hu := hf.u.mono q1.more q1.grows
        refine ⟨μ1, w1, _, cs, q1, q6, ⟨⟨hu.fn, hu.tmps, ⟨rd, _, rfl, q4, hu.defers⟩, hu.kind, hu.round, hu.rc⟩, ⟨_, l, rfl, ⟨rl, q3, rfl⟩, q2⟩, hf.mode⟩, csTo.refl (hc.mono q1.more q1.grows)⟩
      | pan c =>
        simp only [xRange1, Option.some.injEq, Prod.mk.injEq] at hx
        obtain ⟨rfl, rfl⟩ := hx
        refine fun μ w f cs hr hf hc => ⟨⟨rfl, rfl, rfl⟩, ?_⟩
        obtain ⟨μ1, w1, l, rl, rd, q1, q2, q3, q4, ch', q5, q6⟩ := key μ w f cs hr hf
        have q7 := raise_run (c := { f with todo := .inRangeFunc rl :: l, defers := rd :: f.defers }) (ch' := ch') hf.mode
        rw [q7] at q6
        have hu := hf.u.mono q1.more q1.grows
        exact ⟨μ1, w1, _, cs, ch', q1, q6, ⟨hu.fn, hu.tmps, ⟨rd, _, rfl, q4, hu.defers⟩, hu.kind, hu.round, hu.rc⟩, rfl, q5, csTo.refl (hc.mono q1.more q1.grows)⟩
theorem todo_cons {a : AI} (hfr : fr.todo = a :: k) {f : Frame} (hf : FrB P ρ μ w fr f) : ∃ i l, f.todo = i :: l ∧ itemR μ a i ∧ itemsR μ k l := by
  have := hf.todo
  rw [hfr] at this
  exact this
theorem loop_inv {l rl : Nat} {lo : ALoop} (hr : HR P ρ fl μ h w) (hm : μ l = some (rl, 0)) (hl : h.at l = some (.loop lo)) : ∃ x, w.heap[rl]? = some (.loop x) ∧ loopRel ρ μ w lo x := by
  obtain ⟨_, _, o, h1, h2⟩ := hr.obj l rl 0 _ hm hl
  obtain ⟨x, rfl, _, h3⟩ := h2
  exact ⟨x, h1, h3⟩
theorem setObj_loop {rl : Nat} {x : Loop} (hg : w.heap[rl]? = some (.loop x)) (o' : Obj) : One rl w { w with heap := w.heap.setIfInBounds rl o' } ∧ (w.heap.setIfInBounds rl o')[rl]? = some o' ∧ (setObj rl o').run P w = .ok () { w with heap := w.heap.setIfInBounds rl o' } := by
  have hlt := lt_in hg
  refine ⟨⟨by simp, fun k hk => ?_, fun k cur e fz hk => ?_, ⟨rfl, rfl, rfl⟩⟩, by simp [hlt], by simp [setObj, Sem.run, hg]⟩
  · show (w.heap.setIfInBounds rl o')[k]? = _
    rw [Array.getElem?_setIfInBounds, if_neg (Ne.symm hk)]
  · have hne : rl ≠ k := fun e' => by subst e'; rw [hg] at hk; cases hk
    exact ⟨cur, e, fz, by show (w.heap.setIfInBounds rl o')[k]? = _; rw [Array.getElem?_setIfInBounds, if_neg hne]; exact hk, rfl⟩
theorem loop_get {rl : Nat} {x : Loop} (hg : w.heap[rl]? = some (.loop x)) : (Instr.getLoop rl).run P w = .ok x w := by simp [Instr.getLoop, getObj, Sem.run, hg]
/-- A loop's object becomes another one. -/
theorem loop_eff {l rl : Nat} {lo lo' : ALoop} {x x' : Loop} (hr : HR P ρ fl μ h w) (hm : μ l = some (rl, 0)) (hl : h.at l = some (.loop lo)) (hg : w.heap[rl]? = some (.loop x)) (hx : loopRel ρ μ w lo' x') :
    Eff P ρ fl μ h w μ (h.put l (.loop lo')) { w with heap := w.heap.setIfInBounds rl (.loop x') } := by
  obtain ⟨h1, h2, _⟩ := setObj_loop (P := default) hg (.loop x')
  obtain ⟨g1, g2, g3, g4, g5, g6, g7⟩ := hx
  exact Eff.upd hr hm hl rfl h1 h2 ⟨x', rfl, rfl, g1, g2, g3, rels.mono (More.refl μ) h1.grows _ _ g4, g5, g6, g7⟩
theorem xBegin_ok (hrec : RecOK P ρ fl rec) (hfr : fr.todo = .beginRound :: k) (hx : xBegin rec fr k h = some (out, h')) : outR P ρ fl fr h h' out := by
  unfold xBegin at hx
  split at hx
  case h_2 => cases hx
  rename_i l hro
  split at hx
  case h_2 => cases hx
  rename_i lo hl
  split at hx
  case h_2 => cases hx
  rename_i hst
  refine outR.pre (fr1 := { fr with todo := k }) ⟨rfl, rfl, rfl⟩ (fun μ w f cs hr hf hc => ?_) (hrec _ _ _ _ hx)
  obtain ⟨i, l2, t1, t2, t3⟩ := todo_cons hfr hf
  simp only [itemR] at t2
  subst t2
  have hrd := hf.u.round
  rw [hro] at hrd
  obtain ⟨rl, hm, hron⟩ := hrd
  obtain ⟨x, g1, g2⟩ := loop_inv hr hm hl
  obtain ⟨g3, g4, g5, g6, g7, g8, g9⟩ := g2
  have he := loop_eff (lo' := { lo with state := .busy }) (x' := { x with state := .busy }) hr hm hl g1 ⟨rfl, g4, g5, g6, g7, g8, g9⟩
  have hu := hf.u.mono he.more he.grows
  have hxs : x.state = .ready := g3.trans hst
  refine ⟨μ, _, { f with todo := l2 }, cs, he, .one (step_lone_go ?_), ⟨⟨hu.fn, hu.tmps, hu.defers, hu.kind, hu.round, hu.rc⟩, t3, hf.mode⟩, csTo.refl (hc.mono he.more he.grows)⟩
  simp [stepG, stepG.exec, hf.mode, t1, hron, stepG.apply, Instr.beginRound, loop_get g1, (setObj_loop (P := P) g1 _).2.2, hxs, Frame.finish]
theorem xEnd_ok (hrec : RecOK P ρ fl rec) {l : Nat} (hfr : fr.todo = .endRF l :: k) (hx : xEnd rec fr l k h = some (out, h')) : outR P ρ fl fr h h' out := by
  unfold xEnd at hx
  split at hx
  case h_2 => cases hx
  rename_i lo hl
  split at hx
  case h_1 => cases hx
  rename_i hst
  refine outR.pre (fr1 := { fr with todo := (lo.pending.map AI.code).toList ++ k }) ⟨rfl, rfl, rfl⟩ (fun μ w f cs hr hf hc => ?_) (hrec _ _ _ _ hx)
  obtain ⟨i, l2, t1, ⟨rl, hm, t2⟩, t3⟩ := todo_cons hfr hf
  subst t2
  obtain ⟨x, g1, g2⟩ := loop_inv hr hm hl
  obtain ⟨g3, g4, g5, g6, g7, g8, g9⟩ := g2
  have he := loop_eff (lo' := { lo with state := .exhausted }) (x' := { x with state := .exhausted }) hr hm hl g1 ⟨rfl, g4, g5, g6, g7, g8, g9⟩
  have hu := hf.u.mono he.more he.grows
  have hxs : (x.state == LoopState.busy) = false := by
    rw [g3]
    cases hq : lo.state <;> first | rfl | (exact absurd hq (by intro hh; exact hst (by first | exact hh | rfl)))
  refine ⟨μ, _, { f with todo := (x.pending.map Item.code).toList ++ l2 }, cs, he, .one (step_lone_go ?_), ⟨⟨hu.fn, hu.tmps, hu.defers, hu.kind, hu.round, hu.rc⟩, ?_, hf.mode⟩, csTo.refl (hc.mono he.more he.grows)⟩
  · have hend : (Instr.endLoop rl).run P w = .ok x.pending { w with heap := w.heap.setIfInBounds rl (.loop { x with state := .exhausted }) } := by
      unfold Instr.endLoop
      rw [Sem.run_bind, loop_get g1]
      simp only [Result.andThen_ok, hxs]
      rw [if_neg (by simp), Sem.run_bind]
      simp [(setObj_loop (P := P) g1 _).2.2]
    simp [stepG, stepG.exec, hf.mode, t1, hend]
  · show itemsR μ ((lo.pending.map AI.code).toList ++ k) _
    rw [g4]
    cases lo.pending with
    | none => exact t3
    | some c => exact ⟨_, l2, rfl, rfl, t3⟩
end code
end Go.Proofs.YtkgbeihcepociaaDoor.Ex
end

section

set_option linter.unusedSimpArgs false
set_option linter.unusedVariables false
namespace Go.Proofs.YtkgbeihcepociaaDoor.Ex
open Go Go.RowKit
variable {P : Program} {T : TT} {S : Sums} {ρ : Nat → Value} {fl : Nat} {μ μ' : Mu} {h : AH} {w w' : World} {rec : Rec}
section code
variable {fr : AFr} {k : List AI} {out : Out} {h' : AH}
/-- What the proof of the drawn regions gives. -/
def DrawOK (P : Program) (T : TT) (ρ : Nat → Value) (fl : Nat) (rec : Rec) : Prop :=
  ∀ (fr : AFr) (id : Nat) (ops : Array Oper) (k : List AI) (h : AH) (out : Out) (h' : AH), fr.todo = .code (.region id ops true) :: k → okD T ops = true → goOn rec fr (.regD ops (orderD T ops) [] :: k) h = some (out, h') → outR P ρ fl fr h h' out
theorem xCode_ok (hT : TT.Sound P T) (hNG : NoNG P) (hrec : RecOK P ρ fl rec) (hdraw : DrawOK P T ρ fl rec) {c : Code} (hfr : fr.todo = .code c :: k) (hx : xCode P T rec fr k h c = some (out, h')) : outR P ρ fl fr h h' out := by
  cases c with
  | ret =>
    simp only [xCode, Option.some.injEq, Prod.mk.injEq] at hx
    obtain ⟨rfl, rfl⟩ := hx
    exact left_ok fun μ w f hr hf => by obtain ⟨l, t1, _⟩ := todo_code hfr hf; exact ⟨l, t1⟩
  | skip =>
    refine goOn_ok hrec hx fun μ w f cs hr hf => ?_
    obtain ⟨l, t1, t2⟩ := todo_code hfr hf
    exact ⟨l, t2, step_lone_go (by simp [stepG, stepG.exec, hf.mode, t1])⟩
  | label n =>
    refine goOn_ok hrec hx fun μ w f cs hr hf => ?_
    obtain ⟨l, t1, t2⟩ := todo_code hfr hf
    exact ⟨l, t2, step_lone_go (by simp [stepG, stepG.exec, hf.mode, t1])⟩
  | seq a b =>
    refine goOn_ok hrec hx fun μ w f cs hr hf => ?_
    obtain ⟨l, t1, t2⟩ := todo_code hfr hf
    exact ⟨.code a :: .code b :: l, ⟨_, _, rfl, rfl, _, _, rfl, rfl, t2⟩, step_lone_go (by simp [stepG, stepG.exec, hf.mode, t1])⟩
  | block id c =>
    refine goOn_ok hrec hx fun μ w f cs hr hf => ?_
    obtain ⟨l, t1, t2⟩ := todo_code hfr hf
    exact ⟨.code c :: .inBlock id :: l, ⟨_, _, rfl, rfl, _, _, rfl, rfl, t2⟩, step_lone_go (by simp [stepG, stepG.exec, hf.mode, t1])⟩
  | loop c =>
    refine goOn_ok hrec hx fun μ w f cs hr hf => ?_
    obtain ⟨l, t1, t2⟩ := todo_code hfr hf
    exact ⟨.code c :: .inLoop c :: l, ⟨_, _, rfl, rfl, _, _, rfl, rfl, t2⟩, step_lone_go (by simp [stepG, stepG.exec, hf.mode, t1])⟩
  | scope c =>
    refine goOn_ok hrec hx fun μ w f cs hr hf => ?_
    obtain ⟨l, t1, t2⟩ := todo_code hfr hf
    exact ⟨.code c :: .inScope c :: l, ⟨_, _, rfl, rfl, _, _, rfl, rfl, t2⟩, step_lone_go (by simp [stepG, stepG.exec, hf.mode, t1])⟩
  | cond c a b =>
    simp only [xCode, xCond] at hx
    split at hx
    case h_2 => cases hx
    rename_i t hc
    refine goOn_ok hrec hx fun μ w f cs hr hf => ?_
    obtain ⟨l, t1, t2⟩ := todo_code hfr hf
    have hv := rel_bool_inv (frame_env hf.u c _ hc)
    refine ⟨.code (if t then a else b) :: l, ⟨_, _, rfl, by cases t <;> rfl, t2⟩, step_lone_go (by simp [stepG, stepG.exec, hf.mode, t1, hv])⟩
  | exit id =>
    simp only [xCode, xExit] at hx
    split at hx
    · rename_i k' hk
      refine goOn_ok hrec hx fun μ w f cs hr hf => ?_
      obtain ⟨l, t1, t2⟩ := todo_code hfr hf
      obtain ⟨l', e1, e2⟩ := exitA_some t2 hk
      exact ⟨l', e2, step_lone_go (by simp [stepG, stepG.exec, hf.mode, t1, e1])⟩
    · rename_i hk
      simp only [Option.some.injEq, Prod.mk.injEq] at hx
      obtain ⟨rfl, rfl⟩ := hx
      exact left_ok fun μ w f hr hf => by obtain ⟨l, t1, t2⟩ := todo_code hfr hf; exact ⟨l, t1, exitA_none t2 hk⟩
  | goto n =>
    simp only [xCode, xGoto] at hx
    split at hx
    · rename_i k' hk
      refine goOn_ok hrec hx fun μ w f cs hr hf => ?_
      obtain ⟨l, t1, t2⟩ := todo_code hfr hf
      obtain ⟨l', e1, e2⟩ := gotoA_some t2 hk
      exact ⟨l', e2, step_lone_go (by simp [stepG, stepG.exec, hf.mode, t1, e1])⟩
    · cases hx
  | rangeFunc f0 params asg body => exact xRange_ok hT hNG hrec hfr hx
  | region id ops draw =>
    simp only [xCode, xRegion] at hx
    cases draw with
    | true =>
      simp only [cond_true] at hx
      cases hok : okD T ops with
      | false => rw [hok] at hx; cases hx
      | true => rw [hok] at hx; exact hdraw fr id ops k h out h' hfr hok hx
    | false =>
      simp only [cond_false] at hx
      refine goOn_ok hrec hx fun μ w f cs hr hf => ?_
      obtain ⟨l, t1, t2⟩ := todo_code hfr hf
      exact ⟨.inRegion ops (List.range ops.size) :: l, ⟨_, _, rfl, rfl, t2⟩, step_lone_go (by simp [stepG, stepG.exec, hf.mode, t1])⟩
  | refuse why => cases hx
theorem xBody_ok (hT : TT.Sound P T) (hNG : NoNG P) (hrec : RecOK P ρ fl rec) (hdraw : DrawOK P T ρ fl rec) (hx : xBody P T rec fr h = some (out, h')) : outR P ρ fl fr h h' out := by
  unfold xBody at hx
  split at hx
  · rename_i hfr
    simp only [Option.some.injEq, Prod.mk.injEq] at hx
    obtain ⟨rfl, rfl⟩ := hx
    exact left_ok fun μ w f hr hf => by
      have := hf.todo
      rw [hfr] at this
      exact this
  · rename_i it k hfr
    cases it with
    | code c => exact xCode_ok hT hNG hrec hdraw hfr hx
    | blk id =>
      refine goOn_ok hrec hx fun μ w f cs hr hf => ?_
      obtain ⟨i, l, t1, t2, t3⟩ := todo_cons hfr hf
      simp only [itemR] at t2
      subst t2
      exact ⟨l, t3, step_lone_go (by simp [stepG, stepG.exec, hf.mode, t1])⟩
    | sc c =>
      refine goOn_ok hrec hx fun μ w f cs hr hf => ?_
      obtain ⟨i, l, t1, t2, t3⟩ := todo_cons hfr hf
      simp only [itemR] at t2
      subst t2
      exact ⟨l, t3, step_lone_go (by simp [stepG, stepG.exec, hf.mode, t1])⟩
    | lp c =>
      refine goOn_ok hrec hx fun μ w f cs hr hf => ?_
      obtain ⟨i, l, t1, t2, t3⟩ := todo_cons hfr hf
      simp only [itemR] at t2
      subst t2
      exact ⟨.code c :: .inLoop c :: l, ⟨_, _, rfl, rfl, _, _, rfl, rfl, t3⟩, step_lone_go (by simp [stepG, stepG.exec, hf.mode, t1])⟩
    | reg ops todo =>
      cases todo with
      | nil =>
        refine goOn_ok hrec hx fun μ w f cs hr hf => ?_
        obtain ⟨i, l, t1, t2, t3⟩ := todo_cons hfr hf
        simp only [itemR] at t2
        subst t2
        exact ⟨l, t3, step_lone_go (by simp [stepG, stepG.exec, hf.mode, t1])⟩
      | cons i r => exact xReg_ok hT hNG hrec hfr hx
    | regD ops todo reads =>
      have nofr : ∀ {μ w f}, FrB P ρ μ w fr f → False := by
        intro μ w f hf
        obtain ⟨i, l, _, t2, _⟩ := todo_cons hfr hf
        exact t2
      exact fun μ w f cs hr hf hc => (nofr hf).elim
    | endRF l => exact xEnd_ok hrec hfr hx
    | beginRound => exact xBegin_ok hrec hfr hx
end code
/-! Calls and endings. -/
def resGet (rt : Array Value) : ResultVar → Sem Value
  | .tmp t => pure (rt.getD t undef)
  | .cell a t => do loadVar t (← asAddr (rt.getD a undef))
theorem results_eq (fn : Func) (rt : Array Value) : results fn rt = (do let vs ← fn.results.mapM (resGet rt); pure (if h : vs.size = 1 then vs[0] else .tuple vs)) := by
  have : (fun x : ResultVar => match x with
    | .tmp t => (pure (rt.getD t undef) : Sem Value)
    | .cell a t => do loadVar t (← asAddr (rt.getD a undef))) = resGet rt := by funext x; cases x <;> rfl
  rw [← this]
  rfl
theorem xResults_ok (hT : TT.Sound P T) {tmps : TM} {rt : Array Value} (hr : HR P ρ fl μ h w) (ht : rels ρ μ w tmps.L rt.toList) : ∀ {l : List ResultVar} {xs : List AV}, resultsA T h tmps l = some xs →
    ∃ vs, (l.mapM (resGet rt)).run P w = .ok vs w ∧ rels ρ μ w xs vs
  | [], xs, hh => by simp only [resultsA, Option.some.injEq] at hh; subst hh; exact ⟨[], rfl, rels_nil⟩
  | .tmp t :: r, xs, hh => by
    simp only [resultsA, Option.map_eq_some_iff] at hh
    obtain ⟨l, h1, rfl⟩ := hh
    obtain ⟨vs, h2, h3⟩ := xResults_ok hT hr ht h1
    refine ⟨rt.getD t undef :: vs, ?_, rels_cons ?_ h3⟩
    · simp [List.mapM_cons, resGet, h2]
    · have := rels_getD t ht
      rw [List.getD_eq_getElem?_getD, TL_at] at this
      simpa using this
  | .cell a t :: r, xs, hh => by
    unfold resultsA at hh
    split at hh
    case h_2 => cases hh
    rename_i b off l hb hl
    simp only [Option.map_eq_some_iff] at hh
    obtain ⟨x, h1, rfl⟩ := hh
    obtain ⟨vs, h2, h3⟩ := xResults_ok hT hr ht hl
    have hv := rels_getD a ht
    rw [List.getD_eq_getElem?_getD, TL_at, hb] at hv
    obtain ⟨r1, base, m1, m2⟩ := rel_ptr_inv hv
    obtain ⟨v', h4, h5⟩ := loadA_sound hT hr m1 h1
    refine ⟨v' :: vs, ?_, rels_cons h5 h3⟩
    have m3 : rt.getD a undef = .pointer (some ⟨r1, base + off, none⟩) := by simpa using m2
    have m4 : (resGet rt (.cell a t)).run P w = .ok v' w := by
      simp only [resGet, Sem.run_bind, m3, asAddr, Sem.run_pure, Result.andThen_ok]
      exact h4
    rw [List.mapM_cons]
    simp [m4, h2]
theorem oneOf_rel {l : List AV} {vs : List Value} (hl : rels ρ μ w l vs) : rel ρ μ w (oneOf l) (if h : vs.toArray.size = 1 then vs.toArray[0] else .tuple vs.toArray) := by
  unfold oneOf
  split
  · obtain ⟨v, vs', rfl, h1, h2⟩ := rels_cons_inv hl
    obtain rfl := rels_nil_inv h2
    exact h1
  · rename_i hne
    have : vs.toArray.size ≠ 1 := fun hh => by
      have hlen := rels_length hl
      simp only [List.size_toArray] at hh
      rw [hh] at hlen
      match l, hlen with
      | [x], _ => exact hne x rfl
    rw [dif_neg this]
    unfold rel
    exact ⟨vs, rfl, hl⟩
theorem stepG_unwind {f : Frame} {cs : List Frame} (hm : f.mode ≠ .run) : stepG P true { frame := f, callers := cs, status := .running, dying := none } w = unwind P true f cs none w := by
  unfold stepG
  cases hq : f.mode with
  | run => exact absurd hq hm
  | returning => simp
  | panicking c => simp
theorem modeR_ne {m : Mode} {x : FrameMode} (hh : modeR ρ μ w m x) : x ≠ .run := by
  cases m with
  | ret => obtain rfl : x = .returning := hh; simp
  | pan c => obtain ⟨c', rfl, _⟩ := hh; simp
theorem step_coll {f : Frame} {cs : List Frame} {r : Nat} {ds : List Deferred} (hm : f.mode ≠ .run) (hd : f.defers = { target := .collected r, args := #[] } :: ds) (hg : w.heap[r]? = some (.deferred (some []))) :
    step P (lone f cs w) = .next (lone { f with defers := ds } cs { w with heap := w.heap.setIfInBounds r (.deferred none) }) := by
  refine step_lone_go ?_
  rw [stepG_unwind hm]
  have ht : (Instr.takeDeferred r).run P w = .ok [] { w with heap := w.heap.setIfInBounds r (.deferred none) } := by
    simp [Instr.takeDeferred, getObj, setObj, Sem.run, hg]
  simp [unwind, hd, ht]
theorem step_dcall {f : Frame} {cs : List Frame} {d : Deferred} {ds : List Deferred} {g : FuncId} {args : Array Value} (hm : f.mode ≠ .run) (hd : f.defers = d :: ds) (ht : ∃ fn c, d.target = .fn fn c) (hr : (invoke d.target d.args).run P w = .ok (.enter g args) w) :
    step P (lone f cs w) = .next (lone (Frame.enter P g args .deferred) ({ f with defers := ds } :: cs) w) := by
  refine step_lone_go ?_
  rw [stepG_unwind hm]
  obtain ⟨fn, c, ht⟩ := ht
  obtain ⟨dt, da⟩ := d
  simp only at ht
  subst ht
  simp [unwind, hd, callDeferred, hr]
/-- The mode of a frame behind a deferred call. -/
def doneA (m : Mode) : End → Mode
  | .ret _ => settleA m
  | .pan c => raisedA m c
theorem xUnwind_ok (hT : TT.Sound P T) (hNG : NoNG P) (hrec : RecOK P ρ fl rec) {fr : AFr} {m : Mode} {out : Out} {h' : AH} (hx : xUnwind P T rec fr m h = some (out, h')) : TaskOK P ρ fl (.unwind fr m) h out h' := by
  unfold xUnwind at hx
  split at hx
  · rename_i hds
    cases m with
    | ret =>
      simp only [xResults] at hx
      split at hx
      case h_2 => cases hx
      rename_i fn hfn
      simp only [Option.map_eq_some_iff, Prod.mk.injEq] at hx
      obtain ⟨l, h1, rfl, rfl⟩ := hx
      refine fun hro μ w f cs hr hu hm hc => ⟨rfl, μ, w, f, cs, Eff.refl hr, .refl P _, ⟨hu.fn, ?_, hu.kind, hm, ?_⟩, csTo.refl hc⟩
      · have := hu.defers
        rw [hds] at this
        exact this
      · obtain ⟨vs, q1, q2⟩ := xResults_ok hT hr hu.tmps h1
        refine ⟨fn, _, hfn, ?_, oneOf_rel q2⟩
        rw [results_eq, Sem.run_bind, Array.mapM_eq_mapM_toList]
        simp [q1]
    | pan c =>
      simp only at hx
      split at hx
      case h_2 => cases hx
      rename_i fn hfn
      simp only [Option.some.injEq, Prod.mk.injEq] at hx
      obtain ⟨rfl, rfl⟩ := hx
      refine fun hro μ w f cs hr hu hm hc => ⟨rfl, μ, w, f, cs, Eff.refl hr, .refl P _, ⟨hu.fn, ?_, hu.kind, ?_⟩, csTo.refl hc⟩
      · have := hu.defers
        rw [hds] at this
        exact this
      · obtain ⟨c', e1, e2⟩ := hm
        exact ⟨c', fn, e1, hfn, e2⟩
  · rename_i b ds hds
    split at hx
    case h_2 => cases hx
    rename_i hb
    have ih := hrec _ _ _ _ hx
    cases out with
    | left j fr' => exact ih.elim
    | raised c fr' => exact ih.elim
    | ended e cm =>
      intro hro μ w f cs hr hu hm hc
      have hd := hu.defers
      rw [hds] at hd
      obtain ⟨d, ds', d1, ⟨r, d2, rfl⟩, d3⟩ := hd
      obtain ⟨_, hlt, o, o1, o2⟩ := hr.obj b r 0 _ d2 hb
      obtain ⟨rfl, _⟩ := o2
      have hst := step_coll (P := P) (cs := cs) (modeR_ne hm) d1 o1
      have hone : One r w { w with heap := w.heap.setIfInBounds r (.deferred none) } := by
        refine ⟨by simp, fun k hk => ?_, fun k cur e fz hk => ?_, ⟨rfl, rfl, rfl⟩⟩
        · show (w.heap.setIfInBounds r (.deferred none))[k]? = _
          rw [Array.getElem?_setIfInBounds, if_neg (Ne.symm hk)]
        · have hne : r ≠ k := fun e' => by subst e'; rw [o1] at hk; cases hk
          exact ⟨cur, e, fz, by show (w.heap.setIfInBounds r (.deferred none))[k]? = _; rw [Array.getElem?_setIfInBounds, if_neg hne]; exact hk, rfl⟩
      have heff : Eff P ρ fl μ h w μ (h.put b .gone) { w with heap := w.heap.setIfInBounds r (.deferred none) } := Eff.upd hr d2 hb rfl hone (o' := .deferred none) (by simp [hlt]) trivial
      have hu2 := hu.mono heff.more heff.grows
      obtain ⟨q0, μ2, w2, f2, cs2, q1, q2, q3, q4⟩ := ih hro μ _ { f with defers := ds' } cs heff.hr ⟨hu2.fn, hu2.tmps, d3.mono heff.more heff.grows, hu2.kind, hu2.round, hu2.rc⟩ (hm.mono heff.more heff.grows) (hc.mono heff.more heff.grows)
      exact ⟨q0, μ2, w2, f2, cs2, heff.trans hr q1, .head hst q2, q3, q4⟩
  · rename_i g args ds hds
    cases hcall : rec (.call g args (some m)) h with
    | none => rw [hcall] at hx; cases hx
    | some p =>
      obtain ⟨out1, h2⟩ := p
      have ih1 := hrec _ _ _ _ hcall
      cases out1 with
      | left j fr' => exact ih1.elim
      | raised c fr' => exact ih1.elim
      | ended e cm =>
        obtain ⟨⟨fn, b, i2, i3⟩, i4⟩ := ih1
        rw [hcall] at hx
        cases cm with
        | none => cases e <;> cases hx
        | some m' =>
          -- the machine behind the deferred call
          have key : ∀ μ w f cs, HR P ρ fl μ h w → FrU P ρ μ w fr f → modeR ρ μ w m f.mode → cmR ρ μ w fr.cm cs → ∃ (μ1 : Mu) (w1 : World) (ds' : List Deferred) (mo : FrameMode), Eff P ρ fl μ h w μ1 h2 w1 ∧ defsR P ρ μ1 w1 ds ds' ∧
              modeR ρ μ1 w1 (doneA m' e) mo ∧ Steps P (lone f cs w) (lone { f with defers := ds', mode := mo } cs w1) := fun μ w f cs hr hu hm hc => by
            have hd := hu.defers
            rw [hds] at hd
            obtain ⟨d, ds', d1, ⟨d2, args', d3, d4⟩, d5⟩ := hd
            have hin := d4 w
            rw [callFunc_run hNG i2 i3] at hin
            have hst := step_dcall (cs := cs) (modeR_ne hm) d1 d2 hin
            obtain ⟨_, μ1, w1, f1, cs1, q1, q2, q3, c, r, mo, q4, q5, q6⟩ := i4 μ w ({ f with defers := ds' } :: cs) args' hr d3 ⟨_, _, rfl, hm⟩
            obtain ⟨rfl, rfl⟩ := List.cons.inj q4
            subst q5
            cases e with
            | ret v =>
              obtain ⟨mo2, r1, r2⟩ := leave_ret_d (c := { f with defers := ds', mode := mo }) (cs := cs) q3 q6
              exact ⟨μ1, w1, ds', mo2, q1, d5.mono q1.more q1.grows, r1, .head hst (q2.trans (.one r2))⟩
            | pan ch =>
              obtain ⟨ch', r1, r2⟩ := leave_pan (c := { f with defers := ds', mode := mo }) (cs := cs) q3
              obtain ⟨mo2, r3, r4⟩ := raise_mode (c := { f with defers := ds', mode := mo }) q6 r1
              rw [r3] at r2
              exact ⟨μ1, w1, ds', mo2, q1, d5.mono q1.more q1.grows, r4, .head hst (q2.trans (.one r2))⟩
          have fin2 : ∀ m2, m2 = (doneA m' e) → rec (.unwind { fr with defers := ds } m2) h2 = some (out, h') → TaskOK P ρ fl (.unwind fr m) h out h' := fun m2 hm2 hx2 => by
            have ih2 := hrec _ _ _ _ hx2
            cases out with
            | left j fr' => exact ih2.elim
            | raised c fr' => exact ih2.elim
            | ended e2 cm2 =>
              intro hro μ w f cs hr hu hm hc
              obtain ⟨μ1, w1, ds', mo, q1, q2, q3, q4⟩ := key μ w f cs hr hu hm hc
              have hu2 := hu.mono q1.more q1.grows
              obtain ⟨r0, μ2, w2, f2, cs2, r1, r2, r3, r4⟩ := ih2 hro μ1 w1 { f with defers := ds', mode := mo } cs q1.hr ⟨hu2.fn, hu2.tmps, q2, hu2.kind, hu2.round, hu2.rc⟩ (hm2 ▸ q3) (hc.mono q1.more q1.grows)
              exact ⟨r0, μ2, w2, f2, cs2, q1.trans hr r1, q4.trans r2, r3, r4⟩
          cases e with
          | ret v => exact fin2 _ rfl hx
          | pan c => exact fin2 _ rfl hx
/-- A function's frame at its beginning. -/
theorem enter_frame {g : FuncId} {fn : Func} {c : Code} (hf : P.funcs[g]? = some fn) (hb : fn.body = some c) {args : List AV} {args' : List Value} (ha : rels ρ μ w args args') (cm : Option Mode) :
    FrB P ρ μ w { fn := g, tmps := TM.ofL args (fn.ntmps - args.length), todo := [.code c], defers := [], cm, roundOf := none } (Frame.enter P g args'.toArray (kindC cm)) := by
  refine ⟨⟨rfl, ?_, rfl, rfl, rfl, fun hh => by cases hh⟩, ?_, rfl⟩
  · have hlen := rels_length ha
    simp only [Frame.enter, hf, Option.map_some, Option.getD_some, Array.toList_append, Array.toList_replicate, List.size_toArray, hlen, ofL_L]
    exact rels_append ha (rels_replicate _ rel_undef)
  · simp only [Frame.enter, hf, Option.bind_some, hb, Option.getD_some]
    exact ⟨_, _, rfl, rfl, rfl⟩
/-- What is known of the functions that are summed up. -/
def SumsOK (P : Program) (ρ : Nat → Value) (fl : Nat) (S : Sums) : Prop := ∀ f g args h v h', S f = some g → g args h = some (v, h') → ∀ μ w args', HR P ρ fl μ h w → rels ρ μ w args args' →
  Calls P f args'.toArray w fun e w' => ∃ μ' v', e = .returned v' ∧ Eff P ρ fl μ h w μ' h' w' ∧ rel ρ μ' w' v v'
theorem xCall_ok (hS : SumsOK P ρ fl S) (hrec : RecOK P ρ fl rec) {g : FuncId} {args : List AV} {cm : Option Mode} {out : Out} {h' : AH} (hx : xCall P S rec g args cm h = some (out, h')) : TaskOK P ρ fl (.call g args cm) h out h' := by
  unfold xCall at hx
  split at hx
  case h_2 => cases hx
  rename_i fn hfn
  split at hx
  case h_2 => cases hx
  rename_i c hb
  cases hs : S g with
  | some s =>
    rw [hs] at hx
    cases cm with
    | some m => cases hx
    | none =>
      simp only [Option.map_eq_some_iff, Prod.mk.injEq] at hx
      obtain ⟨⟨v, h2⟩, h1, rfl, rfl⟩ := hx
      refine ⟨⟨fn, c, hfn, hb⟩, fun μ w cs args' hr ha hc => ⟨rfl, ?_⟩⟩
      obtain ⟨e, w', f', ⟨μ', v', rfl, r1, r2⟩, q2, q3, q4⟩ := hS g s args h v h2 hs h1 μ w args' hr ha cs
      obtain ⟨s1, s2, s3, fn2, s4, s5⟩ := q4
      subst q3
      exact ⟨μ', w', f', cs, r1, q2, ⟨rfl, s2, s3, s1, fn2, v', s4, s5, r2⟩, rfl⟩
  | none =>
    rw [hs] at hx
    change xCall1 rec cm (rec (.body { fn := g, tmps := TM.ofL args (fn.ntmps - args.length), todo := [.code c], defers := [], cm, roundOf := none }) h) = some (out, h') at hx
    generalize hbody : rec (.body { fn := g, tmps := TM.ofL args (fn.ntmps - args.length), todo := [.code c], defers := [], cm, roundOf := none }) h = rb at hx
    cases rb with
    | none => cases hx
    | some p =>
      obtain ⟨out1, h2⟩ := p
      have ih : outR P ρ fl _ h h2 out1 := hrec _ _ _ _ hbody
      -- the body's end
      have fin2 : ∀ (fr2 : AFr) (m : Mode), (∀ μ w cs args', HR P ρ fl μ h w → rels ρ μ w args args' → cmR ρ μ w cm cs → fr2.fn = g ∧ fr2.roundOf = none ∧ fr2.cm.isSome = cm.isSome ∧ ∃ μ1 w1 f1 cs1, Eff P ρ fl μ h w μ1 h2 w1 ∧ Steps P (lone (Frame.enter P g args'.toArray (kindC cm)) cs w) (lone f1 cs1 w1) ∧ FrU P ρ μ1 w1 fr2 f1 ∧ modeR ρ μ1 w1 m f1.mode ∧ csTo ρ μ1 w1 fr2.cm cs cs1) →
          rec (.unwind fr2 m) h2 = some (out, h') → TaskOK P ρ fl (.call g args cm) h out h' := fun fr2 m hgo hx2 => by
        have ih2 := hrec _ _ _ _ hx2
        cases out with
        | left j fr' => exact ih2.elim
        | raised c fr' => exact ih2.elim
        | ended e cm' =>
          refine ⟨⟨fn, c, hfn, hb⟩, fun μ w cs args' hr ha hc => ?_⟩
          obtain ⟨g1, g2, g3, μ1, w1, f1, cs1, q1, q2, q3, q4, q5⟩ := hgo μ w cs args' hr ha hc
          obtain ⟨r0, μ2, w2, f2, cs2, r1, r2, r3, r4⟩ := ih2 g2 μ1 w1 f1 cs1 q1.hr q3 q4 q5.cmR
          have hk : kindC fr2.cm = kindC cm := by cases hq : fr2.cm <;> cases cm <;> simp_all [kindC]
          rw [g1, hk] at r3
          exact ⟨r0.trans g3, μ2, w2, f2, cs2, q1.trans hr r1, q2.trans r2, r3, q5.trans r4 r0⟩
      cases out1 with
      | ended e cm1 => cases hx
      | left j fr2 =>
        have hj : (j = none ∨ j = some .ret) ∧ rec (.unwind fr2 .ret) h2 = some (out, h') := by
          cases j with
          | none => exact ⟨.inl rfl, hx⟩
          | some c => cases c <;> first | exact ⟨.inr rfl, hx⟩ | cases hx
        refine fin2 fr2 .ret (fun μ w cs args' hr ha hc => ?_) hj.2
        obtain ⟨⟨s1, s2, s3⟩, μ1, w1, f1, cs1, q1, q2, q3, q4, q5, q6⟩ := ih μ w _ cs hr (enter_frame hfn hb ha cm) hc
        have hron : f1.roundOf = none := by
          have := q3.round
          rw [s2] at this
          exact this
        refine ⟨s1, s2, s3, μ1, w1, { f1 with mode := .returning }, cs1, q1, q2.trans (.one (step_lone_go ?_)), ⟨q3.fn, q3.tmps, q3.defers, q3.kind, q3.round, q3.rc⟩, rfl, q6⟩
        rcases hj.1 with rfl | rfl
        · have q5 : f1.todo = [] := q5
          simp [stepG, stepG.exec, q4, q5, hron]
        · obtain ⟨k, q5⟩ := q5
          simp [stepG, stepG.exec, q4, q5, hron]
      | raised c2 fr2 =>
        refine fin2 fr2 (.pan c2) (fun μ w cs args' hr ha hc => ?_) hx
        obtain ⟨⟨s1, s2, s3⟩, μ1, w1, f1, cs1, c', q1, q2, q3, q4, q5, q6⟩ := ih μ w _ cs hr (enter_frame hfn hb ha cm) hc
        exact ⟨s1, s2, s3, μ1, w1, f1, cs1, q1, q2, q3, ⟨c', q4, q5⟩, q6⟩
theorem setParams_rels : ∀ {ps : List Tmp} {args : List AV} {args' : List Value} {tmps : TM} {rt : Array Value}, rels ρ μ w tmps.L rt.toList → rels ρ μ w args args' →
    rels ρ μ w (setParams tmps ps args).L ((ps.zip args').foldl (fun (t : Array Value) (p : Tmp × Value) => t.setIfInBounds p.1 p.2) rt).toList
  | [], args, args', tmps, rt, ht, ha => by simpa [setParams] using ht
  | t :: ts, [], args', tmps, rt, ht, ha => by
    rw [rels_nil_inv ha]
    simpa [setParams] using ht
  | t :: ts, a :: as', args', tmps, rt, ht, ha => by
    obtain ⟨v, vs, rfl, h1, h2⟩ := rels_cons_inv ha
    simp only [setParams, List.zip_cons_cons, List.foldl_cons]
    exact setParams_rels (by rw [Array.toList_setIfInBounds, TL_set]; exact rels_set t ht h1) h2
theorem yield_run {rl : Nat} {x : Loop} (hg : w.heap[rl]? = some (.loop x)) {args : List Value} (hl : args.length = x.params.size) :
    (Instr.yield rl args.toArray).run P w = .ok (.round rl x.fn ((x.params.toList.zip args).foldl (fun (t : Array Value) (p : Tmp × Value) => t.setIfInBounds p.1 p.2) x.tmps) x.assign x.body) w := by
  have e1 : (x.params.zip args.toArray).foldl (fun (t : Array Value) (p : Tmp × Value) => t.setIfInBounds p.1 p.2) x.tmps = (x.params.toList.zip args).foldl (fun (t : Array Value) (p : Tmp × Value) => t.setIfInBounds p.1 p.2) x.tmps := by
    rw [← Array.foldl_toList, Array.toList_zip]
  rw [← e1]
  simp [Instr.yield, loop_get hg, hl]
theorem xRound_ok (hrec : RecOK P ρ fl rec) {l : Nat} {args : List AV} {out : Out} {h' : AH} (hx : xRound P rec l args h = some (out, h')) : TaskOK P ρ fl (.round l args) h out h' := by
  unfold xRound at hx
  split at hx
  case h_2 => cases hx
  rename_i lo hl
  split at hx
  case isFalse => cases hx
  rename_i hlen
  generalize hbody : rec (.body { fn := lo.fn, tmps := setParams lo.tmps lo.params args, todo := [.code lo.assign, .beginRound, .code lo.body], defers := [], cm := none, roundOf := some l }) h = rb at hx
  cases rb with
  | none => cases hx
  | some p =>
    obtain ⟨out1, h2⟩ := p
    have ih : outR P ρ fl _ h h2 out1 := hrec _ _ _ _ hbody
    -- the round's beginning
    have key : ∀ μ w (c : Frame) (cs : List Frame) args' rl, HR P ρ fl μ h w → μ l = some (rl, 0) → rels ρ μ w args args' → ∃ g tmps asg body, (Instr.yield rl args'.toArray).run P w = .ok (.round rl g tmps asg body) w ∧
        FrB P ρ μ w { fn := lo.fn, tmps := setParams lo.tmps lo.params args, todo := [.code lo.assign, .beginRound, .code lo.body], defers := [], cm := none, roundOf := some l } (Frame.round rl g tmps asg body .normal) := fun μ w c cs args' rl hr hm ha => by
      obtain ⟨x, g1, g3, g4, g5, g6, g7, g8, g9⟩ := loop_inv hr hm hl
      have hpl : x.params.size = lo.params.length := by rw [← g7, Array.length_toList]
      refine ⟨x.fn, _, x.assign, x.body, yield_run g1 (by rw [rels_length ha, hlen, hpl]), ⟨⟨g5, ?_, rfl, rfl, ⟨rl, hm, rfl⟩, fun _ => rfl⟩, ?_, rfl⟩⟩
      · have := setParams_rels (ps := lo.params) g6 ha
        rw [← g7] at this ⊢
        exact this
      · exact ⟨_, _, by rw [← g8, ← g9]; rfl, rfl, _, _, rfl, rfl, _, _, rfl, rfl, rfl⟩
    cases out1 with
    | ended e cm1 => cases hx
    | left j fr2 =>
      simp only [xRound1] at hx
      split at hx
      case h_2 => cases hx
      rename_i lo2 hl2
      simp only [Option.some.injEq, Prod.mk.injEq] at hx
      obtain ⟨rfl, rfl⟩ := hx
      refine ⟨rfl, fun μ w c cs args' rl hr hm ha => ?_⟩
      obtain ⟨g, tmps, asg, body, k1, k2⟩ := key μ w c cs args' rl hr hm ha
      obtain ⟨⟨s1, s2, s3⟩, μ1, w1, f1, cs1, q1, q2, q3, q4, q5, q6⟩ := ih μ w _ (c :: cs) hr k2 trivial
      have hcm : fr2.cm = none := by cases hq : fr2.cm with | none => rfl | some x => rw [hq] at s3; cases s3
      rw [hcm] at q6
      have q6 : cs1 = c :: cs := q6
      subst q6
      have hm1 := q1.more _ _ hm
      have hron : f1.roundOf = some rl := by
        have := q3.round
        rw [s2] at this
        obtain ⟨k, m1, m2⟩ := this
        rw [hm1] at m1
        rw [m2]
        exact congrArg some (Prod.mk.inj (Option.some.inj m1)).1.symm
      have hkind : f1.kind = .normal := by rw [q3.kind, hcm]; rfl
      obtain ⟨x, g1, g3, g4, g5, g6, g7, g8, g9⟩ := loop_inv q1.hr hm1 hl2
      have heff := loop_eff (lo' := { lo2 with state := if j.isNone then .ready else .done, pending := j }) (x' := { x with state := if j.isNone then .ready else .done, pending := j }) q1.hr hm1 hl2 g1 ⟨rfl, rfl, g5, g6, g7, g8, g9⟩
      have hend : (Instr.endRound rl j).run P w1 = .ok (.bool j.isNone) { w1 with heap := w1.heap.setIfInBounds rl (.loop { x with state := if j.isNone then .ready else .done, pending := j }) } := by
        simp [Instr.endRound, loop_get g1, (setObj_loop (P := P) g1 _).2.2]
      refine ⟨g, tmps, asg, body, k1, μ1, _, q1.trans hr heff, .bool j.isNone, rel_lit rfl, q2.trans (.one (step_lone_go ?_))⟩
      cases j with
      | none =>
        have q5 : f1.todo = [] := q5
        simp [stepG, stepG.exec, q4, q5, hron, hend, doReturn, hkind]
      | some code =>
        cases code with
        | ret =>
          obtain ⟨k, q5⟩ := q5
          simp [stepG, stepG.exec, q4, q5, hron, hend, doReturn, hkind]
        | exit id =>
          obtain ⟨k, q5, q7⟩ := q5
          simp [stepG, stepG.exec, q4, q5, q7, hron, hend, doReturn, hkind]
        | _ => exact q5.elim
    | raised ch fr2 =>
      simp only [xRound1] at hx
      split at hx
      case isFalse => cases hx
      rename_i hde
      simp only [Option.some.injEq, Prod.mk.injEq] at hx
      obtain ⟨rfl, rfl⟩ := hx
      simp only [Bool.and_eq_true] at hde
      refine ⟨rfl, fun μ w c cs args' rl hr hm ha => ?_⟩
      obtain ⟨g, tmps, asg, body, k1, k2⟩ := key μ w c cs args' rl hr hm ha
      obtain ⟨⟨s1, s2, s3⟩, μ1, w1, f1, cs1, c', q1, q2, q3, q4, q5, q6⟩ := ih μ w _ (c :: cs) hr k2 trivial
      have hcm : fr2.cm = none := by cases hq : fr2.cm with | none => rfl | some x => rw [hq] at s3; cases s3
      rw [hcm] at q6
      have q6 : cs1 = c :: cs := q6
      subst q6
      have hdf : f1.defers = [] := by
        have := q3.defers
        have he : fr2.defers = [] := by simpa using hde.1
        rw [he] at this
        exact this
      obtain ⟨fn, hfn⟩ := Option.isSome_iff_exists.1 hde.2
      have hfn2 : P.funcs[f1.fn]? = some fn := by rw [q3.fn]; exact hfn
      exact ⟨g, tmps, asg, body, k1, μ1, w1, q1, c', q5, q2.trans (.one (step_lone_go (by simp [stepG, unwind, Frame.catches, q4, hdf, hfn2])))⟩
theorem xStep_ok (hT : TT.Sound P T) (hNG : NoNG P) (hS : SumsOK P ρ fl S) (hrec : RecOK P ρ fl rec) (hdraw : DrawOK P T ρ fl rec) : RecOK P ρ fl (xStep P T S rec) := by
  intro t h out h' hx
  cases t with
  | call g args cm => exact xCall_ok hS hrec hx
  | body fr => exact xBody_ok hT hNG hrec hdraw hx
  | unwind fr m => exact xUnwind_ok hT hNG hrec hx
  | round l args => exact xRound_ok hrec hx
end Go.Proofs.YtkgbeihcepociaaDoor.Ex
end

section

set_option linter.unusedSimpArgs false
set_option linter.unusedVariables false
namespace Go.Proofs.YtkgbeihcepociaaDoor.Ex
open Go Go.RowKit
variable {P : Program} {T : TT} {ρ : Nat → Value} {fl : Nat} {μ μ' : Mu} {h : AH} {w w' : World} {t1 t2 : TM} {o : Oper}
theorem evals_congr : ∀ {l : List Operand}, (∀ x ∈ l, evalA t1 x = evalA t2 x) → evals t1 l = evals t2 l
  | [], _ => rfl
  | x :: r, hh => by
    simp only [evals]
    rw [hh x (by simp), evals_congr (fun y hy => hh y (by simp [hy]))]
theorem evalParts_congr : ∀ {l : List (Nat × Operand)}, (∀ x ∈ l.map (·.2), evalA t1 x = evalA t2 x) → evalParts t1 l = evalParts t2 l
  | [], _ => rfl
  | (i, x) :: r, hh => by
    simp only [evalParts]
    rw [hh x (by simp), evalParts_congr (fun y hy => hh y (by simp at hy ⊢; exact .inr hy))]
theorem litAll_congr : ∀ {l : List Operand}, (∀ x ∈ l, evalA t1 x = evalA t2 x) → litAll t1 l = litAll t2 l
  | [], _ => rfl
  | x :: r, hh => by
    simp only [litAll]
    rw [hh x (by simp), litAll_congr (fun y hy => hh y (by simp [hy]))]
theorem litOp_congr (hh : ∀ x ∈ o.op.operands, evalA t1 x = evalA t2 x) : litOp P o t1 = litOp P o t2 := by
  unfold litOp
  rw [litAll_congr (fun x hx => hh x (by simpa using hx))]
  cases hs : notSelect o.op with
  | false => rfl
  | true =>
    rw [execOp_congr (ρ := litEnv t1) (ρ' := litEnv t2) o (fun cs b hcs => by rw [hcs] at hs; cases hs) (fun x hx => by simp only [litEnv]; rw [hh x hx])]
theorem orLit_congr {k1 k2 : Unit → AR} (hh : ∀ x ∈ o.op.operands, evalA t1 x = evalA t2 x) (hk : k1 () = k2 ()) : orLit P o t1 h k1 = orLit P o t2 h k2 := by
  unfold orLit
  rw [litOp_congr hh]
  split
  · rfl
  · exact hk
theorem optNat_congr {x : Option Operand} (hh : ∀ y ∈ x.toArray, evalA t1 y = evalA t2 y) : optNat t1 x = optNat t2 x := by
  cases x with
  | none => rfl
  | some y =>
    have := hh y (by simp)
    simp only [optNat]
    rw [this]
/-- An operation looks at its operands alone. -/
theorem aop_congr (hh : ∀ x ∈ o.op.operands, evalA t1 x = evalA t2 x) : aop P T o t1 h = aop P T o t2 h := by
  obtain ⟨dst, op, ty, pos, after, guard⟩ := o
  cases op <;> simp only [aop]
  case move x => rw [hh x (by simp [Op.operands])]
  case assign x => rw [hh x (by simp [Op.operands])]
  case pick c a b =>
    simp only [aPick]
    rw [hh c (by simp [Op.operands]), hh a (by simp [Op.operands]), hh b (by simp [Op.operands])]
  case box t x => simp only [aBox]; rw [hh x (by simp [Op.operands])]
  case build t ps =>
    simp only [aBuild]
    rw [evalParts_congr (fun x hx => hh x (by simpa [Op.operands] using hx))]
  case buildSlice t m ps =>
    simp only [aBuildSlice]
    rw [evalParts_congr (fun x hx => hh x (by simpa [Op.operands] using hx))]
  case load t a => simp only [aLoad]; rw [hh a (by simp [Op.operands])]
  case store t a x =>
    simp only [aStore]
    rw [hh a (by simp [Op.operands]), hh x (by simp [Op.operands])]
  case nilCheck x =>
    simp only [aNilCheck]
    rw [hh x (by simp [Op.operands]), orLit_congr hh rfl]
  case binOp op t x y yt =>
    have e1 := hh x (by simp [Op.operands])
    have e2 := hh y (by simp [Op.operands])
    simp only [aBin, aSame]
    rw [e1, e2, orLit_congr hh rfl]
  case unOp op t x => simp only [aUn]; rw [hh x (by simp [Op.operands])]
  case convert src dst x =>
    simp only [aConvert]
    rw [hh x (by simp [Op.operands])]
    split
    · split
      · rfl
      · exact orLit_congr hh rfl
    · exact orLit_congr hh rfl
    · rfl
  case makeInterface t x => simp only [aMakeInterface]; rw [hh x (by simp [Op.operands])]
  case makeFunc f a b =>
    simp only [aMakeFunc]
    rw [evals_congr (fun x hx => hh x (by simp [Op.operands]; left; simpa using hx)), evals_congr (fun x hx => hh x (by simp [Op.operands]; right; simpa using hx))]
  case makeSlice t l c =>
    simp only [aMakeSlice]
    rw [hh l (by simp [Op.operands]), hh c (by simp [Op.operands])]
  case slice t x lo hi mx =>
    simp only [aSlice]
    have e1 := hh x (by simp [Op.operands])
    have e2 : optNat t1 lo = optNat t2 lo := optNat_congr (fun y hy => hh y (by simp [Op.operands] at hy ⊢; simp [hy]))
    have e3 : optNat t1 hi = optNat t2 hi := optNat_congr (fun y hy => hh y (by simp [Op.operands] at hy ⊢; simp [hy]))
    have e4 : optNat t1 mx = optNat t2 mx := optNat_congr (fun y hy => hh y (by simp [Op.operands] at hy ⊢; simp [hy]))
    refine orLit_congr hh ?_
    rw [e1, e2, e3, e4]
  case fieldAddr t x i => simp only [aFieldAddr]; rw [hh x (by simp [Op.operands])]
  case field t x i => simp only [aField]; rw [hh x (by simp [Op.operands])]
  case indexAddr t x ix =>
    simp only [aIndexAddr]
    rw [hh x (by simp [Op.operands]), hh ix (by simp [Op.operands])]
  case index t x ix =>
    simp only [aIndex]
    have e1 := hh x (by simp [Op.operands])
    have e2 := hh ix (by simp [Op.operands])
    refine orLit_congr hh ?_
    rw [e1, e2]
  case lookup t m k ok =>
    simp only [aLookup]
    rw [hh m (by simp [Op.operands]), hh k (by simp [Op.operands])]
  case mapUpdate t m k x =>
    simp only [aUpdate]
    rw [hh m (by simp [Op.operands]), hh k (by simp [Op.operands]), hh x (by simp [Op.operands])]
  case insert t m k x =>
    simp only [aUpdate]
    rw [hh m (by simp [Op.operands]), hh k (by simp [Op.operands]), hh x (by simp [Op.operands])]
  case extract x i => simp only [aExtract]; rw [hh x (by simp [Op.operands])]
  case range t x => simp only [aRange]; rw [hh x (by simp [Op.operands])]
  case entry x => simp only [aEntry]; rw [hh x (by simp [Op.operands])]
  case next x s => simp only [aNext]; rw [hh x (by simp [Op.operands])]
  case typeAssert x xt t ok => simp only [aAssert]; rw [hh x (by simp [Op.operands])]
  case panic x => simp only [aPanic]; rw [hh x (by simp [Op.operands])]
  case call c =>
    obtain ⟨callee, args, at'⟩ := c
    have e1 : evals t1 args.toList = evals t2 args.toList := evals_congr (fun x hx => hh x (by simp [Op.operands, Call.operands]; right; simpa using hx))
    cases callee with
    | builtin b =>
      simp only [aCall, aBuiltin]
      rw [e1, orLit_congr hh rfl]
    | value f =>
      simp only [aCall]
      rw [e1, hh f (by simp [Op.operands, Call.operands])]
    | invoke r name =>
      simp only [aCall]
      rw [e1, hh r (by simp [Op.operands, Call.operands])]
  case defer c =>
    obtain ⟨callee, args, at'⟩ := c
    have e1 : evals t1 args.toList = evals t2 args.toList := evals_congr (fun x hx => hh x (by simp [Op.operands, Call.operands]; right; simpa using hx))
    cases callee with
    | builtin b => rfl
    | value f =>
      simp only [aDefer]
      rw [e1, hh f (by simp [Op.operands, Call.operands])]
    | invoke r name => rfl
  case makeMap t r => cases r <;> rfl
theorem wantedA_congr {ops : Array Oper} (hh : ∀ j want d, o.guard = some (j, want) → (ops[j]?).bind (·.dst) = some d → t1.at d = t2.at d) : wantedA ops t1 o = wantedA ops t2 o := by
  unfold wantedA
  split
  · rfl
  · rename_i j want hg
    split
    · rename_i d hd
      rw [hh j want d hg hd]
    · rfl
end Go.Proofs.YtkgbeihcepociaaDoor.Ex
end

section

set_option linter.unusedSimpArgs false
set_option linter.unusedVariables false
namespace Go.Proofs.YtkgbeihcepociaaDoor.Ex
open Go Go.RowKit
variable {P : Program} {T : TT} {ρ : Nat → Value} {fl : Nat} {μ μ' : Mu} {h : AH} {w w' : World} {tmps : TM} {o : Oper} {n : AN} {h1 : AH}
def ind (x : AR) (h : AH) : AR := x.map fun p => (p.1, h)
theorem ind_orLit {k1 k2 : Unit → AR} (hk : k1 () = ind (k2 ()) h) : orLit P o tmps h k1 = ind (orLit P o tmps .nil k2) h := by
  unfold orLit
  split
  · rfl
  · exact hk
theorem ind_val (x : Option AV) : val h x = ind (val .nil x) h := by cases x <;> rfl
theorem ind_same {op : BinOp} {t : TypeId} {x y : Operand} : aSame T tmps h op t x y = ind (aSame T tmps .nil op t x y) h := by
  unfold aSame
  split
  · split <;> rfl
  · rfl
theorem ind_slice1 {t : TypeId} {x : AV} {lo hi mx : Option Nat} : aSlice1 T h t x lo hi mx = ind (aSlice1 T .nil t x lo hi mx) h := by
  unfold aSlice1
  split
  · split
    · cases capFits _ _ <;> rfl
    · rfl
  · split
    · cases Nat.ble _ _ <;> rfl
    · rfl
  · rfl
theorem conv1_still {src dst : TypeId} {x : AV} (hk : (match und T src, und T dst with
    | some (.slice _), some .string => Kind.reads
    | some .string, some (.slice _) | some (.slice _), some (.slice _) => .acts
    | _, _ => .still) = .still) : aConv1 T h src dst x = none := by
  unfold aConv1
  split
  · rename_i hs hd; rw [hs, hd] at hk; cases hk
  · rename_i hs hd; rw [hs, hd] at hk; cases hk
  · rename_i hs hd; rw [hs, hd] at hk; cases hk
  · rfl
/-- What is still hangs on no memory. -/
theorem still_ind (hk : kindOf T o = .still) : aop P T o tmps h = ind (aop P T o tmps .nil) h := by
  obtain ⟨dst, op, ty, pos, after, guard⟩ := o
  cases op <;> simp only [kindOf, reduceCtorEq] at hk <;> simp only [aop]
  case move x => exact ind_val _
  case assign x => exact ind_val _
  case pick c a b =>
    simp only [aPick]
    split
    · exact ind_val _
    · rfl
  case build t ps =>
    simp only [aBuild]
    split
    · exact ind_val _
    · rfl
  case nilCheck x =>
    simp only [aNilCheck]
    split <;> first | rfl | exact ind_orLit rfl
  case binOp op t x y yt =>
    simp only [aBin]
    split
    · exact ind_orLit ind_same
    · unfold ofPV
      split
      · cases ofScal _ <;> rfl
      · cases ofVal _ <;> rfl
      · rfl
    · exact ind_val _
    · exact ind_orLit ind_same
  case unOp op t x =>
    simp only [aUn]
    split
    · unfold ofPV
      split
      · cases ofScal _ <;> rfl
      · cases ofVal _ <;> rfl
      · rfl
    · rfl
  case convert src dst x =>
    simp only [aConvert]
    split
    · split
      · rfl
      · exact ind_orLit rfl
    · exact ind_orLit (by rw [conv1_still hk, conv1_still hk]; rfl)
    · rfl
  case makeInterface t x =>
    simp only [aMakeInterface]
    split <;> rfl
  case makeFunc f a b =>
    simp only [aMakeFunc]
    split
    · cases notYield f <;> rfl
    · rfl
  case slice t x lo hi mx =>
    simp only [aSlice]
    refine ind_orLit ?_
    split
    · exact ind_slice1
    · rfl
  case fieldAddr t x i =>
    simp only [aFieldAddr]
    split
    · split
      · split <;> rfl
      · rfl
    · rfl
  case field t x i =>
    simp only [aField]
    split
    · split
      · exact ind_val _
      · rfl
    · rfl
  case indexAddr t x ix =>
    simp only [aIndexAddr]
    split
    · split
      · split <;> rfl
      · rfl
    · split
      · split <;> rfl
      · rfl
    · rfl
  case index t x ix =>
    simp only [aIndex]
    refine ind_orLit ?_
    split
    · split
      · split
        · exact ind_val _
        · rfl
      · rfl
    · rfl
  case typeAssert x xt t ok =>
    simp only [aAssert]
    split
    · split
      · split
        · split <;> rfl
        · rfl
      · cases Nat.beq _ _
        · cases ok <;> rfl
        · rfl
    · cases ok <;> rfl
    · rfl
  case extract x i =>
    simp only [aExtract]
    split
    · exact ind_val _
    · rfl
  case call c =>
    obtain ⟨callee, args, at'⟩ := c
    cases callee with
    | value f => cases hk
    | invoke r name => cases hk
    | builtin b =>
      have key : b = .len ∨ b = .min ∨ b = .max := by cases b <;> simp at hk ⊢
      rcases key with rfl | rfl | rfl
      · simp only [aCall, aBuiltin]
        split
        case h_4 => split <;> rfl
        case h_5 =>
          rename_i b1 t1 r1 hb1 ha1 ht1
          split
          · rename_i hu hb
            exfalso
            have h3 : at'[0]? = some t1 := by rw [← Array.getElem?_toList, ht1]; rfl
            simp only [h3, Option.bind_some, hu] at hk
            cases hk
          · split
            · rename_i hu hb
              exfalso
              have h3 : at'[0]? = some t1 := by rw [← Array.getElem?_toList, ht1]; rfl
              simp only [h3, Option.bind_some, hu] at hk
              cases hk
            · rfl
        all_goals first | rfl | exact ind_orLit rfl | (rename_i hb _ _; cases hb) | (rename_i hb; cases hb)
      · simp only [aCall, aBuiltin]
        exact ind_orLit rfl
      · simp only [aCall, aBuiltin]
        exact ind_orLit rfl
theorem still_any (hk : kindOf T o = .still) (ha : aop P T o tmps h = some (n, h1)) : h1 = h ∧ ∀ h2, aop P T o tmps h2 = some (n, h2) := by
  rw [still_ind hk] at ha
  cases hq : aop P T o tmps .nil with
  | none => rw [hq] at ha; cases ha
  | some p =>
    rw [hq] at ha
    simp only [ind, Option.map_some, Option.some.injEq, Prod.mk.injEq] at ha
    obtain ⟨rfl, rfl⟩ := ha
    exact ⟨rfl, fun h2 => by rw [still_ind hk, hq]; rfl⟩
/-! Reads. -/
theorem orLit_lit {k : Unit → AR} (hl : litOp P o tmps = some n) : orLit P o tmps h k = some (n, h) := by
  unfold orLit
  rw [hl]
theorem litOp_none {x : Operand} {a : AV} (hx : x ∈ o.op.operands) (ha : evalA tmps x = some a) (hn : toVal a = none) : litOp P o tmps = none := by
  have : litAll tmps o.op.operands.toList = false := by
    have hx' : x ∈ o.op.operands.toList := by simpa using hx
    generalize o.op.operands.toList = l at hx'
    induction l with
    | nil => cases hx'
    | cons y r ih =>
      simp only [litAll]
      cases hx' with
      | head => rw [ha]; simp [hn]
      | tail _ hm =>
        split
        · rw [ih hm, Bool.and_false]
        · rfl
  unfold litOp
  rw [this, Bool.and_false]
  rfl
/-- A read's kind. -/
theorem reads_cases (hk : kindOf T o = .reads) : (∃ t a, o.op = .load t a) ∨ (∃ t m k ok, o.op = .lookup t m k ok) ∨ (∃ src dst x e, o.op = .convert src dst x ∧ und T src = some (.slice e) ∧ und T dst = some .string) ∨
    ∃ c t k e, o.op = .call c ∧ c.callee = .builtin .len ∧ c.argTypes[0]? = some t ∧ und T t = some (.map k e) := by
  unfold kindOf at hk
  split at hk <;> try cases hk
  case h_22 t a ho => exact .inl ⟨t, a, ho⟩
  case h_23 t m k ok ho => exact .inr (.inl ⟨t, m, k, ok, ho⟩)
  case h_24 src dst x ho =>
    split at hk <;> try cases hk
    rename_i e h1 h2
    exact .inr (.inr (.inl ⟨src, dst, x, e, ho, h1, h2⟩))
  case h_25 c ho =>
    split at hk <;> try cases hk
    rename_i hc
    split at hk <;> try cases hk
    rename_i k e hm
    obtain ⟨t, h1, h2⟩ := Option.bind_eq_some_iff.1 hm
    exact .inr (.inr (.inr ⟨c, t, k, e, ho, hc, h1, h2⟩))
/-- A read done later. -/
theorem read_late {rd : RD} {u : AV} (hk : kindOf T o = .reads) (ha : aop P T o tmps h = some (n, h1)) (hr : rdOf o tmps = some rd) {h2 : AH} (hu : rdA T h2 rd = some u) : h1 = h ∧ aop P T o tmps h2 = some (.val u, h2) := by
  obtain ⟨ds, op, ty, pos, after, guard⟩ := o
  rcases reads_cases hk with ⟨t, a, ho⟩ | ⟨t, m, k, ok, ho⟩ | ⟨src, dst, x, e, ho, e1, e2⟩ | ⟨c, t, k, e, ho, hc, e1, e2⟩
  · simp only at ho
    subst ho
    simp only [rdOf] at hr
    split at hr
    case h_2 => cases hr
    rename_i b off hx
    obtain rfl := Option.some.inj hr
    simp only [rdA] at hu
    simp only [aop, aLoad, hx] at ha ⊢
    obtain ⟨_, _, _, rfl⟩ := val_some ha
    exact ⟨rfl, by simp [hu, val]⟩
  · simp only at ho
    subst ho
    simp only [rdOf] at hr
    split at hr
    case h_2 => cases hr
    rename_i m' k' hm hk'
    obtain rfl := Option.some.inj hr
    simp only [rdA] at hu
    simp only [aop, aLookup, hm, hk'] at ha ⊢
    obtain ⟨_, _, _, rfl⟩ := val_some ha
    exact ⟨rfl, by simp [hu, val]⟩
  · simp only at ho
    subst ho
    simp only [rdOf] at hr
    split at hr
    case h_2 => cases hr
    rename_i b off len cap hx
    obtain rfl := Option.some.inj hr
    simp only [rdA] at hu
    have hl : litOp P ⟨ds, .convert src dst x, ty, pos, after, guard⟩ tmps = none := litOp_none (x := x) (by simp [Op.operands]) hx rfl
    simp only [aop, aConvert, hx, orLit, hl, aConv1, e1, e2] at ha ⊢
    split at ha
    case h_2 => cases ha
    rename_i he
    obtain ⟨_, _, _, rfl⟩ := val_some ha
    exact ⟨rfl, by simp [he, hu, val]⟩
  · simp only at ho
    subst ho
    simp only [rdOf] at hr
    split at hr
    case h_2 => cases hr
    rename_i b hx
    obtain rfl := Option.some.inj hr
    simp only [rdA] at hu
    split at hu
    case h_2 => cases hu
    rename_i es cl hb
    obtain rfl := Option.some.inj hu
    obtain ⟨rest, ht⟩ : ∃ rest, c.argTypes.toList = t :: rest := by
      rw [← Array.getElem?_toList] at e1
      cases hq : c.argTypes.toList with
      | nil => rw [hq] at e1; cases e1
      | cons y r => rw [hq] at e1; exact ⟨r, by simp only [List.getElem?_cons_zero, Option.some.injEq] at e1; rw [e1]⟩
    simp only [aop, aCall, hc, aBuiltin, hx, ht, e2] at ha ⊢
    rw [hb]
    refine ⟨?_, rfl⟩
    split at ha
    · simp only [Option.some.injEq, Prod.mk.injEq] at ha
      exact ha.2.symm
    · cases ha
theorem conv1_same {src dst e : TypeId} {v : AV} {y : AN × AH} (e1 : und T src = some (.slice e)) (e2 : und T dst = some .string) (hy : aConv1 T h src dst v = some y) : y.2 = h := by
  unfold aConv1 at hy
  rw [e1, e2] at hy
  cases v with
  | sl b off len cap =>
    simp only at hy
    split at hy
    · obtain ⟨n', h'⟩ := y
      obtain ⟨_, _, _, rfl⟩ := val_some hy
      rfl
    · cases hy
  | _ => cases hy
/-- A read changes no heap. -/
theorem read_same (hk : kindOf T o = .reads) (ha : aop P T o tmps h = some (n, h1)) : h1 = h := by
  obtain ⟨ds, op, ty, pos, after, guard⟩ := o
  rcases reads_cases hk with ⟨t, a, ho⟩ | ⟨t, m, k, ok, ho⟩ | ⟨src, dst, x, e, ho, e1, e2⟩ | ⟨c, t, k, e, ho, hc, e1, e2⟩
  · simp only at ho
    subst ho
    simp only [aop, aLoad] at ha
    split at ha
    · obtain ⟨_, _, _, rfl⟩ := val_some ha
      rfl
    · cases ha
  · simp only at ho
    subst ho
    simp only [aop, aLookup] at ha
    split at ha
    · obtain ⟨_, _, _, rfl⟩ := val_some ha
      rfl
    · cases ha
  · simp only at ho
    subst ho
    simp only [aop, aConvert] at ha
    have key : ∀ {kk : Unit → AR}, (∀ x, kk () = some x → x.2 = h) → orLit P ⟨ds, .convert src dst x, ty, pos, after, guard⟩ tmps h kk = some (n, h1) → h1 = h := fun {kk} hkk hor => by
      unfold orLit at hor
      split at hor
      · simp only [Option.some.injEq, Prod.mk.injEq] at hor
        exact hor.2.symm
      · exact hkk _ hor
    split at ha
    · simp only [e1, e2] at ha
      exact key (fun x hx => by cases hx) ha
    · exact key (fun y hy => conv1_same e1 e2 hy) ha
    · cases ha
  · simp only at ho
    subst ho
    obtain ⟨rest, ht⟩ : ∃ rest, c.argTypes.toList = t :: rest := by
      rw [← Array.getElem?_toList] at e1
      cases hq : c.argTypes.toList with
      | nil => rw [hq] at e1; cases e1
      | cons y r => rw [hq] at e1; exact ⟨r, by simp only [List.getElem?_cons_zero, Option.some.injEq] at e1; rw [e1]⟩
    simp only [aop, aCall, hc, aBuiltin, ht] at ha
    split at ha
    case h_4 => simp_all
    case h_5 =>
      split at ha
      · simp only [Option.some.injEq, Prod.mk.injEq] at ha
        exact ha.2.symm
      · cases ha
    all_goals first
      | (unfold orLit at ha
         split at ha
         · simp only [Option.some.injEq, Prod.mk.injEq] at ha
           exact ha.2.symm
         · cases ha)
      | simp_all
/-- A read of plain operands. -/
theorem read_lit (hk : kindOf T o = .reads) (ha : aop P T o tmps h = some (n, h1)) (hr : rdOf o tmps = none) (hl : (litOp P o tmps).isSome = true) : h1 = h ∧ ∀ h2, aop P T o tmps h2 = some (n, h2) := by
  obtain ⟨ds, op, ty, pos, after, guard⟩ := o
  obtain ⟨m, hm⟩ := Option.isSome_iff_exists.1 hl
  rcases reads_cases hk with ⟨t, a, ho⟩ | ⟨t, m, k, ok, ho⟩ | ⟨src, dst, x, e, ho, e1, e2⟩ | ⟨c, t, k, e, ho, hc, e1, e2⟩
  · simp only at ho
    subst ho
    simp only [rdOf] at hr
    simp only [aop, aLoad] at ha
    split at hr
    · cases hr
    · rename_i hno
      split at ha
      · rename_i b off hx
        exact absurd hx (hno b off)
      · cases ha
  · simp only at ho
    subst ho
    simp only [rdOf] at hr
    simp only [aop, aLookup] at ha
    split at hr
    · cases hr
    · rename_i hno
      split at ha
      · rename_i m' k' h1 h2
        exact absurd h2 (hno m' k' h1)
      · cases ha
  · simp only at ho
    subst ho
    have key : ∀ h2, aConvert P T ⟨ds, .convert src dst x, ty, pos, after, guard⟩ tmps h2 src dst x = some (m, h2) := fun h2 => by
      simp only [aop, aConvert] at ha ⊢
      split
      · simp only [e1, e2]
        exact orLit_lit hm
      · exact orLit_lit hm
      · rename_i hx
        rw [hx] at ha
        cases ha
    simp only [aop] at ha ⊢
    rw [key] at ha
    simp only [Option.some.injEq, Prod.mk.injEq] at ha
    obtain ⟨rfl, rfl⟩ := ha
    exact ⟨rfl, key⟩
  · simp only at ho
    subst ho
    obtain ⟨rest, ht⟩ : ∃ rest, c.argTypes.toList = t :: rest := by
      rw [← Array.getElem?_toList] at e1
      cases hq : c.argTypes.toList with
      | nil => rw [hq] at e1; cases e1
      | cons y r => rw [hq] at e1; exact ⟨r, by simp only [List.getElem?_cons_zero, Option.some.injEq] at e1; rw [e1]⟩
    simp only [rdOf] at hr
    have key : ∀ h2, aCall P T ⟨ds, .call c, ty, pos, after, guard⟩ tmps h2 c = some (m, h2) := fun h2 => by
      simp only [aop, aCall, hc, aBuiltin, ht] at ha ⊢
      split
      case h_4 => simp_all
      case h_5 => simp_all
      all_goals first | exact orLit_lit hm | simp_all
    simp only [aop] at ha ⊢
    rw [key] at ha
    simp only [Option.some.injEq, Prod.mk.injEq] at ha
    obtain ⟨rfl, rfl⟩ := ha
    exact ⟨rfl, key⟩
end Go.Proofs.YtkgbeihcepociaaDoor.Ex
end

section

set_option linter.unusedSimpArgs false
set_option linter.unusedVariables false
namespace Go.Proofs.YtkgbeihcepociaaDoor.Ex
open Go Go.RowKit
variable {P : Program} {T : TT} {ρ : Nat → Value} {fl : Nat} {μ μ' : Mu} {h : AH} {w w' : World} {tmps : TM} {o : Oper} {n : AN} {h1 : AH}
theorem alloc_cases (hk : kindOf T o = .alloc) : (∃ t, o.op = .alloc t) ∨ (∃ t x, o.op = .box t x) ∨ (∃ t m ps, o.op = .buildSlice t m ps) ∨ (∃ t l c, o.op = .makeSlice t l c) ∨ ∃ t r, o.op = .makeMap t r := by
  unfold kindOf at hk
  split at hk <;> try cases hk
  case h_17 t ho => exact .inl ⟨t, ho⟩
  case h_18 t x ho => exact .inr (.inl ⟨t, x, ho⟩)
  case h_19 t m ps ho => exact .inr (.inr (.inl ⟨t, m, ps, ho⟩))
  case h_20 t l c ho => exact .inr (.inr (.inr (.inl ⟨t, l, c, ho⟩)))
  case h_21 t r ho => exact .inr (.inr (.inr (.inr ⟨t, r, ho⟩)))
  case h_24 => split at hk <;> cases hk
  case h_25 => split at hk <;> try cases hk
               split at hk <;> cases hk
def AllocOK (P : Program) (T : TT) (o : Oper) (tmps : TM) (mk : Nat → AV) (ab : AB) : Prop :=
  (∀ h2, aop P T o tmps h2 = some (.val (mk h2.n), h2.push ab)) ∧ live ab = true ∧
  ∀ (ρ : Nat → Value) (μ : Mu) (w : World) (ev : Operand → Value), EnvR ρ μ w tmps ev → ∃ ob v', (execOp ev o).run P w = .ok (.value v') (w.alloc ob) ∧ objRel P ρ μ w 0 ab ob ∧ ∀ (μ1 : Mu) (w1 : World) (b : Nat), μ1 b = some (w.heap.size, 0) → rel ρ μ1 w1 (mk b) v'
theorem rel_ptr_at {b r : Nat} (hb : μ b = some (r, 0)) : rel ρ μ w (.ptr b 0) (.pointer (some ⟨r, 0, none⟩)) := by unfold rel; exact ⟨r, 0, hb, rfl⟩
theorem rel_sl_at {b r len k : Nat} (hb : μ b = some (r, 0)) (hk : len ≤ k) (hm : k ≤ maxLen) : rel ρ μ w (.sl b 0 len (.kn k)) (.slice (some ⟨r, 0, none⟩) len k) := by
  unfold rel
  exact .inl ⟨r, 0, 0, k, hb, rfl, .inr rfl, rfl, hk, hm⟩
theorem rel_mp_at {b r : Nat} (hb : μ b = some (r, 0)) : rel ρ μ w (.mp b) (.map (some r)) := by unfold rel; exact ⟨r, hb, rfl⟩
theorem alloc_any (hT : TT.Sound P T) (hk : kindOf T o = .alloc) (ha : aop P T o tmps h = some (n, h1)) : ∃ mk ab, n = .val (mk h.n) ∧ h1 = h.push ab ∧ AllocOK P T o tmps mk ab := by
  obtain ⟨ds, op, ty, pos, after, guard⟩ := o
  rcases alloc_cases hk with ⟨t, ho⟩ | ⟨t, x, ho⟩ | ⟨t, m, ps, ho⟩ | ⟨t, l, c, ho⟩ | ⟨t, r, ho⟩ <;> (simp only at ho; subst ho)
  · simp only [aop, aAlloc, Option.map_eq_some_iff, Prod.mk.injEq] at ha
    obtain ⟨z, z1, rfl, rfl⟩ := ha
    refine ⟨fun b => .ptr b 0, .cells z.cells t, rfl, rfl, fun h2 => by simp [aop, aAlloc, z1], rfl, fun ρ μ w ev he => ?_⟩
    obtain ⟨v, h2, h3⟩ := run_zero hT z1 w
    exact ⟨.cells v.cells t, .pointer (some ⟨w.heap.size, 0, none⟩), by simp [execOp, Instr.alloc, h2, newVar, newRow], ⟨v.cells, rfl, whole_of (rel_cells (ofVal1_rel h3))⟩, fun μ1 w1 b hb => rel_ptr_at hb⟩
  · simp only [aop, aBox] at ha
    split at ha
    case h_2 => cases ha
    rename_i z hz
    split at ha
    case isFalse => cases ha
    rename_i hone
    simp only [Option.some.injEq, Prod.mk.injEq] at ha
    obtain ⟨rfl, rfl⟩ := ha
    refine ⟨fun b => .ptr b 0, .cells z.cells t, rfl, rfl, fun h2 => by simp [aop, aBox, hz, hone], rfl, fun ρ μ w ev he => ?_⟩
    exact ⟨.cells (ev x).cells t, .pointer (some ⟨w.heap.size, 0, none⟩), by simp [execOp, Instr.box, newVar, newRow], ⟨_, rfl, whole_of (rel_cells (he x z hz))⟩, fun μ1 w1 b hb => rel_ptr_at hb⟩
  · have ha0 := ha
    simp only [aop, aBuildSlice] at ha
    split at ha
    case h_2 => cases ha
    rename_i e ps' hu hps
    split at ha
    case h_2 => cases ha
    rename_i i hi
    split at ha
    case isFalse => cases ha
    rename_i hc
    simp only [Option.map_eq_some_iff, Prod.mk.injEq] at ha
    obtain ⟨l, hf, rfl, rfl⟩ := ha
    have hc0 := hc
    simp only [Bool.and_eq_true, decide_eq_true_eq] at hc
    refine ⟨fun b => .sl b 0 m (.kn m), .cells l e, rfl, rfl, fun h2 => by simp [aop, aBuildSlice, hu, hps, hi, hc, hf], rfl, fun ρ μ w ev he => ?_⟩
    obtain ⟨z, hz, hz2⟩ := run_zero hT (show zeroT T e = some i.zero by simp [zeroT, hi]) w
    have hzr := rel_cells (ofVal1_rel (ρ := ρ) (μ := μ) (w := w) hz2)
    have hs := run_size hT (show sizeT T e = some i.size by simp [sizeT, hi]) w
    have hrow : rels ρ μ w (rep i.zero.cells m) ((Array.range (m * i.size)).map (fun k => (if m * i.size = 0 then (#[] : Array Value) else z.cells)[k % (if m * i.size = 0 then (#[] : Array Value) else z.cells).size]!)).toList := by
      by_cases h0 : m * i.size = 0
      · have : rep i.zero.cells m = [] := List.eq_nil_of_length_eq_zero (by rw [rep_length, hc.1.1]; exact h0)
        rw [this, h0]
        simp [rels_nil]
      · simp only [h0, if_false]
        have := rep_rels hzr m
        rw [hc.1.1] at this
        exact this
    obtain ⟨rres, q1, q2⟩ := fillA_sound (evalParts_sound he hps) hrow hf
    have hmm : m ≤ maxLen := by simp only [maxLen]; omega
    refine ⟨.cells rres e, .slice (some ⟨w.heap.size, 0, none⟩) m m, ?_, ⟨rres, rfl, whole_of q2⟩, fun μ1 w1 b hb => rel_sl_at hb (Nat.le_refl _) hmm⟩
    have h24 : ¬ (m * i.size > 2 ^ 24) := by omega
    by_cases h0 : m * i.size = 0
    · simp only [h0, if_true] at q1
      have e0 : Array.range 0 = #[] := rfl
      simp only [e0, List.map_toArray, List.map_nil] at q1
      simp [execOp, Instr.buildSlice, run_und hT hu, hs, h0, e0, q1, newRow]
    · simp only [h0, if_false] at q1
      simp [execOp, Instr.buildSlice, run_und hT hu, hs, h0, h24, hz, q1, newRow]
  · simp only [aop, aMakeSlice] at ha
    split at ha
    case h_2 => cases ha
    rename_i e k m hu hl hc
    split at ha
    case h_2 => cases ha
    rename_i i hi
    split at ha
    case isFalse => cases ha
    rename_i hcond
    have hcond0 := hcond
    simp only [Bool.and_eq_true, decide_eq_true_eq] at hcond
    obtain ⟨⟨⟨c1, c2⟩, c3⟩, c4⟩ := hcond
    simp only [Option.some.injEq, Prod.mk.injEq] at ha
    obtain ⟨rfl, rfl⟩ := ha
    refine ⟨fun b => .sl b 0 k (.kn m), .cells (rep i.zero.cells m) e, rfl, rfl, fun h2 => by simp [aop, aMakeSlice, hu, hl, hc, hi, c1, c2, c3, c4], rfl, fun ρ μ w ev he => ?_⟩
    obtain ⟨al, al1, al2⟩ := Option.bind_eq_some_iff.1 hl
    obtain ⟨ac, ac1, ac2⟩ := Option.bind_eq_some_iff.1 hc
    obtain ⟨kl, il, e1, e2, rfl⟩ := natA_inv al2 (he l _ al1)
    obtain ⟨kc, ic, f1, f2, rfl⟩ := natA_inv ac2 (he c _ ac1)
    obtain ⟨info, z, g1, g2, g3, g4, g5⟩ := hT.info e i hi
    have hzr := rel_cells (ofVal1_rel (ρ := ρ) (μ := μ) (w := w) g5)
    have hb : (info.bytes : Int) * ic ≤ 281474976710656 := by
      have h1 : ((i.bytes * ic.toNat : Nat) : Int) ≤ 281474976710656 := by omega
      rw [Int.natCast_mul, Int.toNat_of_nonneg f2, ← g3] at h1
      exact h1
    have hrun := run_make (P := P) w t e info z (und_P hT hu) g1 g4 kl kc il ic e2 (by omega) hb (by omega)
    have hrow := rep_rels hzr ic.toNat
    rw [c4] at hrow
    exact ⟨.cells (madeCells z.cells (ic.toNat * info.size)) e, .slice (some ⟨w.heap.size, 0, none⟩) il.toNat ic.toNat, by simp [execOp, e1, f1, hrun], ⟨_, rfl, whole_of (by rw [g2]; exact hrow)⟩, fun μ1 w1 b hb => rel_sl_at hb c1 (by simp only [maxLen]; omega)⟩
  · cases r with
    | some r => cases ha
    | none =>
      simp only [aop, Option.some.injEq, Prod.mk.injEq] at ha
      obtain ⟨rfl, rfl⟩ := ha
      exact ⟨.mp, .map [] 0, rfl, rfl, fun h2 => rfl, rfl, fun ρ μ w ev he => ⟨.map #[] 0, .map (some w.heap.size), by simp [execOp, Instr.makeMap], ⟨#[], rfl, rfl, rfl⟩, fun μ1 w1 b hb => rel_mp_at hb⟩⟩
/-! Sameness. -/
theorem scalEq_sound {a b : Value} (hs : scalEq a b = true) : a = b := by
  unfold scalEq at hs
  split at hs <;> first | rfl | cases hs | skip
  · simpa using hs
  · simp only [Bool.and_eq_true, beq_iff_eq] at hs
    rw [hs.1, hs.2]
  · rename_i x y
    have : x.data.toList = y.data.toList := by simpa using hs
    have : x.data = y.data := Array.ext' this
    obtain ⟨x⟩ := x
    obtain ⟨y⟩ := y
    simp only at this
    rw [this]
theorem capEq_sound {a b : Cap} (hs : capEq a b = true) : a = b := by
  cases a <;> cases b <;> simp [capEq] at hs <;> rw [hs]
theorem fnEq_sound {f g : Fn} (h : fnEq f g = true) : f = g := by
  unfold fnEq at h
  split at h
  · rw [Nat.eq_of_beq_eq_true h]
  · rw [Nat.eq_of_beq_eq_true h]
  · cases h
theorem same_sound : ∀ (n : Nat) (a b : AV), AV.same n a b = true → a = b := fun n => by
  induction n with
  | zero =>
    intro a b hs
    cases a <;> cases b <;> simp only [AV.same, Bool.false_eq_true, Bool.and_eq_true, beq_iff_eq] at hs
    · rw [scalEq_sound hs]
    · rw [hs.1, hs.2]
    · rw [hs.1.1.1, hs.1.1.2, hs.1.2, capEq_sound hs.2]
    · rw [hs]
    · rw [hs]
    · rw [hs.1.1, hs.1.2, hs.2]
  | succ n ih =>
    have lst : ∀ (l m : List AV), l.length = m.length → ((l.zip m).all fun (x, y) => AV.same n x y) = true → l = m := fun l => by
      induction l with
      | nil => intro m hl _; exact (List.eq_nil_of_length_eq_zero hl.symm).symm
      | cons x xs ihl =>
        intro m hl ha
        cases m with
        | nil => cases hl
        | cons y ys =>
          simp only [List.zip_cons_cons, List.all_cons, Bool.and_eq_true] at ha
          rw [ih x y ha.1, ihl ys (by simpa using hl) ha.2]
    intro a b hs
    cases a <;> cases b <;> simp only [AV.same, Bool.false_eq_true, Bool.and_eq_true, beq_iff_eq] at hs
    · rw [scalEq_sound hs]
    · rw [hs.1, hs.2]
    · rw [hs.1.1.1, hs.1.1.2, hs.1.2, capEq_sound hs.2]
    · rw [hs]
    · rw [lst _ _ hs.1 hs.2]
    · rw [lst _ _ hs.1 hs.2]
    · rw [hs.1, ih _ _ hs.2]
    · rw [fnEq_sound hs.1, lst _ _ hs.2.1.1 hs.2.1.2, lst _ _ hs.2.2.1 hs.2.2.2]
    · rw [hs]
    · rw [hs.1.1, hs.1.2, hs.2]
end Go.Proofs.YtkgbeihcepociaaDoor.Ex
end

section

set_option linter.unusedSimpArgs false
set_option linter.unusedVariables false
namespace Go.Proofs.YtkgbeihcepociaaDoor.Ex
open Go Go.RowKit
variable {T : TT} {ops : Array Oper}
def Direct (ops : Array Oper) (j i : Nat) : Prop := ∃ o e, ops[i]? = some o ∧ e ∈ o.after.toList ∧ Region.binds .any e = true ∧ e.on = j
inductive Before (ops : Array Oper) : Nat → Nat → Prop where
  | one {j i : Nat} : Direct ops j i → Before ops j i
  | step {j k i : Nat} : Before ops j k → Direct ops k i → Before ops j i
theorem waits_bit (n M i k : Nat) : waits n M i k = M.testBit (n * i + k) := by
  unfold waits
  rw [Nat.testBit_eq_decide_div_mod_eq, Nat.shiftRight_eq_div_pow, Bool.eq_iff_iff, Nat.beq_eq]
  simp
theorem predMask_bits : ∀ (l : List Edge) (acc j : Nat), (acc.testBit j = true ∨ ∃ e ∈ l, Region.binds .any e = true ∧ e.on = j) → (predMask l acc).testBit j = true
  | [], acc, j, hh => by
    rcases hh with hh | ⟨e, he, _⟩
    · exact hh
    · cases he
  | e :: r, acc, j, hh => by
    simp only [predMask]
    refine predMask_bits r _ j ?_
    cases hb : Region.binds .any e with
    | true =>
      simp only [cond_true, Nat.testBit_or, Bool.or_eq_true]
      rcases hh with hh | ⟨x, hx, h1, h2⟩
      · exact .inl (.inl hh)
      · cases hx with
        | head => exact .inl (.inr (by rw [h2, Nat.one_shiftLeft, Nat.testBit_two_pow_self]))
        | tail _ hm => exact .inr ⟨x, hm, h1, h2⟩
    | false =>
      simp only [cond_false]
      rcases hh with hh | ⟨x, hx, h1, h2⟩
      · exact .inl hh
      · cases hx with
        | head => rw [hb] at h1; cases h1
        | tail _ hm => exact .inr ⟨x, hm, h1, h2⟩
theorem linOk_cons {n M i : Nat} {r : List Nat} {done : Nat} {last : Option Nat} (hl : linOk T ops n M (i :: r) done last = true) : ∃ o, ops[i]? = some o ∧ (∀ j, (predMask o.after.toList 0).testBit j = true → done.testBit j = true) ∧ done.testBit i = false ∧
    (∀ a, last = some a → waits n M i a = true) ∧ linOk T ops n M r (done ||| (1 <<< i)) (bif isAct T ops i then some i else last) = true := by
  simp only [linOk] at hl
  split at hl
  case h_2 => cases hl
  rename_i o ho
  simp only [Bool.and_eq_true] at hl
  obtain ⟨⟨⟨h1, h2⟩, h3⟩, h4⟩ := hl
  refine ⟨o, ho, fun j hj => ?_, ?_, fun a ha => by rw [ha] at h3; exact h3, h4⟩
  · have h1 := Nat.eq_of_beq_eq_true h1
    rw [← h1, Nat.testBit_and, Bool.and_eq_true] at hj
    exact hj.2
  · have h2 := Nat.eq_of_beq_eq_true h2
    rw [Nat.testBit_eq_decide_div_mod_eq, ← Nat.shiftRight_eq_div_pow, h2]
    rfl
theorem bits_or {done i : Nat} {pre : List Nat} (hd : ∀ j, done.testBit j = true ↔ j ∈ pre) (j : Nat) : (done ||| (1 <<< i)).testBit j = true ↔ j ∈ pre ++ [i] := by
  rw [Nat.testBit_or, Bool.or_eq_true, hd, List.mem_append, List.mem_singleton, Nat.one_shiftLeft, Nat.testBit_two_pow]
  constructor
  · rintro (h1 | h1)
    · exact .inl h1
    · exact .inr (by simpa [eq_comm] using h1)
  · rintro (h1 | h1)
    · exact .inl h1
    · exact .inr (by simp [h1])
theorem linOk_lin {n M : Nat} : ∀ (l : List Nat) (done : Nat) (last : Option Nat) (pre : List Nat), linOk T ops n M l done last = true → (∀ j, done.testBit j = true ↔ j ∈ pre) →
    (∀ pre' i post, l = pre' ++ i :: post → (∃ o, ops[i]? = some o) ∧ i ∉ pre ++ pre' ∧ ∀ j, Direct ops j i → j ∈ pre ++ pre') ∧ ∀ j, j < n → j ∈ pre ++ l
  | [], done, last, pre, hl, hd => by
    refine ⟨fun pre' i post he => absurd he (by cases pre' <;> simp), fun j hj => ?_⟩
    have := Nat.eq_of_beq_eq_true hl
    rw [List.append_nil]
    rw [← hd, this, Nat.testBit_two_pow_sub_one]
    simpa using hj
  | i0 :: r, done, last, pre, hl, hd => by
    obtain ⟨o, ho, h1, h2, h3, h4⟩ := linOk_cons hl
    obtain ⟨k1, k2⟩ := linOk_lin r _ _ (pre ++ [i0]) h4 (fun j => bits_or hd j)
    refine ⟨fun pre' i post he => ?_, fun j hj => by have := k2 j hj; simpa using this⟩
    cases pre' with
    | nil =>
      obtain ⟨rfl, rfl⟩ := List.cons.inj he
      refine ⟨⟨o, ho⟩, ?_, fun j hj => ?_⟩
      · rw [List.append_nil, ← hd, h2]
        simp
      · obtain ⟨o', e, g1, g2, g3, g4⟩ := hj
        rw [ho] at g1
        obtain rfl := Option.some.inj g1
        rw [List.append_nil, ← hd]
        exact h1 j (predMask_bits _ _ _ (.inr ⟨e, g2, g3, g4⟩))
    | cons x xs =>
      obtain ⟨rfl, rfl⟩ := List.cons.inj he
      have := k1 xs i post rfl
      simpa using this
/-- All bits stand for operations that come first. -/
def GoodM (ops : Array Oper) (n M : Nat) : Prop := ∀ p, M.testBit p = true → ∃ a b, p = n * a + b ∧ b < n ∧ Before ops b a
theorem GoodM.waits {n M i k : Nat} (hM : GoodM ops n M) (hk : k < n) (hw : waits n M i k = true) : Before ops k i := by
  rw [waits_bit] at hw
  obtain ⟨a, b, h1, h2, h3⟩ := hM _ hw
  have e1 : (n * i + k) / n = i := by rw [Nat.mul_add_div (by omega), Nat.div_eq_of_lt hk, Nat.add_zero]
  have e2 : (n * a + b) / n = a := by rw [Nat.mul_add_div (by omega), Nat.div_eq_of_lt h2, Nat.add_zero]
  have ea : i = a := by rw [← e1, h1, e2]
  subst ea
  have : k = b := by omega
  subst this
  exact h3
theorem rowOf_good {n M i : Nat} (hM : GoodM ops n M) (hin : ∀ j i, Direct ops j i → j < n) : ∀ (l : List Edge) (acc : Nat), (∀ e ∈ l, Region.binds .any e = true → Direct ops e.on i) → (∀ b, acc.testBit b = true → b < n ∧ Before ops b i) → ∀ b, (rowOf n M l acc).testBit b = true → b < n ∧ Before ops b i
  | [], acc, _, hacc, b, hb => hacc b hb
  | e :: r, acc, hl, hacc, b, hb => by
    simp only [rowOf] at hb
    refine rowOf_good hM hin r _ (fun x hx => hl x (by simp [hx])) (fun c hc => ?_) b hb
    cases hbd : Region.binds .any e with
    | false =>
      rw [hbd] at hc
      exact hacc c hc
    | true =>
      have hd := hl e (by simp) hbd
      rw [hbd] at hc
      simp only [cond_true, Nat.testBit_or, Bool.or_eq_true, Nat.testBit_and, Bool.and_eq_true] at hc
      rcases hc with (hc | hc) | hc
      · exact hacc c hc
      · rw [Nat.one_shiftLeft, Nat.testBit_two_pow] at hc
        have : e.on = c := by simpa using hc
        subst this
        exact ⟨hin _ _ hd, .one hd⟩
      · obtain ⟨c1, c2⟩ := hc
        rw [Nat.testBit_two_pow_sub_one] at c2
        have hcn : c < n := by simpa using c2
        rw [Nat.testBit_shiftRight] at c1
        have : Before ops c e.on := hM.waits hcn (by rw [waits_bit]; exact c1)
        exact ⟨hcn, .step this hd⟩
theorem matOf_good {n : Nat} (hin : ∀ j i, Direct ops j i → j < n) : ∀ (l : List Oper) (i M : Nat), (∀ k, l[k]? = ops[i + k]?) → GoodM ops n M → GoodM ops n (matOf n l i M)
  | [], i, M, _, hM => hM
  | o :: r, i, M, hl, hM => by
    simp only [matOf]
    have ho : ops[i]? = some o := by have := hl 0; simpa using this.symm
    refine matOf_good hin r (i + 1) _ (fun k => by have := hl (k + 1); rw [List.getElem?_cons_succ] at this; rw [this]; congr 1; omega) (fun p hp => ?_)
    rw [Nat.testBit_or, Bool.or_eq_true] at hp
    rcases hp with hp | hp
    · exact hM p hp
    · rw [Nat.testBit_shiftLeft] at hp
      simp only [Bool.and_eq_true, decide_eq_true_eq] at hp
      obtain ⟨p1, p2⟩ := hp
      obtain ⟨b1, b2⟩ := rowOf_good (i := i) hM hin o.after.toList 0 (fun e he hb => ⟨o, e, ho, he, hb, rfl⟩) (fun b hb => by simp at hb) _ p2
      exact ⟨i, p - n * i, by omega, b1, b2⟩
theorem linOk_acts {n M : Nat} (hM : GoodM ops n M) : ∀ (l : List Nat) (done : Nat) (last : Option Nat) (pre : List Nat), linOk T ops n M l done last = true → (∀ i ∈ l, i < n) → (∀ a ∈ pre, isAct T ops a = true → ∃ b, last = some b ∧ b < n ∧ (a = b ∨ Before ops a b)) →
    (∀ {a b c : Nat}, Before ops a b → Before ops b c → Before ops a c) → ∀ pre' i post, l = pre' ++ i :: post → ∀ a ∈ pre ++ pre', isAct T ops a = true → Before ops a i
  | [], done, last, pre, hl, _, _, _, pre', i, post, he => absurd he (by cases pre' <;> simp)
  | i0 :: r, done, last, pre, hl, hlt, hp, htr, pre', i, post, he => by
    obtain ⟨o, ho, h1, h2, h3, h4⟩ := linOk_cons hl
    have hbef : ∀ a ∈ pre, isAct T ops a = true → Before ops a i0 := fun a ha hact => by
      obtain ⟨b, hb, hbn, hab⟩ := hp a ha hact
      have := hM.waits hbn (h3 b hb)
      rcases hab with rfl | hab
      · exact this
      · exact htr hab this
    cases pre' with
    | nil =>
      obtain ⟨rfl, rfl⟩ := List.cons.inj he
      intro a ha hact
      rw [List.append_nil] at ha
      exact hbef a ha hact
    | cons x xs =>
      obtain ⟨rfl, rfl⟩ := List.cons.inj he
      have := linOk_acts hM (xs ++ i :: post) _ _ (pre ++ [i0]) h4 (fun j hj => hlt j (by simp [hj])) (fun a ha hact => by
        rw [List.mem_append, List.mem_singleton] at ha
        cases hi0 : isAct T ops i0 with
        | true =>
          rcases ha with ha | rfl
          · exact ⟨i0, rfl, hlt i0 (by simp), .inr (hbef a ha hact)⟩
          · exact ⟨a, rfl, hlt a (by simp), .inl rfl⟩
        | false =>
          rcases ha with ha | rfl
          · exact hp a ha hact
          · rw [hi0] at hact; cases hact) htr xs i post rfl
      simpa using this
theorem Before.trans {a b c : Nat} (h1 : Before ops a b) (h2 : Before ops b c) : Before ops a c := by
  induction h2 with
  | one hd => exact .step h1 hd
  | step _ hd ih => exact .step ih hd
theorem tmpOk_spec {n M i : Nat} {ts : List Tmp} : ∀ (l : List Oper) (j : Nat), tmpOk n M i ts l j = true → ∀ k o d, l[k]? = some o → o.dst = some d → d ∈ ts → i = j + k ∨ waits n M i (j + k) = true ∨ waits n M (j + k) i = true
  | [], j, _, k, o, d, hk, _, _ => by simp at hk
  | x :: r, j, hh, k, o, d, hk, hd, hm => by
    simp only [tmpOk, Bool.and_eq_true] at hh
    cases k with
    | zero =>
      simp only [List.getElem?_cons_zero, Option.some.injEq] at hk
      subst hk
      rw [hd] at hh
      simp only [Bool.or_eq_true, Bool.not_eq_true'] at hh
      rcases hh.1 with ((h1 | h1) | h1) | h1
      · have : ts.contains d = true := by simpa using hm
        rw [this] at h1
        cases h1
      · exact .inl (Nat.eq_of_beq_eq_true h1)
      · exact .inr (.inl h1)
      · exact .inr (.inr h1)
    | succ k =>
      rw [List.getElem?_cons_succ] at hk
      have := tmpOk_spec r (j + 1) hh.2 k o d hk hd hm
      rwa [show j + 1 + k = j + (k + 1) by omega] at this
theorem tmpsOk_spec {n M : Nat} : ∀ (l : List Oper) (i : Nat), tmpsOk n M ops l i = true → ∀ k o, l[k]? = some o → tmpOk n M (i + k) (namesOf ops o) ops.toList 0 = true
  | [], i, _, k, o, hk => by simp at hk
  | x :: r, i, hh, k, o, hk => by
    simp only [tmpsOk, Bool.and_eq_true] at hh
    cases k with
    | zero =>
      simp only [List.getElem?_cons_zero, Option.some.injEq] at hk
      subst hk
      exact hh.1
    | succ k =>
      rw [List.getElem?_cons_succ] at hk
      have := tmpsOk_spec r (i + 1) hh.2 k o hk
      rwa [show i + 1 + k = i + (k + 1) by omega] at this
structure Ord (T : TT) (ops : Array Oper) (l : List Nat) : Prop where
  all : ∀ j, j < ops.size → j ∈ l
  oper : ∀ j ∈ l, ∃ o, ops[j]? = some o
  nodup : ∀ pre i post, l = pre ++ i :: post → i ∉ pre
  lin : ∀ pre i post, l = pre ++ i :: post → ∀ j, Direct ops j i → j ∈ pre
  acts : ∀ pre i post, l = pre ++ i :: post → ∀ a ∈ pre, isAct T ops a = true → Before ops a i
  tmps : ∀ i j oi oj d, ops[i]? = some oi → ops[j]? = some oj → oj.dst = some d → d ∈ namesOf ops oi → i = j ∨ Before ops j i ∨ Before ops i j
  waits : ∀ i k, k < ops.size → waits ops.size (mat ops) i k = true → Before ops k i
theorem okD_ord (hok : okD T ops = true) : Ord T ops (orderD T ops) := by
  simp only [okD, Bool.and_eq_true] at hok
  obtain ⟨h1, h2⟩ := hok
  obtain ⟨k1, k2⟩ := linOk_lin _ 0 none [] h1 (fun j => by simp)
  simp only [List.nil_append] at k1 k2
  have hmem : ∀ j ∈ orderD T ops, ∃ pre post, orderD T ops = pre ++ j :: post := fun j hj => by
    obtain ⟨a, b, h⟩ := List.append_of_mem hj
    exact ⟨a, b, h⟩
  have hoper : ∀ j ∈ orderD T ops, ∃ o, ops[j]? = some o := fun j hj => by
    obtain ⟨a, b, h⟩ := hmem j hj
    exact (k1 a j b h).1
  have hlt : ∀ j ∈ orderD T ops, j < ops.size := fun j hj => by
    obtain ⟨o, ho⟩ := hoper j hj
    exact (Array.getElem?_eq_some_iff.1 ho).1
  have hin : ∀ j i, Direct ops j i → j < ops.size := fun j i hd => by
    obtain ⟨o, e, g1, _⟩ := id hd
    have hi := (Array.getElem?_eq_some_iff.1 g1).1
    obtain ⟨a, b, h⟩ := hmem i (k2 i hi)
    have := (k1 a i b h).2.2 j hd
    exact hlt j (by rw [h]; simp [this])
  have hM : GoodM ops ops.size (mat ops) := matOf_good hin ops.toList 0 0 (fun k => by rw [Nat.zero_add, Array.getElem?_toList]) (fun p hp => by simp at hp)
  refine ⟨k2, hoper, fun pre i post h => (k1 pre i post h).2.1, fun pre i post h => (k1 pre i post h).2.2, fun pre i post h a ha hact => ?_, fun i j oi oj d hi hj hd hm => ?_, fun i k hk hw => hM.waits hk hw⟩
  · exact linOk_acts hM _ 0 none [] h1 hlt (fun a ha => by cases ha) (fun x y => x.trans y) pre i post h a (by simpa using ha) hact
  · have e1 := tmpsOk_spec _ 0 h2 i oi (by rw [Array.getElem?_toList]; exact hi)
    have e2 := tmpOk_spec _ 0 e1 j oj d (by rw [Array.getElem?_toList]; exact hj) hd hm
    simp only [Nat.zero_add] at e2
    have hil := (Array.getElem?_eq_some_iff.1 hi).1
    have hjl := (Array.getElem?_eq_some_iff.1 hj).1
    rcases e2 with e2 | e2 | e2
    · exact .inl e2
    · exact .inr (.inl (hM.waits hjl e2))
    · exact .inr (.inr (hM.waits hil e2))
end Go.Proofs.YtkgbeihcepociaaDoor.Ex
end

section

set_option linter.unusedSimpArgs false
set_option linter.unusedVariables false
namespace Go.Proofs.YtkgbeihcepociaaDoor.Ex
open Go Go.RowKit
variable {T : TT} {ops : Array Oper} {L : List Nat}
def on (listed : Array Bool) (i : Nat) : Prop := listed.getD i false = true
/-- What has come up is closed. -/
def ClosedX (ops : Array Oper) (listed : Array Bool) : Prop := ∀ j i, Direct ops j i → on listed i → on listed j
theorem ClosedX.before {listed : Array Bool} (hc : ClosedX ops listed) {j i : Nat} (hb : Before ops j i) (hi : on listed i) : on listed j := by
  induction hb with
  | one hd => exact hc _ _ hd hi
  | step _ hd ih => exact ih (hc _ _ hd hi)
def ReadyX (ops : Array Oper) (listed : Array Bool) (i : Nat) : Prop := i < listed.size ∧ ¬ on listed i ∧ i < ops.size ∧ ∀ j, Direct ops j i → on listed j
theorem ready_X {listed : Array Bool} {i : Nat} (hr : i ∈ Region.ready .any ops listed) : ReadyX ops listed i := by
  obtain ⟨h1, o, ho, h2⟩ := mem_ready.1 hr
  have hlt : i < listed.size := by
    rcases Nat.lt_or_ge i listed.size with h' | h'
    · exact h'
    · simp [Array.getElem?_eq_none h'] at h1
  refine ⟨hlt, fun hh => ?_, (Array.getElem?_eq_some_iff.1 ho).1, fun j hd => ?_⟩
  · simp only [on] at hh
    simp [hlt] at h1 hh
    rw [h1] at hh
    cases hh
  · obtain ⟨o', e, g1, g2, g3, g4⟩ := hd
    rw [ho] at g1
    obtain rfl := Option.some.inj g1
    subst g4
    exact h2 e (by simpa using g2) g3
theorem X_ready {listed : Array Bool} {i : Nat} (hr : ReadyX ops listed i) : i ∈ Region.ready .any ops listed := by
  obtain ⟨h1, h2, h3, h4⟩ := hr
  refine mem_ready.2 ⟨?_, ops[i], Array.getElem?_eq_getElem h3, fun e he hb => h4 e.on ⟨ops[i], e, Array.getElem?_eq_getElem h3, by simpa using he, hb, rfl⟩⟩
  simp only [on] at h2
  simp [h1] at h2 ⊢
  exact h2
theorem ReadyX.before {listed : Array Bool} {i j : Nat} (hc : ClosedX ops listed) (hr : ReadyX ops listed i) (hb : Before ops j i) : on listed j := by
  cases hb with
  | one hd => exact hr.2.2.2 _ hd
  | step hb hd => exact hc.before hb (hr.2.2.2 _ hd)
theorem on_set {listed : Array Bool} {i j : Nat} (hi : i < listed.size) : on (listed.setIfInBounds i true) j ↔ on listed j ∨ j = i := by
  simp only [on]
  by_cases hij : i = j
  · subst hij
    simp [hi]
  · rw [getD_set_ne false hij]
    constructor
    · exact .inl
    · rintro (h | h)
      · exact h
      · exact absurd h.symm hij
theorem ClosedX.set {listed : Array Bool} {i : Nat} (hc : ClosedX ops listed) (hr : ReadyX ops listed i) : ClosedX ops (listed.setIfInBounds i true) := by
  intro j k hd hk
  rw [on_set hr.1] at hk ⊢
  rcases hk with hk | rfl
  · exact .inl (hc j k hd hk)
  · exact .inl (hr.2.2.2 j hd)
theorem Ord.before (ho : Ord T ops L) {a b : Nat} (hb : Before ops a b) : ∀ {pre post : List Nat}, L = pre ++ b :: post → a ∈ pre := by
  induction hb with
  | one hd => intro pre post h; exact ho.lin pre _ post h _ hd
  | step hb hd ih =>
    rename_i k i
    intro pre post h
    have h1 := ho.lin pre _ post h _ hd
    obtain ⟨p, q, rfl⟩ := List.append_of_mem h1
    have := ih (pre := p) (post := q ++ i :: post) (by rw [h]; simp)
    simp [this]
/-- As long as not all has come up, something may. -/
theorem Ord.some_ready (ho : Ord T ops L) {listed : Array Bool} (hs : listed.size = ops.size) {j : Nat} (hj : j < ops.size) (hn : ¬ on listed j) : ∃ i, ReadyX ops listed i := by
  have key : ∀ (post pre : List Nat), L = pre ++ post → (∀ x ∈ pre, on listed x) → (∀ x ∈ L, on listed x) ∨ ∃ i, ReadyX ops listed i := by
    intro post
    induction post with
    | nil => intro pre h hp; exact .inl (by rw [h, List.append_nil]; exact hp)
    | cons x r ih =>
      intro pre h hp
      by_cases hx : on listed x
      · exact ih (pre ++ [x]) (by rw [h]; simp) (fun y hy => by
          rw [List.mem_append, List.mem_singleton] at hy
          rcases hy with hy | rfl
          · exact hp y hy
          · exact hx)
      · obtain ⟨o, hox⟩ := ho.oper x (by rw [h]; simp)
        have hlt := (Array.getElem?_eq_some_iff.1 hox).1
        exact .inr ⟨x, by omega, hx, hlt, fun k hd => hp k (ho.lin pre x r h k hd)⟩
  rcases key L [] rfl (fun x hx => by cases hx) with h | h
  · exact absurd (h j (ho.all j hj)) hn
  · exact h
/-- An order that may be drawn. -/
def LinR (ops : Array Oper) : List Nat → Array Bool → Prop
  | [], listed => ∀ j, j < ops.size → on listed j
  | i :: r, listed => ReadyX ops listed i ∧ LinR ops r (listed.setIfInBounds i true)
def left (listed : Array Bool) : Nat → Nat
  | 0 => 0
  | n + 1 => left listed n + (if listed.getD n false = true then 0 else 1)
theorem left_zero {listed : Array Bool} : ∀ {n : Nat}, left listed n = 0 → ∀ j, j < n → on listed j
  | 0, _, j, hj => by omega
  | n + 1, hl, j, hj => by
    simp only [left] at hl
    by_cases hjn : j = n
    · subst hjn
      simp only [on]
      split at hl
      · assumption
      · omega
    · exact left_zero (n := n) (by omega) j (by omega)
theorem left_set_ge {listed : Array Bool} {i : Nat} : ∀ {n : Nat}, n ≤ i → left (listed.setIfInBounds i true) n = left listed n
  | 0, _ => rfl
  | n + 1, h => by
    simp only [left]
    rw [left_set_ge (by omega), getD_set_ne false (by omega)]
theorem left_set {listed : Array Bool} {i : Nat} (hi : i < listed.size) (hn : ¬ on listed i) : ∀ {n : Nat}, i < n → left (listed.setIfInBounds i true) n + 1 = left listed n
  | n + 1, h => by
    simp only [left]
    by_cases hin : i = n
    · subst hin
      rw [left_set_ge (Nat.le_refl _)]
      simp only [on] at hn
      have : (listed.setIfInBounds i true).getD i false = true := by simp [hi]
      rw [if_pos this, if_neg hn]
    · have := left_set hi hn (n := n) (by omega)
      rw [getD_set_ne false hin]
      omega
theorem go_LinR (ho : Ord T ops L) : ∀ (fuel t : Nat) (listed : Array Bool), listed.size = ops.size → left listed ops.size = fuel → LinR ops (Region.linearise.go .any ops fuel t listed []) listed := by
  intro fuel
  induction fuel with
  | zero => intro t listed hs hl; exact left_zero hl
  | succ fuel ih =>
    intro t listed hs hl
    simp only [Region.linearise.go]
    change LinR ops (match (Region.ready .any ops listed)[t % (Region.ready .any ops listed).length]? with
      | some i => Region.linearise.go .any ops fuel (t / (Region.ready .any ops listed).length) (listed.setIfInBounds i true) [i]
      | none => [].reverse) listed
    cases hi : (Region.ready .any ops listed)[t % (Region.ready .any ops listed).length]? with
    | none =>
      have hnil : Region.ready .any ops listed = [] := by
        cases hr : Region.ready .any ops listed with
        | nil => rfl
        | cons x xs =>
          rw [hr] at hi
          have hlt : t % (x :: xs).length < (x :: xs).length := Nat.mod_lt _ (by simp)
          simp at hi
          simp at hlt
          omega
      intro j hj
      by_cases hon : on listed j
      · exact hon
      · obtain ⟨i, hr⟩ := ho.some_ready hs hj hon
        have := X_ready hr
        rw [hnil] at this
        cases this
    | some i =>
      simp only []
      rw [linearise_go_acc, List.reverse_singleton, List.singleton_append]
      have hr := ready_X (List.mem_of_getElem? hi)
      exact ⟨hr, ih _ _ (by simpa using hs) (by have := left_set hr.1 hr.2.1 hr.2.2.1; omega)⟩
theorem left_false : ∀ (n m : Nat), left (Array.replicate m false) n = n
  | 0, _ => rfl
  | n + 1, m => by
    simp only [left]
    rw [left_false n m, if_neg]
    simp only [Array.getD_eq_getD_getElem?, Array.getElem?_replicate]
    split <;> simp
theorem linearise_LinR (ho : Ord T ops L) (t : Nat) : LinR ops (Region.linearise .any ops t) (Array.replicate ops.size false) :=
  go_LinR ho ops.size t _ (by simp) (left_false _ _)
theorem closed_false : ClosedX ops (Array.replicate ops.size false) := by
  intro j i _ hi
  simp only [on, Array.getD_eq_getD_getElem?, Array.getElem?_replicate] at hi
  split at hi <;> simp at hi
end Go.Proofs.YtkgbeihcepociaaDoor.Ex
end

section

set_option linter.unusedSimpArgs false
set_option linter.unusedVariables false
namespace Go.Proofs.YtkgbeihcepociaaDoor.Ex
open Go Go.RowKit
variable {P : Program} {T : TT} {S : Sums} {ρ : Nat → Value} {fl : Nat} {ops : Array Oper} {h : AH}
def actK : Kind → Bool
  | .acts => true
  | _ => false
theorem isAct_eq {T : TT} {ops : Array Oper} {i : Nat} {o : Oper} (ho : ops[i]? = some o) : isAct T ops i = actK (kindOf T o) := by
  unfold isAct
  rw [ho]
  dsimp only
  cases kindOf T o <;> rfl
abbrev Reads := List (Nat × RD × AV)
structure Ent where
  i : Nat
  o : Oper
  tmps : TM
  h : AH
  v : AV
  h1 : AH
/-- Does one see the same operands? -/
def Agree (o : Oper) (t1 t2 : TM) : Prop := ∀ x ∈ o.op.operands, evalA t1 x = evalA t2 x
/-- The real machine does the operation so. -/
def RunOK (P : Program) (ρ : Nat → Value) (fl : Nat) (o : Oper) (t : TM) (h : AH) (v : AV) (h1 : AH) : Prop :=
  ∀ (μ : Mu) (w : World) (f : Frame) (cs : List Frame) (ops : Array Oper) (i : Nat) (r : List Nat) (l : List Item), HR P ρ fl μ h w → EnvR ρ μ w t f.eval → f.mode = .run → f.todo = .inRegion ops (i :: r) :: l → ops[i]? = some o → Region.wanted o (yielded ops f.tmps) = true →
    ∃ μ' w' v', Eff P ρ fl μ h w μ' h1 w' ∧ rel ρ μ' w' v v' ∧ Steps P (lone f cs w) (lone (f.finish v') cs w')
theorem runOK_val {o : Oper} {t : TM} {v : AV} {h1 : AH} (hT : TT.Sound P T) (ha : aop P T o t h = some (.val v, h1)) : RunOK P ρ fl o t h v h1 := by
  intro μ w f cs ops i r l hr he hm ht ho hw
  obtain ⟨μ', w', v', q1, q2, q3⟩ := aop_sound hT hr he ha
  exact ⟨μ', w', v', q2, q3, .one (step_value hm ht ho hw (.inr (not_defer ha (fun _ _ => by simp))) q1)⟩
def keep (ops : Array Oper) (i : Nat) (rs : Reads) : Reads := rs.filter fun (j, _, _) => !waits ops.size (mat ops) i j
/-- One operation, as the abstract machine did it. -/
def StepR (P : Program) (T : TT) (ρ : Nat → Value) (fl : Nat) (ops : Array Oper) (e : Ent) (rs rs1 : Reads) : Prop :=
  ops[e.i]? = some e.o ∧ ((wantedA ops e.tmps e.o = some false ∧ e.v = aundef ∧ e.h1 = e.h ∧ (match kindOf T e.o with | .acts => hold T e.h rs = true ∧ rs1 = keep ops e.i rs | _ => rs1 = rs)) ∨
    (wantedA ops e.tmps e.o = some true ∧ (match kindOf T e.o with
      | .acts => hold T e.h rs = true ∧ rs1 = keep ops e.i rs ∧ ∀ t2, Agree e.o e.tmps t2 → RunOK P ρ fl e.o t2 e.h e.v e.h1
      | .reads => aop P T e.o e.tmps e.h = some (.val e.v, e.h1) ∧ ((∃ rd, rdOf e.o e.tmps = some rd ∧ rs1 = (e.i, rd, e.v) :: rs) ∨ (rdOf e.o e.tmps = none ∧ (litOp P e.o e.tmps).isSome = true ∧ rs1 = rs))
      | _ => aop P T e.o e.tmps e.h = some (.val e.v, e.h1) ∧ rs1 = rs)))
def Tr (P : Program) (T : TT) (ρ : Nat → Value) (fl : Nat) (ops : Array Oper) : List Ent → TM → AH → Reads → TM → AH → Reads → Prop
  | [], t, h, rs, t', h', rs' => t' = t ∧ h' = h ∧ rs' = rs
  | e :: r, t, h, rs, t', h', rs' => e.tmps = t ∧ e.h = h ∧ ∃ rs1, StepR P T ρ fl ops e rs rs1 ∧ Tr P T ρ fl ops r (setTmp t e.o.dst e.v) e.h1 rs1 t' h' rs'
theorem calledD_ok {rec : Rec} {fr : AFr} {o : Oper} {it : AI} {k : List AI} {x : Option (Out × AH)} {out : Out} {h' : AH} (hx : xCalledD rec fr o it k x = some (out, h')) :
    ∃ v cm h2, x = some (.ended (.ret v) cm, h2) ∧ fin rec fr o it k v h2 = some (out, h') := by
  unfold xCalledD at hx
  split at hx
  · exact ⟨_, _, _, rfl, hx⟩
  · cases hx
theorem trace_of (hT : TT.Sound P T) (hNG : NoNG P) : ∀ (l : List Nat) (n : Nat) (fr : AFr) (rs : Reads) (k : List AI) (h : AH) (out : Out) (h' : AH), (∀ m, m < n → RecOK P ρ fl (ex P T S m)) →
    ex P T S n (.body { fr with todo := .regD ops l rs :: k }) h = some (out, h') →
    ∃ es tf hf rsf m, es.map (·.i) = l ∧ Tr P T ρ fl ops es fr.tmps h rs tf hf rsf ∧ hold T hf rsf = true ∧ m < n ∧ ex P T S m (.body { fr with tmps := tf, todo := k }) hf = some (out, h')
  | [], n, fr, rs, k, h, out, h', _, hx => by
    cases n with
    | zero => cases hx
    | succ n =>
      simp only [ex, xStep, xBody, xItem] at hx
      split at hx
      · rename_i hh
        exact ⟨[], fr.tmps, h, rs, n, rfl, ⟨rfl, rfl, rfl⟩, hh, Nat.lt_succ_self n, hx⟩
      · cases hx
  | i :: r, n, fr, rs, k, h, out, h', hrec, hx => by
    cases n with
    | zero => cases hx
    | succ n =>
      simp only [ex, xStep, xBody, xItem, xRegD] at hx
      split at hx
      case h_2 => cases hx
      rename_i o ho
      -- what is left behind the head
      have go : ∀ (v : AV) (h2 : AH) (rs1 : Reads), fin (ex P T S n) { fr with todo := .regD ops (i :: r) rs :: k } o (.regD ops r rs1) k v h2 = some (out, h') → StepR P T ρ fl ops { i, o, tmps := fr.tmps, h, v, h1 := h2 } rs rs1 →
          ∃ es tf hf rsf m, es.map (·.i) = i :: r ∧ Tr P T ρ fl ops es fr.tmps h rs tf hf rsf ∧ hold T hf rsf = true ∧ m < n + 1 ∧ ex P T S m (.body { fr with tmps := tf, todo := k }) hf = some (out, h') := fun v h2 rs1 hfin hstep => by
        obtain ⟨es, tf, hf, rsf, m, q1, q2, q3, q4, q5⟩ := trace_of hT hNG r n { fr with tmps := setTmp fr.tmps o.dst v } rs1 k h2 out h' (fun m hm => hrec m (by omega)) hfin
        exact ⟨{ i, o, tmps := fr.tmps, h, v, h1 := h2 } :: es, tf, hf, rsf, m, by simp [q1], ⟨rfl, rfl, rs1, hstep, q2⟩, q3, by omega, q5⟩
      have hact : isAct T ops i = actK (kindOf T o) := isAct_eq ho
      -- the operation done
      have one : ∀ (rs0 : Reads), (match kindOf T o with | .acts => hold T h rs = true ∧ rs0 = keep ops i rs | _ => rs0 = rs) → xRegD1 P T (ex P T S n) { fr with todo := .regD ops (i :: r) rs :: k } ops i o r rs0 k h = some (out, h') →
          ∃ es tf hf rsf m, es.map (·.i) = i :: r ∧ Tr P T ρ fl ops es fr.tmps h rs tf hf rsf ∧ hold T hf rsf = true ∧ m < n + 1 ∧ ex P T S m (.body { fr with tmps := tf, todo := k }) hf = some (out, h') := fun rs0 hrs0 hx => by
        unfold xRegD1 at hx
        split at hx
        · rename_i hwant
          have hwant : wantedA ops fr.tmps o = some true := hwant
          unfold xOpD at hx
          cases hk : kindOf T o with
          | acts =>
            rw [hk] at hx hrs0
            simp only at hx hrs0
            have build : ∀ v h2, (∀ t2, Agree o fr.tmps t2 → RunOK P ρ fl o t2 h v h2) → StepR P T ρ fl ops { i, o, tmps := fr.tmps, h, v, h1 := h2 } rs rs0 := fun v h2 hrun =>
              ⟨ho, .inr ⟨hwant, by simp only [hk]; exact ⟨hrs0.1, hrs0.2, hrun⟩⟩⟩
            split at hx
            · rename_i v h2 ha
              exact go v h2 rs0 hx (build v h2 fun t2 hag => runOK_val hT (by rw [← aop_congr hag]; exact ha))
            · rename_i g args h2 ha
              obtain ⟨v, cm, h3, hc, hfin⟩ := calledD_ok hx
              refine go v h3 rs0 hfin (build v h3 fun t2 hag => ?_)
              intro μ w f cs ops' i' r' l hr he hm ht ho' hw
              obtain ⟨rfl, args', q1, q2⟩ := aop_sound hT hr he (show aop P T o t2 h = some (.enter g args, h2) by rw [← aop_congr hag]; exact ha)
              obtain ⟨s1, μ1, w1, s2, v', s3, s4⟩ := call_back hNG (hrec n (by omega)) hc hr q1 f cs
              rw [s1] at q2
              exact ⟨μ1, w1, v', s2, s3, .head (step_enter hm ht ho' hw (.inr (not_defer ha (fun _ _ => by simp))) q2) s4⟩
            · rename_i l0 args h2 ha
              obtain ⟨v, cm, h3, hc, hfin⟩ := calledD_ok hx
              refine go v h3 rs0 hfin (build v h3 fun t2 hag => ?_)
              intro μ w f cs ops' i' r' l hr he hm ht ho' hw
              obtain ⟨rfl, rl, args', q0, q1, q2⟩ := aop_sound hT hr he (show aop P T o t2 h = some (.round l0 args, h2) by rw [← aop_congr hag]; exact ha)
              obtain ⟨_, s0⟩ := hrec n (by omega) _ _ _ _ hc
              obtain ⟨g, tm, asg, body, s1, μ1, w1, s2, v', s3, s4⟩ := s0 μ w f cs args' rl hr q0 q1
              rw [s1] at q2
              exact ⟨μ1, w1, v', s2, s3, .head (step_round hm ht ho' hw (.inr (not_defer ha (fun _ _ => by simp))) q2) s4⟩
            · cases hx
          | reads =>
            rw [hk] at hx hrs0
            simp only at hx hrs0
            subst hrs0
            split at hx
            case h_2 => cases hx
            rename_i v h2 ha
            cases hrd : rdOf o fr.tmps with
            | some rd =>
              rw [hrd] at hx
              exact go v h2 _ hx ⟨ho, .inr ⟨hwant, by simp only [hk]; exact ⟨ha, .inl ⟨rd, hrd, rfl⟩⟩⟩⟩
            | none =>
              rw [hrd] at hx
              simp only at hx
              cases hl : (litOp P o fr.tmps).isSome with
              | false => rw [hl] at hx; cases hx
              | true =>
                rw [hl] at hx
                exact go v h2 _ hx ⟨ho, .inr ⟨hwant, by simp only [hk]; exact ⟨ha, .inr ⟨hrd, hl, trivial⟩⟩⟩⟩
          | still =>
            rw [hk] at hx hrs0
            simp only at hx hrs0
            subst hrs0
            split at hx
            case h_2 => cases hx
            rename_i v h2 ha
            exact go v h2 _ hx ⟨ho, .inr ⟨hwant, by simp only [hk]; exact ⟨ha, trivial⟩⟩⟩
          | alloc =>
            rw [hk] at hx hrs0
            simp only at hx hrs0
            subst hrs0
            split at hx
            case h_2 => cases hx
            rename_i v h2 ha
            exact go v h2 _ hx ⟨ho, .inr ⟨hwant, by simp only [hk]; exact ⟨ha, trivial⟩⟩⟩
        · rename_i hwant
          exact go aundef h rs0 hx ⟨ho, .inl ⟨hwant, rfl, rfl, hrs0⟩⟩
        · cases hx
      split at hx
      · rename_i hia
        rw [hact] at hia
        split at hx
        · rename_i hh
          refine one _ ?_ hx
          cases hk : kindOf T o <;> rw [hk] at hia <;> first | exact ⟨hh, rfl⟩ | cases hia
        · cases hx
      · rename_i hia
        rw [hact] at hia
        refine one _ ?_ hx
        cases hk : kindOf T o <;> rw [hk] at hia <;> first | rfl | exact absurd rfl hia
end Go.Proofs.YtkgbeihcepociaaDoor.Ex
end

section

set_option linter.unusedSimpArgs false
set_option linter.unusedVariables false
namespace Go.Proofs.YtkgbeihcepociaaDoor.Ex
open Go Go.RowKit
variable {P : Program} {T : TT} {S : Sums} {ρ : Nat → Value} {fl : Nat} {ops : Array Oper} {h : AH}
def setTmpL (t : List AV) (d : Option Tmp) (v : AV) : List AV := match d with
  | some k => t.set k v
  | none => t
theorem setTmp_L (t : TM) (d : Option Tmp) (v : AV) : (setTmp t d v).L = setTmpL t.L d v := by
  cases d with
  | none => rfl
  | some k => exact TL_set _ _ _
theorem setTmpL_rels {μ : Mu} {w : World} {tmps : List AV} {rt : Array Value} {d : Option Tmp} {a : AV} {v : Value} (ht : rels ρ μ w tmps rt.toList) (hv : rel ρ μ w a v) : rels ρ μ w (setTmpL tmps d a) (match d with | some d => rt.setIfInBounds d v | none => rt).toList := by
  cases d with
  | none => exact ht
  | some d => simp only [setTmpL, Array.toList_setIfInBounds]; exact rels_set d ht hv
theorem setTmpL_length (t : List AV) (d : Option Tmp) (v : AV) : (setTmpL t d v).length = t.length := by cases d <;> simp [setTmpL]
theorem setTmpL_ne {t : List AV} {d : Option Tmp} {v : AV} {k : Nat} (hd : d ≠ some k) : (setTmpL t d v)[k]? = t[k]? := by
  cases d with
  | none => rfl
  | some j => exact List.getElem?_set_ne (fun e => hd (by rw [e]))
theorem setTmpL_get {t1 t2 : List AV} {d : Option Tmp} {v : AV} {k : Nat} (hl : t1.length = t2.length) (hk : t1[k]? = t2[k]?) : (setTmpL t1 d v)[k]? = (setTmpL t2 d v)[k]? := by
  cases d with
  | none => exact hk
  | some j =>
    simp only [setTmpL, List.getElem?_set, hl, hk]
theorem setTmpL_comm {t : List AV} {d1 d2 : Option Tmp} {v1 v2 : AV} (hd : ∀ d, d1 = some d → d2 ≠ some d) : setTmpL (setTmpL t d1 v1) d2 v2 = setTmpL (setTmpL t d2 v2) d1 v1 := by
  cases d1 with
  | none => rfl
  | some i =>
    cases d2 with
    | none => rfl
    | some j => exact List.set_comm _ _ (fun e => hd i rfl (by rw [e]))
def foldX (listed : Array Bool) : List Ent → List AV → List AV
  | [], t => t
  | e :: r, t => foldX listed r (if listed.getD e.i false = true then setTmpL t e.o.dst e.v else t)
def foldA : List Ent → List AV → List AV
  | [], t => t
  | e :: r, t => foldA r (setTmpL t e.o.dst e.v)
theorem foldX_append (listed : Array Bool) : ∀ (a b : List Ent) (t : List AV), foldX listed (a ++ b) t = foldX listed b (foldX listed a t)
  | [], _, _ => rfl
  | e :: r, b, t => foldX_append listed r b _
theorem fold_get {listed : Array Bool} {k : Nat} : ∀ (es : List Ent) (t1 t2 : List AV), t1.length = t2.length → t1[k]? = t2[k]? → (∀ x ∈ es, x.o.dst = some k → on listed x.i) → (foldX listed es t1)[k]? = (foldA es t2)[k]?
  | [], _, _, _, hk, _ => hk
  | e :: r, t1, t2, hl, hk, hx => by
    simp only [foldX, foldA]
    split
    · exact fold_get r _ _ (by rw [setTmpL_length, setTmpL_length, hl]) (setTmpL_get hl hk) (fun x hm => hx x (by simp [hm]))
    · rename_i hn
      have : e.o.dst ≠ some k := fun hd => hn (hx e (by simp) hd)
      exact fold_get r _ _ (by rw [setTmpL_length, hl]) (by rw [setTmpL_ne this, hk]) (fun x hm => hx x (by simp [hm]))
theorem foldX_none {listed : Array Bool} {k : Nat} : ∀ (es : List Ent) (t : List AV), (∀ x ∈ es, x.o.dst = some k → ¬ on listed x.i) → (foldX listed es t)[k]? = t[k]?
  | [], _, _ => rfl
  | e :: r, t, hx => by
    simp only [foldX]
    rw [foldX_none r _ (fun x hm => hx x (by simp [hm]))]
    split
    · rename_i hon
      exact setTmpL_ne (fun hd => hx e (by simp) hd hon)
    · rfl
theorem foldX_same {l1 l2 : Array Bool} : ∀ (es : List Ent) (t : List AV), (∀ x ∈ es, l1.getD x.i false = l2.getD x.i false) → foldX l1 es t = foldX l2 es t
  | [], _, _ => rfl
  | e :: r, t, hx => by
    simp only [foldX]
    rw [hx e (by simp)]
    exact foldX_same r _ (fun x hm => hx x (by simp [hm]))
theorem foldX_put {listed : Array Bool} {d : Option Tmp} {v : AV} : ∀ (es : List Ent) (t : List AV), (∀ x ∈ es, on listed x.i → ∀ k, d = some k → x.o.dst ≠ some k) → foldX listed es (setTmpL t d v) = setTmpL (foldX listed es t) d v
  | [], _, _ => rfl
  | e :: r, t, hx => by
    simp only [foldX]
    rw [← foldX_put r _ (fun x hm => hx x (by simp [hm]))]
    congr 1
    split
    · rename_i hon
      exact setTmpL_comm (fun k hk => hx e (by simp) hon k hk)
    · rfl
theorem foldX_set {listed : Array Bool} {e : Ent} {pre post : List Ent} {t : List AV} (hi : e.i < listed.size) (hn : ¬ on listed e.i) (h1 : ∀ x ∈ pre, x.i ≠ e.i) (h2 : ∀ x ∈ post, x.i ≠ e.i)
    (h3 : ∀ x ∈ post, on listed x.i → ∀ k, e.o.dst = some k → x.o.dst ≠ some k) : foldX (listed.setIfInBounds e.i true) (pre ++ e :: post) t = setTmpL (foldX listed (pre ++ e :: post) t) e.o.dst e.v := by
  rw [foldX_append, foldX_append]
  simp only [foldX]
  have e1 : (listed.setIfInBounds e.i true).getD e.i false = true := by simp [hi]
  have hn' : ¬ listed.getD e.i false = true := hn
  rw [if_pos e1, if_neg hn']
  rw [foldX_same (l1 := listed.setIfInBounds e.i true) (l2 := listed) pre t (fun x hx => getD_set_ne false (Ne.symm (h1 x hx)))]
  rw [foldX_same (l1 := listed.setIfInBounds e.i true) (l2 := listed) post _ (fun x hx => getD_set_ne false (Ne.symm (h2 x hx)))]
  exact foldX_put post _ h3
theorem foldX_false {n : Nat} : ∀ (es : List Ent) (t : List AV), foldX (Array.replicate n false) es t = t
  | [], _ => rfl
  | e :: r, t => by
    simp only [foldX]
    rw [if_neg, foldX_false r t]
    simp only [Array.getD_eq_getD_getElem?, Array.getElem?_replicate]
    split <;> simp
theorem foldX_all {listed : Array Bool} : ∀ (es : List Ent) (t : List AV), (∀ x ∈ es, on listed x.i) → foldX listed es t = foldA es t
  | [], _, _ => rfl
  | e :: r, t, hx => by
    simp only [foldX, foldA]
    have hn' : listed.getD e.i false = true := hx e (by simp)
    rw [if_pos hn']
    exact foldX_all r _ (fun x hm => hx x (by simp [hm]))
theorem Tr.tmps : ∀ {es : List Ent} {t t' : TM} {h h' : AH} {rs rs' : Reads}, Tr P T ρ fl ops es t h rs t' h' rs' → t'.L = foldA es t.L
  | [], _, _, _, _, _, _, tr => by rw [tr.1]; rfl
  | e :: r, _, _, _, _, _, _, tr => by
    obtain ⟨_, _, _, _, h4⟩ := tr
    rw [Tr.tmps (es := r) h4, setTmp_L]
    rfl
theorem Tr.split : ∀ {a b : List Ent} {t t' : TM} {h h' : AH} {rs rs' : Reads}, Tr P T ρ fl ops (a ++ b) t h rs t' h' rs' → ∃ tm hm rm, Tr P T ρ fl ops a t h rs tm hm rm ∧ Tr P T ρ fl ops b tm hm rm t' h' rs'
  | [], b, t, t', h, h', rs, rs', tr => ⟨t, h, rs, ⟨rfl, rfl, rfl⟩, tr⟩
  | e :: r, b, t, t', h, h', rs, rs', tr => by
    obtain ⟨h1, h2, rs1, h3, h4⟩ := tr
    obtain ⟨tm, hm, rm, q1, q2⟩ := Tr.split h4
    exact ⟨tm, hm, rm, ⟨h1, h2, rs1, h3, q1⟩, q2⟩
theorem Tr.join : ∀ {a b : List Ent} {t tm t' : TM} {h hm h' : AH} {rs rm rs' : Reads}, Tr P T ρ fl ops a t h rs tm hm rm → Tr P T ρ fl ops b tm hm rm t' h' rs' → Tr P T ρ fl ops (a ++ b) t h rs t' h' rs'
  | [], b, _, _, _, _, _, _, _, _, _, ha, hb => by
    obtain ⟨rfl, rfl, rfl⟩ := ha
    exact hb
  | e :: r, b, _, _, _, _, _, _, _, _, _, ha, hb => by
    obtain ⟨h1, h2, rs1, h3, h4⟩ := ha
    exact ⟨h1, h2, rs1, h3, Tr.join h4 hb⟩
/-! Between two acts. -/
def Pend (T : TT) (ops : Array Oper) (e : Ent) : Prop := kindOf T e.o = .alloc ∧ wantedA ops e.tmps e.o = some true
theorem rest_step (hT : TT.Sound P T) {e : Ent} {rs rs1 : Reads} (hs : StepR P T ρ fl ops e rs rs1) (hna : actK (kindOf T e.o) = false) :
    ((Pend T ops e ∧ ∃ ab, e.h1 = e.h.push ab) ∨ (¬ Pend T ops e ∧ e.h1 = e.h)) ∧ (∀ x ∈ rs, x ∈ rs1) ∧ (∀ rd, kindOf T e.o = .reads → wantedA ops e.tmps e.o = some true → rdOf e.o e.tmps = some rd → (e.i, rd, e.v) ∈ rs1) := by
  obtain ⟨ho, ⟨hw, hv, hh, hr⟩ | ⟨hw, hr⟩⟩ := hs
  · have hnp : ¬ Pend T ops e := fun hp => by rw [hp.2] at hw; cases hw
    refine ⟨.inr ⟨hnp, hh⟩, ?_, fun rd _ hw2 _ => by rw [hw2] at hw; cases hw⟩
    cases hk : kindOf T e.o with
    | acts => rw [hk] at hna; cases hna
    | _ => rw [hk] at hr; subst hr; exact fun x hx => hx
  · cases hk : kindOf T e.o with
    | acts => rw [hk] at hna; cases hna
    | still =>
      rw [hk] at hr
      obtain ⟨ha, rfl⟩ := hr
      exact ⟨.inr ⟨fun hp => (by have := hp.1; rw [hk] at this; cases this), (still_any hk ha).1⟩, fun x hx => hx, fun rd hh => by cases hh⟩
    | alloc =>
      rw [hk] at hr
      obtain ⟨ha, rfl⟩ := hr
      obtain ⟨mk, ab, _, h2, _⟩ := alloc_any hT hk ha
      exact ⟨.inl ⟨⟨hk, hw⟩, ab, h2⟩, fun x hx => hx, fun rd hh => by cases hh⟩
    | reads =>
      rw [hk] at hr
      obtain ⟨ha, hr⟩ := hr
      have hnp : ¬ Pend T ops e := fun hp => by have := hp.1; rw [hk] at this; cases this
      rcases hr with ⟨rd, h1, rfl⟩ | ⟨h1, h2, rfl⟩
      · refine ⟨.inr ⟨hnp, ?_⟩, fun x hx => by simp [hx], fun rd' _ _ h2 => ?_⟩
        · obtain ⟨ds, op, ty, pos, after, guard⟩ := id e.o
          exact read_same hk ha
        · rw [h1] at h2
          obtain rfl := Option.some.inj h2
          simp
      · exact ⟨.inr ⟨hnp, (read_lit hk ha h1 h2).1⟩, fun x hx => hx, fun rd' _ _ h3 => by rw [h1] at h3; cases h3⟩
end Go.Proofs.YtkgbeihcepociaaDoor.Ex
end
