/- The abstract machine's tasks, held against the real machine's steps: code, loops over functions, calls, endings. -/
import Derived.Test.YtfchbkmegicfoaaGreatExy
set_option linter.unusedSimpArgs false
set_option linter.unusedVariables false
namespace Go.Proofs.YtfchbkmegicfoaaGreat.Ex
open Go Go.RowKit

variable {P : Program} {T : TT} {S : Sums} {ρ : Nat → Value} {fl : Nat} {μ μ' : Mu} {h : AH} {w w' : World} {rec : Rec}

theorem eval_with (f : Frame) (a : List Item) (b : List Deferred) : Frame.eval { f with todo := a, defers := b } = f.eval := by
  funext x
  cases x <;> rfl
theorem eval_const (f : Frame) (v : Value) : f.eval (.const v) = v := rfl

theorem apply_enter {F : Frame} {cs : List Frame} {s : Sem Next} {W W' : World} {g : FuncId} {args : Array Value} (hr : s.run P W = .ok (.enter g args) W') (hk : ∀ d b c e k, F.todo ≠ .call d b c e :: k) :
    (stepG.apply P true F cs none s W).bare = .go { frame := Frame.enter P g args .normal, callers := F :: cs, status := .running, dying := none } W' := by
  simp [stepG.apply, hr]
  split
  · rename_i heq; exact absurd heq (hk _ _ _ _ _)
  · rfl

section code
variable {fr : AFr} {k : List AI} {out : Out} {h' : AH}

theorem todo_code {c : Code} (hfr : fr.todo = .code c :: k) {f : Frame} (hf : FrB P ρ μ w fr f) : ∃ l, f.todo = .code c :: l ∧ itemsR μ k l := by
  have := hf.todo
  rw [hfr] at this
  obtain ⟨it, l, h1, h2, h3⟩ := this
  simp only [itemR] at h2
  subst h2
  exact ⟨l, h1, h3⟩

/-- A step to other items, the frame else as it was. -/
theorem goOn_ok (hrec : RecOK P ρ fl rec) {k1 : List AI} (hx : goOn rec fr k1 h = some (out, h'))
    (hstep : ∀ μ w f cs, HR P ρ fl μ h w → FrB P ρ μ w fr f → ∃ b, itemsR μ k1 b ∧ step P (lone f cs w) = .next (lone { f with todo := b } cs w)) : outR P ρ fl fr h h' out :=
  outR.go hstep (hrec _ _ _ _ hx)

theorem left_ok {j : Option Code} (hl : ∀ μ w f, HR P ρ fl μ h w → FrB P ρ μ w fr f → leftAt j f.todo) : outR P ρ fl fr h h (.left j fr) :=
  fun μ w f cs hr hf hc => ⟨Same.refl fr, μ, w, f, cs, Eff.refl hr, .refl P _, hf.u, hf.mode, hl μ w f hr hf, csTo.refl hc⟩

/-! Loops over functions. -/

theorem xRange_ok (hT : TT.Sound P T) (hNG : NoNG P) (hrec : RecOK P ρ fl rec) {f0 : Operand} {params : Array Tmp} {asg body : Code} (hfr : fr.todo = .code (.rangeFunc f0 params asg body) :: k)
    (hx : xRange P rec fr k h f0 params asg body = some (out, h')) : outR P ρ fl fr h h' out := by
  unfold xRange at hx
  split at hx
  case h_2 => cases hx
  rename_i fv hro hfv
  split at hx
  case h_2 => cases hx
  rename_i g args hca
  generalize hA : (h.push AB.defd).push (AB.loop { state := .ready, pending := none, fn := fr.fn, tmps := fr.tmps, params := params.toList, assign := asg, body }) = hh at hx
  cases hcall : rec (.call g args none) hh with
  | none => rw [hcall] at hx; cases hx
  | some p =>
    obtain ⟨out1, h2⟩ := p
    cases out1 with
    | left j fr' => have := hrec _ _ _ _ hcall; exact this.elim
    | raised c fr' => have := hrec _ _ _ _ hcall; exact this.elim
    | ended e cm =>
      rw [hcall] at hx
      -- the real machine, up to the callee's end
      have key : ∀ μ w f cs, HR P ρ fl μ h w → FrB P ρ μ w fr f → ∃ (μ1 : Mu) (w1 : World) (l : List Item) (rl : Nat) (rd : Deferred), Eff P ρ fl μ h w μ1 h2 w1 ∧ itemsR μ1 k l ∧ μ1 (h.n + 1) = some (rl, 0) ∧ defR P ρ μ1 w1 (.coll h.n) rd ∧
          roundEnd P ρ μ1 w1 (lone f cs w) { f with todo := .inRangeFunc rl :: l, defers := rd :: f.defers } cs e := fun μ w f cs hr hf => by
        obtain ⟨l, t1, t2⟩ := todo_code hfr hf
        have e1 := Eff.alloc hr (ab := .defd) (o := .deferred (some [])) ⟨rfl, rfl⟩
        have e2 := Eff.alloc e1.hr (ab := .loop { state := .ready, pending := none, fn := fr.fn, tmps := fr.tmps, params := params.toList, assign := asg, body }) (o := .loop { state := .ready, pending := none, fn := f.fn, tmps := f.tmps, params, assign := asg, body, defers := w.heap.size })
          ⟨_, rfl, rfl, rfl, rfl, hf.u.fn, rels.mono e1.more e1.grows _ _ hf.u.tmps, rfl, rfl, rfl⟩
        have e3 := e1.trans hr e2
        have hlen : (h.push AB.defd).n = h.n + 1 := rfl
        rw [hA] at e3
        have hsz : (w.alloc (.deferred (some []))).heap.size = w.heap.size + 1 := by simp
        rw [hlen, hsz] at e3
        have hl0 := (Eff.alloc hr (ab := .defd) (o := .deferred (some [])) ⟨rfl, rfl⟩).more
        have hml : (up (up μ h.n (w.heap.size, 0)) (h.n + 1) (w.heap.size + 1, 0)) (h.n + 1) = some (w.heap.size + 1, 0) := up_same _ _ _
        have hmd : (up (up μ h.n (w.heap.size, 0)) (h.n + 1) (w.heap.size + 1, 0)) h.n = some (w.heap.size, 0) := by rw [up_ne (by omega), up_same]
        obtain ⟨d, d1, d2, args', d3, d4⟩ := callA_sound (rel.mono e3.more e3.grows _ _ (frame_env hf.u f0 _ hfv))
          (rels_cons (show rel ρ (up (up μ h.n (w.heap.size, 0)) (h.n + 1) (w.heap.size + 1, 0)) _ (.fn (.yield (h.n + 1)) [] []) (.func (.yield (w.heap.size + 1)) #[] #[]) by
            unfold rel
            exact ⟨.yield (w.heap.size + 1), [], [], rfl, ⟨_, hml, rfl⟩, rels_nil, rels_nil⟩) rels_nil) hca
        obtain ⟨s1, μ1, w1, s2, s3⟩ := call_back hNG hrec hcall e3.hr d3 { f with todo := .inRangeFunc (w.heap.size + 1) :: l, defers := { target := .collected w.heap.size, args := #[] } :: f.defers } cs
        refine ⟨μ1, w1, l, w.heap.size + 1, { target := .collected w.heap.size, args := #[] }, e3.trans hr s2, t2.mono (e3.more.trans s2.more), s2.more _ _ hml, ⟨w.heap.size, s2.more _ _ hmd, rfl⟩, s3.of_steps (.one (step_lone_go ?_))⟩
        have hron : f.roundOf = none := by
          have := hf.u.round
          rw [hro] at this
          exact this
        have hin := d4 ((w.alloc (.deferred (some []))).alloc (.loop { state := .ready, pending := none, fn := f.fn, tmps := f.tmps, params, assign := asg, body, defers := w.heap.size }))
        rw [s1] at hin
        have hof := d1 ((w.alloc (.deferred (some []))).alloc (.loop { state := .ready, pending := none, fn := f.fn, tmps := f.tmps, params, assign := asg, body, defers := w.heap.size }))
        have hst : (stepG P true { frame := f, callers := cs, status := .running, dying := none } w).bare = (stepG.apply P true { f with todo := .inRangeFunc (w.heap.size + 1) :: l, defers := { target := .collected w.heap.size, args := #[] } :: f.defers } cs none
            (do let d ← resolve (Frame.eval { f with todo := .inRangeFunc (w.heap.size + 1) :: l, defers := { target := .collected w.heap.size, args := #[] } :: f.defers }) { callee := .value f0, args := #[.const (.func (.yield (w.heap.size + 1)) #[] #[])], argTypes := #[] } 0; invoke d.target d.args)
            ((w.alloc (.deferred (some []))).alloc (.loop { state := .ready, pending := none, fn := f.fn, tmps := f.tmps, params, assign := asg, body, defers := w.heap.size }))).bare := by
          simp [stepG, stepG.exec, hf.mode, t1, Instr.enterLoop, hron]
        rw [hst]
        refine apply_enter ?_ (by simp)
        rw [eval_with]
        simp [resolve, eval_const, hof, hin]
      cases e with
      | ret v =>
        simp only [xRange1] at hx
        refine outR.pre (fr1 := { fr with todo := .endRF (h.n + 1) :: k, defers := .coll h.n :: fr.defers }) ⟨rfl, rfl, rfl⟩ (fun μ w f cs hr hf hc => ?_) (hrec _ _ _ _ hx)
        obtain ⟨μ1, w1, l, rl, rd, q1, q2, q3, q4, v', q5, q6⟩ := key μ w f cs hr hf
        have hu := hf.u.mono q1.more q1.grows
        refine ⟨μ1, w1, _, cs, q1, q6, ⟨⟨hu.fn, hu.tmps, ⟨rd, _, rfl, q4, hu.defers⟩, hu.kind, hu.round, hu.rc⟩, ⟨_, l, rfl, ⟨rl, q3, rfl⟩, q2⟩, hf.mode⟩, csTo.refl (hc.mono q1.more q1.grows)⟩
      | pan c =>
        simp only [xRange1, Option.some.injEq, Prod.mk.injEq] at hx
        obtain ⟨rfl, rfl⟩ := hx
        refine fun μ w f cs hr hf hc => ⟨⟨rfl, rfl, rfl⟩, ?_⟩
        obtain ⟨μ1, w1, l, rl, rd, q1, q2, q3, q4, ch', q5, q6⟩ := key μ w f cs hr hf
        have q7 := raise_run (c := { f with todo := .inRangeFunc rl :: l, defers := rd :: f.defers }) (ch' := ch') hf.mode
        rw [q7] at q6
        have hu := hf.u.mono q1.more q1.grows
        exact ⟨μ1, w1, _, cs, ch', q1, q6, ⟨hu.fn, hu.tmps, ⟨rd, _, rfl, q4, hu.defers⟩, hu.kind, hu.round, hu.rc⟩, rfl, q5, csTo.refl (hc.mono q1.more q1.grows)⟩

theorem todo_cons {a : AI} (hfr : fr.todo = a :: k) {f : Frame} (hf : FrB P ρ μ w fr f) : ∃ i l, f.todo = i :: l ∧ itemR μ a i ∧ itemsR μ k l := by
  have := hf.todo
  rw [hfr] at this
  exact this

theorem loop_inv {l rl : Nat} {lo : ALoop} (hr : HR P ρ fl μ h w) (hm : μ l = some (rl, 0)) (hl : h.at l = some (.loop lo)) : ∃ x, w.heap[rl]? = some (.loop x) ∧ loopRel ρ μ w lo x := by
  obtain ⟨_, _, o, h1, h2⟩ := hr.obj l rl 0 _ hm hl
  obtain ⟨x, rfl, _, h3⟩ := h2
  exact ⟨x, h1, h3⟩

theorem setObj_loop {rl : Nat} {x : Loop} (hg : w.heap[rl]? = some (.loop x)) (o' : Obj) : One rl w { w with heap := w.heap.setIfInBounds rl o' } ∧ (w.heap.setIfInBounds rl o')[rl]? = some o' ∧ (setObj rl o').run P w = .ok () { w with heap := w.heap.setIfInBounds rl o' } := by
  have hlt := lt_in hg
  refine ⟨⟨by simp, fun k hk => ?_, fun k cur e fz hk => ?_, ⟨rfl, rfl, rfl⟩⟩, by simp [hlt], by simp [setObj, Sem.run, hg]⟩
  · show (w.heap.setIfInBounds rl o')[k]? = _
    rw [Array.getElem?_setIfInBounds, if_neg (Ne.symm hk)]
  · have hne : rl ≠ k := fun e' => by subst e'; rw [hg] at hk; cases hk
    exact ⟨cur, e, fz, by show (w.heap.setIfInBounds rl o')[k]? = _; rw [Array.getElem?_setIfInBounds, if_neg hne]; exact hk, rfl⟩

theorem loop_get {rl : Nat} {x : Loop} (hg : w.heap[rl]? = some (.loop x)) : (Instr.getLoop rl).run P w = .ok x w := by simp [Instr.getLoop, getObj, Sem.run, hg]

/-- A loop's object becomes another one. -/
theorem loop_eff {l rl : Nat} {lo lo' : ALoop} {x x' : Loop} (hr : HR P ρ fl μ h w) (hm : μ l = some (rl, 0)) (hl : h.at l = some (.loop lo)) (hg : w.heap[rl]? = some (.loop x)) (hx : loopRel ρ μ w lo' x') :
    Eff P ρ fl μ h w μ (h.put l (.loop lo')) { w with heap := w.heap.setIfInBounds rl (.loop x') } := by
  obtain ⟨h1, h2, _⟩ := setObj_loop (P := default) hg (.loop x')
  obtain ⟨g1, g2, g3, g4, g5, g6, g7⟩ := hx
  exact Eff.upd hr hm hl rfl h1 h2 ⟨x', rfl, rfl, g1, g2, g3, rels.mono (More.refl μ) h1.grows _ _ g4, g5, g6, g7⟩

theorem xBegin_ok (hrec : RecOK P ρ fl rec) (hfr : fr.todo = .beginRound :: k) (hx : xBegin rec fr k h = some (out, h')) : outR P ρ fl fr h h' out := by
  unfold xBegin at hx
  split at hx
  case h_2 => cases hx
  rename_i l hro
  split at hx
  case h_2 => cases hx
  rename_i lo hl
  split at hx
  case h_2 => cases hx
  rename_i hst
  refine outR.pre (fr1 := { fr with todo := k }) ⟨rfl, rfl, rfl⟩ (fun μ w f cs hr hf hc => ?_) (hrec _ _ _ _ hx)
  obtain ⟨i, l2, t1, t2, t3⟩ := todo_cons hfr hf
  simp only [itemR] at t2
  subst t2
  have hrd := hf.u.round
  rw [hro] at hrd
  obtain ⟨rl, hm, hron⟩ := hrd
  obtain ⟨x, g1, g2⟩ := loop_inv hr hm hl
  obtain ⟨g3, g4, g5, g6, g7, g8, g9⟩ := g2
  have he := loop_eff (lo' := { lo with state := .busy }) (x' := { x with state := .busy }) hr hm hl g1 ⟨rfl, g4, g5, g6, g7, g8, g9⟩
  have hu := hf.u.mono he.more he.grows
  have hxs : x.state = .ready := g3.trans hst
  refine ⟨μ, _, { f with todo := l2 }, cs, he, .one (step_lone_go ?_), ⟨⟨hu.fn, hu.tmps, hu.defers, hu.kind, hu.round, hu.rc⟩, t3, hf.mode⟩, csTo.refl (hc.mono he.more he.grows)⟩
  simp [stepG, stepG.exec, hf.mode, t1, hron, stepG.apply, Instr.beginRound, loop_get g1, (setObj_loop (P := P) g1 _).2.2, hxs, Frame.finish]

theorem xEnd_ok (hrec : RecOK P ρ fl rec) {l : Nat} (hfr : fr.todo = .endRF l :: k) (hx : xEnd rec fr l k h = some (out, h')) : outR P ρ fl fr h h' out := by
  unfold xEnd at hx
  split at hx
  case h_2 => cases hx
  rename_i lo hl
  split at hx
  case h_1 => cases hx
  rename_i hst
  refine outR.pre (fr1 := { fr with todo := (lo.pending.map AI.code).toList ++ k }) ⟨rfl, rfl, rfl⟩ (fun μ w f cs hr hf hc => ?_) (hrec _ _ _ _ hx)
  obtain ⟨i, l2, t1, ⟨rl, hm, t2⟩, t3⟩ := todo_cons hfr hf
  subst t2
  obtain ⟨x, g1, g2⟩ := loop_inv hr hm hl
  obtain ⟨g3, g4, g5, g6, g7, g8, g9⟩ := g2
  have he := loop_eff (lo' := { lo with state := .exhausted }) (x' := { x with state := .exhausted }) hr hm hl g1 ⟨rfl, g4, g5, g6, g7, g8, g9⟩
  have hu := hf.u.mono he.more he.grows
  have hxs : (x.state == LoopState.busy) = false := by
    rw [g3]
    cases hq : lo.state <;> first | rfl | (exact absurd hq (by intro hh; exact hst (by first | exact hh | rfl)))
  refine ⟨μ, _, { f with todo := (x.pending.map Item.code).toList ++ l2 }, cs, he, .one (step_lone_go ?_), ⟨⟨hu.fn, hu.tmps, hu.defers, hu.kind, hu.round, hu.rc⟩, ?_, hf.mode⟩, csTo.refl (hc.mono he.more he.grows)⟩
  · have hend : (Instr.endLoop rl).run P w = .ok x.pending { w with heap := w.heap.setIfInBounds rl (.loop { x with state := .exhausted }) } := by
      unfold Instr.endLoop
      rw [Sem.run_bind, loop_get g1]
      simp only [Result.andThen_ok, hxs]
      rw [if_neg (by simp), Sem.run_bind]
      simp [(setObj_loop (P := P) g1 _).2.2]
    simp [stepG, stepG.exec, hf.mode, t1, hend]
  · show itemsR μ ((lo.pending.map AI.code).toList ++ k) _
    rw [g4]
    cases lo.pending with
    | none => exact t3
    | some c => exact ⟨_, l2, rfl, rfl, t3⟩

end code

end Go.Proofs.YtfchbkmegicfoaaGreat.Ex
