/- The abstract machine's tasks, held against the real machine's steps: all tasks but the drawn regions. -/
import Derived.Test.YtfchbkmegicfoaaGreatExz
set_option linter.unusedSimpArgs false
set_option linter.unusedVariables false
namespace Go.Proofs.YtfchbkmegicfoaaGreat.Ex
open Go Go.RowKit

variable {P : Program} {T : TT} {S : Sums} {ρ : Nat → Value} {fl : Nat} {μ μ' : Mu} {h : AH} {w w' : World} {rec : Rec}

section code
variable {fr : AFr} {k : List AI} {out : Out} {h' : AH}

/-- What the proof of the drawn regions gives. -/
def DrawOK (P : Program) (T : TT) (ρ : Nat → Value) (fl : Nat) (rec : Rec) : Prop :=
  ∀ (fr : AFr) (id : Nat) (ops : Array Oper) (k : List AI) (h : AH) (out : Out) (h' : AH), fr.todo = .code (.region id ops true) :: k → okD T ops = true → goOn rec fr (.regD ops (orderD T ops) [] :: k) h = some (out, h') → outR P ρ fl fr h h' out

theorem xCode_ok (hT : TT.Sound P T) (hNG : NoNG P) (hrec : RecOK P ρ fl rec) (hdraw : DrawOK P T ρ fl rec) {c : Code} (hfr : fr.todo = .code c :: k) (hx : xCode P T rec fr k h c = some (out, h')) : outR P ρ fl fr h h' out := by
  cases c with
  | ret =>
    simp only [xCode, Option.some.injEq, Prod.mk.injEq] at hx
    obtain ⟨rfl, rfl⟩ := hx
    exact left_ok fun μ w f hr hf => by obtain ⟨l, t1, _⟩ := todo_code hfr hf; exact ⟨l, t1⟩
  | skip =>
    refine goOn_ok hrec hx fun μ w f cs hr hf => ?_
    obtain ⟨l, t1, t2⟩ := todo_code hfr hf
    exact ⟨l, t2, step_lone_go (by simp [stepG, stepG.exec, hf.mode, t1])⟩
  | label n =>
    refine goOn_ok hrec hx fun μ w f cs hr hf => ?_
    obtain ⟨l, t1, t2⟩ := todo_code hfr hf
    exact ⟨l, t2, step_lone_go (by simp [stepG, stepG.exec, hf.mode, t1])⟩
  | seq a b =>
    refine goOn_ok hrec hx fun μ w f cs hr hf => ?_
    obtain ⟨l, t1, t2⟩ := todo_code hfr hf
    exact ⟨.code a :: .code b :: l, ⟨_, _, rfl, rfl, _, _, rfl, rfl, t2⟩, step_lone_go (by simp [stepG, stepG.exec, hf.mode, t1])⟩
  | block id c =>
    refine goOn_ok hrec hx fun μ w f cs hr hf => ?_
    obtain ⟨l, t1, t2⟩ := todo_code hfr hf
    exact ⟨.code c :: .inBlock id :: l, ⟨_, _, rfl, rfl, _, _, rfl, rfl, t2⟩, step_lone_go (by simp [stepG, stepG.exec, hf.mode, t1])⟩
  | loop c =>
    refine goOn_ok hrec hx fun μ w f cs hr hf => ?_
    obtain ⟨l, t1, t2⟩ := todo_code hfr hf
    exact ⟨.code c :: .inLoop c :: l, ⟨_, _, rfl, rfl, _, _, rfl, rfl, t2⟩, step_lone_go (by simp [stepG, stepG.exec, hf.mode, t1])⟩
  | scope c =>
    refine goOn_ok hrec hx fun μ w f cs hr hf => ?_
    obtain ⟨l, t1, t2⟩ := todo_code hfr hf
    exact ⟨.code c :: .inScope c :: l, ⟨_, _, rfl, rfl, _, _, rfl, rfl, t2⟩, step_lone_go (by simp [stepG, stepG.exec, hf.mode, t1])⟩
  | cond c a b =>
    simp only [xCode, xCond] at hx
    split at hx
    case h_2 => cases hx
    rename_i t hc
    refine goOn_ok hrec hx fun μ w f cs hr hf => ?_
    obtain ⟨l, t1, t2⟩ := todo_code hfr hf
    have hv := rel_bool_inv (frame_env hf.u c _ hc)
    refine ⟨.code (if t then a else b) :: l, ⟨_, _, rfl, by cases t <;> rfl, t2⟩, step_lone_go (by simp [stepG, stepG.exec, hf.mode, t1, hv])⟩
  | exit id =>
    simp only [xCode, xExit] at hx
    split at hx
    · rename_i k' hk
      refine goOn_ok hrec hx fun μ w f cs hr hf => ?_
      obtain ⟨l, t1, t2⟩ := todo_code hfr hf
      obtain ⟨l', e1, e2⟩ := exitA_some t2 hk
      exact ⟨l', e2, step_lone_go (by simp [stepG, stepG.exec, hf.mode, t1, e1])⟩
    · rename_i hk
      simp only [Option.some.injEq, Prod.mk.injEq] at hx
      obtain ⟨rfl, rfl⟩ := hx
      exact left_ok fun μ w f hr hf => by obtain ⟨l, t1, t2⟩ := todo_code hfr hf; exact ⟨l, t1, exitA_none t2 hk⟩
  | goto n =>
    simp only [xCode, xGoto] at hx
    split at hx
    · rename_i k' hk
      refine goOn_ok hrec hx fun μ w f cs hr hf => ?_
      obtain ⟨l, t1, t2⟩ := todo_code hfr hf
      obtain ⟨l', e1, e2⟩ := gotoA_some t2 hk
      exact ⟨l', e2, step_lone_go (by simp [stepG, stepG.exec, hf.mode, t1, e1])⟩
    · cases hx
  | rangeFunc f0 params asg body => exact xRange_ok hT hNG hrec hfr hx
  | region id ops draw =>
    simp only [xCode, xRegion] at hx
    cases draw with
    | true =>
      simp only [cond_true] at hx
      cases hok : okD T ops with
      | false => rw [hok] at hx; cases hx
      | true => rw [hok] at hx; exact hdraw fr id ops k h out h' hfr hok hx
    | false =>
      simp only [cond_false] at hx
      refine goOn_ok hrec hx fun μ w f cs hr hf => ?_
      obtain ⟨l, t1, t2⟩ := todo_code hfr hf
      exact ⟨.inRegion ops (List.range ops.size) :: l, ⟨_, _, rfl, rfl, t2⟩, step_lone_go (by simp [stepG, stepG.exec, hf.mode, t1])⟩
  | refuse why => cases hx

theorem xBody_ok (hT : TT.Sound P T) (hNG : NoNG P) (hrec : RecOK P ρ fl rec) (hdraw : DrawOK P T ρ fl rec) (hx : xBody P T rec fr h = some (out, h')) : outR P ρ fl fr h h' out := by
  unfold xBody at hx
  split at hx
  · rename_i hfr
    simp only [Option.some.injEq, Prod.mk.injEq] at hx
    obtain ⟨rfl, rfl⟩ := hx
    exact left_ok fun μ w f hr hf => by
      have := hf.todo
      rw [hfr] at this
      exact this
  · rename_i it k hfr
    cases it with
    | code c => exact xCode_ok hT hNG hrec hdraw hfr hx
    | blk id =>
      refine goOn_ok hrec hx fun μ w f cs hr hf => ?_
      obtain ⟨i, l, t1, t2, t3⟩ := todo_cons hfr hf
      simp only [itemR] at t2
      subst t2
      exact ⟨l, t3, step_lone_go (by simp [stepG, stepG.exec, hf.mode, t1])⟩
    | sc c =>
      refine goOn_ok hrec hx fun μ w f cs hr hf => ?_
      obtain ⟨i, l, t1, t2, t3⟩ := todo_cons hfr hf
      simp only [itemR] at t2
      subst t2
      exact ⟨l, t3, step_lone_go (by simp [stepG, stepG.exec, hf.mode, t1])⟩
    | lp c =>
      refine goOn_ok hrec hx fun μ w f cs hr hf => ?_
      obtain ⟨i, l, t1, t2, t3⟩ := todo_cons hfr hf
      simp only [itemR] at t2
      subst t2
      exact ⟨.code c :: .inLoop c :: l, ⟨_, _, rfl, rfl, _, _, rfl, rfl, t3⟩, step_lone_go (by simp [stepG, stepG.exec, hf.mode, t1])⟩
    | reg ops todo =>
      cases todo with
      | nil =>
        refine goOn_ok hrec hx fun μ w f cs hr hf => ?_
        obtain ⟨i, l, t1, t2, t3⟩ := todo_cons hfr hf
        simp only [itemR] at t2
        subst t2
        exact ⟨l, t3, step_lone_go (by simp [stepG, stepG.exec, hf.mode, t1])⟩
      | cons i r => exact xReg_ok hT hNG hrec hfr hx
    | regD ops todo reads =>
      have nofr : ∀ {μ w f}, FrB P ρ μ w fr f → False := by
        intro μ w f hf
        obtain ⟨i, l, _, t2, _⟩ := todo_cons hfr hf
        exact t2
      exact fun μ w f cs hr hf hc => (nofr hf).elim
    | endRF l => exact xEnd_ok hrec hfr hx
    | beginRound => exact xBegin_ok hrec hfr hx

end code

/-! Calls and endings. -/

def resGet (rt : Array Value) : ResultVar → Sem Value
  | .tmp t => pure (rt.getD t undef)
  | .cell a t => do loadVar t (← asAddr (rt.getD a undef))

theorem results_eq (fn : Func) (rt : Array Value) : results fn rt = (do let vs ← fn.results.mapM (resGet rt); pure (if h : vs.size = 1 then vs[0] else .tuple vs)) := by
  have : (fun x : ResultVar => match x with
    | .tmp t => (pure (rt.getD t undef) : Sem Value)
    | .cell a t => do loadVar t (← asAddr (rt.getD a undef))) = resGet rt := by funext x; cases x <;> rfl
  rw [← this]
  rfl

theorem xResults_ok (hT : TT.Sound P T) {tmps : TM} {rt : Array Value} (hr : HR P ρ fl μ h w) (ht : rels ρ μ w tmps.L rt.toList) : ∀ {l : List ResultVar} {xs : List AV}, resultsA T h tmps l = some xs →
    ∃ vs, (l.mapM (resGet rt)).run P w = .ok vs w ∧ rels ρ μ w xs vs
  | [], xs, hh => by simp only [resultsA, Option.some.injEq] at hh; subst hh; exact ⟨[], rfl, rels_nil⟩
  | .tmp t :: r, xs, hh => by
    simp only [resultsA, Option.map_eq_some_iff] at hh
    obtain ⟨l, h1, rfl⟩ := hh
    obtain ⟨vs, h2, h3⟩ := xResults_ok hT hr ht h1
    refine ⟨rt.getD t undef :: vs, ?_, rels_cons ?_ h3⟩
    · simp [List.mapM_cons, resGet, h2]
    · have := rels_getD t ht
      rw [List.getD_eq_getElem?_getD, TL_at] at this
      simpa using this
  | .cell a t :: r, xs, hh => by
    unfold resultsA at hh
    split at hh
    case h_2 => cases hh
    rename_i b off l hb hl
    simp only [Option.map_eq_some_iff] at hh
    obtain ⟨x, h1, rfl⟩ := hh
    obtain ⟨vs, h2, h3⟩ := xResults_ok hT hr ht hl
    have hv := rels_getD a ht
    rw [List.getD_eq_getElem?_getD, TL_at, hb] at hv
    obtain ⟨r1, base, m1, m2⟩ := rel_ptr_inv hv
    obtain ⟨v', h4, h5⟩ := loadA_sound hT hr m1 h1
    refine ⟨v' :: vs, ?_, rels_cons h5 h3⟩
    have m3 : rt.getD a undef = .pointer (some ⟨r1, base + off, none⟩) := by simpa using m2
    have m4 : (resGet rt (.cell a t)).run P w = .ok v' w := by
      simp only [resGet, Sem.run_bind, m3, asAddr, Sem.run_pure, Result.andThen_ok]
      exact h4
    rw [List.mapM_cons]
    simp [m4, h2]

theorem oneOf_rel {l : List AV} {vs : List Value} (hl : rels ρ μ w l vs) : rel ρ μ w (oneOf l) (if h : vs.toArray.size = 1 then vs.toArray[0] else .tuple vs.toArray) := by
  unfold oneOf
  split
  · obtain ⟨v, vs', rfl, h1, h2⟩ := rels_cons_inv hl
    obtain rfl := rels_nil_inv h2
    exact h1
  · rename_i hne
    have : vs.toArray.size ≠ 1 := fun hh => by
      have hlen := rels_length hl
      simp only [List.size_toArray] at hh
      rw [hh] at hlen
      match l, hlen with
      | [x], _ => exact hne x rfl
    rw [dif_neg this]
    unfold rel
    exact ⟨vs, rfl, hl⟩

theorem stepG_unwind {f : Frame} {cs : List Frame} (hm : f.mode ≠ .run) : stepG P true { frame := f, callers := cs, status := .running, dying := none } w = unwind P true f cs none w := by
  unfold stepG
  cases hq : f.mode with
  | run => exact absurd hq hm
  | returning => simp
  | panicking c => simp

theorem modeR_ne {m : Mode} {x : FrameMode} (hh : modeR ρ μ w m x) : x ≠ .run := by
  cases m with
  | ret => obtain rfl : x = .returning := hh; simp
  | pan c => obtain ⟨c', rfl, _⟩ := hh; simp

theorem step_coll {f : Frame} {cs : List Frame} {r : Nat} {ds : List Deferred} (hm : f.mode ≠ .run) (hd : f.defers = { target := .collected r, args := #[] } :: ds) (hg : w.heap[r]? = some (.deferred (some []))) :
    step P (lone f cs w) = .next (lone { f with defers := ds } cs { w with heap := w.heap.setIfInBounds r (.deferred none) }) := by
  refine step_lone_go ?_
  rw [stepG_unwind hm]
  have ht : (Instr.takeDeferred r).run P w = .ok [] { w with heap := w.heap.setIfInBounds r (.deferred none) } := by
    simp [Instr.takeDeferred, getObj, setObj, Sem.run, hg]
  simp [unwind, hd, ht]

theorem step_dcall {f : Frame} {cs : List Frame} {d : Deferred} {ds : List Deferred} {g : FuncId} {args : Array Value} (hm : f.mode ≠ .run) (hd : f.defers = d :: ds) (ht : ∃ fn c, d.target = .fn fn c) (hr : (invoke d.target d.args).run P w = .ok (.enter g args) w) :
    step P (lone f cs w) = .next (lone (Frame.enter P g args .deferred) ({ f with defers := ds } :: cs) w) := by
  refine step_lone_go ?_
  rw [stepG_unwind hm]
  obtain ⟨fn, c, ht⟩ := ht
  obtain ⟨dt, da⟩ := d
  simp only at ht
  subst ht
  simp [unwind, hd, callDeferred, hr]

/-- The mode of a frame behind a deferred call. -/
def doneA (m : Mode) : End → Mode
  | .ret _ => settleA m
  | .pan c => raisedA m c

theorem xUnwind_ok (hT : TT.Sound P T) (hNG : NoNG P) (hrec : RecOK P ρ fl rec) {fr : AFr} {m : Mode} {out : Out} {h' : AH} (hx : xUnwind P T rec fr m h = some (out, h')) : TaskOK P ρ fl (.unwind fr m) h out h' := by
  unfold xUnwind at hx
  split at hx
  · rename_i hds
    cases m with
    | ret =>
      simp only [xResults] at hx
      split at hx
      case h_2 => cases hx
      rename_i fn hfn
      simp only [Option.map_eq_some_iff, Prod.mk.injEq] at hx
      obtain ⟨l, h1, rfl, rfl⟩ := hx
      refine fun hro μ w f cs hr hu hm hc => ⟨rfl, μ, w, f, cs, Eff.refl hr, .refl P _, ⟨hu.fn, ?_, hu.kind, hm, ?_⟩, csTo.refl hc⟩
      · have := hu.defers
        rw [hds] at this
        exact this
      · obtain ⟨vs, q1, q2⟩ := xResults_ok hT hr hu.tmps h1
        refine ⟨fn, _, hfn, ?_, oneOf_rel q2⟩
        rw [results_eq, Sem.run_bind, Array.mapM_eq_mapM_toList]
        simp [q1]
    | pan c =>
      simp only at hx
      split at hx
      case h_2 => cases hx
      rename_i fn hfn
      simp only [Option.some.injEq, Prod.mk.injEq] at hx
      obtain ⟨rfl, rfl⟩ := hx
      refine fun hro μ w f cs hr hu hm hc => ⟨rfl, μ, w, f, cs, Eff.refl hr, .refl P _, ⟨hu.fn, ?_, hu.kind, ?_⟩, csTo.refl hc⟩
      · have := hu.defers
        rw [hds] at this
        exact this
      · obtain ⟨c', e1, e2⟩ := hm
        exact ⟨c', fn, e1, hfn, e2⟩
  · rename_i b ds hds
    split at hx
    case h_2 => cases hx
    rename_i hb
    have ih := hrec _ _ _ _ hx
    cases out with
    | left j fr' => exact ih.elim
    | raised c fr' => exact ih.elim
    | ended e cm =>
      intro hro μ w f cs hr hu hm hc
      have hd := hu.defers
      rw [hds] at hd
      obtain ⟨d, ds', d1, ⟨r, d2, rfl⟩, d3⟩ := hd
      obtain ⟨_, hlt, o, o1, o2⟩ := hr.obj b r 0 _ d2 hb
      obtain ⟨rfl, _⟩ := o2
      have hst := step_coll (P := P) (cs := cs) (modeR_ne hm) d1 o1
      have hone : One r w { w with heap := w.heap.setIfInBounds r (.deferred none) } := by
        refine ⟨by simp, fun k hk => ?_, fun k cur e fz hk => ?_, ⟨rfl, rfl, rfl⟩⟩
        · show (w.heap.setIfInBounds r (.deferred none))[k]? = _
          rw [Array.getElem?_setIfInBounds, if_neg (Ne.symm hk)]
        · have hne : r ≠ k := fun e' => by subst e'; rw [o1] at hk; cases hk
          exact ⟨cur, e, fz, by show (w.heap.setIfInBounds r (.deferred none))[k]? = _; rw [Array.getElem?_setIfInBounds, if_neg hne]; exact hk, rfl⟩
      have heff : Eff P ρ fl μ h w μ (h.put b .gone) { w with heap := w.heap.setIfInBounds r (.deferred none) } := Eff.upd hr d2 hb rfl hone (o' := .deferred none) (by simp [hlt]) trivial
      have hu2 := hu.mono heff.more heff.grows
      obtain ⟨q0, μ2, w2, f2, cs2, q1, q2, q3, q4⟩ := ih hro μ _ { f with defers := ds' } cs heff.hr ⟨hu2.fn, hu2.tmps, d3.mono heff.more heff.grows, hu2.kind, hu2.round, hu2.rc⟩ (hm.mono heff.more heff.grows) (hc.mono heff.more heff.grows)
      exact ⟨q0, μ2, w2, f2, cs2, heff.trans hr q1, .head hst q2, q3, q4⟩
  · rename_i g args ds hds
    cases hcall : rec (.call g args (some m)) h with
    | none => rw [hcall] at hx; cases hx
    | some p =>
      obtain ⟨out1, h2⟩ := p
      have ih1 := hrec _ _ _ _ hcall
      cases out1 with
      | left j fr' => exact ih1.elim
      | raised c fr' => exact ih1.elim
      | ended e cm =>
        obtain ⟨⟨fn, b, i2, i3⟩, i4⟩ := ih1
        rw [hcall] at hx
        cases cm with
        | none => cases e <;> cases hx
        | some m' =>
          -- the machine behind the deferred call
          have key : ∀ μ w f cs, HR P ρ fl μ h w → FrU P ρ μ w fr f → modeR ρ μ w m f.mode → cmR ρ μ w fr.cm cs → ∃ (μ1 : Mu) (w1 : World) (ds' : List Deferred) (mo : FrameMode), Eff P ρ fl μ h w μ1 h2 w1 ∧ defsR P ρ μ1 w1 ds ds' ∧
              modeR ρ μ1 w1 (doneA m' e) mo ∧ Steps P (lone f cs w) (lone { f with defers := ds', mode := mo } cs w1) := fun μ w f cs hr hu hm hc => by
            have hd := hu.defers
            rw [hds] at hd
            obtain ⟨d, ds', d1, ⟨d2, args', d3, d4⟩, d5⟩ := hd
            have hin := d4 w
            rw [callFunc_run hNG i2 i3] at hin
            have hst := step_dcall (cs := cs) (modeR_ne hm) d1 d2 hin
            obtain ⟨_, μ1, w1, f1, cs1, q1, q2, q3, c, r, mo, q4, q5, q6⟩ := i4 μ w ({ f with defers := ds' } :: cs) args' hr d3 ⟨_, _, rfl, hm⟩
            obtain ⟨rfl, rfl⟩ := List.cons.inj q4
            subst q5
            cases e with
            | ret v =>
              obtain ⟨mo2, r1, r2⟩ := leave_ret_d (c := { f with defers := ds', mode := mo }) (cs := cs) q3 q6
              exact ⟨μ1, w1, ds', mo2, q1, d5.mono q1.more q1.grows, r1, .head hst (q2.trans (.one r2))⟩
            | pan ch =>
              obtain ⟨ch', r1, r2⟩ := leave_pan (c := { f with defers := ds', mode := mo }) (cs := cs) q3
              obtain ⟨mo2, r3, r4⟩ := raise_mode (c := { f with defers := ds', mode := mo }) q6 r1
              rw [r3] at r2
              exact ⟨μ1, w1, ds', mo2, q1, d5.mono q1.more q1.grows, r4, .head hst (q2.trans (.one r2))⟩
          have fin2 : ∀ m2, m2 = (doneA m' e) → rec (.unwind { fr with defers := ds } m2) h2 = some (out, h') → TaskOK P ρ fl (.unwind fr m) h out h' := fun m2 hm2 hx2 => by
            have ih2 := hrec _ _ _ _ hx2
            cases out with
            | left j fr' => exact ih2.elim
            | raised c fr' => exact ih2.elim
            | ended e2 cm2 =>
              intro hro μ w f cs hr hu hm hc
              obtain ⟨μ1, w1, ds', mo, q1, q2, q3, q4⟩ := key μ w f cs hr hu hm hc
              have hu2 := hu.mono q1.more q1.grows
              obtain ⟨r0, μ2, w2, f2, cs2, r1, r2, r3, r4⟩ := ih2 hro μ1 w1 { f with defers := ds', mode := mo } cs q1.hr ⟨hu2.fn, hu2.tmps, q2, hu2.kind, hu2.round, hu2.rc⟩ (hm2 ▸ q3) (hc.mono q1.more q1.grows)
              exact ⟨r0, μ2, w2, f2, cs2, q1.trans hr r1, q4.trans r2, r3, r4⟩
          cases e with
          | ret v => exact fin2 _ rfl hx
          | pan c => exact fin2 _ rfl hx

/-- A function's frame at its beginning. -/
theorem enter_frame {g : FuncId} {fn : Func} {c : Code} (hf : P.funcs[g]? = some fn) (hb : fn.body = some c) {args : List AV} {args' : List Value} (ha : rels ρ μ w args args') (cm : Option Mode) :
    FrB P ρ μ w { fn := g, tmps := TM.ofL args (fn.ntmps - args.length), todo := [.code c], defers := [], cm, roundOf := none } (Frame.enter P g args'.toArray (kindC cm)) := by
  refine ⟨⟨rfl, ?_, rfl, rfl, rfl, fun hh => by cases hh⟩, ?_, rfl⟩
  · have hlen := rels_length ha
    simp only [Frame.enter, hf, Option.map_some, Option.getD_some, Array.toList_append, Array.toList_replicate, List.size_toArray, hlen, ofL_L]
    exact rels_append ha (rels_replicate _ rel_undef)
  · simp only [Frame.enter, hf, Option.bind_some, hb, Option.getD_some]
    exact ⟨_, _, rfl, rfl, rfl⟩

/-- What is known of the functions that are summed up. -/
def SumsOK (P : Program) (ρ : Nat → Value) (fl : Nat) (S : Sums) : Prop := ∀ f g args h v h', S f = some g → g args h = some (v, h') → ∀ μ w args', HR P ρ fl μ h w → rels ρ μ w args args' →
  Calls P f args'.toArray w fun e w' => ∃ μ' v', e = .returned v' ∧ Eff P ρ fl μ h w μ' h' w' ∧ rel ρ μ' w' v v'

theorem xCall_ok (hS : SumsOK P ρ fl S) (hrec : RecOK P ρ fl rec) {g : FuncId} {args : List AV} {cm : Option Mode} {out : Out} {h' : AH} (hx : xCall P S rec g args cm h = some (out, h')) : TaskOK P ρ fl (.call g args cm) h out h' := by
  unfold xCall at hx
  split at hx
  case h_2 => cases hx
  rename_i fn hfn
  split at hx
  case h_2 => cases hx
  rename_i c hb
  cases hs : S g with
  | some s =>
    rw [hs] at hx
    cases cm with
    | some m => cases hx
    | none =>
      simp only [Option.map_eq_some_iff, Prod.mk.injEq] at hx
      obtain ⟨⟨v, h2⟩, h1, rfl, rfl⟩ := hx
      refine ⟨⟨fn, c, hfn, hb⟩, fun μ w cs args' hr ha hc => ⟨rfl, ?_⟩⟩
      obtain ⟨e, w', f', ⟨μ', v', rfl, r1, r2⟩, q2, q3, q4⟩ := hS g s args h v h2 hs h1 μ w args' hr ha cs
      obtain ⟨s1, s2, s3, fn2, s4, s5⟩ := q4
      subst q3
      exact ⟨μ', w', f', cs, r1, q2, ⟨rfl, s2, s3, s1, fn2, v', s4, s5, r2⟩, rfl⟩
  | none =>
    rw [hs] at hx
    change xCall1 rec cm (rec (.body { fn := g, tmps := TM.ofL args (fn.ntmps - args.length), todo := [.code c], defers := [], cm, roundOf := none }) h) = some (out, h') at hx
    generalize hbody : rec (.body { fn := g, tmps := TM.ofL args (fn.ntmps - args.length), todo := [.code c], defers := [], cm, roundOf := none }) h = rb at hx
    cases rb with
    | none => cases hx
    | some p =>
      obtain ⟨out1, h2⟩ := p
      have ih : outR P ρ fl _ h h2 out1 := hrec _ _ _ _ hbody
      -- the body's end
      have fin2 : ∀ (fr2 : AFr) (m : Mode), (∀ μ w cs args', HR P ρ fl μ h w → rels ρ μ w args args' → cmR ρ μ w cm cs → fr2.fn = g ∧ fr2.roundOf = none ∧ fr2.cm.isSome = cm.isSome ∧ ∃ μ1 w1 f1 cs1, Eff P ρ fl μ h w μ1 h2 w1 ∧ Steps P (lone (Frame.enter P g args'.toArray (kindC cm)) cs w) (lone f1 cs1 w1) ∧ FrU P ρ μ1 w1 fr2 f1 ∧ modeR ρ μ1 w1 m f1.mode ∧ csTo ρ μ1 w1 fr2.cm cs cs1) →
          rec (.unwind fr2 m) h2 = some (out, h') → TaskOK P ρ fl (.call g args cm) h out h' := fun fr2 m hgo hx2 => by
        have ih2 := hrec _ _ _ _ hx2
        cases out with
        | left j fr' => exact ih2.elim
        | raised c fr' => exact ih2.elim
        | ended e cm' =>
          refine ⟨⟨fn, c, hfn, hb⟩, fun μ w cs args' hr ha hc => ?_⟩
          obtain ⟨g1, g2, g3, μ1, w1, f1, cs1, q1, q2, q3, q4, q5⟩ := hgo μ w cs args' hr ha hc
          obtain ⟨r0, μ2, w2, f2, cs2, r1, r2, r3, r4⟩ := ih2 g2 μ1 w1 f1 cs1 q1.hr q3 q4 q5.cmR
          have hk : kindC fr2.cm = kindC cm := by cases hq : fr2.cm <;> cases cm <;> simp_all [kindC]
          rw [g1, hk] at r3
          exact ⟨r0.trans g3, μ2, w2, f2, cs2, q1.trans hr r1, q2.trans r2, r3, q5.trans r4 r0⟩
      cases out1 with
      | ended e cm1 => cases hx
      | left j fr2 =>
        have hj : (j = none ∨ j = some .ret) ∧ rec (.unwind fr2 .ret) h2 = some (out, h') := by
          cases j with
          | none => exact ⟨.inl rfl, hx⟩
          | some c => cases c <;> first | exact ⟨.inr rfl, hx⟩ | cases hx
        refine fin2 fr2 .ret (fun μ w cs args' hr ha hc => ?_) hj.2
        obtain ⟨⟨s1, s2, s3⟩, μ1, w1, f1, cs1, q1, q2, q3, q4, q5, q6⟩ := ih μ w _ cs hr (enter_frame hfn hb ha cm) hc
        have hron : f1.roundOf = none := by
          have := q3.round
          rw [s2] at this
          exact this
        refine ⟨s1, s2, s3, μ1, w1, { f1 with mode := .returning }, cs1, q1, q2.trans (.one (step_lone_go ?_)), ⟨q3.fn, q3.tmps, q3.defers, q3.kind, q3.round, q3.rc⟩, rfl, q6⟩
        rcases hj.1 with rfl | rfl
        · have q5 : f1.todo = [] := q5
          simp [stepG, stepG.exec, q4, q5, hron]
        · obtain ⟨k, q5⟩ := q5
          simp [stepG, stepG.exec, q4, q5, hron]
      | raised c2 fr2 =>
        refine fin2 fr2 (.pan c2) (fun μ w cs args' hr ha hc => ?_) hx
        obtain ⟨⟨s1, s2, s3⟩, μ1, w1, f1, cs1, c', q1, q2, q3, q4, q5, q6⟩ := ih μ w _ cs hr (enter_frame hfn hb ha cm) hc
        exact ⟨s1, s2, s3, μ1, w1, f1, cs1, q1, q2, q3, ⟨c', q4, q5⟩, q6⟩

theorem setParams_rels : ∀ {ps : List Tmp} {args : List AV} {args' : List Value} {tmps : TM} {rt : Array Value}, rels ρ μ w tmps.L rt.toList → rels ρ μ w args args' →
    rels ρ μ w (setParams tmps ps args).L ((ps.zip args').foldl (fun (t : Array Value) (p : Tmp × Value) => t.setIfInBounds p.1 p.2) rt).toList
  | [], args, args', tmps, rt, ht, ha => by simpa [setParams] using ht
  | t :: ts, [], args', tmps, rt, ht, ha => by
    rw [rels_nil_inv ha]
    simpa [setParams] using ht
  | t :: ts, a :: as', args', tmps, rt, ht, ha => by
    obtain ⟨v, vs, rfl, h1, h2⟩ := rels_cons_inv ha
    simp only [setParams, List.zip_cons_cons, List.foldl_cons]
    exact setParams_rels (by rw [Array.toList_setIfInBounds, TL_set]; exact rels_set t ht h1) h2

theorem yield_run {rl : Nat} {x : Loop} (hg : w.heap[rl]? = some (.loop x)) {args : List Value} (hl : args.length = x.params.size) :
    (Instr.yield rl args.toArray).run P w = .ok (.round rl x.fn ((x.params.toList.zip args).foldl (fun (t : Array Value) (p : Tmp × Value) => t.setIfInBounds p.1 p.2) x.tmps) x.assign x.body) w := by
  have e1 : (x.params.zip args.toArray).foldl (fun (t : Array Value) (p : Tmp × Value) => t.setIfInBounds p.1 p.2) x.tmps = (x.params.toList.zip args).foldl (fun (t : Array Value) (p : Tmp × Value) => t.setIfInBounds p.1 p.2) x.tmps := by
    rw [← Array.foldl_toList, Array.toList_zip]
  rw [← e1]
  simp [Instr.yield, loop_get hg, hl]

theorem xRound_ok (hrec : RecOK P ρ fl rec) {l : Nat} {args : List AV} {out : Out} {h' : AH} (hx : xRound P rec l args h = some (out, h')) : TaskOK P ρ fl (.round l args) h out h' := by
  unfold xRound at hx
  split at hx
  case h_2 => cases hx
  rename_i lo hl
  split at hx
  case isFalse => cases hx
  rename_i hlen
  generalize hbody : rec (.body { fn := lo.fn, tmps := setParams lo.tmps lo.params args, todo := [.code lo.assign, .beginRound, .code lo.body], defers := [], cm := none, roundOf := some l }) h = rb at hx
  cases rb with
  | none => cases hx
  | some p =>
    obtain ⟨out1, h2⟩ := p
    have ih : outR P ρ fl _ h h2 out1 := hrec _ _ _ _ hbody
    -- the round's beginning
    have key : ∀ μ w (c : Frame) (cs : List Frame) args' rl, HR P ρ fl μ h w → μ l = some (rl, 0) → rels ρ μ w args args' → ∃ g tmps asg body, (Instr.yield rl args'.toArray).run P w = .ok (.round rl g tmps asg body) w ∧
        FrB P ρ μ w { fn := lo.fn, tmps := setParams lo.tmps lo.params args, todo := [.code lo.assign, .beginRound, .code lo.body], defers := [], cm := none, roundOf := some l } (Frame.round rl g tmps asg body .normal) := fun μ w c cs args' rl hr hm ha => by
      obtain ⟨x, g1, g3, g4, g5, g6, g7, g8, g9⟩ := loop_inv hr hm hl
      have hpl : x.params.size = lo.params.length := by rw [← g7, Array.length_toList]
      refine ⟨x.fn, _, x.assign, x.body, yield_run g1 (by rw [rels_length ha, hlen, hpl]), ⟨⟨g5, ?_, rfl, rfl, ⟨rl, hm, rfl⟩, fun _ => rfl⟩, ?_, rfl⟩⟩
      · have := setParams_rels (ps := lo.params) g6 ha
        rw [← g7] at this ⊢
        exact this
      · exact ⟨_, _, by rw [← g8, ← g9]; rfl, rfl, _, _, rfl, rfl, _, _, rfl, rfl, rfl⟩
    cases out1 with
    | ended e cm1 => cases hx
    | left j fr2 =>
      simp only [xRound1] at hx
      split at hx
      case h_2 => cases hx
      rename_i lo2 hl2
      simp only [Option.some.injEq, Prod.mk.injEq] at hx
      obtain ⟨rfl, rfl⟩ := hx
      refine ⟨rfl, fun μ w c cs args' rl hr hm ha => ?_⟩
      obtain ⟨g, tmps, asg, body, k1, k2⟩ := key μ w c cs args' rl hr hm ha
      obtain ⟨⟨s1, s2, s3⟩, μ1, w1, f1, cs1, q1, q2, q3, q4, q5, q6⟩ := ih μ w _ (c :: cs) hr k2 trivial
      have hcm : fr2.cm = none := by cases hq : fr2.cm with | none => rfl | some x => rw [hq] at s3; cases s3
      rw [hcm] at q6
      have q6 : cs1 = c :: cs := q6
      subst q6
      have hm1 := q1.more _ _ hm
      have hron : f1.roundOf = some rl := by
        have := q3.round
        rw [s2] at this
        obtain ⟨k, m1, m2⟩ := this
        rw [hm1] at m1
        rw [m2]
        exact congrArg some (Prod.mk.inj (Option.some.inj m1)).1.symm
      have hkind : f1.kind = .normal := by rw [q3.kind, hcm]; rfl
      obtain ⟨x, g1, g3, g4, g5, g6, g7, g8, g9⟩ := loop_inv q1.hr hm1 hl2
      have heff := loop_eff (lo' := { lo2 with state := if j.isNone then .ready else .done, pending := j }) (x' := { x with state := if j.isNone then .ready else .done, pending := j }) q1.hr hm1 hl2 g1 ⟨rfl, rfl, g5, g6, g7, g8, g9⟩
      have hend : (Instr.endRound rl j).run P w1 = .ok (.bool j.isNone) { w1 with heap := w1.heap.setIfInBounds rl (.loop { x with state := if j.isNone then .ready else .done, pending := j }) } := by
        simp [Instr.endRound, loop_get g1, (setObj_loop (P := P) g1 _).2.2]
      refine ⟨g, tmps, asg, body, k1, μ1, _, q1.trans hr heff, .bool j.isNone, rel_lit rfl, q2.trans (.one (step_lone_go ?_))⟩
      cases j with
      | none =>
        have q5 : f1.todo = [] := q5
        simp [stepG, stepG.exec, q4, q5, hron, hend, doReturn, hkind]
      | some code =>
        cases code with
        | ret =>
          obtain ⟨k, q5⟩ := q5
          simp [stepG, stepG.exec, q4, q5, hron, hend, doReturn, hkind]
        | exit id =>
          obtain ⟨k, q5, q7⟩ := q5
          simp [stepG, stepG.exec, q4, q5, q7, hron, hend, doReturn, hkind]
        | _ => exact q5.elim
    | raised ch fr2 =>
      simp only [xRound1] at hx
      split at hx
      case isFalse => cases hx
      rename_i hde
      simp only [Option.some.injEq, Prod.mk.injEq] at hx
      obtain ⟨rfl, rfl⟩ := hx
      simp only [Bool.and_eq_true] at hde
      refine ⟨rfl, fun μ w c cs args' rl hr hm ha => ?_⟩
      obtain ⟨g, tmps, asg, body, k1, k2⟩ := key μ w c cs args' rl hr hm ha
      obtain ⟨⟨s1, s2, s3⟩, μ1, w1, f1, cs1, c', q1, q2, q3, q4, q5, q6⟩ := ih μ w _ (c :: cs) hr k2 trivial
      have hcm : fr2.cm = none := by cases hq : fr2.cm with | none => rfl | some x => rw [hq] at s3; cases s3
      rw [hcm] at q6
      have q6 : cs1 = c :: cs := q6
      subst q6
      have hdf : f1.defers = [] := by
        have := q3.defers
        have he : fr2.defers = [] := by simpa using hde.1
        rw [he] at this
        exact this
      obtain ⟨fn, hfn⟩ := Option.isSome_iff_exists.1 hde.2
      have hfn2 : P.funcs[f1.fn]? = some fn := by rw [q3.fn]; exact hfn
      exact ⟨g, tmps, asg, body, k1, μ1, w1, q1, c', q5, q2.trans (.one (step_lone_go (by simp [stepG, unwind, Frame.catches, q4, hdf, hfn2])))⟩

theorem xStep_ok (hT : TT.Sound P T) (hNG : NoNG P) (hS : SumsOK P ρ fl S) (hrec : RecOK P ρ fl rec) (hdraw : DrawOK P T ρ fl rec) : RecOK P ρ fl (xStep P T S rec) := by
  intro t h out h' hx
  cases t with
  | call g args cm => exact xCall_ok hS hrec hx
  | body fr => exact xBody_ok hT hNG hrec hdraw hx
  | unwind fr m => exact xUnwind_ok hT hNG hrec hx
  | round l args => exact xRound_ok hrec hx

end Go.Proofs.YtfchbkmegicfoaaGreat.Ex
