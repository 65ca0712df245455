/- The abstract machine's tasks, held against the real machine's steps: operations, calls, rounds, endings. -/
import Derived.Test.YtfchbkmegicfoaaGreatExx
set_option linter.unusedSimpArgs false
set_option linter.unusedVariables false
namespace Go.Proofs.YtfchbkmegicfoaaGreat.Ex
open Go Go.RowKit

variable {P : Program} {T : TT} {S : Sums} {ρ : Nat → Value} {fl : Nat} {μ μ' : Mu} {h : AH} {w w' : World} {rec : Rec}

theorem roundEnd.of_steps {m m1 : Machine} {c : Frame} {cs : List Frame} {e : End} (hs : Steps P m m1) (hh : roundEnd P ρ μ w m1 c cs e) : roundEnd P ρ μ w m c cs e := by
  cases e with
  | ret v => obtain ⟨v', h1, h2⟩ := hh; exact ⟨v', h1, hs.trans h2⟩
  | pan ch => obtain ⟨ch', h1, h2⟩ := hh; exact ⟨ch', h1, hs.trans h2⟩

/-- A call by an operation: the callee has come back. -/
theorem call_back (hNG : NoNG P) (hrec : RecOK P ρ fl rec) {g : FuncId} {args : List AV} {e : End} {cm : Option Mode} {h1 : AH} (hc : rec (.call g args none) h = some (.ended e cm, h1))
    {μ : Mu} {w : World} (hr : HR P ρ fl μ h w) {args' : List Value} (ha : rels ρ μ w args args') (c : Frame) (cs : List Frame) :
    (callFunc g args'.toArray).run P w = .ok (.enter g args'.toArray) w ∧ ∃ μ1 w1, Eff P ρ fl μ h w μ1 h1 w1 ∧ roundEnd P ρ μ1 w1 (lone (Frame.enter P g args'.toArray .normal) (c :: cs) w) c cs e := by
  obtain ⟨⟨fn, b, h3, h4⟩, h5⟩ := hrec _ _ _ _ hc
  refine ⟨callFunc_run hNG h3 h4 _ w, ?_⟩
  obtain ⟨h2, μ1, w1, f1, cs1, q1, q2, q3, q4⟩ := h5 μ w (c :: cs) args' hr ha trivial
  cases cm with
  | some m => cases h2
  | none =>
    have q4 : cs1 = c :: cs := q4
    subst q4
    refine ⟨μ1, w1, q1, ?_⟩
    cases e with
    | ret v =>
      obtain ⟨v', s1, s2⟩ := leave_ret_n q3 (c := c) (cs := cs)
      exact ⟨v', s1, q2.trans (.one s2)⟩
    | pan ch =>
      obtain ⟨ch', s1, s2⟩ := leave_pan q3 (c := c) (cs := cs)
      exact ⟨ch', s1, q2.trans (.one s2)⟩

section op
variable {fr : AFr} {ops : Array Oper} {i : Nat} {r : List Nat} {k : List AI} {o : Oper} {out : Out} {h' : AH}

theorem todo_reg (hfr : fr.todo = .reg ops (i :: r) :: k) {f : Frame} (hf : FrB P ρ μ w fr f) : ∃ l, f.todo = .inRegion ops (i :: r) :: l ∧ itemsR μ k l := by
  have := hf.todo
  rw [hfr] at this
  obtain ⟨it, l, h1, h2, h3⟩ := this
  simp only [itemR] at h2
  subst h2
  exact ⟨l, h1, h3⟩

theorem todo_mono {l : List Item} (hm : More μ μ') (hk : itemsR μ k l) : itemsR μ' k l := hk.mono hm

/-- Behind a call by an operation. -/
theorem called_ok (hrec : RecOK P ρ fl rec) (hfr : fr.todo = .reg ops (i :: r) :: k) (ho : ops[i]? = some o) {e : End} {cm : Option Mode} {h2 : AH} (hx : xCalled rec fr o (.reg ops r) k (some (.ended e cm, h2)) = some (out, h'))
    (hgo : ∀ μ w f cs, HR P ρ fl μ h w → FrB P ρ μ w fr f → ∃ μ1 w1, Eff P ρ fl μ h w μ1 h2 w1 ∧ roundEnd P ρ μ1 w1 (lone f cs w) f cs e) : outR P ρ fl fr h h' out := by
  cases e with
  | ret v =>
    simp only [xCalled, fin] at hx
    refine outR.pre (fr1 := { fr with tmps := setTmp fr.tmps o.dst v, todo := .reg ops r :: k }) ⟨rfl, rfl, rfl⟩ (fun μ w f cs hr hf hc => ?_) (hrec _ _ _ _ hx)
    obtain ⟨μ1, w1, q1, v', q2, q3⟩ := hgo μ w f cs hr hf
    obtain ⟨l, t1, t2⟩ := todo_reg hfr hf
    exact ⟨μ1, w1, _, cs, q1, q3, FrB.fin (hf.u.mono q1.more q1.grows) hf.mode t1 (t2.mono q1.more) ho q2, csTo.refl (hc.mono q1.more q1.grows)⟩
  | pan c =>
    simp only [xCalled, Option.some.injEq, Prod.mk.injEq] at hx
    obtain ⟨rfl, rfl⟩ := hx
    refine fun μ w f cs hr hf hc => ⟨Same.refl fr, ?_⟩
    obtain ⟨μ1, w1, q1, ch', q2, q3⟩ := hgo μ w f cs hr hf
    rw [raise_run hf.mode] at q3
    have hu := hf.u.mono q1.more q1.grows
    exact ⟨μ1, w1, _, cs, ch', q1, q3, ⟨hu.fn, hu.tmps, hu.defers, hu.kind, hu.round, hu.rc⟩, rfl, q2, csTo.refl (hc.mono q1.more q1.grows)⟩

theorem aop_defer {tmps : TM} {n : AN} {c : Call} (ho : o.op = .defer c) (ha : aop P T o tmps h = some (n, h')) : ∃ g a, n = .defer g a := by
  unfold aop at ha
  rw [ho] at ha
  simp only at ha
  unfold aDefer at ha
  split at ha
  case h_2 => cases ha
  split at ha
  case h_2 => cases ha
  split at ha
  case h_2 => cases ha
  simp only [Option.some.injEq, Prod.mk.injEq] at ha
  exact ⟨_, _, ha.1.symm⟩

theorem not_defer {tmps : TM} {n : AN} (ha : aop P T o tmps h = some (n, h')) (hn : ∀ g a, n ≠ .defer g a) : ∀ c, o.op ≠ .defer c := fun c hc => by
  obtain ⟨g, a, rfl⟩ := aop_defer hc ha
  exact hn g a rfl

theorem tryRecover_ok {cm : Option Mode} {f : Frame} {cs : List Frame} (hk : f.kind = kindC cm) (hc : cmR ρ μ w cm cs) :
    (tryRecover f cs = none ∧ recoverA cm = (.lit .nilIface, cm)) ∨ ∃ v cs', tryRecover f cs = some (v, cs') ∧ rel ρ μ w (recoverA cm).1 v ∧ csTo ρ μ w (recoverA cm).2 cs cs' := by
  cases cm with
  | none => exact .inl ⟨by simp only [kindC] at hk; simp [tryRecover, hk], rfl⟩
  | some m =>
    obtain ⟨c, r, rfl, hm⟩ := hc
    simp only [kindC] at hk
    cases m with
    | ret =>
      have hm : c.mode = .returning := hm
      exact .inl ⟨by simp [tryRecover, hk, hm], rfl⟩
    | pan ch =>
      obtain ⟨c', e1, e2⟩ := hm
      cases ch with
      | nil =>
        obtain rfl : c' = [] := e2
        exact .inl ⟨by simp [tryRecover, hk, e1], rfl⟩
      | cons p rest =>
        obtain ⟨a, b⟩ := p
        obtain ⟨u, l', rfl, e3, e4⟩ := e2
        cases b with
        | true => exact .inl ⟨by simp [tryRecover, hk, e1], rfl⟩
        | false => exact .inr ⟨u, _, by simp [tryRecover, hk, e1], e3, c, r, _, rfl, rfl, _, rfl, u, l', rfl, e3, e4⟩

theorem recoverA_some (cm : Option Mode) : (recoverA cm).2.isSome = cm.isSome := by
  unfold recoverA
  split <;> rfl

theorem xOp_ok (hT : TT.Sound P T) (hNG : NoNG P) (hrec : RecOK P ρ fl rec) (hfr : fr.todo = .reg ops (i :: r) :: k) (ho : ops[i]? = some o) (hwant : wantedA ops fr.tmps o = some true)
    (hx : xOp rec fr o (.reg ops r) k (aop P T o fr.tmps h) = some (out, h')) : outR P ρ fl fr h h' out := by
  have hopsound : ∀ {n : AN} {h1 : AH}, aop P T o fr.tmps h = some (n, h1) → ∀ {μ w f}, HR P ρ fl μ h w → FrB P ρ μ w fr f → OpOK P ρ fl μ h w ((execOp f.eval o).run P w) n h1 := by
    intro n h1 ha μ w f hr hf
    exact aop_sound hT hr (frame_env hf.u) ha
  have hwt : ∀ {μ w f}, FrB P ρ μ w fr f → Region.wanted o (yielded ops f.tmps) = true := by
    intro μ w f hf
    exact wantedA_sound hf.u.tmps hwant
  cases har : aop P T o fr.tmps h with
  | none => rw [har] at hx; cases hx
  | some p =>
    obtain ⟨n, h1⟩ := p
    rw [har] at hx
    cases n with
    | val a =>
      simp only [xOp, fin] at hx
      refine outR.pre (fr1 := { fr with tmps := setTmp fr.tmps o.dst a, todo := .reg ops r :: k }) ⟨rfl, rfl, rfl⟩ (fun μ w f cs hr hf hc => ?_) (hrec _ _ _ _ hx)
      obtain ⟨l, t1, t2⟩ := todo_reg hfr hf
      obtain ⟨μ1, w1, v', q1, q2, q3⟩ := hopsound har hr hf
      exact ⟨μ1, w1, _, cs, q2, .one (step_value hf.mode t1 ho (hwt hf) (.inr (not_defer har (fun _ _ => by simp))) q1), FrB.fin (hf.u.mono q2.more q2.grows) hf.mode t1 (t2.mono q2.more) ho q3, csTo.refl (hc.mono q2.more q2.grows)⟩
    | enter g args =>
      simp only [xOp] at hx
      cases hcall : rec (.call g args none) h1 with
      | none => rw [hcall] at hx; cases hx
      | some p =>
        obtain ⟨out1, h2⟩ := p
        cases out1 with
        | left j fr' => have := hrec _ _ _ _ hcall; exact this.elim
        | raised c fr' => have := hrec _ _ _ _ hcall; exact this.elim
        | ended e cm =>
          rw [hcall] at hx
          refine called_ok hrec hfr ho hx (fun μ w f cs hr hf => ?_)
          obtain ⟨l, t1, t2⟩ := todo_reg hfr hf
          obtain ⟨rfl, args', q1, q2⟩ := hopsound har hr hf
          obtain ⟨s1, μ1, w1, s2, s3⟩ := call_back hNG hrec hcall hr q1 f cs
          rw [s1] at q2
          exact ⟨μ1, w1, s2, s3.of_steps (.one (step_enter hf.mode t1 ho (hwt hf) (.inr (not_defer har (fun _ _ => by simp))) q2))⟩
    | round l0 args =>
      simp only [xOp] at hx
      cases hcall : rec (.round l0 args) h1 with
      | none => rw [hcall] at hx; cases hx
      | some p =>
        obtain ⟨out1, h2⟩ := p
        cases out1 with
        | left j fr' => have := hrec _ _ _ _ hcall; exact this.elim
        | raised c fr' => have := hrec _ _ _ _ hcall; exact this.elim
        | ended e cm =>
          rw [hcall] at hx
          refine called_ok hrec hfr ho hx (fun μ w f cs hr hf => ?_)
          obtain ⟨l, t1, t2⟩ := todo_reg hfr hf
          obtain ⟨rfl, rl, args', q0, q1, q2⟩ := hopsound har hr hf
          obtain ⟨_, s0⟩ := hrec _ _ _ _ hcall
          obtain ⟨g, tm, asg, body, s1, μ1, w1, s2, s3⟩ := s0 μ w f cs args' rl hr q0 q1
          rw [s1] at q2
          exact ⟨μ1, w1, s2, s3.of_steps (.one (step_round hf.mode t1 ho (hwt hf) (.inr (not_defer har (fun _ _ => by simp))) q2))⟩
    | defer g args =>
      simp only [xOp, fin] at hx
      split at hx
      · cases hx
      · rename_i hro
        refine outR.pre (fr1 := { fr with defers := .call g args :: fr.defers, tmps := setTmp fr.tmps o.dst aundef, todo := .reg ops r :: k }) ⟨rfl, rfl, rfl⟩ (fun μ w f cs hr hf hc => ?_) (hrec _ _ _ _ hx)
        obtain ⟨l, t1, t2⟩ := todo_reg hfr hf
        obtain ⟨rfl, d, args', q1, q2, q3, q4⟩ := hopsound har hr hf
        have hron : f.roundOf = none := by
          have := hf.u.round
          cases hq : fr.roundOf with
          | none => rw [hq] at this; exact this
          | some x => rw [hq] at hro; exact absurd rfl hro
        refine ⟨μ, w, _, cs, Eff.refl hr, .one (step_deferred hf.mode t1 ho (hwt hf) (.inl hron) q2), ?_, csTo.refl hc⟩
        exact FrB.fin (fr := { fr with defers := .call g args :: fr.defers }) (f := { f with defers := d :: f.defers }) ⟨hf.u.fn, hf.u.tmps, ⟨d, _, rfl, ⟨q3, args', q1, q4⟩, hf.u.defers⟩, hf.u.kind, hf.u.round, hf.u.rc⟩ hf.mode t1 t2 ho rel_undef
    | recover =>
      simp only [xOp, fin] at hx
      split at hx
      · cases hx
      · rename_i hro
        refine outR.pre (fr1 := { fr with cm := (recoverA fr.cm).2, tmps := setTmp fr.tmps o.dst (recoverA fr.cm).1, todo := .reg ops r :: k }) ⟨rfl, rfl, recoverA_some fr.cm⟩ (fun μ w f cs hr hf hc => ?_) (hrec _ _ _ _ hx)
        obtain ⟨l, t1, t2⟩ := todo_reg hfr hf
        obtain ⟨rfl, q2⟩ := hopsound har hr hf
        have hrn : fr.roundOf = none := by
          cases hq : fr.roundOf with
          | none => rfl
          | some x => rw [hq] at hro; exact absurd rfl hro
        have hron : f.roundOf = none := by
          have := hf.u.round
          rw [hrn] at this
          exact this
        have hkind : f.kind = kindC (recoverA fr.cm).2 := by
          have h1 := recoverA_some fr.cm
          rw [hf.u.kind]
          cases hq : fr.cm <;> cases hq2 : (recoverA fr.cm).2 <;> simp_all [kindC]
        have fin2 : ∀ v, rel ρ μ w (recoverA fr.cm).1 v → FrB P ρ μ w { fr with cm := (recoverA fr.cm).2, tmps := setTmp fr.tmps o.dst (recoverA fr.cm).1, todo := .reg ops r :: k } (f.finish v) := fun v hv =>
          FrB.fin (fr := { fr with cm := (recoverA fr.cm).2 }) ⟨hf.u.fn, hf.u.tmps, hf.u.defers, hkind, hf.u.round, fun hh => by
            have hh : fr.roundOf.isSome = true := hh
            rw [hrn] at hh
            cases hh⟩ hf.mode t1 t2 ho hv
        rcases tryRecover_ok hf.u.kind hc with ⟨e1, e2⟩ | ⟨v, cs', e1, e2, e3⟩
        · have e3 : (recoverA fr.cm).1 = .lit .nilIface := by rw [e2]
          have e4 : (recoverA fr.cm).2 = fr.cm := by rw [e2]
          refine ⟨μ, w, _, cs, Eff.refl hr, .one (step_recover_none hf.mode t1 ho (hwt hf) (.inl hron) hron q2 e1), fin2 .nilIface (by rw [e3]; exact rel_lit rfl), ?_⟩
          show csTo ρ μ w (recoverA fr.cm).2 cs cs
          rw [e4]
          exact csTo.refl hc
        · exact ⟨μ, w, _, cs', Eff.refl hr, .one (step_recover_some hf.mode t1 ho (hwt hf) (.inl hron) hron q2 e1), fin2 v e2, e3⟩
    | pan v =>
      simp only [xOp, Option.some.injEq, Prod.mk.injEq] at hx
      obtain ⟨rfl, rfl⟩ := hx
      refine fun μ w f cs hr hf hc => ⟨Same.refl fr, ?_⟩
      obtain ⟨l, t1, t2⟩ := todo_reg hfr hf
      obtain ⟨rfl, v', q1, q2⟩ := hopsound har hr hf
      have hst := step_panic (cs := cs) hf.mode t1 ho (hwt hf) (.inr (not_defer har (fun _ _ => by simp))) q1
      rw [raise_run hf.mode] at hst
      have hu := hf.u
      exact ⟨μ, w, _, cs, [{ v := v', recovered := false }], Eff.refl hr, .one hst, ⟨hu.fn, hu.tmps, hu.defers, hu.kind, hu.round, hu.rc⟩, rfl, ⟨v', [], rfl, q2, rfl⟩, csTo.refl hc⟩

theorem xReg_ok (hT : TT.Sound P T) (hNG : NoNG P) (hrec : RecOK P ρ fl rec) (hfr : fr.todo = .reg ops (i :: r) :: k) (hx : xReg P T rec fr ops i r k h = some (out, h')) : outR P ρ fl fr h h' out := by
  unfold xReg at hx
  split at hx
  case h_2 => cases hx
  rename_i o ho
  split at hx
  · rename_i hwant
    exact xOp_ok hT hNG hrec hfr ho hwant hx
  · rename_i hwant
    simp only [fin] at hx
    refine outR.pre (fr1 := { fr with tmps := setTmp fr.tmps o.dst aundef, todo := .reg ops r :: k }) ⟨rfl, rfl, rfl⟩ (fun μ w f cs hr hf hc => ?_) (hrec _ _ _ _ hx)
    obtain ⟨l, t1, t2⟩ := todo_reg hfr hf
    exact ⟨μ, w, _, cs, Eff.refl hr, .one (step_unwanted hf.mode t1 ho (wantedA_sound hf.u.tmps hwant)), FrB.fin hf.u hf.mode t1 t2 ho rel_undef, csTo.refl hc⟩
  · cases hx

end op

end Go.Proofs.YtfchbkmegicfoaaGreat.Ex
