/- The abstract machine is sound: what it comes to, the real one comes to. -/
import Derived.Test.YtfchbkmegicfoaaGreatExd8
set_option linter.unusedSimpArgs false
set_option linter.unusedVariables false
namespace Go.Proofs.YtfchbkmegicfoaaGreat.Ex
open Go Go.RowKit

variable {P : Program} {T : TT} {S : Sums} {ρ : Nat → Value} {fl : Nat} {ops : Array Oper}

theorem picks {L : List Nat} {es : List Ent} {t0 : TM} {h0 : AH} {tf : TM} {hf : AH} {rsf : Reads} {μ0 : Mu} {w0 : World} (hT : TT.Sound P T) (ho : Ord T ops L) (hes : es.map (·.i) = L) (tr : Tr P T ρ fl ops es t0 h0 [] tf hf rsf) (hh : hold T hf rsf = true) (hr0 : HR P ρ fl μ0 h0 w0) {l : List Item} {cs : List Frame} :
    ∀ (l0 : List Nat) (listed : Array Bool) (f : Frame) (w : World) (A B : List Ent) (tA : TM) (HA : AH) (RA : Reads) (μ : Mu), LinR ops l0 listed → ClosedX ops listed → f.mode = .run → f.todo = .inRegion ops l0 :: l → Inv P T ρ fl ops es t0 h0 tf hf rsf μ0 w0 listed f w A B tA HA RA μ →
      ∃ f' w' μ', Steps P (lone f cs w) (lone f' cs w') ∧ f'.fn = f.fn ∧ f'.defers = f.defers ∧ f'.kind = f.kind ∧ f'.roundOf = f.roundOf ∧ f'.mode = .run ∧ f'.todo = .inRegion ops [] :: l ∧ Eff P ρ fl μ0 h0 w0 μ' hf w' ∧ rels ρ μ' w' tf.L f'.tmps.toList
  | [], listed, f, w, A, B, tA, HA, RA, μ, hl, hc, hm, ht, iv => by
    have hall : ∀ e ∈ es, on listed e.i := fun e he => hl _ (Array.getElem?_eq_some_iff.1 (tr.oper e he)).1
    have hB : B = [] := by
      cases hq : B with
      | nil => rfl
      | cons a B' => exact absurd (hall a (by rw [iv.cut, hq]; simp)) (iv.actsB a (by rw [hq]; simp) (iv.head a B' hq))
    subst hB
    obtain ⟨e1, e2, e3⟩ := iv.trB
    refine ⟨f, w, μ, .refl P _, rfl, rfl, rfl, rfl, hm, ht, by rw [e2]; exact iv.eff, ?_⟩
    have := iv.tmps
    rw [foldX_all es t0.L hall, ← tr.tmps] at this
    exact this
  | i :: r, listed, f, w, A, B, tA, HA, RA, μ, hl, hc, hm, ht, iv => by
    obtain ⟨hrd, hl2⟩ := hl
    obtain ⟨v', w', A', B', tA', HA', RA', μ', s1, iv2⟩ := one_pick hT ho hes tr hh hr0 (cs := cs) iv hc hrd hm ht
    have heo : ∃ o, ops[i]? = some o := ⟨ops[i]'hrd.2.2.1, Array.getElem?_eq_getElem hrd.2.2.1⟩
    obtain ⟨o, heo⟩ := heo
    have hfin := finish_region ht heo v'
    obtain ⟨f2, w2, μ2, q1, q2, q3, q4, q5, q6, q7, q8, q9⟩ := picks hT ho hes tr hh hr0 (l := l) (cs := cs) r _ (f.finish v') w' A' B' tA' HA' RA' μ' hl2 (hc.set hrd) (by rw [hfin]; exact hm) (by rw [hfin]) iv2
    exact ⟨f2, w2, μ2, s1.trans q1, by rw [q2, hfin], by rw [q3, hfin], by rw [q4, hfin], by rw [q5, hfin], q6, q7, q8, q9⟩

theorem draw_ok (hT : TT.Sound P T) (hNG : NoNG P) (hMix : P.follows .mixedOrders = true) {n : Nat} (hrec : ∀ m, m < n → RecOK P ρ fl (ex P T S m)) : DrawOK P T ρ fl (ex P T S n) := by
  intro fr id ops k h out h' hfr hok hx
  have ho := okD_ord hok
  obtain ⟨es, tf, hf, rsf, m, e1, e2, e3, e4, e5⟩ := trace_of hT hNG _ n fr [] k h out h' hrec hx
  refine outR.pre (fr1 := { fr with tmps := tf, todo := k }) ⟨rfl, rfl, rfl⟩ (fun μ w f cs hr hfB hc => ?_) (hrec m e4 _ _ _ _ e5)
  obtain ⟨l, t1, t2⟩ := todo_code hfr hfB
  have hd : Eff P ρ fl μ h w μ h w.drew := Eff.drew hr 1
  -- the order is drawn
  obtain ⟨t, hst⟩ : ∃ t, step P (lone f cs w) = .next (lone { f with todo := .inRegion ops (Region.linearise .any ops t) :: l } cs w.drew) :=
    ⟨w.tape w.drawn (.order f.fn id), step_lone_go (by simp [stepG, stepG.exec, hfB.mode, t1, Question.forced, Question.cut, Region.schedule, hMix])⟩
  -- the invariant at the beginning
  obtain ⟨Sg, B, tS, HS, RS, exs, s1, s2, s3, s4, s5, s6, s7, s8, s9, s10⟩ := seg hT es _ _ _ e2
  have hnone : ∀ j, ¬ on (Array.replicate ops.size false) j := fun j hj => by
    simp only [on, Array.getD_eq_getD_getElem?, Array.getElem?_replicate] at hj
    split at hj <;> simp at hj
  have iv : Inv P T ρ fl ops es fr.tmps h tf hf rsf μ w.drew (Array.replicate ops.size false) { f with todo := .inRegion ops (Region.linearise .any ops t) :: l } w.drew Sg B tS HS RS μ := by
    refine ⟨s1, s2, s3, fun e he hk => ?_, fun e he hk => hnone _, s5, ?_, ?_, fun e he hp => ?_, s8, fun e he rd hxr _ => s10 e he rd hxr⟩
    · rw [s4 e he] at hk; cases hk
    · exact (Eff.refl hd.hr).extend s6
    · rw [foldX_false]
      exact rels.mono (More.refl μ) hd.grows _ _ hfB.u.tmps
    · obtain ⟨p1, p2, p3⟩ := s7 e he hp
      refine ⟨p1, p2, fun _ => ⟨?_, p3⟩⟩
      cases hq : μ e.h.n with
      | none => rfl
      | some y => exact absurd (hr.dom _ _ hq) (by omega)
  obtain ⟨f2, w2, μ2, q1, q2, q3, q4, q5, q6, q7, q8, q9⟩ := picks hT ho e1 e2 e3 hd.hr (cs := cs) _ _ { f with todo := .inRegion ops (Region.linearise .any ops t) :: l } w.drew Sg B tS HS RS μ (linearise_LinR ho t) closed_false hfB.mode rfl iv
  have heff := hd.trans hr q8
  have hu := hfB.u.mono heff.more heff.grows
  have hlast : step P (lone f2 cs w2) = .next (lone { f2 with todo := l } cs w2) := step_lone_go (by simp [stepG, stepG.exec, q6, q7])
  refine ⟨μ2, w2, { f2 with todo := l }, cs, heff, .head hst (q1.trans (.one hlast)), ⟨⟨?_, q9, ?_, ?_, ?_, hu.rc⟩, t2.mono heff.more, q6⟩, csTo.refl (hc.mono heff.more heff.grows)⟩
  · exact q2.trans hu.fn
  · show defsR P ρ μ2 w2 fr.defers f2.defers
    rw [q3]
    exact hu.defers
  · show f2.kind = _
    rw [q4]
    exact hu.kind
  · show roundR μ2 fr.roundOf f2.roundOf
    rw [q5]
    exact hu.round

theorem ex_ok (hT : TT.Sound P T) (hNG : NoNG P) (hMix : P.follows .mixedOrders = true) (hS : SumsOK P ρ fl S) (n : Nat) : RecOK P ρ fl (ex P T S n) := by
  induction n using Nat.strongRecOn with
  | _ n ih =>
    cases n with
    | zero => intro t h out h' hx; cases hx
    | succ n => exact xStep_ok hT hNG hS (ih n (Nat.lt_succ_self n)) (draw_ok hT hNG hMix fun m hm => ih m (by omega))

/-- What a closed run comes to. -/
theorem ex_calls (hT : TT.Sound P T) (hNG : NoNG P) (hMix : P.follows .mixedOrders = true) {w : World} (hS : SumsOK P ρ w.heap.size S) {n : Nat} {f : FuncId} {args : List AV} {v : AV} {cm : Option Mode} {h' : AH}
    (hx : ex P T S n (.call f args none) .nil = some (.ended (.ret v) cm, h')) {args' : List Value} (ha : rels ρ (fun _ => none) w args args') :
    Calls P f args'.toArray w fun e w' => ∃ v' μ', e = .returned v' ∧ Below w.heap.size w w' ∧ rel ρ μ' w' v v' := by
  intro cs
  have hr : HR P ρ w.heap.size (fun _ => none) .nil w := ⟨Nat.le_refl _, fun b x hb => (by cases hb), fun b r base ab hb => (by cases hb), fun b b' r base base' ab ab' hb => (by cases hb)⟩
  obtain ⟨_, h2⟩ := ex_ok hT hNG hMix hS n _ _ _ _ hx
  obtain ⟨_, μ', w', f', cs', q1, q2, q3, q4⟩ := h2 _ w cs args' hr ha trivial
  cases cm with
  | some m => rename_i h3; cases h3
  | none =>
    have q4 : cs' = cs := q4
    subst q4
    obtain ⟨r1, r2, r3, r4, fn, v', r5, r6, r7⟩ := q3
    refine ⟨.returned v', w', f', ⟨v', μ', rfl, ⟨q1.same.2.1, q1.same.1, q1.same.2.2, q1.size, fun k hk => q1.rest k hk (fun b base ab hb _ => ?_)⟩, r7⟩, q2, r1, r4, r2, r3, fn, by rw [r1]; exact r5, r6⟩
    cases hb

end Go.Proofs.YtfchbkmegicfoaaGreat.Ex
