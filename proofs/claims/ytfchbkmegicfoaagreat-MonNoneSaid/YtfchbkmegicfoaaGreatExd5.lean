/- Regions that draw their order: what the abstract machine did in its own order. -/
import Derived.Test.YtfchbkmegicfoaaGreatExd4
set_option linter.unusedSimpArgs false
set_option linter.unusedVariables false
namespace Go.Proofs.YtfchbkmegicfoaaGreat.Ex
open Go Go.RowKit

variable {P : Program} {T : TT} {S : Sums} {ρ : Nat → Value} {fl : Nat} {ops : Array Oper} {h : AH}

def actK : Kind → Bool
  | .acts => true
  | _ => false

theorem isAct_eq {T : TT} {ops : Array Oper} {i : Nat} {o : Oper} (ho : ops[i]? = some o) : isAct T ops i = actK (kindOf T o) := by
  unfold isAct
  rw [ho]
  dsimp only
  cases kindOf T o <;> rfl

abbrev Reads := List (Nat × RD × AV)

structure Ent where
  i : Nat
  o : Oper
  tmps : TM
  h : AH
  v : AV
  h1 : AH

/-- Does one see the same operands? -/
def Agree (o : Oper) (t1 t2 : TM) : Prop := ∀ x ∈ o.op.operands, evalA t1 x = evalA t2 x

/-- The real machine does the operation so. -/
def RunOK (P : Program) (ρ : Nat → Value) (fl : Nat) (o : Oper) (t : TM) (h : AH) (v : AV) (h1 : AH) : Prop :=
  ∀ (μ : Mu) (w : World) (f : Frame) (cs : List Frame) (ops : Array Oper) (i : Nat) (r : List Nat) (l : List Item), HR P ρ fl μ h w → EnvR ρ μ w t f.eval → f.mode = .run → f.todo = .inRegion ops (i :: r) :: l → ops[i]? = some o → Region.wanted o (yielded ops f.tmps) = true →
    ∃ μ' w' v', Eff P ρ fl μ h w μ' h1 w' ∧ rel ρ μ' w' v v' ∧ Steps P (lone f cs w) (lone (f.finish v') cs w')

theorem runOK_val {o : Oper} {t : TM} {v : AV} {h1 : AH} (hT : TT.Sound P T) (ha : aop P T o t h = some (.val v, h1)) : RunOK P ρ fl o t h v h1 := by
  intro μ w f cs ops i r l hr he hm ht ho hw
  obtain ⟨μ', w', v', q1, q2, q3⟩ := aop_sound hT hr he ha
  exact ⟨μ', w', v', q2, q3, .one (step_value hm ht ho hw (.inr (not_defer ha (fun _ _ => by simp))) q1)⟩

def keep (ops : Array Oper) (i : Nat) (rs : Reads) : Reads := rs.filter fun (j, _, _) => !waits ops.size (mat ops) i j

/-- One operation, as the abstract machine did it. -/
def StepR (P : Program) (T : TT) (ρ : Nat → Value) (fl : Nat) (ops : Array Oper) (e : Ent) (rs rs1 : Reads) : Prop :=
  ops[e.i]? = some e.o ∧ ((wantedA ops e.tmps e.o = some false ∧ e.v = aundef ∧ e.h1 = e.h ∧ (match kindOf T e.o with | .acts => hold T e.h rs = true ∧ rs1 = keep ops e.i rs | _ => rs1 = rs)) ∨
    (wantedA ops e.tmps e.o = some true ∧ (match kindOf T e.o with
      | .acts => hold T e.h rs = true ∧ rs1 = keep ops e.i rs ∧ ∀ t2, Agree e.o e.tmps t2 → RunOK P ρ fl e.o t2 e.h e.v e.h1
      | .reads => aop P T e.o e.tmps e.h = some (.val e.v, e.h1) ∧ ((∃ rd, rdOf e.o e.tmps = some rd ∧ rs1 = (e.i, rd, e.v) :: rs) ∨ (rdOf e.o e.tmps = none ∧ (litOp P e.o e.tmps).isSome = true ∧ rs1 = rs))
      | _ => aop P T e.o e.tmps e.h = some (.val e.v, e.h1) ∧ rs1 = rs)))

def Tr (P : Program) (T : TT) (ρ : Nat → Value) (fl : Nat) (ops : Array Oper) : List Ent → TM → AH → Reads → TM → AH → Reads → Prop
  | [], t, h, rs, t', h', rs' => t' = t ∧ h' = h ∧ rs' = rs
  | e :: r, t, h, rs, t', h', rs' => e.tmps = t ∧ e.h = h ∧ ∃ rs1, StepR P T ρ fl ops e rs rs1 ∧ Tr P T ρ fl ops r (setTmp t e.o.dst e.v) e.h1 rs1 t' h' rs'

theorem calledD_ok {rec : Rec} {fr : AFr} {o : Oper} {it : AI} {k : List AI} {x : Option (Out × AH)} {out : Out} {h' : AH} (hx : xCalledD rec fr o it k x = some (out, h')) :
    ∃ v cm h2, x = some (.ended (.ret v) cm, h2) ∧ fin rec fr o it k v h2 = some (out, h') := by
  unfold xCalledD at hx
  split at hx
  · exact ⟨_, _, _, rfl, hx⟩
  · cases hx

theorem trace_of (hT : TT.Sound P T) (hNG : NoNG P) : ∀ (l : List Nat) (n : Nat) (fr : AFr) (rs : Reads) (k : List AI) (h : AH) (out : Out) (h' : AH), (∀ m, m < n → RecOK P ρ fl (ex P T S m)) →
    ex P T S n (.body { fr with todo := .regD ops l rs :: k }) h = some (out, h') →
    ∃ es tf hf rsf m, es.map (·.i) = l ∧ Tr P T ρ fl ops es fr.tmps h rs tf hf rsf ∧ hold T hf rsf = true ∧ m < n ∧ ex P T S m (.body { fr with tmps := tf, todo := k }) hf = some (out, h')
  | [], n, fr, rs, k, h, out, h', _, hx => by
    cases n with
    | zero => cases hx
    | succ n =>
      simp only [ex, xStep, xBody, xItem] at hx
      split at hx
      · rename_i hh
        exact ⟨[], fr.tmps, h, rs, n, rfl, ⟨rfl, rfl, rfl⟩, hh, Nat.lt_succ_self n, hx⟩
      · cases hx
  | i :: r, n, fr, rs, k, h, out, h', hrec, hx => by
    cases n with
    | zero => cases hx
    | succ n =>
      simp only [ex, xStep, xBody, xItem, xRegD] at hx
      split at hx
      case h_2 => cases hx
      rename_i o ho
      -- what is left behind the head
      have go : ∀ (v : AV) (h2 : AH) (rs1 : Reads), fin (ex P T S n) { fr with todo := .regD ops (i :: r) rs :: k } o (.regD ops r rs1) k v h2 = some (out, h') → StepR P T ρ fl ops { i, o, tmps := fr.tmps, h, v, h1 := h2 } rs rs1 →
          ∃ es tf hf rsf m, es.map (·.i) = i :: r ∧ Tr P T ρ fl ops es fr.tmps h rs tf hf rsf ∧ hold T hf rsf = true ∧ m < n + 1 ∧ ex P T S m (.body { fr with tmps := tf, todo := k }) hf = some (out, h') := fun v h2 rs1 hfin hstep => by
        obtain ⟨es, tf, hf, rsf, m, q1, q2, q3, q4, q5⟩ := trace_of hT hNG r n { fr with tmps := setTmp fr.tmps o.dst v } rs1 k h2 out h' (fun m hm => hrec m (by omega)) hfin
        exact ⟨{ i, o, tmps := fr.tmps, h, v, h1 := h2 } :: es, tf, hf, rsf, m, by simp [q1], ⟨rfl, rfl, rs1, hstep, q2⟩, q3, by omega, q5⟩
      have hact : isAct T ops i = actK (kindOf T o) := isAct_eq ho
      -- the operation done
      have one : ∀ (rs0 : Reads), (match kindOf T o with | .acts => hold T h rs = true ∧ rs0 = keep ops i rs | _ => rs0 = rs) → xRegD1 P T (ex P T S n) { fr with todo := .regD ops (i :: r) rs :: k } ops i o r rs0 k h = some (out, h') →
          ∃ es tf hf rsf m, es.map (·.i) = i :: r ∧ Tr P T ρ fl ops es fr.tmps h rs tf hf rsf ∧ hold T hf rsf = true ∧ m < n + 1 ∧ ex P T S m (.body { fr with tmps := tf, todo := k }) hf = some (out, h') := fun rs0 hrs0 hx => by
        unfold xRegD1 at hx
        split at hx
        · rename_i hwant
          have hwant : wantedA ops fr.tmps o = some true := hwant
          unfold xOpD at hx
          cases hk : kindOf T o with
          | acts =>
            rw [hk] at hx hrs0
            simp only at hx hrs0
            have build : ∀ v h2, (∀ t2, Agree o fr.tmps t2 → RunOK P ρ fl o t2 h v h2) → StepR P T ρ fl ops { i, o, tmps := fr.tmps, h, v, h1 := h2 } rs rs0 := fun v h2 hrun =>
              ⟨ho, .inr ⟨hwant, by simp only [hk]; exact ⟨hrs0.1, hrs0.2, hrun⟩⟩⟩
            split at hx
            · rename_i v h2 ha
              exact go v h2 rs0 hx (build v h2 fun t2 hag => runOK_val hT (by rw [← aop_congr hag]; exact ha))
            · rename_i g args h2 ha
              obtain ⟨v, cm, h3, hc, hfin⟩ := calledD_ok hx
              refine go v h3 rs0 hfin (build v h3 fun t2 hag => ?_)
              intro μ w f cs ops' i' r' l hr he hm ht ho' hw
              obtain ⟨rfl, args', q1, q2⟩ := aop_sound hT hr he (show aop P T o t2 h = some (.enter g args, h2) by rw [← aop_congr hag]; exact ha)
              obtain ⟨s1, μ1, w1, s2, v', s3, s4⟩ := call_back hNG (hrec n (by omega)) hc hr q1 f cs
              rw [s1] at q2
              exact ⟨μ1, w1, v', s2, s3, .head (step_enter hm ht ho' hw (.inr (not_defer ha (fun _ _ => by simp))) q2) s4⟩
            · rename_i l0 args h2 ha
              obtain ⟨v, cm, h3, hc, hfin⟩ := calledD_ok hx
              refine go v h3 rs0 hfin (build v h3 fun t2 hag => ?_)
              intro μ w f cs ops' i' r' l hr he hm ht ho' hw
              obtain ⟨rfl, rl, args', q0, q1, q2⟩ := aop_sound hT hr he (show aop P T o t2 h = some (.round l0 args, h2) by rw [← aop_congr hag]; exact ha)
              obtain ⟨_, s0⟩ := hrec n (by omega) _ _ _ _ hc
              obtain ⟨g, tm, asg, body, s1, μ1, w1, s2, v', s3, s4⟩ := s0 μ w f cs args' rl hr q0 q1
              rw [s1] at q2
              exact ⟨μ1, w1, v', s2, s3, .head (step_round hm ht ho' hw (.inr (not_defer ha (fun _ _ => by simp))) q2) s4⟩
            · cases hx
          | reads =>
            rw [hk] at hx hrs0
            simp only at hx hrs0
            subst hrs0
            split at hx
            case h_2 => cases hx
            rename_i v h2 ha
            cases hrd : rdOf o fr.tmps with
            | some rd =>
              rw [hrd] at hx
              exact go v h2 _ hx ⟨ho, .inr ⟨hwant, by simp only [hk]; exact ⟨ha, .inl ⟨rd, hrd, rfl⟩⟩⟩⟩
            | none =>
              rw [hrd] at hx
              simp only at hx
              cases hl : (litOp P o fr.tmps).isSome with
              | false => rw [hl] at hx; cases hx
              | true =>
                rw [hl] at hx
                exact go v h2 _ hx ⟨ho, .inr ⟨hwant, by simp only [hk]; exact ⟨ha, .inr ⟨hrd, hl, trivial⟩⟩⟩⟩
          | still =>
            rw [hk] at hx hrs0
            simp only at hx hrs0
            subst hrs0
            split at hx
            case h_2 => cases hx
            rename_i v h2 ha
            exact go v h2 _ hx ⟨ho, .inr ⟨hwant, by simp only [hk]; exact ⟨ha, trivial⟩⟩⟩
          | alloc =>
            rw [hk] at hx hrs0
            simp only at hx hrs0
            subst hrs0
            split at hx
            case h_2 => cases hx
            rename_i v h2 ha
            exact go v h2 _ hx ⟨ho, .inr ⟨hwant, by simp only [hk]; exact ⟨ha, trivial⟩⟩⟩
        · rename_i hwant
          exact go aundef h rs0 hx ⟨ho, .inl ⟨hwant, rfl, rfl, hrs0⟩⟩
        · cases hx
      split at hx
      · rename_i hia
        rw [hact] at hia
        split at hx
        · rename_i hh
          refine one _ ?_ hx
          cases hk : kindOf T o <;> rw [hk] at hia <;> first | exact ⟨hh, rfl⟩ | cases hia
        · cases hx
      · rename_i hia
        rw [hact] at hia
        refine one _ ?_ hx
        cases hk : kindOf T o <;> rw [hk] at hia <;> first | rfl | exact absurd rfl hia

end Go.Proofs.YtfchbkmegicfoaaGreat.Ex
