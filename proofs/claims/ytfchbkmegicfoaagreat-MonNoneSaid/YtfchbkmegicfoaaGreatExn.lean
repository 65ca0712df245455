/- The abstract machine's frames, held against the real ones. -/
import Derived.Test.YtfchbkmegicfoaaGreatExw
import Derived.Test.YtfchbkmegicfoaaGreatExm
import Derived.Defers
set_option linter.unusedSimpArgs false
set_option linter.unusedVariables false
namespace Go.Proofs.YtfchbkmegicfoaaGreat.Ex
open Go Go.RowKit

variable {P : Program} {T : TT} {S : Sums} {ρ : Nat → Value} {fl : Nat} {μ μ' : Mu} {h : AH} {w w' : World}

def chainR (ρ : Nat → Value) (μ : Mu) (w : World) : Chain → List PanicEntry → Prop
  | [], l => l = []
  | (a, b) :: r, l => ∃ v l', l = { v, recovered := b, goexit := false } :: l' ∧ rel ρ μ w a v ∧ chainR ρ μ w r l'

def modeR (ρ : Nat → Value) (μ : Mu) (w : World) : Mode → FrameMode → Prop
  | .ret, m => m = .returning
  | .pan c, m => ∃ c', m = .panicking c' ∧ chainR ρ μ w c c'

def itemR (μ : Mu) : AI → Item → Prop
  | .code c, i => i = .code c
  | .blk id, i => i = .inBlock id
  | .lp c, i => i = .inLoop c
  | .sc c, i => i = .inScope c
  | .reg ops l, i => i = .inRegion ops l
  | .regD .., _ => False
  | .endRF l, i => ∃ r, μ l = some (r, 0) ∧ i = .endRangeFunc r
  | .beginRound, i => i = .beginRound

def itemsR (μ : Mu) : List AI → List Item → Prop
  | [], l => l = []
  | a :: r, l => ∃ i l', l = i :: l' ∧ itemR μ a i ∧ itemsR μ r l'

def defR (P : Program) (ρ : Nat → Value) (μ : Mu) (w : World) : ADI → Deferred → Prop
  | .call f args, d => (∃ fn c, d.target = .fn fn c) ∧ ∃ args', rels ρ μ w args args' ∧ ∀ w', (invoke d.target d.args).run P w' = (callFunc f args'.toArray).run P w'
  | .coll b, d => ∃ r, μ b = some (r, 0) ∧ d = { target := .collected r, args := #[] }

def defsR (P : Program) (ρ : Nat → Value) (μ : Mu) (w : World) : List ADI → List Deferred → Prop
  | [], l => l = []
  | a :: r, l => ∃ d l', l = d :: l' ∧ defR P ρ μ w a d ∧ defsR P ρ μ w r l'

def roundR (μ : Mu) : Option Nat → Option Nat → Prop
  | none, r => r = none
  | some l, r => ∃ k, μ l = some (k, 0) ∧ r = some k

def kindC : Option Mode → CallKind
  | none => .normal
  | some _ => .deferred

structure FrU (P : Program) (ρ : Nat → Value) (μ : Mu) (w : World) (fr : AFr) (f : Frame) : Prop where
  fn : f.fn = fr.fn
  tmps : rels ρ μ w fr.tmps.L f.tmps.toList
  defers : defsR P ρ μ w fr.defers f.defers
  kind : f.kind = kindC fr.cm
  round : roundR μ fr.roundOf f.roundOf
  rc : fr.roundOf.isSome = true → fr.cm = none

structure FrB (P : Program) (ρ : Nat → Value) (μ : Mu) (w : World) (fr : AFr) (f : Frame) : Prop where
  u : FrU P ρ μ w fr f
  todo : itemsR μ fr.todo f.todo
  mode : f.mode = .run

def cmR (ρ : Nat → Value) (μ : Mu) (w : World) : Option Mode → List Frame → Prop
  | none, _ => True
  | some m, cs => ∃ c r, cs = c :: r ∧ modeR ρ μ w m c.mode

def csTo (ρ : Nat → Value) (μ : Mu) (w : World) : Option Mode → List Frame → List Frame → Prop
  | none, cs, cs' => cs' = cs
  | some m, cs, cs' => ∃ c r mo, cs = c :: r ∧ cs' = { c with mode := mo } :: r ∧ modeR ρ μ w m mo

/-! More is known later. -/

theorem chainR.mono (hm : More μ μ') (hg : Grows w w') : ∀ {c : Chain} {l : List PanicEntry}, chainR ρ μ w c l → chainR ρ μ' w' c l
  | [], l, hh => hh
  | (a, b) :: r, l, hh => by
    obtain ⟨v, l', h1, h2, h3⟩ := hh
    exact ⟨v, l', h1, rel.mono hm hg _ _ h2, h3.mono hm hg⟩

theorem modeR.mono (hm : More μ μ') (hg : Grows w w') {m : Mode} {x : FrameMode} (hh : modeR ρ μ w m x) : modeR ρ μ' w' m x := by
  cases m with
  | ret => exact hh
  | pan c => obtain ⟨c', h1, h2⟩ := hh; exact ⟨c', h1, h2.mono hm hg⟩

theorem itemR.mono (hm : More μ μ') {a : AI} {i : Item} (hh : itemR μ a i) : itemR μ' a i := by
  cases a <;> first | exact hh | (obtain ⟨r, h1, h2⟩ := hh; exact ⟨r, hm _ _ h1, h2⟩)

theorem itemsR.mono (hm : More μ μ') : ∀ {l : List AI} {l' : List Item}, itemsR μ l l' → itemsR μ' l l'
  | [], l', hh => hh
  | a :: r, l', hh => by
    obtain ⟨i, l2, h1, h2, h3⟩ := hh
    exact ⟨i, l2, h1, h2.mono hm, h3.mono hm⟩

theorem defR.mono (hm : More μ μ') (hg : Grows w w') {a : ADI} {d : Deferred} (hh : defR P ρ μ w a d) : defR P ρ μ' w' a d := by
  cases a with
  | call f args => obtain ⟨h1, args', h2, h3⟩ := hh; exact ⟨h1, args', rels.mono hm hg _ _ h2, h3⟩
  | coll b => obtain ⟨r, h1, h2⟩ := hh; exact ⟨r, hm _ _ h1, h2⟩

theorem defsR.mono (hm : More μ μ') (hg : Grows w w') : ∀ {l : List ADI} {l' : List Deferred}, defsR P ρ μ w l l' → defsR P ρ μ' w' l l'
  | [], l', hh => hh
  | a :: r, l', hh => by
    obtain ⟨d, l2, h1, h2, h3⟩ := hh
    exact ⟨d, l2, h1, h2.mono hm hg, h3.mono hm hg⟩

theorem roundR.mono (hm : More μ μ') {a r : Option Nat} (hh : roundR μ a r) : roundR μ' a r := by
  cases a with
  | none => exact hh
  | some l => obtain ⟨k, h1, h2⟩ := hh; exact ⟨k, hm _ _ h1, h2⟩

theorem FrU.mono (hm : More μ μ') (hg : Grows w w') {fr : AFr} {f : Frame} (hh : FrU P ρ μ w fr f) : FrU P ρ μ' w' fr f :=
  ⟨hh.fn, rels.mono hm hg _ _ hh.tmps, hh.defers.mono hm hg, hh.kind, hh.round.mono hm, hh.rc⟩

theorem FrB.mono (hm : More μ μ') (hg : Grows w w') {fr : AFr} {f : Frame} (hh : FrB P ρ μ w fr f) : FrB P ρ μ' w' fr f :=
  ⟨hh.u.mono hm hg, hh.todo.mono hm, hh.mode⟩

theorem cmR.mono (hm : More μ μ') (hg : Grows w w') {cm : Option Mode} {cs : List Frame} (hh : cmR ρ μ w cm cs) : cmR ρ μ' w' cm cs := by
  cases cm with
  | none => trivial
  | some m => obtain ⟨c, r, h1, h2⟩ := hh; exact ⟨c, r, h1, h2.mono hm hg⟩

theorem csTo.mono (hm : More μ μ') (hg : Grows w w') {cm : Option Mode} {cs cs' : List Frame} (hh : csTo ρ μ w cm cs cs') : csTo ρ μ' w' cm cs cs' := by
  cases cm with
  | none => exact hh
  | some m => obtain ⟨c, r, mo, h1, h2, h3⟩ := hh; exact ⟨c, r, mo, h1, h2, h3.mono hm hg⟩

theorem csTo.refl {cm : Option Mode} {cs : List Frame} (hh : cmR ρ μ w cm cs) : csTo ρ μ w cm cs cs := by
  cases cm with
  | none => rfl
  | some m => obtain ⟨c, r, h1, h2⟩ := hh; exact ⟨c, r, c.mode, h1, h1, h2⟩

theorem csTo.cmR {cm : Option Mode} {cs cs' : List Frame} (hh : csTo ρ μ w cm cs cs') : cmR ρ μ w cm cs' := by
  cases cm with
  | none => trivial
  | some m => obtain ⟨c, r, mo, h1, h2, h3⟩ := hh; exact ⟨_, r, h2, h3⟩

theorem csTo.trans {cm cm' : Option Mode} {cs cs1 cs2 : List Frame} (ha : csTo ρ μ w cm cs cs1) (hb : csTo ρ μ' w' cm' cs1 cs2) (hs : cm'.isSome = cm.isSome) : csTo ρ μ' w' cm' cs cs2 := by
  cases cm with
  | none =>
    cases cm' with
    | none =>
      have h1 : cs1 = cs := ha
      rw [← h1]
      exact hb
    | some m => cases hs
  | some m0 =>
    cases cm' with
    | none => cases hs
    | some m =>
      obtain ⟨c, r, mo, rfl, rfl, h3⟩ := ha
      obtain ⟨c', r', mo', h4, rfl, h6⟩ := hb
      obtain ⟨rfl, rfl⟩ := List.cons.inj h4
      exact ⟨c, r, mo', rfl, rfl, h6⟩

/-! What a task's outcome says of the real machine. -/

def Same (fr fr' : AFr) : Prop := fr'.fn = fr.fn ∧ fr'.roundOf = fr.roundOf ∧ fr'.cm.isSome = fr.cm.isSome

theorem Same.refl (fr : AFr) : Same fr fr := ⟨rfl, rfl, rfl⟩
theorem Same.trans {a b c : AFr} (h1 : Same a b) (h2 : Same b c) : Same a c := ⟨h2.1.trans h1.1, h2.2.1.trans h1.2.1, h2.2.2.trans h1.2.2⟩

def leftAt : Option Code → List Item → Prop
  | none, l => l = []
  | some .ret, l => ∃ k, l = .code .ret :: k
  | some (.exit id), l => ∃ k, l = .code (.exit id) :: k ∧ exitTo id k = none
  | _, _ => False

def endR (P : Program) (ρ : Nat → Value) (μ : Mu) (w : World) (g : FuncId) (kind : CallKind) (f : Frame) : End → Prop
  | .ret v => f.fn = g ∧ f.defers = [] ∧ f.kind = kind ∧ f.mode = .returning ∧ ∃ fn v', P.funcs[g]? = some fn ∧ (results fn f.tmps).run P w = .ok v' w ∧ rel ρ μ w v v'
  | .pan c => f.fn = g ∧ f.defers = [] ∧ f.kind = kind ∧ ∃ c' fn, f.mode = .panicking c' ∧ P.funcs[g]? = some fn ∧ chainR ρ μ w c c'

def roundEnd (P : Program) (ρ : Nat → Value) (μ : Mu) (w : World) (m : Machine) (c : Frame) (cs : List Frame) : End → Prop
  | .ret v => ∃ v', rel ρ μ w v v' ∧ Steps P m (lone (c.finish v') cs w)
  | .pan ch => ∃ ch', chainR ρ μ w ch ch' ∧ Steps P m (lone (c.raise ch') cs w)

def outR (P : Program) (ρ : Nat → Value) (fl : Nat) (fr : AFr) (h : AH) (h' : AH) (out : Out) : Prop := ∀ μ w f cs, HR P ρ fl μ h w → FrB P ρ μ w fr f → cmR ρ μ w fr.cm cs → match out with
  | .left j fr' => Same fr fr' ∧ ∃ μ' w' f' cs', Eff P ρ fl μ h w μ' h' w' ∧ Steps P (lone f cs w) (lone f' cs' w') ∧ FrU P ρ μ' w' fr' f' ∧ f'.mode = .run ∧ leftAt j f'.todo ∧ csTo ρ μ' w' fr'.cm cs cs'
  | .raised c fr' => Same fr fr' ∧ ∃ μ' w' f' cs' c', Eff P ρ fl μ h w μ' h' w' ∧ Steps P (lone f cs w) (lone f' cs' w') ∧ FrU P ρ μ' w' fr' f' ∧ f'.mode = .panicking c' ∧ chainR ρ μ' w' c c' ∧ csTo ρ μ' w' fr'.cm cs cs'
  | .ended .. => False

def TaskOK (P : Program) (ρ : Nat → Value) (fl : Nat) : Task → AH → Out → AH → Prop
  | .body fr, h, out, h' => outR P ρ fl fr h h' out
  | .call g args cm, h, .ended e cm', h' => (∃ fn c, P.funcs[g]? = some fn ∧ fn.body = some c) ∧ ∀ μ w cs args', HR P ρ fl μ h w → rels ρ μ w args args' → cmR ρ μ w cm cs → cm'.isSome = cm.isSome ∧
      ∃ μ' w' f' cs', Eff P ρ fl μ h w μ' h' w' ∧ Steps P (lone (Frame.enter P g args'.toArray (kindC cm)) cs w) (lone f' cs' w') ∧ endR P ρ μ' w' g (kindC cm) f' e ∧ csTo ρ μ' w' cm' cs cs'
  | .call .., _, _, _ => False
  | .unwind fr m, h, .ended e cm', h' => fr.roundOf = none → ∀ μ w f cs, HR P ρ fl μ h w → FrU P ρ μ w fr f → modeR ρ μ w m f.mode → cmR ρ μ w fr.cm cs → cm'.isSome = fr.cm.isSome ∧
      ∃ μ' w' f' cs', Eff P ρ fl μ h w μ' h' w' ∧ Steps P (lone f cs w) (lone f' cs' w') ∧ endR P ρ μ' w' fr.fn (kindC fr.cm) f' e ∧ csTo ρ μ' w' cm' cs cs'
  | .unwind .., _, _, _ => False
  | .round l args, h, .ended e cm', h' => cm' = none ∧ ∀ μ w c cs args' rl, HR P ρ fl μ h w → μ l = some (rl, 0) → rels ρ μ w args args' →
      ∃ g tmps asg body, (Instr.yield rl args'.toArray).run P w = .ok (.round rl g tmps asg body) w ∧
      ∃ μ' w', Eff P ρ fl μ h w μ' h' w' ∧ roundEnd P ρ μ' w' (lone (Frame.round rl g tmps asg body .normal) (c :: cs) w) c cs e
  | .round .., _, _, _ => False

def RecOK (P : Program) (ρ : Nat → Value) (fl : Nat) (rec : Rec) : Prop := ∀ t h out h', rec t h = some (out, h') → TaskOK P ρ fl t h out h'

/-! One step of a body. -/

theorem outR.pre {fr fr1 : AFr} {h1 h' : AH} {out : Out} (hs : Same fr fr1)
    (hstep : ∀ μ w f cs, HR P ρ fl μ h w → FrB P ρ μ w fr f → cmR ρ μ w fr.cm cs → ∃ μ1 w1 f1 cs1, Eff P ρ fl μ h w μ1 h1 w1 ∧ Steps P (lone f cs w) (lone f1 cs1 w1) ∧ FrB P ρ μ1 w1 fr1 f1 ∧ csTo ρ μ1 w1 fr1.cm cs cs1)
    (ho : outR P ρ fl fr1 h1 h' out) : outR P ρ fl fr h h' out := by
  intro μ w f cs hr hf hc
  obtain ⟨μ1, w1, f1, cs1, e1, st1, b1, c1⟩ := hstep μ w f cs hr hf hc
  have ho := ho μ1 w1 f1 cs1 e1.hr b1 c1.cmR
  cases out with
  | ended e cm => exact ho
  | left j fr' =>
    obtain ⟨s1, μ2, w2, f2, cs2, e2, st2, b2, m2, l2, c2⟩ := ho
    exact ⟨hs.trans s1, μ2, w2, f2, cs2, e1.trans hr e2, st1.trans st2, b2, m2, l2, c1.trans c2 s1.2.2⟩
  | raised c fr' =>
    obtain ⟨s1, μ2, w2, f2, cs2, c', e2, st2, b2, m2, l2, c2⟩ := ho
    exact ⟨hs.trans s1, μ2, w2, f2, cs2, c', e1.trans hr e2, st1.trans st2, b2, m2, l2, c1.trans c2 s1.2.2⟩

theorem FrU.todo {fr : AFr} {f : Frame} (hu : FrU P ρ μ w fr f) (a : List AI) (b : List Item) : FrU P ρ μ w { fr with todo := a } { f with todo := b } :=
  ⟨hu.fn, hu.tmps, hu.defers, hu.kind, hu.round, hu.rc⟩

/-- A step that changes the list alone. -/
theorem outR.go {fr : AFr} {k : List AI} {h' : AH} {out : Out}
    (hstep : ∀ μ w f cs, HR P ρ fl μ h w → FrB P ρ μ w fr f → ∃ b, itemsR μ k b ∧ step P (lone f cs w) = .next (lone { f with todo := b } cs w))
    (ho : outR P ρ fl { fr with todo := k } h h' out) : outR P ρ fl fr h h' out :=
  outR.pre (fr1 := { fr with todo := k }) ⟨rfl, rfl, rfl⟩ (fun μ w f cs hr hf hc => by
    obtain ⟨b, h1, h2⟩ := hstep μ w f cs hr hf
    exact ⟨μ, w, _, cs, Eff.refl hr, .one h2, ⟨hf.u.todo k b, h1, hf.mode⟩, csTo.refl hc⟩) ho

theorem itemsR_cons {a : AI} {r : List AI} {l : List Item} (hh : itemsR μ (a :: r) l) : ∃ i l', l = i :: l' ∧ itemR μ a i ∧ itemsR μ r l' := hh

theorem exitA_some {id : Nat} : ∀ {k k' : List AI} {l : List Item}, itemsR μ k l → exitA id k = some k' → ∃ l', exitTo id l = some l' ∧ itemsR μ k' l'
  | [], k', l, hl, he => by cases he
  | a :: r, k', l, hl, he => by
    obtain ⟨i, l', rfl, h1, h2⟩ := hl
    cases a <;> simp only [itemR] at h1 <;> first
      | (subst h1; simp only [exitA] at he; simp only [exitTo]; first
          | (split at he
             · rename_i hid; obtain rfl := Option.some.inj he; exact ⟨l', by simp [hid], h2⟩
             · rename_i hid; obtain ⟨l2, e1, e2⟩ := exitA_some h2 he; exact ⟨l2, by simp [hid, e1], e2⟩)
          | exact exitA_some h2 he)
      | exact h1.elim
      | (obtain ⟨r', _, rfl⟩ := h1; simp only [exitA] at he; simp only [exitTo]; exact exitA_some h2 he)

theorem gotoA_some {n : Nat} : ∀ {k k' : List AI} {l : List Item}, itemsR μ k l → gotoA n k = some k' → ∃ l', gotoIn n l = some l' ∧ itemsR μ k' l'
  | [], k', l, hl, he => by cases he
  | a :: r, k', l, hl, he => by
    obtain ⟨i, l', rfl, h1, h2⟩ := hl
    cases a <;> simp only [itemR] at h1 <;> first
      | (subst h1; simp only [gotoA] at he; simp only [gotoIn]; first
          | (split at he
             · rename_i rest hid; obtain rfl := Option.some.inj he; rw [hid]; exact ⟨_, rfl, _, _, rfl, rfl, _, _, rfl, rfl, h2⟩
             · rename_i hid; obtain ⟨l2, e1, e2⟩ := gotoA_some h2 he; exact ⟨l2, by simp [hid, e1], e2⟩)
          | exact gotoA_some h2 he)
      | exact h1.elim
      | (obtain ⟨r', _, rfl⟩ := h1; simp only [gotoA] at he; simp only [gotoIn]; exact gotoA_some h2 he)

theorem exitA_none {id : Nat} : ∀ {k : List AI} {l : List Item}, itemsR μ k l → exitA id k = none → exitTo id l = none
  | [], l, hl, he => by obtain rfl : l = [] := hl; rfl
  | a :: r, l, hl, he => by
    obtain ⟨i, l', rfl, h1, h2⟩ := hl
    cases a <;> simp only [itemR] at h1 <;> first
      | (subst h1; simp only [exitA] at he; simp only [exitTo]; first
          | (split at he
             · cases he
             · rename_i hid; simp [hid, exitA_none h2 he])
          | exact exitA_none h2 he)
      | exact h1.elim
      | (obtain ⟨r', _, rfl⟩ := h1; simp only [exitA] at he; simp only [exitTo]; exact exitA_none h2 he)

end Go.Proofs.YtfchbkmegicfoaaGreat.Ex
