/- Part 3 of the proof: Exs9, Exe, ExTab, W, Ws, Own, Row, Rep, Wr, Tab, Bt, Exf, Col, Memo. -/
import Derived.Test.YtohbdgddnkoenaaGreatChecked
import Derived.IntWalk
import Derived.Test.YtohbdgddnkoenaaGreatM2
section

set_option linter.unusedSimpArgs false
set_option linter.unusedVariables false
namespace Go.Proofs.YtohbdgddnkoenaaGreat.Ex
open Go Go.RowKit
variable {P : Program} {T : TT} {S : Sums} {ρ : Nat → Value} {fl : Nat} {ops : Array Oper}
theorem picks {L : List Nat} {es : List Ent} {t0 : TM} {h0 : AH} {tf : TM} {hf : AH} {rsf : Reads} {μ0 : Mu} {w0 : World} (hT : TT.Sound P T) (ho : Ord T ops L) (hes : es.map (·.i) = L) (tr : Tr P T ρ fl ops es t0 h0 [] tf hf rsf) (hh : hold T hf rsf = true) (hr0 : HR P ρ fl μ0 h0 w0) {l : List Item} {cs : List Frame} :
    ∀ (l0 : List Nat) (listed : Array Bool) (f : Frame) (w : World) (A B : List Ent) (tA : TM) (HA : AH) (RA : Reads) (μ : Mu), LinR ops l0 listed → ClosedX ops listed → f.mode = .run → f.todo = .inRegion ops l0 :: l → Inv P T ρ fl ops es t0 h0 tf hf rsf μ0 w0 listed f w A B tA HA RA μ →
      ∃ f' w' μ', Steps P (lone f cs w) (lone f' cs w') ∧ f'.fn = f.fn ∧ f'.defers = f.defers ∧ f'.kind = f.kind ∧ f'.roundOf = f.roundOf ∧ f'.mode = .run ∧ f'.todo = .inRegion ops [] :: l ∧ Eff P ρ fl μ0 h0 w0 μ' hf w' ∧ rels ρ μ' w' tf.L f'.tmps.toList
  | [], listed, f, w, A, B, tA, HA, RA, μ, hl, hc, hm, ht, iv => by
    have hall : ∀ e ∈ es, on listed e.i := fun e he => hl _ (Array.getElem?_eq_some_iff.1 (tr.oper e he)).1
    have hB : B = [] := by
      cases hq : B with
      | nil => rfl
      | cons a B' => exact absurd (hall a (by rw [iv.cut, hq]; simp)) (iv.actsB a (by rw [hq]; simp) (iv.head a B' hq))
    subst hB
    obtain ⟨e1, e2, e3⟩ := iv.trB
    refine ⟨f, w, μ, .refl P _, rfl, rfl, rfl, rfl, hm, ht, by rw [e2]; exact iv.eff, ?_⟩
    have := iv.tmps
    rw [foldX_all es t0.L hall, ← tr.tmps] at this
    exact this
  | i :: r, listed, f, w, A, B, tA, HA, RA, μ, hl, hc, hm, ht, iv => by
    obtain ⟨hrd, hl2⟩ := hl
    obtain ⟨v', w', A', B', tA', HA', RA', μ', s1, iv2⟩ := one_pick hT ho hes tr hh hr0 (cs := cs) iv hc hrd hm ht
    have heo : ∃ o, ops[i]? = some o := ⟨ops[i]'hrd.2.2.1, Array.getElem?_eq_getElem hrd.2.2.1⟩
    obtain ⟨o, heo⟩ := heo
    have hfin := finish_region ht heo v'
    obtain ⟨f2, w2, μ2, q1, q2, q3, q4, q5, q6, q7, q8, q9⟩ := picks hT ho hes tr hh hr0 (l := l) (cs := cs) r _ (f.finish v') w' A' B' tA' HA' RA' μ' hl2 (hc.set hrd) (by rw [hfin]; exact hm) (by rw [hfin]) iv2
    exact ⟨f2, w2, μ2, s1.trans q1, by rw [q2, hfin], by rw [q3, hfin], by rw [q4, hfin], by rw [q5, hfin], q6, q7, q8, q9⟩
theorem draw_ok (hT : TT.Sound P T) (hNG : NoNG P) (hMix : P.follows .mixedOrders = true) {n : Nat} (hrec : ∀ m, m < n → RecOK P ρ fl (ex P T S m)) : DrawOK P T ρ fl (ex P T S n) := by
  intro fr id ops k h L hfr hok hx
  have ho := okD_ord hok
  obtain ⟨es, tf, hf, rsf, m, e1, e2, e3, e4, e5⟩ := trace_of hT hNG _ n fr [] k h L hrec hx
  refine outR.pre (fr1 := { fr with tmps := tf, todo := k }) ⟨rfl, rfl, rfl⟩ (fun μ w f cs hr hfB hc => ?_) (hrec m e4 _ _ _ e5)
  obtain ⟨l, t1, t2⟩ := todo_code hfr hfB
  have hd : Eff P ρ fl μ h w μ h w.drew := Eff.drew hr 1
  -- the order is drawn
  obtain ⟨t, hst⟩ : ∃ t, step P (lone f cs w) = .next (lone { f with todo := .inRegion ops (Region.linearise .any ops t) :: l } cs w.drew) :=
    ⟨w.tape w.drawn (.order f.fn id), step_lone_go (by simp [stepG, stepG.exec, hfB.mode, t1, Question.forced, Question.cut, Region.schedule, hMix])⟩
  -- the invariant at the beginning
  obtain ⟨Sg, B, tS, HS, RS, exs, s1, s2, s3, s4, s5, s6, s7, s8, s9, s10⟩ := seg hT es _ _ _ e2
  have hnone : ∀ j, ¬ on (Array.replicate ops.size false) j := fun j hj => by
    simp only [on, Array.getD_eq_getD_getElem?, Array.getElem?_replicate] at hj
    split at hj <;> simp at hj
  have iv : Inv P T ρ fl ops es fr.tmps h tf hf rsf μ w.drew (Array.replicate ops.size false) { f with todo := .inRegion ops (Region.linearise .any ops t) :: l } w.drew Sg B tS HS RS μ := by
    refine ⟨s1, s2, s3, fun e he hk => ?_, fun e he hk => hnone _, s5, ?_, ?_, fun e he hp => ?_, s8, fun e he rd hxr _ => s10 e he rd hxr⟩
    · rw [s4 e he] at hk; cases hk
    · exact (Eff.refl hd.hr).extend s6
    · rw [foldX_false]
      exact rels.mono (More.refl μ) hd.grows _ _ hfB.u.tmps
    · obtain ⟨p1, p2, p3⟩ := s7 e he hp
      refine ⟨p1, p2, fun _ => ⟨?_, p3⟩⟩
      cases hq : μ e.h.n with
      | none => rfl
      | some y => exact absurd (hr.dom _ _ hq) (by omega)
  obtain ⟨f2, w2, μ2, q1, q2, q3, q4, q5, q6, q7, q8, q9⟩ := picks hT ho e1 e2 e3 hd.hr (cs := cs) _ _ { f with todo := .inRegion ops (Region.linearise .any ops t) :: l } w.drew Sg B tS HS RS μ (linearise_LinR ho t) closed_false hfB.mode rfl iv
  have heff := hd.trans hr q8
  have hu := hfB.u.mono heff.more heff.grows
  have hlast : step P (lone f2 cs w2) = .next (lone { f2 with todo := l } cs w2) := step_lone_go (by simp [stepG, stepG.exec, q6, q7])
  refine ⟨μ2, w2, { f2 with todo := l }, cs, heff, .head hst (q1.trans (.one hlast)), ⟨⟨?_, q9, ?_, ?_, ?_, hu.rc⟩, t2.mono heff.more, q6⟩, csTo.refl (hc.mono heff.more heff.grows)⟩
  · exact q2.trans hu.fn
  · show defsR P ρ μ2 w2 fr.defers f2.defers
    rw [q3]
    exact hu.defers
  · show f2.kind = _
    rw [q4]
    exact hu.kind
  · show roundR μ2 fr.roundOf f2.roundOf
    rw [q5]
    exact hu.round
theorem ex_ok (hT : TT.Sound P T) (hNG : NoNG P) (hMix : P.follows .mixedOrders = true) (hS : SumsOK P ρ fl S) (n : Nat) : RecOK P ρ fl (ex P T S n) := by
  induction n using Nat.strongRecOn with
  | _ n ih =>
    cases n with
    | zero => intro t h L hx; cases hx
    | succ n => exact xStep_ok hT hNG hS (ih n (Nat.lt_succ_self n)) (draw_ok hT hNG hMix fun m hm => ih m (by omega))
/-- What a run comes to, from a heap of which nothing is written: one of its outcomes. -/
theorem ex_callsL (hT : TT.Sound P T) (hNG : NoNG P) (hMix : P.follows .mixedOrders = true) {w : World} (hS : SumsOK P ρ w.heap.size S) {μ0 : Mu} {h0 : AH} (hr : HR P ρ w.heap.size μ0 h0 w) (hnw : ∀ b ab, h0.at b = some ab → wr ab = false) {n : Nat} {f : FuncId} {args : List AV} {L : Outs}
    (hx : ex P T S n (.call f args none) h0 = some L) (hret : ∀ x ∈ L, ∃ v cm, x.1 = .ended (.ret v) cm) {args' : List Value} (ha : rels ρ μ0 w args args') :
    Calls P f args'.toArray w fun e w' => ∃ v cm h' v' μ', (.ended (.ret v) cm, h') ∈ L ∧ e = .returned v' ∧ Below w.heap.size w w' ∧ rel ρ μ' w' v v' := by
  intro cs
  obtain ⟨_, h2⟩ := ex_ok hT hNG hMix hS n _ _ _ hx
  obtain ⟨e, cm, h', hm, hcs, μ', w', f', cs', q1, q2, q3, q4⟩ := h2 _ w cs args' hr ha trivial
  obtain ⟨v, cm2, he⟩ := hret _ hm
  cases he
  cases cm with
  | some m => cases hcs
  | none =>
    have q4 : cs' = cs := q4
    subst q4
    obtain ⟨r1, r2, r3, r4, fn, v', r5, r6, r7⟩ := q3
    exact ⟨.returned v', w', f', ⟨v, none, h', v', μ', hm, rfl, ⟨q1.same.2.1, q1.same.1, q1.same.2.2, q1.size, fun k hk => q1.rest k hk (fun b base ab _ hb => hnw b ab hb)⟩, r7⟩, q2, r1, r4, r2, r3, fn, by rw [r1]; exact r5, r6⟩
/-- What a run comes to that has one outcome. -/
theorem ex_callsH (hT : TT.Sound P T) (hNG : NoNG P) (hMix : P.follows .mixedOrders = true) {w : World} (hS : SumsOK P ρ w.heap.size S) {μ0 : Mu} {h0 : AH} (hr : HR P ρ w.heap.size μ0 h0 w) (hnw : ∀ b ab, h0.at b = some ab → wr ab = false) {n : Nat} {f : FuncId} {args : List AV} {v : AV} {cm : Option Mode} {h' : AH}
    (hx : ex P T S n (.call f args none) h0 = some [(.ended (.ret v) cm, h')]) {args' : List Value} (ha : rels ρ μ0 w args args') :
    Calls P f args'.toArray w fun e w' => ∃ v' μ', e = .returned v' ∧ Below w.heap.size w w' ∧ rel ρ μ' w' v v' := by
  refine (ex_callsL hT hNG hMix hS hr hnw hx (fun x hx => ⟨v, cm, by rw [List.mem_singleton.1 hx]⟩) ha).mono fun e w' he => ?_
  obtain ⟨v1, cm1, h1, v', μ', hm, e1, e2, e3⟩ := he
  cases List.mem_singleton.1 hm
  exact ⟨v', μ', e1, e2, e3⟩
/-- What a closed run comes to. -/
theorem ex_calls (hT : TT.Sound P T) (hNG : NoNG P) (hMix : P.follows .mixedOrders = true) {w : World} (hS : SumsOK P ρ w.heap.size S) {n : Nat} {f : FuncId} {args : List AV} {v : AV} {cm : Option Mode} {h' : AH}
    (hx : ex P T S n (.call f args none) .nil = some [(.ended (.ret v) cm, h')]) {args' : List Value} (ha : rels ρ (fun _ => none) w args args') (hpin : ∀ r : Int, ρ 1000000 ≠ .int .i64 r := by intro r h; cases h) :
    Calls P f args'.toArray w fun e w' => ∃ v' μ', e = .returned v' ∧ Below w.heap.size w w' ∧ rel ρ μ' w' v v' :=
  ex_callsH hT hNG hMix hS (μ0 := fun _ => none) ⟨Nat.le_refl _, fun b x hb => (by cases hb), fun b r base ab hb => (by cases hb), fun b b' r base base' ab ab' hb => (by cases hb), fun r h => absurd h (hpin r)⟩ (fun b ab hb => by rw [nil_at] at hb; cases hb) hx ha
end Go.Proofs.YtohbdgddnkoenaaGreat.Ex
end

section

set_option linter.unusedSimpArgs false
set_option linter.unusedVariables false
namespace Go.Proofs.YtohbdgddnkoenaaGreat.Ex
open Go Go.RowKit
variable {P : Program} {ρ : Nat → Value} {fl : Nat}
/-- A world that has grown alone. -/
theorem EffL.below {μ : Mu} {h : List AB} {w w' : World} (hr : HRL P ρ fl μ h w) (hb : Below w.heap.size w w') : EffL P ρ fl μ h w μ h w' := by
  have hg : Grows w w' := fun k cur e fz hc => ⟨cur, e, fz, by rw [hb.block k (lt_in hc)]; exact hc, rfl⟩
  refine ⟨More.refl μ, Nat.le_refl _, fun c x h1 h2 => (by rw [h1] at h2; cases h2), fun c hc hn => rfl, fun c hc => hc, fun _ _ _ hc => hc, hg, hb.size, fun c r' base' h1 h2 => (by rw [h1] at h2; cases h2), fun k hk2 hno => hb.block k hk2, ⟨hb.tape, hb.os, hb.output⟩, ?_⟩
  refine ⟨Nat.le_trans hr.floor hb.size, hr.dom, fun c r' base' ac hc hac => ?_, hr.inj, hr.pin.more (More.refl μ) hg⟩
  obtain ⟨q1, q2, o, q3, q4⟩ := hr.obj c r' base' ac hc hac
  exact ⟨q1, Nat.lt_of_lt_of_le q2 hb.size, o, by rw [hb.block r' q2]; exact q3, q4.mono (More.refl μ) hg⟩
theorem Eff.below {μ : Mu} {h : AH} {w w' : World} (hr : HR P ρ fl μ h w) (hb : Below w.heap.size w w') : Eff P ρ fl μ h w μ h w' := EffL.below hr hb
/-- A call without arguments that answers true, summed up. -/
def sTrue : List AV → AH → Option (AV × AH)
  | [], h => some (.lit (.bool true), h)
  | _, _ => none
theorem sTrue_ok {f : FuncId} (hc : ∀ w, Calls P f #[] w fun e w' => e = .returned (.bool true) ∧ Below w.heap.size w w') {args : List AV} {h : AH} {v : AV} {h' : AH} (hg : sTrue args h = some (v, h')) {μ : Mu} {w : World} {args' : List Value} (hr : HR P ρ fl μ h w) (ha : rels ρ μ w args args') :
    Calls P f args'.toArray w fun e w' => ∃ μ' v', e = .returned v' ∧ Eff P ρ fl μ h w μ' h' w' ∧ rel ρ μ' w' v v' := by
  unfold sTrue at hg
  split at hg
  case h_2 => cases hg
  simp only [Option.some.injEq, Prod.mk.injEq] at hg
  obtain ⟨rfl, rfl⟩ := hg
  obtain rfl := rels_nil_inv ha
  refine (hc w).mono fun e w' hy => ?_
  obtain ⟨rfl, hb⟩ := hy
  exact ⟨μ, _, rfl, Eff.below hr hb, rel_lit rfl⟩
/-! How a run is told. -/
def isTrue : Option Outs → Bool
  | some [(.ended (.ret (.lit (.bool true))) none, _)] => true
  | _ => false
theorem isTrue_inv {x : Option Outs} (h : isTrue x = true) : ∃ h', x = some [(.ended (.ret (.lit (.bool true))) none, h')] := by
  unfold isTrue at h
  split at h
  · exact ⟨_, rfl⟩
  · cases h
theorem noNG : NoNG Tryz.prog := by
  have h : (Tryz.prog.funcs.all fun fn => !(fn.name == "runtime.NumGoroutine")) = true := by decide +kernel
  intro f fn hf
  have := Array.all_eq_true_iff_forall_mem.1 h fn (Array.mem_of_getElem? hf)
  simpa using this
theorem rel_ext {μ : Mu} {w : World} {i : Nat} (h : (ρ i).oneCell' = true) : rel ρ μ w (.ext i) (ρ i) := by
  unfold rel
  exact ⟨rfl, h⟩
theorem rels_exts {μ : Mu} {w : World} : ∀ (n k : Nat) (l : List Value), l.length = n → (∀ (i : Nat) (v : Value), l[i]? = some v → ρ (k + i) = v ∧ v.oneCell' = true) → rels ρ μ w ((List.range' k n).map .ext) l
  | 0, k, l, hl, _ => by rw [List.eq_nil_of_length_eq_zero hl]; exact rels_nil
  | n + 1, k, [], hl, _ => by cases hl
  | n + 1, k, v :: r, hl, h => by
    obtain ⟨h1, h2⟩ := h 0 v rfl
    rw [Nat.add_zero] at h1
    subst h1
    exact rels_cons (rel_ext h2) (rels_exts n (k + 1) r (by simpa using hl) (fun i u hu => by
      have := h (i + 1) u (by simpa using hu)
      rwa [show k + (i + 1) = k + 1 + i by omega] at this))
theorem cell_one {P : Program} {w : World} {r : Reach} {base : Nat} {t : TypeId} {v : Value} (h : Cell.okWide P w r base t v) : v.oneCell' = true := by
  cases v <;> first | rfl | skip
  all_goals
    exfalso
    unfold Cell.okWide Cell.ok at h
    cases hq : P.underlying t with
    | none => rw [hq] at h; exact h
    | some d => rw [hq] at h; cases d <;> exact h
theorem okWide_agg {P : Program} {w : World} {r : Reach} {base : Nat} {t : TypeId} {v : Value} {d : TypeDesc} (hu : P.underlying t = some d) (hd : isAggD d = true) (h : Value.okWide P w r base t v) :
    ∃ cs : Array Value, v = .agg cs ∧ cs.size = P.cellsOf t ∧ ∀ (i : Nat) (u : Value), cs[i]? = some u → u.oneCell' = true := by
  unfold Value.okWide at h
  rw [hu] at h
  cases d <;> first | cases hd | skip
  all_goals
    obtain ⟨cs, h1, h2, ts, _, _, h3⟩ := h
    refine ⟨cs, h1, h2, fun i u hu => ?_⟩
    obtain ⟨t', _, h4⟩ := h3 i u hu
    exact cell_one h4
end Go.Proofs.YtohbdgddnkoenaaGreat.Ex
end

section

namespace Go.Proofs.YtohbdgddnkoenaaGreat.Ex
open Go
def NT0 : NT := (.node (.node (.node (.node (.node (.node (.node (.node (.node .leaf 1 .leaf) 2 .leaf) 3 (.node .leaf 4 .leaf)) 5 (.node (.node .leaf 6 .leaf) 7 (.node .leaf 8 .leaf))) 9 (.node (.node (.node .leaf 10 .leaf) 11 (.node .leaf 12 .leaf)) 13 (.node (.node .leaf 14 .leaf) 15 (.node .leaf 16 .leaf)))) 17 (.node (.node (.node (.node .leaf 18 .leaf) 19 (.node .leaf 20 .leaf)) 21 (.node (.node .leaf 22 .leaf) 23 (.node .leaf 24 .leaf))) 25 (.node (.node (.node .leaf 26 .leaf) 27 (.node .leaf 28 .leaf)) 29 (.node (.node .leaf 30 .leaf) 31 (.node .leaf 32 .leaf))))) 33 (.node (.node (.node (.node (.node (.node .leaf 34 .leaf) 35 .leaf) 36 (.node .leaf 37 .leaf)) 38 (.node (.node .leaf 39 .leaf) 40 (.node .leaf 41 .leaf))) 42 (.node (.node (.node .leaf 43 .leaf) 44 (.node .leaf 45 .leaf)) 46 (.node (.node .leaf 47 .leaf) 48 (.node .leaf 49 .leaf)))) 50 (.node (.node (.node (.node .leaf 51 .leaf) 52 (.node .leaf 53 .leaf)) 54 (.node (.node .leaf 55 .leaf) 56 (.node .leaf 57 .leaf))) 58 (.node (.node (.node .leaf 59 .leaf) 60 (.node .leaf 61 .leaf)) 62 (.node (.node .leaf 63 .leaf) 64 (.node .leaf 65 .leaf)))))) 66 (.node (.node (.node (.node (.node (.node (.node .leaf 67 .leaf) 68 .leaf) 69 (.node .leaf 70 .leaf)) 71 (.node (.node .leaf 72 .leaf) 73 (.node .leaf 74 .leaf))) 75 (.node (.node (.node .leaf 76 .leaf) 77 (.node .leaf 78 .leaf)) 79 (.node (.node .leaf 80 .leaf) 81 (.node .leaf 82 .leaf)))) 83 (.node (.node (.node (.node .leaf 84 .leaf) 85 (.node .leaf 86 .leaf)) 87 (.node (.node .leaf 88 .leaf) 89 (.node .leaf 90 .leaf))) 91 (.node (.node (.node .leaf 92 .leaf) 93 (.node .leaf 94 .leaf)) 95 (.node (.node .leaf 96 .leaf) 97 (.node .leaf 98 .leaf))))) 99 (.node (.node (.node (.node (.node (.node .leaf 100 .leaf) 101 .leaf) 102 (.node .leaf 103 .leaf)) 104 (.node (.node .leaf 106 .leaf) 108 (.node .leaf 109 .leaf))) 110 (.node (.node (.node .leaf 111 .leaf) 113 (.node .leaf 114 .leaf)) 115 (.node (.node .leaf 116 .leaf) 117 (.node .leaf 118 .leaf)))) 119 (.node (.node (.node (.node .leaf 120 .leaf) 121 (.node .leaf 122 .leaf)) 123 (.node (.node .leaf 124 .leaf) 125 (.node .leaf 126 .leaf))) 127 (.node (.node (.node .leaf 128 .leaf) 129 (.node .leaf 130 .leaf)) 131 (.node (.node .leaf 132 .leaf) 133 (.node .leaf 134 .leaf))))))) 135 (.node (.node (.node (.node (.node (.node (.node (.node .leaf 136 .leaf) 137 .leaf) 138 (.node .leaf 139 .leaf)) 140 (.node (.node .leaf 141 .leaf) 142 (.node .leaf 143 .leaf))) 144 (.node (.node (.node .leaf 145 .leaf) 146 (.node .leaf 147 .leaf)) 148 (.node (.node .leaf 149 .leaf) 150 (.node .leaf 151 .leaf)))) 152 (.node (.node (.node (.node .leaf 153 .leaf) 154 (.node .leaf 155 .leaf)) 156 (.node (.node .leaf 157 .leaf) 159 (.node .leaf 160 .leaf))) 161 (.node (.node (.node .leaf 162 .leaf) 163 (.node .leaf 164 .leaf)) 165 (.node (.node .leaf 166 .leaf) 167 (.node .leaf 168 .leaf))))) 170 (.node (.node (.node (.node (.node (.node .leaf 171 .leaf) 172 .leaf) 173 (.node .leaf 174 .leaf)) 175 (.node (.node .leaf 176 .leaf) 177 (.node .leaf 178 .leaf))) 179 (.node (.node (.node .leaf 181 .leaf) 182 (.node .leaf 183 .leaf)) 184 (.node (.node .leaf 185 .leaf) 186 (.node .leaf 187 .leaf)))) 188 (.node (.node (.node (.node .leaf 189 .leaf) 190 (.node .leaf 191 .leaf)) 192 (.node (.node .leaf 193 .leaf) 194 (.node .leaf 195 .leaf))) 196 (.node (.node (.node .leaf 197 .leaf) 198 (.node .leaf 199 .leaf)) 200 (.node (.node .leaf 201 .leaf) 202 (.node .leaf 203 .leaf)))))) 204 (.node (.node (.node (.node (.node (.node (.node .leaf 205 .leaf) 206 .leaf) 207 (.node .leaf 208 .leaf)) 209 (.node (.node .leaf 210 .leaf) 211 (.node .leaf 212 .leaf))) 213 (.node (.node (.node .leaf 214 .leaf) 215 (.node .leaf 216 .leaf)) 217 (.node (.node .leaf 218 .leaf) 219 (.node .leaf 220 .leaf)))) 221 (.node (.node (.node (.node .leaf 222 .leaf) 223 (.node .leaf 224 .leaf)) 225 (.node (.node .leaf 226 .leaf) 227 (.node .leaf 228 .leaf))) 229 (.node (.node (.node .leaf 230 .leaf) 231 (.node .leaf 232 .leaf)) 234 (.node (.node .leaf 235 .leaf) 236 (.node .leaf 237 .leaf))))) 238 (.node (.node (.node (.node (.node (.node .leaf 239 .leaf) 240 .leaf) 242 (.node .leaf 243 .leaf)) 245 (.node (.node .leaf 246 .leaf) 247 (.node .leaf 248 .leaf))) 249 (.node (.node (.node .leaf 250 .leaf) 251 (.node .leaf 252 .leaf)) 253 (.node (.node .leaf 254 .leaf) 255 (.node .leaf 256 .leaf)))) 257 (.node (.node (.node (.node .leaf 258 .leaf) 259 (.node .leaf 260 .leaf)) 261 (.node (.node .leaf 262 .leaf) 263 (.node .leaf 264 .leaf))) 265 (.node (.node (.node .leaf 266 .leaf) 267 (.node .leaf 268 .leaf)) 269 (.node (.node .leaf 270 .leaf) 271 (.node .leaf 272 .leaf))))))))
set_option maxRecDepth 100000 in
theorem tab_sound : TT.Sound Tryz.prog (tabOf Tryz.prog NT0) := tabOf_sound (by decide +kernel)
end Go.Proofs.YtohbdgddnkoenaaGreat.Ex
end

section

set_option linter.unusedSimpArgs false
set_option linter.unusedVariables false
namespace Go.Proofs.YtohbdgddnkoenaaGreat.Ex
open Go
/-! Operations that neither defer nor recover. -/
def plainOp : Op → Bool
  | .defer _ => false
  | .call c => (match c.callee with | .builtin .recover => false | _ => true)
  | _ => true
def AN.plain : AN → Bool
  | .defer _ _ => false
  | .recover => false
  | _ => true
def Pl (x : AR) : Prop := ∀ n h1, x = some (n, h1) → n.plain = true
theorem Pl_none : Pl none := fun n h1 h => by cases h
theorem Pl_some {n : AN} {h : AH} (hn : n.plain = true) : Pl (some (n, h)) := fun n' h1 e => by
  simp only [Option.some.injEq, Prod.mk.injEq] at e
  rw [← e.1]
  exact hn
theorem Pl_map {α : Type} {x : Option α} {f : α → AN × AH} (hf : ∀ y, (f y).1.plain = true) : Pl (x.map f) := fun n h1 e => by
  simp only [Option.map_eq_some_iff] at e
  obtain ⟨y, _, e2⟩ := e
  rw [show n = (f y).1 by rw [e2]]
  exact hf y
theorem Pl_val {x : Option AV} {h : AH} : Pl (val h x) := Pl_map fun _ => rfl
theorem Pl_orLit {P : Program} {t : TM} {h : AH} {o : Oper} {r : Unit → AR} (hr : Pl (r ())) : Pl (orLit P o t h r) := by
  unfold orLit
  split
  · rename_i n hn
    refine Pl_some ?_
    unfold litOp at hn
    split at hn
    · unfold ofPR at hn
      split at hn
      · simp only [Option.map_eq_some_iff] at hn; obtain ⟨_, _, rfl⟩ := hn; rfl
      · simp only [Option.map_eq_some_iff] at hn; obtain ⟨_, _, rfl⟩ := hn; rfl
      · cases hn
    · cases hn
  · exact hr
theorem Pl_pv {h : AH} {x : Option (PR Value)} : Pl (ofPV h x) := by
  unfold ofPV
  split
  · exact Pl_map fun _ => rfl
  · exact Pl_map fun _ => rfl
  · exact Pl_none
theorem Pl_if {c : Prop} [Decidable c] {a b : AR} (ha : Pl a) (hb : Pl b) : Pl (if c then a else b) := by split <;> assumption
theorem Pl_bif {c : Bool} {a b : AR} (ha : Pl a) (hb : Pl b) : Pl (bif c then a else b) := by cases c <;> assumption
theorem Pl_callA {P : Program} {h : AH} {f : AV} {args : List AV} : Pl ((callA P f args).map (·, h)) := fun n h1 e => by
  simp only [Option.map_eq_some_iff, Prod.mk.injEq] at e
  obtain ⟨y, hy, rfl, _⟩ := e
  unfold callA at hy
  split at hy
  · obtain rfl := Option.some.inj hy; rfl
  · obtain rfl := Option.some.inj hy; rfl
  · simp only [Option.map_eq_some_iff] at hy; obtain ⟨_, _, rfl⟩ := hy; rfl
  · cases hy
theorem aop_plain {P : Program} {T : TT} {t : TM} {h : AH} {o : Oper} (hp : plainOp o.op = true) : Pl (aop P T o t h) := by
  obtain ⟨dst, op, ty, pos, after, guard⟩ := o
  have e0 : ∀ x : AR, (∃ y : Option AV, x = val h y) → Pl x := fun x ⟨y, e⟩ => e ▸ Pl_val
  cases op <;> simp only [aop] <;> first
    | exact Pl_none | exact Pl_val | exact Pl_map fun _ => rfl | skip
  all_goals first
    | (cases hp; done)
    | (simp only [aPick, aBox, aBuild, aBuildSlice, aLoad, aStore, aNilCheck, aBin, aUn, aConvert, aConv1, aMakeInterface, aMakeFunc, aMakeSlice, aSlice, aSlice1, aFieldAddr, aField, aIndexAddr, aIndex, aLookup, aUpdate, aRange, aNext, aEntry, aExtract, aAssert, aPanic, aSame, aAlloc]
       repeat' (first | exact Pl_none | exact Pl_val | exact Pl_pv | (exact Pl_map fun _ => rfl) | exact Pl_some rfl | refine Pl_orLit ?_ | refine Pl_bif ?_ ?_ | refine Pl_if ?_ ?_ | split)
       done)
    | skip
  · rename_i r; cases r <;> first | exact Pl_none | exact Pl_some rfl
  · rename_i c
    unfold aCall
    split
    · rename_i b hb
      unfold aBuiltin
      repeat' (first | exact Pl_none | exact Pl_val | (exact Pl_map fun _ => rfl) | exact Pl_some rfl | refine Pl_orLit ?_ | split)
      all_goals (simp only [plainOp, hb] at hp; first | cases hp | skip)
    · split <;> first | exact Pl_callA | exact Pl_none
    · split <;> first | exact Pl_callA | exact Pl_none
section
variable {P : Program} {T : TT} {S : Sums}
/-! More fuel does not hurt. -/
def RLe (r r' : Rec) : Prop := ∀ t h x, r t h = some x → r' t h = some x
def OLe {α : Type} (a b : Option α) : Prop := ∀ x, a = some x → b = some x
theorem OLe.refl {α : Type} (a : Option α) : OLe a a := fun _ h => h
variable {r r' : Rec}
theorem collectL_mono {α β : Type} {f g : α → Option (List β)} (hfg : ∀ x, OLe (f x) (g x)) : ∀ l : List α, OLe (collectL f l) (collectL g l)
  | [] => fun x hx => by cases hx
  | [a] => hfg a
  | a :: b :: r => fun x hx => by
    unfold collectL at hx ⊢
    cases ha : f a with
    | none => rw [ha] at hx; cases hx
    | some A =>
      cases hb : collectL f (b :: r) with
      | none => rw [ha, hb] at hx; cases hx
      | some B =>
        rw [ha, hb] at hx
        rw [hfg a _ ha, collectL_mono hfg (b :: r) _ hb]
        exact hx
theorem bindL_mono {α β : Type} {f g : α → Option (List β)} (hfg : ∀ x, OLe (f x) (g x)) {a b : Option (List α)} (hab : OLe a b) : OLe (bindL f a) (bindL g b) := fun x hx => by
  cases a with
  | none => cases hx
  | some l => rw [hab _ rfl]; exact collectL_mono hfg l x hx
theorem xCall1_mono (hr : RLe r r') (cm : Option Mode) (p : Out × AH) : OLe (xCall1 r cm p) (xCall1 r' cm p) := fun x hx => by
  revert hx; unfold xCall1; split <;> first | exact fun hx => hr _ _ _ hx | exact id
theorem xCall_mono (hr : RLe r r') (f : FuncId) (args : List AV) (cm : Option Mode) (h : AH) : OLe (xCall P S r f args cm h) (xCall P S r' f args cm h) := fun x hx => by
  unfold xCall at hx ⊢
  split at hx
  · split at hx
    · split at hx
      · exact hx
      · exact hx
      · exact bindL_mono (xCall1_mono hr _) (fun y hy => hr _ _ _ hy) x hx
    · cases hx
  · cases hx
theorem xUnwind1_mono (hr : RLe r r') (fr : AFr) (ds : List ADI) (p : Out × AH) : OLe (xUnwind1 r fr ds p) (xUnwind1 r' fr ds p) := fun x hx => by
  revert hx; unfold xUnwind1; split <;> first | exact fun hx => hr _ _ _ hx | exact id
theorem xUnwind_mono (hr : RLe r r') (fr : AFr) (m : Mode) (h : AH) : OLe (xUnwind P T r fr m h) (xUnwind P T r' fr m h) := fun x hx => by
  unfold xUnwind at hx ⊢
  split at hx
  · split at hx <;> exact hx
  · split at hx
    · exact hr _ _ _ hx
    · cases hx
  · exact bindL_mono (xUnwind1_mono hr _ _) (fun y hy => hr _ _ _ hy) x hx
theorem xRound_mono (hr : RLe r r') (l : Nat) (args : List AV) (h : AH) : OLe (xRound P r l args h) (xRound P r' l args h) := fun x hx => by
  unfold xRound at hx ⊢
  split at hx
  · rename_i lo hl
    split at hx
    · rename_i hlen
      rw [if_pos hlen]
      exact bindL_mono (fun p => OLe.refl _) (fun y hy => hr _ _ _ hy) x hx
    · cases hx
  · cases hx
theorem xRange1_mono (hr : RLe r r') (fr : AFr) (k : List AI) (d l : Nat) (p : Out × AH) : OLe (xRange1 r fr k d l p) (xRange1 r' fr k d l p) := fun x hx => by
  revert hx; unfold xRange1; split <;> first | exact fun hx => hr _ _ _ hx | exact id
theorem xRange_mono (hr : RLe r r') (fr : AFr) (k : List AI) (h : AH) (f : Operand) (ps : Array Tmp) (a b : Code) : OLe (xRange P r fr k h f ps a b) (xRange P r' fr k h f ps a b) := fun x hx => by
  unfold xRange at hx ⊢
  split at hx
  · split at hx
    · exact bindL_mono (xRange1_mono hr _ _ _ _) (fun y hy => hr _ _ _ hy) x hx
    · cases hx
  · cases hx
theorem xBegin_mono (hr : RLe r r') (fr : AFr) (k : List AI) (h : AH) : OLe (xBegin r fr k h) (xBegin r' fr k h) := fun x hx => by
  unfold xBegin at hx ⊢
  split at hx
  · split at hx
    · split at hx
      · exact hr _ _ _ hx
      · cases hx
    · cases hx
  · cases hx
theorem xEnd_mono (hr : RLe r r') (fr : AFr) (l : Nat) (k : List AI) (h : AH) : OLe (xEnd r fr l k h) (xEnd r' fr l k h) := fun x hx => by
  unfold xEnd at hx ⊢
  split at hx
  · split at hx
    · cases hx
    · exact hr _ _ _ hx
  · cases hx
theorem xCalled_mono (hr : RLe r r') (fr : AFr) (o : Oper) (it : AI) (k : List AI) (p : Out × AH) : OLe (xCalled r fr o it k p) (xCalled r' fr o it k p) := fun x hx => by
  revert hx; unfold xCalled; split <;> first | exact fun hx => hr _ _ _ hx | exact id
theorem xOp_mono (hr : RLe r r') (fr : AFr) (o : Oper) (it : AI) (k : List AI) (a : AR) : OLe (xOp r fr o it k a) (xOp r' fr o it k a) := fun x hx => by
  unfold xOp at hx ⊢
  split at hx
  · exact hr _ _ _ hx
  · exact bindL_mono (xCalled_mono hr _ _ _ _) (fun y hy => hr _ _ _ hy) x hx
  · exact bindL_mono (xCalled_mono hr _ _ _ _) (fun y hy => hr _ _ _ hy) x hx
  · split at hx
    · cases hx
    · rename_i hn; rw [if_neg hn]; exact hr _ _ _ hx
  · split at hx
    · cases hx
    · rename_i hn; rw [if_neg hn]; exact hr _ _ _ hx
  · exact hx
  · exact collectL_mono (fun y => fun z hz => hr _ _ _ hz) _ x hx
  · cases hx
theorem xReg_mono (hr : RLe r r') (fr : AFr) (ops : Array Oper) (i : Nat) (l : List Nat) (k : List AI) (h : AH) : OLe (xReg P T r fr ops i l k h) (xReg P T r' fr ops i l k h) := fun x hx => by
  unfold xReg at hx ⊢
  split at hx
  · split at hx
    · exact xOp_mono hr _ _ _ _ _ x hx
    · exact hr _ _ _ hx
    · cases hx
  · cases hx
theorem xCalledD_mono (hr : RLe r r') {a b : Option Outs} (hab : OLe a b) (fr : AFr) (o : Oper) (it : AI) (k : List AI) : OLe (xCalledD r fr o it k a) (xCalledD r' fr o it k b) := fun x hx => by
  cases a with
  | none => cases hx
  | some p => rw [hab _ rfl]; revert hx; unfold xCalledD; split <;> first | exact fun hx => hr _ _ _ hx | exact id
theorem xOpD_mono (hr : RLe r r') (fr : AFr) (ops : Array Oper) (i : Nat) (o : Oper) (l : List Nat) (rs : List (Nat × RD × AV)) (k : List AI) (a : AR) : OLe (xOpD P T r fr ops i o l rs k a) (xOpD P T r' fr ops i o l rs k a) := fun x hx => by
  unfold xOpD at hx ⊢
  split at hx
  · split at hx
    · exact hr _ _ _ hx
    · exact xCalledD_mono hr (fun y hy => hr _ _ _ hy) _ _ _ _ x hx
    · exact xCalledD_mono hr (fun y hy => hr _ _ _ hy) _ _ _ _ x hx
    · cases hx
  · split at hx
    · split at hx
      · exact hr _ _ _ hx
      · rename_i hrd
        cases hl : (litOp P o fr.tmps).isSome with
        | false => rw [hl] at hx; cases hx
        | true => rw [hl] at hx; exact hr _ _ _ hx
    · cases hx
  · split at hx
    · exact hr _ _ _ hx
    · cases hx
theorem xRegD1_mono (hr : RLe r r') (fr : AFr) (ops : Array Oper) (i : Nat) (o : Oper) (l : List Nat) (rs : List (Nat × RD × AV)) (k : List AI) (h : AH) : OLe (xRegD1 P T r fr ops i o l rs k h) (xRegD1 P T r' fr ops i o l rs k h) := fun x hx => by
  unfold xRegD1 at hx ⊢
  split at hx
  · exact xOpD_mono hr _ _ _ _ _ _ _ _ x hx
  · exact hr _ _ _ hx
  · cases hx
theorem xRegD_mono (hr : RLe r r') (fr : AFr) (ops : Array Oper) (i : Nat) (l : List Nat) (rs : List (Nat × RD × AV)) (k : List AI) (h : AH) : OLe (xRegD P T r fr ops i l rs k h) (xRegD P T r' fr ops i l rs k h) := fun x hx => by
  unfold xRegD at hx ⊢
  split at hx
  · split at hx
    · rename_i ha
      rw [if_pos ha]
      split at hx
      · rename_i hh; rw [if_pos hh]; exact xRegD1_mono hr _ _ _ _ _ _ _ _ x hx
      · cases hx
    · rename_i ha
      rw [if_neg ha]
      exact xRegD1_mono hr _ _ _ _ _ _ _ _ x hx
  · cases hx
theorem xCode_mono (hr : RLe r r') (fr : AFr) (k : List AI) (h : AH) (c : Code) : OLe (xCode P T r fr k h c) (xCode P T r' fr k h c) := fun x hx => by
  cases c with
  | ret => exact hx
  | skip => exact hr _ _ _ hx
  | label n => exact hr _ _ _ hx
  | seq a b => exact hr _ _ _ hx
  | cond c a b =>
    simp only [xCode, xCond] at hx ⊢
    split at hx
    · exact hr _ _ _ hx
    · cases hx
  | block id c => exact hr _ _ _ hx
  | loop c => exact hr _ _ _ hx
  | scope c => exact hr _ _ _ hx
  | exit id =>
    simp only [xCode, xExit] at hx ⊢
    split at hx
    · exact hr _ _ _ hx
    · exact hx
  | goto n =>
    simp only [xCode, xGoto] at hx ⊢
    split at hx
    · exact hr _ _ _ hx
    · cases hx
  | rangeFunc f ps a b => exact xRange_mono hr _ _ _ _ _ _ _ x hx
  | region id ops draw =>
    simp only [xCode, xRegion] at hx ⊢
    cases draw with
    | true =>
      simp only [cond_true] at hx ⊢
      cases hok : okD T ops with
      | false => rw [hok] at hx; cases hx
      | true => rw [hok] at hx; exact hr _ _ _ hx
    | false => exact hr _ _ _ hx
  | refuse why => cases hx
theorem xBody_mono (hr : RLe r r') (fr : AFr) (h : AH) : OLe (xBody P T r fr h) (xBody P T r' fr h) := fun x hx => by
  unfold xBody at hx ⊢
  split at hx
  · exact hx
  · rename_i it k hk
    unfold xItem at hx ⊢
    split at hx
    · exact xCode_mono hr _ _ _ _ x hx
    · exact hr _ _ _ hx
    · exact hr _ _ _ hx
    · exact hr _ _ _ hx
    · exact hr _ _ _ hx
    · exact xReg_mono hr _ _ _ _ _ _ x hx
    · split at hx
      · rename_i hh; rw [if_pos hh]; exact hr _ _ _ hx
      · cases hx
    · exact xRegD_mono hr _ _ _ _ _ _ _ x hx
    · exact xBegin_mono hr _ _ _ x hx
    · exact xEnd_mono hr _ _ _ _ x hx
theorem xStep_mono (hr : RLe r r') : RLe (xStep P T S r) (xStep P T S r') := fun t h x hx => by
  cases t with
  | call f args cm => exact xCall_mono hr _ _ _ _ x hx
  | body fr => exact xBody_mono hr _ _ x hx
  | unwind fr m => exact xUnwind_mono hr _ _ _ x hx
  | round l args => exact xRound_mono hr _ _ _ x hx
theorem ex_mono1 : ∀ n, RLe (ex P T S n) (ex P T S (n + 1))
  | 0 => fun t h x hx => by cases hx
  | n + 1 => fun t h x hx => xStep_mono (ex_mono1 n) t h x hx
theorem ex_mono {n m : Nat} (hnm : n ≤ m) : RLe (ex P T S n) (ex P T S m) := by
  induction hnm with
  | refl => exact fun _ _ _ h => h
  | step _ ih => exact fun t h x hx => ex_mono1 _ t h x (ih t h x hx)
/-! No list of outcomes is empty. -/
def RNe (r : Rec) : Prop := ∀ t h L, r t h = some L → L ≠ []
theorem collectL_ne {α β : Type} {f : α → Option (List β)} (hf : ∀ x M, f x = some M → M ≠ []) : ∀ {l : List α} {L : List β}, collectL f l = some L → L ≠ []
  | [], L, h => by cases h
  | [a], L, h => hf a L h
  | a :: b :: r, L, h => by
    unfold collectL at h
    cases ha : f a with
    | none => rw [ha] at h; cases h
    | some A =>
      cases hb : collectL f (b :: r) with
      | none => rw [ha, hb] at h; cases h
      | some B =>
        rw [ha, hb] at h
        cases h
        exact fun he => hf a A ha (List.append_eq_nil_iff.1 he).1
theorem bindL_ne {α β : Type} {f : α → Option (List β)} (hf : ∀ x M, f x = some M → M ≠ []) {o : Option (List α)} {L : List β} (h : bindL f o = some L) : L ≠ [] := by
  cases o with
  | none => cases h
  | some l => exact collectL_ne hf h
theorem one_ne {α : Type} {a : α} {L : List α} (h : some [a] = some L) : L ≠ [] := by cases h; simp
section
variable {r : Rec}
theorem xOp_ne (hr : RNe r) {fr : AFr} {o : Oper} {it : AI} {k : List AI} {a : AR} {L : Outs} (hx : xOp r fr o it k a = some L) : L ≠ [] := by
  have hc : ∀ (p : Out × AH) (M : Outs), xCalled r fr o it k p = some M → M ≠ [] := fun p M hM => by
    unfold xCalled at hM
    split at hM
    · exact hr _ _ _ hM
    · exact one_ne hM
    · cases hM
  unfold xOp at hx
  split at hx
  · exact hr _ _ _ hx
  · exact bindL_ne hc hx
  · exact bindL_ne hc hx
  · split at hx
    · cases hx
    · exact hr _ _ _ hx
  · split at hx
    · cases hx
    · exact hr _ _ _ hx
  · exact one_ne hx
  · exact collectL_ne (fun x M hM => hr _ _ _ hM) hx
  · cases hx
theorem xRegD1_ne (hr : RNe r) {fr : AFr} {ops : Array Oper} {i : Nat} {o : Oper} {l : List Nat} {rs : List (Nat × RD × AV)} {k : List AI} {h : AH} {L : Outs} (hx : xRegD1 P T r fr ops i o l rs k h = some L) : L ≠ [] := by
  have hc : ∀ (p : Option Outs), xCalledD r fr o (.regD ops l rs) k p = some L → L ≠ [] := fun p hM => by
    unfold xCalledD at hM
    split at hM
    · exact hr _ _ _ hM
    · cases hM
  unfold xRegD1 at hx
  split at hx
  · unfold xOpD at hx
    split at hx
    · split at hx
      · exact hr _ _ _ hx
      · exact hc _ hx
      · exact hc _ hx
      · cases hx
    · split at hx
      · split at hx
        · exact hr _ _ _ hx
        · cases hl : (litOp P o fr.tmps).isSome with
          | false => rw [hl] at hx; cases hx
          | true => rw [hl] at hx; exact hr _ _ _ hx
      · cases hx
    · split at hx
      · exact hr _ _ _ hx
      · cases hx
  · exact hr _ _ _ hx
  · cases hx
theorem xCode_ne (hr : RNe r) {fr : AFr} {k : List AI} {h : AH} {c : Code} {L : Outs} (hx : xCode P T r fr k h c = some L) : L ≠ [] := by
  cases c with
  | ret => exact one_ne hx
  | skip => exact hr _ _ _ hx
  | label n => exact hr _ _ _ hx
  | seq a b => exact hr _ _ _ hx
  | cond c a b =>
    simp only [xCode, xCond] at hx
    split at hx
    · exact hr _ _ _ hx
    · cases hx
  | block id c => exact hr _ _ _ hx
  | loop c => exact hr _ _ _ hx
  | scope c => exact hr _ _ _ hx
  | exit id =>
    simp only [xCode, xExit] at hx
    split at hx
    · exact hr _ _ _ hx
    · exact one_ne hx
  | goto n =>
    simp only [xCode, xGoto] at hx
    split at hx
    · exact hr _ _ _ hx
    · cases hx
  | rangeFunc f ps a b =>
    simp only [xCode, xRange] at hx
    split at hx
    · split at hx
      · refine bindL_ne (fun p M hM => ?_) hx
        unfold xRange1 at hM
        split at hM
        · exact hr _ _ _ hM
        · exact one_ne hM
        · cases hM
      · cases hx
    · cases hx
  | region id ops draw =>
    simp only [xCode, xRegion] at hx
    cases draw with
    | true =>
      simp only [cond_true] at hx
      cases hok : okD T ops with
      | false => rw [hok] at hx; cases hx
      | true => rw [hok] at hx; exact hr _ _ _ hx
    | false => exact hr _ _ _ hx
  | refuse why => cases hx
theorem xStep_ne (hr : RNe r) : RNe (xStep P T S r) := fun t h L hx => by
  cases t with
  | call f args cm =>
    simp only [xStep, xCall] at hx
    split at hx
    · split at hx
      · split at hx
        · simp only [Option.map_eq_some_iff] at hx
          obtain ⟨_, _, rfl⟩ := hx
          simp
        · cases hx
        · refine bindL_ne (fun p M hM => ?_) hx
          unfold xCall1 at hM
          split at hM
          · exact hr _ _ _ hM
          · exact hr _ _ _ hM
          · exact hr _ _ _ hM
          · cases hM
      · cases hx
    · cases hx
  | body fr =>
    simp only [xStep, xBody] at hx
    split at hx
    · exact one_ne hx
    · rename_i it k hk
      unfold xItem at hx
      split at hx
      · exact xCode_ne hr hx
      · exact hr _ _ _ hx
      · exact hr _ _ _ hx
      · exact hr _ _ _ hx
      · exact hr _ _ _ hx
      · unfold xReg at hx
        split at hx
        · split at hx
          · exact xOp_ne hr hx
          · exact hr _ _ _ hx
          · cases hx
        · cases hx
      · split at hx
        · exact hr _ _ _ hx
        · cases hx
      · unfold xRegD at hx
        split at hx
        · split at hx
          · split at hx
            · exact xRegD1_ne hr hx
            · cases hx
          · exact xRegD1_ne hr hx
        · cases hx
      · unfold xBegin at hx
        split at hx
        · split at hx
          · split at hx
            · exact hr _ _ _ hx
            · cases hx
          · cases hx
        · cases hx
      · unfold xEnd at hx
        split at hx
        · split at hx
          · cases hx
          · exact hr _ _ _ hx
        · cases hx
  | unwind fr m =>
    simp only [xStep, xUnwind] at hx
    split at hx
    · split at hx
      · simp only [xResults] at hx
        split at hx
        · simp only [Option.map_eq_some_iff] at hx
          obtain ⟨_, _, rfl⟩ := hx
          simp
        · cases hx
      · split at hx
        · exact one_ne hx
        · cases hx
    · split at hx
      · exact hr _ _ _ hx
      · cases hx
    · refine bindL_ne (fun p M hM => ?_) hx
      unfold xUnwind1 at hM
      split at hM
      · exact hr _ _ _ hM
      · exact hr _ _ _ hM
      · cases hM
  | round l args =>
    simp only [xStep, xRound] at hx
    split at hx
    · split at hx
      · refine bindL_ne (fun p M hM => ?_) hx
        unfold xRound1 at hM
        split at hM
        · split at hM
          · exact one_ne hM
          · cases hM
        · split at hM
          · exact one_ne hM
          · cases hM
        · cases hM
      · cases hx
    · cases hx
end
theorem ex_ne : ∀ n, RNe (ex P T S n)
  | 0 => fun t h L hx => by cases hx
  | n + 1 => xStep_ne (ex_ne n)
/-- A task comes to something of which Q holds, to one thing alone, or (nd) to one of several. -/
def Wn (P : Program) (T : TT) (S : Sums) (nd : Bool) (t : Task) (h : AH) (Q : Out → AH → Prop) : Prop := ∃ n L, ex P T S n t h = some L ∧ (nd = true ∨ ∃ x, L = [x]) ∧ ∀ x ∈ L, Q x.1 x.2
abbrev W (P : Program) (T : TT) (S : Sums) (t : Task) (h : AH) (Q : Out → AH → Prop) : Prop := Wn P T S false t h Q
theorem W.out {t : Task} {h : AH} {Q : Out → AH → Prop} (hw : W P T S t h Q) : ∃ n o h', ex P T S n t h = some [(o, h')] ∧ Q o h' := by
  obtain ⟨n, L, h1, h2, h3⟩ := hw
  rcases h2 with h2 | ⟨x, rfl⟩
  · cases h2
  · exact ⟨n, x.1, x.2, h1, h3 x (List.mem_singleton.2 rfl)⟩
theorem W.intro {nd : Bool} {t : Task} {h h' : AH} {n : Nat} {o : Out} {Q : Out → AH → Prop} (h1 : ex P T S n t h = some [(o, h')]) (hq : Q o h') : Wn P T S nd t h Q :=
  ⟨n, _, h1, .inr ⟨_, rfl⟩, fun x hx => by rw [List.mem_singleton.1 hx]; exact hq⟩
theorem Wn.mono {nd : Bool} {t : Task} {h : AH} {Q Q' : Out → AH → Prop} (hw : Wn P T S nd t h Q) (hq : ∀ o h', Q o h' → Q' o h') : Wn P T S nd t h Q' := by
  obtain ⟨n, L, h1, h2, h3⟩ := hw
  exact ⟨n, L, h1, h2, fun x hx => hq _ _ (h3 x hx)⟩
theorem W.mono {t : Task} {h : AH} {Q Q' : Out → AH → Prop} (hw : W P T S t h Q) (hq : ∀ o h', Q o h' → Q' o h') : W P T S t h Q' := Wn.mono hw hq
theorem W_eq {nd : Bool} {t t' : Task} {h h' : AH} {Q : Out → AH → Prop} (e : ∀ rec : Rec, xStep P T S rec t h = rec t' h') : Wn P T S nd t h Q = Wn P T S nd t' h' Q := by
  apply propext
  constructor
  · rintro ⟨n, L, h3, h4⟩
    refine ⟨n, L, ?_, h4⟩
    have h5 : ex P T S (n + 1) t h = some L := ex_mono1 n _ _ _ h3
    rw [← h5]
    exact (e (ex P T S n)).symm
  · rintro ⟨n, L, h3, h4⟩
    exact ⟨n + 1, L, (e (ex P T S n)).trans h3, h4⟩
theorem W_end {nd : Bool} {t : Task} {h h' : AH} {o : Out} {Q : Out → AH → Prop} (e : ∀ rec : Rec, xStep P T S rec t h = some [(o, h')]) : Wn P T S nd t h Q = Q o h' := by
  apply propext
  constructor
  · rintro ⟨n, L, h3, _, h4⟩
    have h5 : ex P T S (n + 1) t h = some L := ex_mono1 n _ _ _ h3
    have h6 : ex P T S (n + 1) t h = some [(o, h')] := e (ex P T S n)
    rw [h5] at h6
    obtain rfl := Option.some.inj h6
    exact h4 (o, h') (List.mem_singleton.2 rfl)
  · exact fun hq => W.intro (n := 1) (e (ex P T S 0)) hq
/-- What stays of a frame while its body runs. -/
structure FE where
  fn : FuncId
  defers : List ADI := []
  cm : Option Mode := none
  ro : Option Nat := none
  nd : Bool := false
def FE.fr (E : FE) (t : TM) (k : List AI) : AFr := { fn := E.fn, tmps := t, todo := k, defers := E.defers, cm := E.cm, roundOf := E.ro }
abbrev KK := Option Code → TM → AH → Prop
/-- The blocks for deferred calls that ranges over functions have laid are taken up. -/
inductive Coll (ok : Prop) : List ADI → List ADI → AH → AH → Prop
  | refl (ds : List ADI) (h : AH) : Coll ok ds ds h h
  | cons {b : Nat} {ds ds0 : List ADI} {h h' : AH} : ok → h.at b = some .defd → Coll ok ds ds0 (h.put b .gone) h' → Coll ok (.coll b :: ds) ds0 h h'
theorem Coll.len {ok : Prop} {ds ds0 : List ADI} {h h' : AH} (c : Coll ok ds ds0 h h') : ds0.length ≤ ds.length := by
  induction c with
  | refl => exact Nat.le_refl _
  | cons _ _ _ ih => simp only [List.length_cons]; omega
theorem Coll.same {ok : Prop} {ds : List ADI} {h h' : AH} (c : Coll ok ds ds h h') : h' = h := by
  cases c with
  | refl => rfl
  | cons _ _ c => have := c.len; simp only [List.length_cons] at this; omega
/-- A frame's body runs to its end; K is told the jump, the temporaries and the heap (behind the taking up of what ranges over functions deferred). -/
def WB (P : Program) (T : TT) (S : Sums) (E : FE) (t : TM) (k : List AI) (h : AH) (K : KK) : Prop :=
  Wn P T S E.nd (.body (E.fr t k)) h fun o h' => ∃ j t' k' ds h'', o = .left j (({ E with defers := ds } : FE).fr t' k') ∧ Coll (E.ro = none) ds E.defers h' h'' ∧ K j t' h''
/-- A call comes back. -/
def WC (P : Program) (T : TT) (S : Sums) (f : FuncId) (args : List AV) (h : AH) (Q : AV → AH → Prop) : Prop :=
  W P T S (.call f args none) h fun o h' => ∃ v cm, o = .ended (.ret v) cm ∧ Q v h'
/-- A call comes back, in one of several ways. -/
def WCm (P : Program) (T : TT) (S : Sums) (f : FuncId) (args : List AV) (h : AH) (Q : AV → AH → Prop) : Prop :=
  Wn P T S true (.call f args none) h fun o h' => ∃ v cm, o = .ended (.ret v) cm ∧ Q v h'
theorem WC.toM {f : FuncId} {args : List AV} {h : AH} {Q : AV → AH → Prop} (hw : WC P T S f args h Q) : WCm P T S f args h Q := by
  obtain ⟨n, L, h1, h2, h3⟩ := hw
  exact ⟨n, L, h1, .inl rfl, h3⟩
theorem WCm.mono {f : FuncId} {args : List AV} {h : AH} {Q Q' : AV → AH → Prop} (hw : WCm P T S f args h Q) (hq : ∀ v h', Q v h' → Q' v h') : WCm P T S f args h Q' :=
  Wn.mono hw fun o h' ⟨v, cm, e, hv⟩ => ⟨v, cm, e, hq v h' hv⟩
/-- A call from a frame that may come to one of several things. -/
def WCe (P : Program) (T : TT) (S : Sums) (nd : Bool) (f : FuncId) (args : List AV) (h : AH) (Q : AV → AH → Prop) : Prop := bif nd then WCm P T S f args h Q else WC P T S f args h Q
theorem WC.mono {f : FuncId} {args : List AV} {h : AH} {Q Q' : AV → AH → Prop} (hw : WC P T S f args h Q) (hq : ∀ v h', Q v h' → Q' v h') : WC P T S f args h Q' := by
  unfold WC at hw ⊢
  exact Wn.mono hw fun o h' ⟨v, cm, e, hv⟩ => ⟨v, cm, e, hq v h' hv⟩
theorem WB.mono {E : FE} {t : TM} {k : List AI} {h : AH} {K K' : KK} (hw : WB P T S E t k h K) (hq : ∀ j t' h', K j t' h' → K' j t' h') : WB P T S E t k h K' :=
  Wn.mono hw fun o h' ⟨j, t', k', ds, h'', e, hc, hv⟩ => ⟨j, t', k', ds, h'', e, hc, hq j t' h'' hv⟩
variable {E : FE} {t : TM} {k : List AI} {h : AH} {K : KK}
theorem WB_eq {t' : TM} {k' : List AI} {h' : AH} (e : ∀ rec : Rec, xBody P T rec (E.fr t k) h = rec (.body (E.fr t' k')) h') : WB P T S E t k h K = WB P T S E t' k' h' K := W_eq e
theorem FE.fr_inj {t' : TM} {k' : List AI} {ds : List ADI} (e : E.fr t k = ({ E with defers := ds } : FE).fr t' k') : t = t' ∧ k = k' ∧ E.defers = ds := by
  simp only [FE.fr, AFr.mk.injEq] at e
  exact ⟨e.2.1, e.2.2.1, e.2.2.2.1⟩
theorem WB_end {j : Option Code} (e : ∀ rec : Rec, xBody P T rec (E.fr t k) h = some [(.left j (E.fr t k), h)]) : WB P T S E t k h K = K j t h := by
  unfold WB
  rw [W_end (t := .body (E.fr t k)) (h' := h) (o := .left j (E.fr t k)) (fun rec => e rec)]
  apply propext
  constructor
  · rintro ⟨j', t', k', ds, h'', e1, hc, hk⟩
    simp only [Out.left.injEq] at e1
    obtain ⟨rfl, e2⟩ := e1
    obtain ⟨rfl, _, rfl⟩ := FE.fr_inj e2
    rw [hc.same] at hk
    exact hk
  · exact fun hk => ⟨j, t, k, E.defers, h, rfl, .refl _ _, hk⟩
theorem WB_nil : WB P T S E t [] h K = K none t h := WB_end fun _ => rfl
theorem WB_ret : WB P T S E t (.code .ret :: k) h K = K (some .ret) t h := WB_end fun _ => rfl
theorem WB_skip : WB P T S E t (.code .skip :: k) h K = WB P T S E t k h K := WB_eq fun _ => rfl
theorem WB_label {n : Nat} : WB P T S E t (.code (.label n) :: k) h K = WB P T S E t k h K := WB_eq fun _ => rfl
theorem WB_seq {a b : Code} : WB P T S E t (.code (.seq a b) :: k) h K = WB P T S E t (.code a :: .code b :: k) h K := WB_eq fun _ => rfl
theorem WB_block {id : Nat} {c : Code} : WB P T S E t (.code (.block id c) :: k) h K = WB P T S E t (.code c :: .blk id :: k) h K := WB_eq fun _ => rfl
theorem WB_loop {c : Code} : WB P T S E t (.code (.loop c) :: k) h K = WB P T S E t (.lp c :: k) h K :=
  (WB_eq (k' := .code c :: .lp c :: k) fun _ => rfl).trans (WB_eq (k := .lp c :: k) fun _ => rfl).symm
theorem WB_lp {c : Code} : WB P T S E t (.lp c :: k) h K = WB P T S E t (.code c :: .lp c :: k) h K := WB_eq fun _ => rfl
theorem WB_scope {c : Code} : WB P T S E t (.code (.scope c) :: k) h K = WB P T S E t (.code c :: .sc c :: k) h K := WB_eq fun _ => rfl
theorem WB_blk {id : Nat} : WB P T S E t (.blk id :: k) h K = WB P T S E t k h K := WB_eq fun _ => rfl
theorem WB_sc {c : Code} : WB P T S E t (.sc c :: k) h K = WB P T S E t k h K := WB_eq fun _ => rfl
theorem WB_region {id : Nat} {ops : Array Oper} : WB P T S E t (.code (.region id ops false) :: k) h K = WB P T S E t (.reg ops (List.range ops.size) :: k) h K := WB_eq fun _ => rfl
theorem WB_reg_nil {ops : Array Oper} : WB P T S E t (.reg ops [] :: k) h K = WB P T S E t k h K := WB_eq fun _ => rfl
def WExit (P : Program) (T : TT) (S : Sums) (E : FE) (t : TM) (id : Nat) (h : AH) (K : KK) : Option (List AI) → Prop
  | some k' => WB P T S E t k' h K
  | none => K (some (.exit id)) t h
theorem WB_exit {id : Nat} : WB P T S E t (.code (.exit id) :: k) h K = WExit P T S E t id h K (exitA id k) := by
  cases hk : exitA id k with
  | some k' => exact WB_eq fun _ => by simp [xBody, FE.fr, xItem, xCode, xExit, hk, goOn]
  | none => exact WB_end fun _ => by simp [xBody, FE.fr, xItem, xCode, xExit, hk]
def WGoto (P : Program) (T : TT) (S : Sums) (E : FE) (t : TM) (h : AH) (K : KK) : Option (List AI) → Prop
  | some k' => WB P T S E t k' h K
  | none => False
theorem WB_goto {n : Nat} : WGoto P T S E t h K (gotoA n k) → WB P T S E t (.code (.goto n) :: k) h K := by
  cases hk : gotoA n k with
  | some k' => exact fun hw => by rw [WB_eq (t' := t) (k' := k') (h' := h) fun _ => by simp [xBody, FE.fr, xItem, xCode, xGoto, hk, goOn]]; exact hw
  | none => exact False.elim
/-- A condition. -/
def WIf (A B : Prop) : Option AV → Prop
  | some (.lit (.bool b)) => (b = true → A) ∧ (b = false → B)
  | _ => False
theorem WB_cond {c : Operand} {a b : Code} (x : Bool) (hx : evalA t c = some (.lit (.bool x))) : WB P T S E t (.code (.cond c a b) :: k) h K = WB P T S E t (.code (bif x then a else b) :: k) h K :=
  WB_eq fun _ => by simp [xBody, FE.fr, xItem, xCode, xCond, hx, goOn]
theorem WB_cond_if {c : Operand} {a b : Code} (hw : WIf (WB P T S E t (.code a :: k) h K) (WB P T S E t (.code b :: k) h K) (evalA t c)) : WB P T S E t (.code (.cond c a b) :: k) h K := by
  unfold WIf at hw
  split at hw
  · rename_i x hx
    rw [WB_cond x hx]
    cases x
    · exact hw.2 rfl
    · exact hw.1 rfl
  · exact hw.elim
/-- What a body's outcome must be. -/
def WBq (E : FE) (K : KK) (o : Out) (h' : AH) : Prop := ∃ j t' k' ds h'', o = .left j (({ E with defers := ds } : FE).fr t' k') ∧ Coll (E.ro = none) ds E.defers h' h'' ∧ K j t' h''
/-- One of several: each leads on. -/
def WAlts (P : Program) (T : TT) (S : Sums) (E : FE) (t : TM) (o : Oper) (k : List AI) (l : List (AV × AH)) (K : KK) : Prop :=
  ∃ n L, collectL (fun x : AV × AH => ex P T S n (.body (E.fr (setTmp t o.dst x.1) k)) x.2) l = some L ∧ (E.nd = true ∨ ∃ x, L = [x]) ∧ ∀ x ∈ L, WBq E K x.1 x.2
/-- What an operation's outcome leads to. -/
def WOp (P : Program) (T : TT) (S : Sums) (E : FE) (t : TM) (o : Oper) (k : List AI) (K : KK) : AR → Prop
  | some (.val v, h1) => WB P T S E (setTmp t o.dst v) k h1 K
  | some (.enter g a, h1) => WCe P T S E.nd g a h1 fun v h2 => WB P T S E (setTmp t o.dst v) k h2 K
  | some (.round l a, h1) => Wn P T S E.nd (.round l a) h1 fun x h2 => ∃ v cm, x = .ended (.ret v) cm ∧ WB P T S E (setTmp t o.dst v) k h2 K
  | some (.alts l, _) => WAlts P T S E t o k l K
  | _ => False
theorem collect_W {α β : Type} {nd : Bool} {Q : β → Prop} (f : Nat → α → Option (List β)) (hf : ∀ n m, n ≤ m → ∀ x, OLe (f n x) (f m x)) : ∀ l : List α, l ≠ [] → (nd = true ∨ ∃ x, l = [x]) →
    (∀ x ∈ l, ∃ m M, f m x = some M ∧ (nd = true ∨ ∃ y, M = [y]) ∧ ∀ y ∈ M, Q y) → ∃ m L, collectL (f m) l = some L ∧ (nd = true ∨ ∃ y, L = [y]) ∧ ∀ y ∈ L, Q y
  | [], hl, _, _ => absurd rfl hl
  | [a], _, _, h => h a (List.mem_singleton.2 rfl)
  | a :: b :: r, _, h1, h => by
    have hnd : nd = true := h1.resolve_right fun ⟨x, hx⟩ => by cases hx
    obtain ⟨m1, M1, e1, _, q1⟩ := h a (by simp)
    obtain ⟨m2, M2, e2, _, q2⟩ := collect_W f hf (b :: r) (by simp) (.inl hnd) fun x hx => h x (List.mem_cons_of_mem _ hx)
    refine ⟨max m1 m2, M1 ++ M2, ?_, .inl hnd, fun y hy => (List.mem_append.1 hy).elim (q1 y) (q2 y)⟩
    show (match f (max m1 m2) a, collectL (f (max m1 m2)) (b :: r) with | some a, some b => some (a ++ b) | _, _ => none) = _
    rw [hf _ _ (Nat.le_max_left m1 m2) a _ e1, collectL_mono (hf _ _ (Nat.le_max_right m1 m2)) (b :: r) _ e2]
theorem WB_called {nd' : Bool} (hnd : nd' = true → E.nd = true) {o : Oper} {it : AI} {k0 : List AI} {h1 : AH} {tk : Task} (e : ∀ rec : Rec, xBody P T rec (E.fr t k) h = bindL (xCalled rec (E.fr t k) o it k0) (rec tk h1))
    (hw : Wn P T S nd' tk h1 fun x h2 => ∃ v cm, x = .ended (.ret v) cm ∧ WB P T S E (setTmp t o.dst v) (it :: k0) h2 K) : WB P T S E t k h K := by
  obtain ⟨n, L1, h3, h4, h5⟩ := hw
  have h6 := collect_W (nd := E.nd) (Q := fun y : Out × AH => WBq E K y.1 y.2) (fun m => xCalled (ex P T S m) (E.fr t k) o it k0) (fun n m hnm x => xCalled_mono (ex_mono hnm) _ _ _ _ x) L1 (ex_ne n _ _ _ h3) (h4.imp hnd id) fun x hx => by
    obtain ⟨v, cm, e1, m, M, e2, e3, e4⟩ := h5 x hx
    obtain ⟨x1, x2⟩ := x
    simp only at e1
    subst e1
    exact ⟨m, M, e2, e3, e4⟩
  obtain ⟨m, L, h7, h8, h9⟩ := h6
  refine ⟨max n m + 1, L, ?_, h8, h9⟩
  show xBody P T (ex P T S (max n m)) (E.fr t k) h = _
  rw [e, ex_mono (Nat.le_max_left n m) _ _ _ h3]
  exact collectL_mono (fun x => xCalled_mono (ex_mono (Nat.le_max_right n m)) _ _ _ _ x) L1 _ h7
theorem WCe_eq {nd : Bool} {g : FuncId} {a : List AV} {h1 : AH} {Q : AV → AH → Prop} : WCe P T S nd g a h1 Q = Wn P T S nd (.call g a none) h1 fun x h2 => ∃ v cm, x = .ended (.ret v) cm ∧ Q v h2 := by
  cases nd <;> rfl
theorem WB_called_eq {o : Oper} {it : AI} {k0 : List AI} {h1 : AH} {tk : Task} (e : ∀ rec : Rec, xBody P T rec (E.fr t k) h = bindL (xCalled rec (E.fr t k) o it k0) (rec tk h1)) :
    WB P T S E t k h K = Wn P T S E.nd tk h1 fun x h2 => ∃ v cm, x = .ended (.ret v) cm ∧ WB P T S E (setTmp t o.dst v) (it :: k0) h2 K := by
  apply propext
  refine ⟨fun hw => ?_, WB_called id e⟩
  obtain ⟨n, L, h3, h4, h5⟩ := hw
  cases n with
  | zero => cases h3
  | succ n =>
    have h6 : bindL (xCalled (ex P T S n) (E.fr t k) o it k0) (ex P T S n tk h1) = some L := by rw [← e]; exact h3
    cases hx : ex P T S n tk h1 with
    | none => rw [hx] at h6; cases h6
    | some L1 =>
      rw [hx] at h6
      replace h6 : collectL (xCalled (ex P T S n) (E.fr t k) o it k0) L1 = some L := h6
      have hone : E.nd = true ∨ ∃ x, L1 = [x] := by
        rcases h4 with h4 | ⟨y, rfl⟩
        · exact .inl h4
        · refine .inr ?_
          match L1, h6 with
          | [], h6 => cases h6
          | [x], _ => exact ⟨x, rfl⟩
          | a :: b :: r, h6 =>
            exfalso
            have hc : ∀ (p : Out × AH) (M : Outs), xCalled (ex P T S n) (E.fr t k) o it k0 p = some M → M ≠ [] := fun p M hM => by
              unfold xCalled at hM
              split at hM
              · exact ex_ne n _ _ _ hM
              · exact one_ne hM
              · cases hM
            unfold collectL at h6
            cases ha : xCalled (ex P T S n) (E.fr t k) o it k0 a with
            | none => rw [ha] at h6; cases h6
            | some A =>
              cases hb : collectL (xCalled (ex P T S n) (E.fr t k) o it k0) (b :: r) with
              | none => rw [ha, hb] at h6; cases h6
              | some B =>
                rw [ha, hb] at h6
                have hl := congrArg List.length (Option.some.inj h6)
                have h7 : 0 < A.length := List.length_pos_iff.2 (hc a A ha)
                have h8 : 0 < B.length := List.length_pos_iff.2 (collectL_ne hc hb)
                rw [List.length_append, List.length_singleton] at hl
                omega
      refine ⟨n, L1, hx, hone, fun x hxm => ?_⟩
      obtain ⟨M, hM, hsub⟩ := collectL_mem h6 x hxm
      obtain ⟨x, hh⟩ := x
      cases x with
      | ended en cm =>
        cases en with
        | ret v =>
          refine ⟨v, cm, rfl, n, M, hM, ?_, fun y hy => h5 y (hsub y hy)⟩
          rcases h4 with h4 | ⟨y, rfl⟩
          · exact .inl h4
          · rcases hone with h9 | ⟨x9, h9⟩
            · exact .inl h9
            · subst h9
              obtain rfl := List.mem_singleton.1 hxm
              have h10 : xCalled (ex P T S n) (E.fr t k) o it k0 (.ended (.ret v) cm, hh) = some [y] := h6
              rw [hM] at h10
              exact .inr ⟨y, Option.some.inj h10⟩
        | pan c =>
          simp only [xCalled, Option.some.injEq] at hM
          subst hM
          obtain ⟨j, t', k', ds, h'', e9, _⟩ := h5 _ (hsub _ (List.mem_singleton.2 rfl))
          cases e9
      | left a b => cases hM
      | raised a b => cases hM
theorem WB_none (e : ∀ rec : Rec, xBody P T rec (E.fr t k) h = none) : WB P T S E t k h K = False := by
  apply propext
  refine ⟨fun hw => ?_, False.elim⟩
  obtain ⟨n, L, h3, _⟩ := hw
  cases n with
  | zero => cases h3
  | succ n =>
    have : xBody P T (ex P T S n) (E.fr t k) h = some L := h3
    rw [e] at this
    cases this
/-- What the next operation of a region leads to. -/
def WReg (P : Program) (T : TT) (S : Sums) (E : FE) (t : TM) (ops : Array Oper) (l : List Nat) (k : List AI) (h : AH) (K : KK) (o : Oper) : Option Bool → Prop
  | some true => WOp P T S E t o (.reg ops l :: k) K (aop P T o t h)
  | some false => WB P T S E (setTmp t o.dst aundef) (.reg ops l :: k) h K
  | none => False
theorem WB_reg_eq {ops : Array Oper} {i : Nat} {l : List Nat} (o : Oper) (ho : ops[i]? = some o) (hn : ∀ g a h1, aop P T o t h ≠ some (.defer g a, h1)) (hn2 : ∀ h1, aop P T o t h ≠ some (.recover, h1)) : WB P T S E t (.reg ops (i :: l) :: k) h K = WReg P T S E t ops l k h K o (wantedA ops t o) := by
  cases hg : wantedA ops t o with
  | none => exact WB_none fun rec => by simp [xBody, FE.fr, xItem, xReg, ho, hg]
  | some b =>
    cases b with
    | false => exact WB_eq fun rec => by simp [xBody, FE.fr, xItem, xReg, ho, hg]; rfl
    | true =>
      have e0 : ∀ rec : Rec, xBody P T rec (E.fr t (.reg ops (i :: l) :: k)) h = xOp rec (E.fr t (.reg ops (i :: l) :: k)) o (.reg ops l) k (aop P T o t h) := fun rec => by
        simp [xBody, FE.fr, xItem, xReg, ho, hg]
      show _ = WOp P T S E t o (.reg ops l :: k) K (aop P T o t h)
      cases ha : aop P T o t h with
      | none => rw [ha] at e0; exact WB_none e0
      | some p =>
        obtain ⟨an, h1⟩ := p
        rw [ha] at e0
        cases an with
        | val v => exact WB_eq e0
        | enter g a => exact (WB_called_eq e0).trans WCe_eq.symm
        | round l a => exact WB_called_eq e0
        | defer g a => exact absurd ha (hn g a h1)
        | recover => exact absurd ha (hn2 h1)
        | alts l9 =>
          apply propext
          constructor
          · rintro ⟨n, L, h3, h4⟩
            cases n with
            | zero => cases h3
            | succ n => exact ⟨n, L, (e0 (ex P T S n)).symm.trans h3, h4⟩
          · rintro ⟨n, L, h3, h4⟩
            exact ⟨n + 1, L, (e0 (ex P T S n)).trans h3, h4⟩
        | pan v =>
          apply propext
          refine ⟨fun hw => ?_, False.elim⟩
          obtain ⟨n, L, h3, _, h4⟩ := hw
          cases n with
          | zero => cases h3
          | succ n =>
            have h5 := (e0 (ex P T S n)).symm.trans h3
            simp only [xOp, Option.some.injEq] at h5
            subst h5
            obtain ⟨j, t', k', ds, h'', e9, _⟩ := h4 _ (List.mem_singleton.2 rfl)
            cases e9
def plainO : Option Oper → Bool
  | some o => plainOp o.op
  | none => true
def WRegO (P : Program) (T : TT) (S : Sums) (E : FE) (t : TM) (ops : Array Oper) (l : List Nat) (k : List AI) (h : AH) (K : KK) : Option Oper → Prop
  | some o => WReg P T S E t ops l k h K o (wantedA ops t o)
  | none => False
theorem WB_reg_s {ops : Array Oper} {i : Nat} {l : List Nat} (hp : plainO (ops[i]?) = true) : WB P T S E t (.reg ops (i :: l) :: k) h K = WRegO P T S E t ops l k h K (ops[i]?) := by
  cases ho : ops[i]? with
  | none => exact WB_none fun rec => by simp [xBody, FE.fr, xItem, xReg, ho]
  | some o =>
    rw [ho] at hp
    have hpl := aop_plain (P := P) (T := T) (t := t) (h := h) (o := o) hp
    exact WB_reg_eq o ho (fun g a h1 e => by have := hpl _ _ e; cases this) (fun h1 e => by have := hpl _ _ e; cases this)
theorem WRegO_some {ops : Array Oper} {l : List Nat} {d : Option Tmp} {op : Op} {ty : TypeId} {ps : String} {af : Array Edge} : WRegO P T S E t ops l k h K (some ⟨d, op, ty, ps, af, none⟩) = WOp P T S E t ⟨d, op, ty, ps, af, none⟩ (.reg ops l :: k) K (aop P T ⟨d, op, ty, ps, af, none⟩ t h) := rfl
theorem WRegO_guard {ops : Array Oper} {l : List Nat} {d : Option Tmp} {op : Op} {ty : TypeId} {ps : String} {af : Array Edge} {g : Nat × Bool} : WRegO P T S E t ops l k h K (some ⟨d, op, ty, ps, af, some g⟩) = WReg P T S E t ops l k h K ⟨d, op, ty, ps, af, some g⟩ (wantedA ops t ⟨d, op, ty, ps, af, some g⟩) := rfl
theorem WReg_true {ops : Array Oper} {l : List Nat} {o : Oper} : WReg P T S E t ops l k h K o (some true) = WOp P T S E t o (.reg ops l :: k) K (aop P T o t h) := rfl
theorem WReg_false {ops : Array Oper} {l : List Nat} {o : Oper} : WReg P T S E t ops l k h K o (some false) = WB P T S E (setTmp t o.dst aundef) (.reg ops l :: k) h K := rfl
theorem WB_cond_s {c : Operand} {a b : Code} : WB P T S E t (.code (.cond c a b) :: k) h K = WIf (WB P T S E t (.code a :: k) h K) (WB P T S E t (.code b :: k) h K) (evalA t c) := by
  apply propext
  refine ⟨fun hw => ?_, WB_cond_if⟩
  unfold WIf
  split
  · rename_i x hx
    rw [WB_cond x hx] at hw
    cases x
    · exact ⟨fun e => (by cases e), fun _ => hw⟩
    · exact ⟨fun _ => hw, fun e => (by cases e)⟩
  · rename_i hx
    have : WB P T S E t (.code (.cond c a b) :: k) h K = False := WB_none fun rec => by
      simp only [xBody, FE.fr, xItem, xCode, xCond]
    exact this ▸ hw
/-! Regions that draw their order. -/
/-- The number that a region's order is. -/
structure MO (ops : Array Oper) where
  m : Nat
  ok : mat ops = m
def WDM (P : Program) (T : TT) (S : Sums) (E : FE) (t : TM) {ops : Array Oper} (M : MO ops) (l : List Nat) (rs : List (Nat × RD × AV)) (k : List AI) (h : AH) (K : KK) : Prop := WB P T S E t (.regD ops l rs :: k) h K
theorem WB_regionD {id : Nat} {ops : Array Oper} (l : List Nat) (m : Nat) (hk : (okD T ops && (orderD T ops == l) && Nat.beq (mat ops) m) = true) :
    WB P T S E t (.code (.region id ops true) :: k) h K = WDM P T S E t (⟨m, Nat.eq_of_beq_eq_true (by simp only [Bool.and_eq_true] at hk; exact hk.2)⟩ : MO ops) l [] k h K := by
  simp only [Bool.and_eq_true, beq_iff_eq] at hk
  unfold WDM
  rw [← hk.1.2]
  exact WB_eq fun rec => by simp [xBody, FE.fr, xItem, xCode, xRegion, hk.1.1, goOn]
theorem WDM_nil {ops : Array Oper} {M : MO ops} {rs : List (Nat × RD × AV)} : WDM P T S E t M [] rs k h K = (hold T h rs = true ∧ WB P T S E t k h K) := by
  unfold WDM
  cases hh : hold T h rs with
  | false => rw [WB_none fun rec => by simp [xBody, FE.fr, xItem, hh]]; simp
  | true => rw [WB_eq (t' := t) (k' := k) (h' := h) fun rec => by simp [xBody, FE.fr, xItem, hh, goOn]]; simp
/-- What an operation of such a region leads to. -/
def WOpD (P : Program) (T : TT) (S : Sums) (E : FE) (t : TM) {ops : Array Oper} (M : MO ops) (i : Nat) (o : Oper) (l : List Nat) (rs : List (Nat × RD × AV)) (k : List AI) (K : KK) : Kind → AR → Prop
  | .acts, some (.val v, h1) => WDM P T S E (setTmp t o.dst v) M l rs k h1 K
  | .acts, some (.enter g a, h1) => WC P T S g a h1 fun v h2 => WDM P T S E (setTmp t o.dst v) M l rs k h2 K
  | .acts, some (.round g a, h1) => W P T S (.round g a) h1 fun x h2 => ∃ v cm, x = .ended (.ret v) cm ∧ WDM P T S E (setTmp t o.dst v) M l rs k h2 K
  | .reads, some (.val v, h1) => match rdOf o t with
    | some rd => WDM P T S E (setTmp t o.dst v) M l ((i, rd, v) :: rs) k h1 K
    | none => (litOp P o t).isSome = true ∧ WDM P T S E (setTmp t o.dst v) M l rs k h1 K
  | .still, some (.val v, h1) => WDM P T S E (setTmp t o.dst v) M l rs k h1 K
  | .alloc, some (.val v, h1) => WDM P T S E (setTmp t o.dst v) M l rs k h1 K
  | _, _ => False
def WRegD (P : Program) (T : TT) (S : Sums) (E : FE) (t : TM) {ops : Array Oper} (M : MO ops) (i : Nat) (l : List Nat) (rs : List (Nat × RD × AV)) (k : List AI) (h : AH) (K : KK) (o : Oper) : Option Bool → Prop
  | some true => WOpD P T S E t M i o l rs k K (kindOf T o) (aop P T o t h)
  | some false => WDM P T S E (setTmp t o.dst aundef) M l rs k h K
  | none => False
def dropR (n m i : Nat) (rs : List (Nat × RD × AV)) : List (Nat × RD × AV) := rs.filter fun x => !waits n m i x.1
def WRegDO (P : Program) (T : TT) (S : Sums) (E : FE) (t : TM) {ops : Array Oper} (M : MO ops) (i : Nat) (l : List Nat) (rs : List (Nat × RD × AV)) (k : List AI) (h : AH) (K : KK) : Option Oper → Prop
  | some o => match kindOf T o with
    | .acts => hold T h rs = true ∧ WRegD P T S E t M i l (dropR ops.size M.m i rs) k h K o (wantedA ops t o)
    | _ => WRegD P T S E t M i l rs k h K o (wantedA ops t o)
  | none => False
theorem WD_called {o : Oper} {it : AI} {k0 : List AI} {h1 : AH} {tk : Task} (e : ∀ rec : Rec, xBody P T rec (E.fr t k) h = xCalledD rec (E.fr t k) o it k0 (rec tk h1))
    (hw : W P T S tk h1 fun x h2 => ∃ v cm, x = .ended (.ret v) cm ∧ WB P T S E (setTmp t o.dst v) (it :: k0) h2 K) : WB P T S E t k h K := by
  obtain ⟨n, x, h2, h3, v, cm, rfl, m, L, h5, h6⟩ := W.out hw
  refine ⟨max n m + 1, L, ?_, h6⟩
  show xBody P T (ex P T S (max n m)) (E.fr t k) h = _
  rw [e, ex_mono (Nat.le_max_left n m) _ _ _ h3]
  exact ex_mono (Nat.le_max_right n m) _ _ _ h5
theorem WD_op {ops : Array Oper} {M : MO ops} {i : Nat} {l : List Nat} {rs rs0 : List (Nat × RD × AV)} {o : Oper} (e : ∀ rec : Rec, xBody P T rec (E.fr t (.regD ops (i :: l) rs0 :: k)) h = xRegD1 P T rec (E.fr t (.regD ops (i :: l) rs0 :: k)) ops i o l rs k h)
    (hw : WRegD P T S E t M i l rs k h K o (wantedA ops t o)) : WB P T S E t (.regD ops (i :: l) rs0 :: k) h K := by
  cases hg : wantedA ops t o with
  | none => rw [hg] at hw; exact hw.elim
  | some b =>
    rw [hg] at hw
    cases b with
    | false =>
      rw [WB_eq (t' := setTmp t o.dst aundef) (k' := .regD ops l rs :: k) (h' := h) fun rec => by rw [e]; simp [xRegD1, FE.fr, hg]; rfl]
      exact hw
    | true =>
      have e1 : ∀ rec : Rec, xBody P T rec (E.fr t (.regD ops (i :: l) rs0 :: k)) h = xOpD P T rec (E.fr t (.regD ops (i :: l) rs0 :: k)) ops i o l rs k (aop P T o t h) := fun rec => by rw [e]; simp [xRegD1, FE.fr, hg]
      have hw : WOpD P T S E t M i o l rs k K (kindOf T o) (aop P T o t h) := hw
      unfold WOpD at hw
      split at hw
      · rename_i v h1 hk ha
        rw [WB_eq (t' := setTmp t o.dst v) (k' := .regD ops l rs :: k) (h' := h1) fun rec => by rw [e1, ha]; simp only [xOpD, hk]; rfl]
        exact hw
      · rename_i g a h1 hk ha
        refine WD_called (o := o) (it := .regD ops l rs) (k0 := k) (h1 := h1) (tk := .call g a none) (fun rec => ?_) hw
        rw [e1, ha]
        simp only [xOpD, hk]
      · rename_i g a h1 hk ha
        refine WD_called (o := o) (it := .regD ops l rs) (k0 := k) (h1 := h1) (tk := .round g a) (fun rec => ?_) hw
        rw [e1, ha]
        simp only [xOpD, hk]
      · rename_i v h1 hk ha
        split at hw
        · rename_i rd hrd
          rw [WB_eq (t' := setTmp t o.dst v) (k' := .regD ops l ((i, rd, v) :: rs) :: k) (h' := h1) fun rec => by
            rw [e1, ha]
            simp only [xOpD, hk]
            show (match rdOf o t with | some rd => _ | none => _) = _
            rw [hrd]; rfl]
          exact hw
        · rename_i hrd
          rw [WB_eq (t' := setTmp t o.dst v) (k' := .regD ops l rs :: k) (h' := h1) fun rec => by
            rw [e1, ha]
            simp only [xOpD, hk]
            show (match rdOf o t with | some rd => _ | none => (bif (litOp P o t).isSome then _ else _)) = _
            rw [hrd]
            simp only [hw.1, cond_true]
            rfl]
          exact hw.2
      · rename_i v h1 hk ha
        rw [WB_eq (t' := setTmp t o.dst v) (k' := .regD ops l rs :: k) (h' := h1) fun rec => by rw [e1, ha]; simp only [xOpD, hk]; rfl]
        exact hw
      · rename_i v h1 hk ha
        rw [WB_eq (t' := setTmp t o.dst v) (k' := .regD ops l rs :: k) (h' := h1) fun rec => by rw [e1, ha]; simp only [xOpD, hk]; rfl]
        exact hw
      · exact hw.elim
theorem WDM_cons {ops : Array Oper} {M : MO ops} {i : Nat} {l : List Nat} {rs : List (Nat × RD × AV)} (hw : WRegDO P T S E t M i l rs k h K (ops[i]?)) : WDM P T S E t M (i :: l) rs k h K := by
  unfold WDM
  cases ho : ops[i]? with
  | none => rw [ho] at hw; exact hw.elim
  | some o =>
    rw [ho] at hw
    have hw : (match kindOf T o with
      | .acts => hold T h rs = true ∧ WRegD P T S E t M i l (dropR ops.size M.m i rs) k h K o (wantedA ops t o)
      | _ => WRegD P T S E t M i l rs k h K o (wantedA ops t o)) := hw
    have hact : isAct T ops i = (match kindOf T o with | .acts => true | _ => false) := by simp only [isAct, ho]; rfl
    split at hw
    · rename_i hk
      refine WD_op (M := M) (rs := dropR ops.size M.m i rs) (o := o) (fun rec => ?_) hw.2
      rw [hk] at hact
      simp only [xBody, FE.fr, xItem, xRegD, ho, hact, hw.1, if_true]
      rw [M.ok]
      rfl
    · rename_i hk
      refine WD_op (M := M) (rs := rs) (o := o) (fun rec => ?_) hw
      have : isAct T ops i = false := by
        rw [hact]
        split
        · rename_i h2; exact absurd h2 hk
        · rfl
      simp [xBody, FE.fr, xItem, xRegD, ho, this]
/-- What was deferred is taken up, and the results are told. -/
theorem unwind_coll {f : FuncId} {fn : Func} (hf : P.funcs[f]? = some fn) {nd : Bool} {ok : Prop} {ds ds0 : List ADI} {h1 h2 : AH} (c : Coll ok ds ds0 h1 h2) (h0 : ds0 = []) {t' : TM} {k' : List AI} {l : List AV} (hl : resultsA T h2 t' fn.results.toList = some l) :
    ∃ n, ex P T S n (.unwind (FE.fr { fn := f, defers := ds, nd } t' k') .ret) h1 = some [(.ended (.ret (oneOf l)) none, h2)] := by
  induction c with
  | refl ds h =>
    subst h0
    refine ⟨1, ?_⟩
    show xUnwind P T (ex P T S 0) (FE.fr { fn := f } t' k') .ret _ = _
    simp only [xUnwind, FE.fr, xResults, hf, hl, Option.map_some]
  | @cons b ds ds0 h h' h1 h2 c ih =>
    obtain ⟨n, hn⟩ := ih h0 hl
    refine ⟨n + 1, ?_⟩
    rw [← hn]
    show xUnwind P T (ex P T S n) (FE.fr { fn := f, defers := .coll b :: ds } t' k') .ret h = _
    simp only [xUnwind, FE.fr, h2]
/-- A function is called. -/
theorem WC_fn {f : FuncId} {args : List AV} {fn : Func} {c : Code} {Q : AV → AH → Prop} (hf : P.funcs[f]? = some fn) (hb : fn.body = some c) (hS : S f = none)
    (hw : WB P T S { fn := f } (TM.ofL args (fn.ntmps - args.length)) [.code c] h fun j t h1 => (j = none ∨ j = some .ret) ∧ ∃ l, resultsA T h1 t fn.results.toList = some l ∧ Q (oneOf l) h1) : WC P T S f args h Q := by
  obtain ⟨n, o, h1, h2, j, t', k', ds, h'', rfl, hcl, hj, l, hl, hq⟩ := W.out hw
  obtain ⟨m, hm⟩ := unwind_coll (S := S) (nd := false) hf hcl rfl (k' := k') hl
  unfold WC
  refine W.intro (n := max n m + 1) (o := .ended (.ret (oneOf l)) none) (h' := h'') ?_ ⟨oneOf l, none, rfl, hq⟩
  show xCall P S (ex P T S (max n m)) f args none h = _
  unfold xCall
  rw [hf]
  simp only [hb, hS]
  have e1 : ex P T S (max n m) (.body { fn := f, tmps := TM.ofL args (fn.ntmps - args.length), todo := [.code c], defers := [], cm := none, roundOf := none }) h = some [(.left j (FE.fr { fn := f, defers := ds } t' k'), h1)] := ex_mono (Nat.le_max_left n m) _ _ _ h2
  rw [e1]
  have e2 := ex_mono (Nat.le_max_right n m) _ _ _ hm
  rcases hj with rfl | rfl
  · exact e2
  · exact e2
theorem WC.out {f : FuncId} {args : List AV} {h : AH} {Q : AV → AH → Prop} (hw : WC P T S f args h Q) : ∃ n o h', ex P T S n (.call f args none) h = some [(o, h')] ∧ ∃ v cm, o = .ended (.ret v) cm ∧ Q v h' := by
  unfold WC at hw
  exact W.out hw
theorem WB_ind {ι : Type} (Inv : ι → TM → AH → Prop) (ms : ι → Nat) {c : Code}
    (body : ∀ i t h, Inv i t h → (∀ j t' h', Inv j t' h' → ms j < ms i → WB P T S E t' (.lp c :: k) h' K) → WB P T S E t (.code c :: .lp c :: k) h K) :
    ∀ i t h, Inv i t h → WB P T S E t (.lp c :: k) h K := by
  have key : ∀ n i t h, ms i = n → Inv i t h → WB P T S E t (.lp c :: k) h K := fun n => by
    induction n using Nat.strongRecOn with
    | _ n ih =>
      intro i t h hn hi
      rw [WB_lp]
      exact body i t h hi fun j t' h' hj hlt => ih (ms j) (by omega) j t' h' rfl hj
  exact fun i t h hi => key _ i t h rfl hi
end
end Go.Proofs.YtohbdgddnkoenaaGreat.Ex
end

section

set_option linter.unusedSimpArgs false
set_option linter.unusedVariables false
namespace Go.Proofs.YtohbdgddnkoenaaGreat.Ex
open Go
section
variable {P : Program} {T : TT} {S : Sums} {t : TM} {h : AH} {d : Option Tmp} {ty : TypeId} {ps : String} {af : Array Edge} {g : Option (Nat × Bool)}
/-! What the rules ask of a type. -/
def bytesT (T : TT) (t : TypeId) : Option Nat := (T t).map (·.bytes)
/-- A field's place, its size, and whether it has parts. -/
def fieldOff (T : TT) (t : TypeId) (i : Nat) : Option (Nat × Nat × Bool) := match und T t with
  | some (.struct fs) => match fs[i]? with
    | some f => match sizeT T f.type, isAggT T f.type with
      | some z, some a => some (f.offset, z, a)
      | _, _ => none
    | none => none
  | _ => none
/-! Temporaries. -/
def TM.get (t : TM) (i : Nat) : AV := (t.at i).getD aundef
theorem get_set_same {i : Nat} {v : AV} (hi : i < t.n) : (t.set i v).get i = v := by
  unfold TM.get
  rw [← TL_at, TL_set, List.getElem?_set_self (by rw [TL_n]; exact hi)]
  rfl
theorem get_set_ne {i j : Nat} {v : AV} (hi : i ≠ j) : (t.set i v).get j = t.get j := by
  unfold TM.get
  rw [← TL_at, TL_set, List.getElem?_set_ne hi, TL_at]
theorem n_set {i : Nat} {v : AV} : (t.set i v).n = t.n := Tn_set t i v
theorem n_ofL {l : List AV} {m : Nat} : (TM.ofL l m).n = l.length + m := by rw [← TL_n, ofL_L]; simp
theorem ev_tmp {i : Nat} : evalA t (.tmp i) = some (t.get i) := rfl
theorem ev_int {k : IntKind} {n : Int} : evalA t (.const (.int k n)) = some (.lit (.int k n)) := rfl
theorem ev_bool {b : Bool} : evalA t (.const (.bool b)) = some (.lit (.bool b)) := rfl
theorem ev_str {s : ByteArray} : evalA t (.const (.string s)) = some (.lit (.string s)) := rfl
theorem ev_nilp : evalA t (.const (.pointer none)) = some (.lit (.pointer none)) := rfl
theorem ev_nils : evalA t (.const (.slice none 0 0)) = some (.lit (.slice none 0 0)) := rfl
theorem ev_nilm : evalA t (.const (.map none)) = some (.lit (.map none)) := rfl
theorem ev_nilf : evalA t (.const .nilFunc) = some (.lit .nilFunc) := rfl
theorem ev_nili : evalA t (.const .nilIface) = some (.lit .nilIface) := rfl
theorem ev_func {f : FuncId} : evalA t (.func f) = some (.fn (.func f) [] []) := rfl
theorem setTmp_some {i : Nat} {v : AV} : setTmp t (some i) v = t.set i v := rfl
theorem setTmp_none {v : AV} : setTmp t none v = t := rfl
/-! Operations. -/
theorem a_move {x : Operand} : aop P T ⟨d, .move x, ty, ps, af, g⟩ t h = val h (evalA t x) := rfl
theorem a_assign {x : Operand} : aop P T ⟨d, .assign x, ty, ps, af, g⟩ t h = val h (evalA t x) := rfl
theorem a_load {e : TypeId} {x : Operand} : aop P T ⟨d, .load e x, ty, ps, af, g⟩ t h = aLoad T t h e x := rfl
theorem a_store {e : TypeId} {x y : Operand} : aop P T ⟨d, .store e x y, ty, ps, af, g⟩ t h = aStore T t h e x y := rfl
theorem a_alloc {e : TypeId} : aop P T ⟨d, .alloc e, ty, ps, af, g⟩ t h = aAlloc T h e := rfl
theorem a_box {e : TypeId} {x : Operand} : aop P T ⟨d, .box e x, ty, ps, af, g⟩ t h = aBox t h e x := rfl
theorem a_build {e : TypeId} {p : Array (Nat × Operand)} : aop P T ⟨d, .build e p, ty, ps, af, g⟩ t h = aBuild T t h e p := rfl
theorem a_fieldAddr {e : TypeId} {x : Operand} {i : Nat} : aop P T ⟨d, .fieldAddr e x i, ty, ps, af, g⟩ t h = aFieldAddr T t h e x i := rfl
theorem a_field {e : TypeId} {x : Operand} {i : Nat} : aop P T ⟨d, .field e x i, ty, ps, af, g⟩ t h = aField T t h e x i := rfl
theorem a_indexAddr {e : TypeId} {x y : Operand} : aop P T ⟨d, .indexAddr e x y, ty, ps, af, g⟩ t h = aIndexAddr T t h e x y := rfl
theorem a_bin {op : BinOp} {e f : TypeId} {x y : Operand} : aop P T ⟨d, .binOp op e x y f, ty, ps, af, g⟩ t h = aBin P T ⟨d, .binOp op e x y f, ty, ps, af, g⟩ t h op e x y := rfl
theorem a_un {op : UnOp} {e : TypeId} {x : Operand} : aop P T ⟨d, .unOp op e x, ty, ps, af, g⟩ t h = aUn P t h op x := rfl
theorem a_call {c : Call} : aop P T ⟨d, .call c, ty, ps, af, g⟩ t h = aCall P T ⟨d, .call c, ty, ps, af, g⟩ t h c := rfl
theorem a_pick {c x y : Operand} : aop P T ⟨d, .pick c x y, ty, ps, af, g⟩ t h = aPick t h c x y := rfl
theorem val_ok {v : AV} : val h (some v) = some (.val v, h) := rfl
theorem bin_ints {o : Oper} {op : BinOp} {e : TypeId} {x y : Operand} {k k' : IntKind} {a b : Int} (hx : evalA t x = some (.lit (.int k a))) (hy : evalA t y = some (.lit (.int k' b))) :
    aBin P T o t h op e x y = ofPV h (pur P (binOp op e (.int k a) (.int k' b))) := by
  unfold aBin
  rw [hx, hy]
variable {k : IntKind} {a b : Int} {e : TypeId}
theorem pb_lss : pur P (binOp .lss e (.int k a) (.int k b)) = some (.ok (.bool (decide (a < b)))) := by simp [binOp, Op.intCmp]; rfl
theorem pb_leq : pur P (binOp .leq e (.int k a) (.int k b)) = some (.ok (.bool (decide (a ≤ b)))) := by simp [binOp, Op.intCmp]; rfl
theorem pb_gtr : pur P (binOp .gtr e (.int k a) (.int k b)) = some (.ok (.bool (decide (b < a)))) := by simp [binOp, Op.intCmp]; rfl
theorem pb_geq : pur P (binOp .geq e (.int k a) (.int k b)) = some (.ok (.bool (decide (b ≤ a)))) := by simp [binOp, Op.intCmp]; rfl
theorem pb_eql : pur P (binOp .eql e (.int k a) (.int k b)) = some (.ok (.bool (a == b))) := by simp [binOp, Op.intCmp]; rfl
theorem pb_neq : pur P (binOp .neq e (.int k a) (.int k b)) = some (.ok (.bool (a != b))) := by simp [binOp, Op.intCmp]; rfl
theorem pb_add : pur P (binOp .add e (.int k a) (.int k b)) = some (.ok (.int k (k.wrap (a + b)))) := by simp [binOp, Op.intArith]; rfl
theorem pb_sub : pur P (binOp .sub e (.int k a) (.int k b)) = some (.ok (.int k (k.wrap (a - b)))) := by simp [binOp, Op.intArith]; rfl
theorem pb_mul : pur P (binOp .mul e (.int k a) (.int k b)) = some (.ok (.int k (k.wrap (a * b)))) := by simp [binOp, Op.intArith]; rfl
theorem ofPV_int {n : Int} : ofPV h (some (.ok (.int k n))) = some (.val (.lit (.int k n)), h) := rfl
theorem ofPV_bool {x : Bool} : ofPV h (some (.ok (.bool x))) = some (.val (.lit (.bool x)), h) := rfl
theorem WOp_val {E : FE} {o : Oper} {l : List AI} {K : KK} {v : AV} {h1 : AH} : WOp P T S E t o l K (some (.val v, h1)) = WB P T S E (setTmp t o.dst v) l h1 K := rfl
/-- What stands behind a call. -/
def KC (P : Program) (T : TT) (S : Sums) (E : FE) (t : TM) (d : Option Tmp) (l : List AI) (K : KK) : AV → AH → Prop := fun v h2 => WB P T S E (setTmp t d v) l h2 K
theorem KC_eq {E : FE} {l : List AI} {K : KK} {v : AV} {h2 : AH} : KC P T S E t d l K v h2 = WB P T S E (setTmp t d v) l h2 K := rfl
theorem WOp_enter {E : FE} {o : Oper} {l : List AI} {K : KK} {f : FuncId} {xs : List AV} {h1 : AH} : WOp P T S E t o l K (some (.enter f xs, h1)) = WCe P T S E.nd f xs h1 (KC P T S E t o.dst l K) := rfl
theorem WCe_false {f : FuncId} {xs : List AV} {h1 : AH} {Q : AV → AH → Prop} : WCe P T S false f xs h1 Q = WC P T S f xs h1 Q := rfl
theorem WCe_true {f : FuncId} {xs : List AV} {h1 : AH} {Q : AV → AH → Prop} : WCe P T S true f xs h1 Q = WCm P T S f xs h1 Q := rfl
theorem get_ofL' {l : List AV} {m i : Nat} : (TM.ofL l m).get i = l.getD i aundef := by
  unfold TM.get
  rw [← TL_at, ofL_L]
  by_cases hi : i < l.length
  · rw [List.getElem?_append_left hi, List.getD_eq_getElem?_getD]
  · rw [List.getElem?_append_right (by omega), List.getElem?_replicate, List.getD_eq_getElem?_getD, List.getElem?_eq_none (by omega)]
    split <;> rfl
theorem natA_int {k : IntKind} {n : Int} : natA (.lit (.int k n)) = if 0 ≤ n then some n.toNat else none := rfl
theorem rng0 (n : Nat) : List.range n = List.range' 0 n := List.range_eq_range'
theorem WIf_some {A B : Prop} {b : Bool} : WIf A B (some (.lit (.bool b))) = ((b = true → A) ∧ (b = false → B)) := rfl
theorem exA_blk {id id' : Nat} {k : List AI} : exitA id (.blk id' :: k) = if id' = id then some k else exitA id k := rfl
theorem exA_code {id : Nat} {c : Code} {k : List AI} : exitA id (.code c :: k) = exitA id k := rfl
theorem exA_lp {id : Nat} {c : Code} {k : List AI} : exitA id (.lp c :: k) = exitA id k := rfl
theorem exA_sc {id : Nat} {c : Code} {k : List AI} : exitA id (.sc c :: k) = exitA id k := rfl
theorem WExit_some {E : FE} {id : Nat} {K : KK} {k : List AI} : WExit P T S E t id h K (some k) = WB P T S E t k h K := rfl
/-- The same, of operands that are not known yet. -/
def aBinR (P : Program) (T : TT) (o : Oper) (t : TM) (h : AH) (op : BinOp) (e : TypeId) (x y : Operand) : AR := aBin P T o t h op e x y
theorem res_nil : resultsA T h t [] = some [] := rfl
theorem res_tmp {i : Nat} {r : List ResultVar} : resultsA T h t (.tmp i :: r) = (resultsA T h t r).map (t.get i :: ·) := rfl
theorem a_extract {x : Operand} {i : Nat} : aop P T ⟨d, .extract x i, ty, ps, af, g⟩ t h = aExtract t h x i := rfl
theorem ats_same {i : Nat} {v : AV} (hi : i < t.n) : (t.set i v).at i = some v := by rw [← TL_at, TL_set, List.getElem?_set_self (by rw [TL_n]; exact hi)]
theorem ats_ne {i j : Nat} {v : AV} (hi : i ≠ j) : (t.set i v).at j = t.at j := by rw [← TL_at, TL_set, List.getElem?_set_ne hi, TL_at]
theorem b_tt : (true == true) = true := rfl
theorem b_ft : (false == true) = false := rfl
theorem b_tf : (true == false) = false := rfl
theorem b_ff : (false == false) = true := rfl
/-! Values of one cell. -/
theorem one_lit {v : Value} : (AV.lit v).one = true := rfl
theorem one_ptr {b off : Nat} : (AV.ptr b off).one = true := rfl
theorem one_sl {b off n : Nat} {c : Cap} : (AV.sl b off n c).one = true := rfl
theorem one_mp {b : Nat} : (AV.mp b).one = true := rfl
theorem one_fn {f : Fn} {a b : List AV} : (AV.fn f a b).one = true := rfl
theorem one_ifc {t : TypeId} {a : AV} : (AV.ifc t a).one = true := rfl
theorem one_any : AV.any.one = true := rfl
theorem cells_lit {v : Value} : (AV.lit v).cells = [.lit v] := rfl
theorem cells_sl {b off n : Nat} {c : Cap} : (AV.sl b off n c).cells = [.sl b off n c] := rfl
theorem cells_ptr {b off : Nat} : (AV.ptr b off).cells = [.ptr b off] := rfl
theorem cells_agg {l : List AV} : (AV.agg l).cells = l := rfl
theorem cells_one {v : AV} (hv : v.one = true) : v.cells = [v] := by cases v <;> first | rfl | cases hv
/-! Blocks. -/
/-- (Not by rfl: a rule by rfl cannot serve in a side condition.) -/
theorem n_push2 (x : AB) : (h.push x).n = h.n + 1 := by rw [n_push]
theorem at_new {b : Nat} {x : AB} (hb : b = h.n) : (h.push x).at b = some x := by subst hb; exact at_push_n h x
theorem at_old {b : Nat} {x : AB} (hb : b < h.n) : (h.push x).at b = h.at b := at_push_lt x hb
theorem at_put {b : Nat} {x : AB} (hb : b < h.n) : (h.put b x).at b = some x := at_put_same x hb
theorem at_else {b c : Nat} {x : AB} (hb : c ≠ b) : (h.put c x).at b = h.at b := at_put_ne x hb
def ldL (T : TT) (t : TypeId) (l : List AV) (off : Nat) : Option AV := match isAggT T t, sizeT T t with
  | some true, some n => (cut l off n).map .agg
  | some false, some _ => l[off]?
  | _, _ => none
theorem ld_own {b off : Nat} {l : List AV} {e' : TypeId} (hb : h.at b = some (.cells l e')) : loadA T h e b off = ldL T e l off := by
  simp only [loadA, getR, hb, ldL]
  cases isAggT T e with
  | none => rfl
  | some a => cases a <;> cases sizeT T e <;> rfl
theorem ld_new {b off : Nat} {l : List AV} {e' : TypeId} (hb : b = h.n) : loadA T (h.push (.cells l e')) e b off = ldL T e l off := ld_own (at_new hb)
theorem ld_old {b off : Nat} {x : AB} (hb : b < h.n) : loadA T (h.push x) e b off = loadA T h e b off := by simp only [loadA, getR, at_old hb]
theorem ld_put {b off : Nat} {l : List AV} {e' : TypeId} (hb : b < h.n) : loadA T (h.put b (.cells l e')) e b off = ldL T e l off := ld_own (at_put hb)
theorem ld_else {b c off : Nat} {x : AB} (hb : c ≠ b) : loadA T (h.put c x) e b off = loadA T h e b off := by simp only [loadA, getR, at_else hb]
def stL (T : TT) (h : AH) (t : TypeId) (b off : Nat) (v : AV) : Option AB → Option AH
  | some (.cells l e) => match sizeT T t with
    | some n => if v.cells.length = n && v.cells.all AV.one then (put l off v.cells).map fun l' => h.put b (.cells l' e) else none
    | none => none
  | _ => none
theorem st_eq {b off : Nat} {v : AV} : storeA T h e b off v = stL T h e b off v (h.at b) := by
  unfold storeA stL getB
  cases h.at b with
  | none => rfl
  | some ab => cases ab <;> first | rfl | (cases sizeT T e <;> rfl)
/-- A slice held against nil. -/
def aBinS (P : Program) (T : TT) (o : Oper) (t : TM) (h : AH) (op : BinOp) (e : TypeId) (x y : Operand) : AR := aBin P T o t h op e x y
def slNil (h : AH) (b : Bool) (r : AR) : Option TypeDesc → AV → AR
  | some (.slice _), .sl _ _ _ _ => some (.val (.lit (.bool b)), h)
  | _, _ => r
theorem binR_nil_eql {f : TypeId} {i : Nat} :
    aBinR P T ⟨d, .binOp .eql e (.tmp i) (.const (.slice none 0 0)) f, ty, ps, af, g⟩ t h .eql e (.tmp i) (.const (.slice none 0 0)) =
      slNil h false (aBinS P T ⟨d, .binOp .eql e (.tmp i) (.const (.slice none 0 0)) f, ty, ps, af, g⟩ t h .eql e (.tmp i) (.const (.slice none 0 0))) (und T e) (t.get i) := by
  unfold slNil
  split
  · rename_i e' b off len cap hu hv
    unfold aBinR aBin
    rw [show evalA t (.tmp i) = some (.sl b off len cap) by rw [ev_tmp, hv], ev_nils]
    simp only [orLit, litOp, notSelect, Op.operands, litAll, ev_tmp, hv, toVal, Option.isSome_none, Bool.false_and, Bool.and_false, Bool.true_and, aSame, hu, ev_nils, sameA]
    rfl
  · rfl
theorem binR_nil_neq {f : TypeId} {i : Nat} :
    aBinR P T ⟨d, .binOp .neq e (.tmp i) (.const (.slice none 0 0)) f, ty, ps, af, g⟩ t h .neq e (.tmp i) (.const (.slice none 0 0)) =
      slNil h true (aBinS P T ⟨d, .binOp .neq e (.tmp i) (.const (.slice none 0 0)) f, ty, ps, af, g⟩ t h .neq e (.tmp i) (.const (.slice none 0 0))) (und T e) (t.get i) := by
  unfold slNil
  split
  · rename_i e' b off len cap hu hv
    unfold aBinR aBin
    rw [show evalA t (.tmp i) = some (.sl b off len cap) by rw [ev_tmp, hv], ev_nils]
    simp only [orLit, litOp, notSelect, Op.operands, litAll, ev_tmp, hv, toVal, Option.isSome_none, Bool.false_and, Bool.and_false, Bool.true_and, aSame, hu, ev_nils, sameA]
    rfl
  · rfl
theorem a_buildSlice {n : Nat} {p : Array (Nat × Operand)} : aop P T ⟨d, .buildSlice e n p, ty, ps, af, g⟩ t h = aBuildSlice T t h e n p := rfl
def bsM (T : TT) (h : AH) (n : Nat) (ps : Option (List (Nat × AV))) : Option TypeDesc → AR
  | some (.slice e) => match zeroT T e, sizeT T e, ps with
    | some zv, some z, some ps => if zv.cells.length = z && n ≤ 65536 && n * z ≤ 65536 then (fillA (fun k => some (k * z, z)) (rep zv.cells n) ps).map fun l => (.val (.sl h.n 0 n (.kn n)), h.push (.cells l e)) else none
    | _, _, _ => none
  | _ => none
theorem bs_eq {n : Nat} {p : Array (Nat × Operand)} : aBuildSlice T t h e n p = bsM T h n (evalParts t p.toList) (und T e) := by
  unfold aBuildSlice bsM
  cases hu : und T e with
  | none => simp
  | some dd =>
    cases dd <;> try (simp; done)
    rename_i e'
    cases hp : evalParts t p.toList with
    | none =>
      simp only
      cases zeroT T e' <;> cases sizeT T e' <;> rfl
    | some l =>
      simp only [zeroT, sizeT]
      cases T e' with
      | none => rfl
      | some i => rfl
def faM (h : AH) : Option (Nat × Nat × Bool) → Option AV → AR
  | some (o, _ + 1, _), some (.ptr b off) => some (.val (.ptr b (off + o)), h)
  | _, _ => none
theorem fa_eq {x : Operand} {i : Nat} : aFieldAddr T t h e x i = faM h (fieldOff T e i) (evalA t x) := by
  unfold aFieldAddr fieldOff faM
  cases hu : und T e with
  | none => simp
  | some dd =>
    cases dd <;> try (simp; done)
    rename_i fs
    cases hx : evalA t x with
    | none => simp
    | some v =>
      cases v <;> try (simp; done)
      simp only
      cases hf : fs[i]? with
      | none => simp
      | some f =>
        simp only [sizeT, isAggT]
        cases hT : T f.type with
        | none => simp
        | some ti =>
          simp only [Option.map_some]
          cases ti.size <;> rfl
def fdM (h : AH) : Option (Nat × Nat × Bool) → Option AV → AR
  | some (o, z, true), some (.agg l) => val h ((cut l o z).map .agg)
  | some (o, _, false), some (.agg l) => val h l[o]?
  | _, _ => none
theorem fd_eq {x : Operand} {i : Nat} : aField T t h e x i = fdM h (fieldOff T e i) (evalA t x) := by
  unfold aField fieldOff fdM
  cases hu : und T e with
  | none => simp
  | some dd =>
    cases dd <;> try (simp; done)
    rename_i fs
    cases hx : evalA t x with
    | none => simp
    | some v =>
      cases v <;> try (simp; done)
      simp only
      cases hf : fs[i]? with
      | none => simp
      | some f =>
        simp only [sizeT, isAggT, partA]
        cases hT : T f.type with
        | none => simp [val]
        | some ti =>
          simp only [Option.map_some]
          cases isAggD ti.desc <;> rfl
end
end Go.Proofs.YtohbdgddnkoenaaGreat.Ex
end

section

set_option linter.unusedSimpArgs false
set_option linter.unusedVariables false
namespace Go.Proofs.YtohbdgddnkoenaaGreat.Ex
open Go
/-- The heap has grown, and below n0 it is as it was. -/
def Ext (n0 : Nat) (h h' : AH) : Prop := h.n ≤ h'.n ∧ ∀ b, b < n0 → h'.at b = h.at b
theorem Ext.refl (n0 : Nat) (h : AH) : Ext n0 h h := ⟨Nat.le_refl _, fun _ _ => rfl⟩
theorem Ext.trans {n0 : Nat} {a b c : AH} (h : Ext n0 a b) (k : Ext n0 b c) : Ext n0 a c := ⟨Nat.le_trans h.1 k.1, fun x hx => (k.2 x hx).trans (h.2 x hx)⟩
theorem Ext.mono {n0 n1 : Nat} {a b : AH} (h : Ext n1 a b) (hn : n0 ≤ n1) : Ext n0 a b := ⟨h.1, fun x hx => h.2 x (by omega)⟩
theorem Ext.push {n0 : Nat} {h h' : AH} (x : AB) (he : Ext n0 h h') (hn : n0 ≤ h'.n) : Ext n0 h (h'.push x) :=
  ⟨by rw [n_push]; have := he.1; omega, fun b hb => (at_push_lt x (by omega)).trans (he.2 b hb)⟩
theorem Ext.put {n0 : Nat} {h h' : AH} {p : Nat} (x : AB) (he : Ext n0 h h') (hn : n0 ≤ p) : Ext n0 h (h'.put p x) :=
  ⟨by rw [n_put]; exact he.1, fun b hb => (at_put_ne x (by omega)).trans (he.2 b hb)⟩
theorem Ext.at {n0 : Nat} {h h' : AH} {b : Nat} {x : AB} (he : Ext n0 h h') (hb : b < n0) (hx : h.at b = some x) : h'.at b = some x := (he.2 b hb).trans hx
/-- A slice of the run's own: nothing yet, or it holds a block from n0 on. -/
def Own (n0 : Nat) (h : AH) (v : AV) (z : Nat) (e : TypeId) (L : List (List AV)) : Prop :=
  (∀ x ∈ L, x.length = z) ∧ ((v = .lit (.slice none 0 0) ∧ L = []) ∨ ∃ p, v = .sl p 0 L.length (.un z) ∧ n0 ≤ p ∧ h.at p = some (.cells L.flatten e))
theorem flat_len {z : Nat} {L : List (List AV)} (h : ∀ x ∈ L, x.length = z) : L.flatten.length = L.length * z := by
  induction L with
  | nil => simp
  | cons a r ih =>
    rw [List.flatten_cons, List.length_append, ih (fun x hx => h x (by simp [hx])), h a (by simp), List.length_cons, Nat.succ_mul]
    omega
/-- What of a heap an own slice does not touch. -/
def Apart (v : AV) (b : Nat) : Prop := ∀ off len cap, v ≠ .sl b off len cap
theorem append_own {T : TT} {h : AH} {t tx e : TypeId} {n0 z by' : Nat} {zv s x : AV} {L M : List (List AV)} (hu : und T t = some (.slice e)) (htx : und T tx = some (.slice e)) (hz : sizeT T e = some z) (hzv : zeroT T e = some zv) (hb : bytesT T e = some by')
    (hzl : zv.cells.length = z) (h0 : 0 < z) (h200 : z ≤ 200) (ho : Own n0 h s z e L) (hx : srcA h z x = some M.flatten) (hxl : lenA x = some M.length) (hM : ∀ c ∈ M, c.length = z) (h1 : M.flatten.all AV.one = true) (hn : L.length + M.length ≤ 4611686018427387904) (hby : (L.length + M.length) * by' ≤ 140737488355328) (hn0 : n0 ≤ h.n) :
    ∃ s' h', appendA T h t tx s x = some (s', h') ∧ Own n0 h' s' z e (L ++ M) ∧ Ext n0 h h' ∧ ∀ b, b < h.n → Apart s b → h'.at b = h.at b ∧ Apart s' b := by
  simp only [sizeT, zeroT, bytesT, Option.map_eq_some_iff] at hz hzv hb
  obtain ⟨i, hi, rfl⟩ := hz
  obtain ⟨i2, hi2, rfl⟩ := hzv
  obtain ⟨i3, hi3, rfl⟩ := hb
  rw [hi] at hi2 hi3
  obtain rfl := Option.some.inj hi2
  obtain rfl := Option.some.inj hi3
  have hml := flat_len hM
  have hlm : ∀ c ∈ L ++ M, c.length = i.size := fun c hc => (List.mem_append.1 hc).elim (ho.1 c) (hM c)
  have hs : lenA s = some L.length := by
    rcases ho.2 with ⟨rfl, rfl⟩ | ⟨p, rfl, _⟩ <;> rfl
  have hA : appendA T h t tx s x = appendB h e i.size M.length M.flatten s := by
    unfold appendA
    rw [hu, htx]
    simp only [hi, hxl, hs]
    rw [show (isSrcD i.size (.slice e) && Nat.blt 0 i.size && Nat.ble i.size 200 && Nat.beq i.zero.cells.length i.size && Nat.ble (L.length + M.length) 4611686018427387904 && Nat.ble ((L.length + M.length) * i.bytes) 140737488355328) = true by
      simp only [Bool.and_eq_true, Nat.ble_eq, Nat.blt_eq]
      exact ⟨⟨⟨⟨⟨rfl, h0⟩, h200⟩, by rw [hzl]; exact Nat.beq_refl _⟩, hn⟩, hby⟩]
    simp only [cond_true, hx]
    rw [show (Nat.beq M.flatten.length (M.length * i.size) && M.flatten.all AV.one) = true by
      rw [hml, h1, Nat.beq_refl]; rfl]
    rfl
  rw [hA]
  rcases ho.2 with ⟨rfl, rfl⟩ | ⟨p, rfl, hp, hat⟩
  · unfold appendB
    cases hm : Nat.beq M.length 0 with
    | true =>
      have : M = [] := List.eq_nil_of_length_eq_zero (Nat.eq_of_beq_eq_true hm)
      subst this
      exact ⟨_, _, rfl, ⟨hlm, .inl ⟨rfl, rfl⟩⟩, Ext.refl _ _, fun _ _ ha => ⟨rfl, ha⟩⟩
    | false =>
      refine ⟨_, _, rfl, ⟨hlm, .inr ⟨h.n, by simp, hn0, ?_⟩⟩, (Ext.refl _ _).push _ hn0, fun b hb _ => ⟨at_push_lt _ hb, fun off len cap e => by cases e; omega⟩⟩
      rw [at_push_n]
      simp
  · have hlt := at_lt hat
    unfold appendB
    cases hm : Nat.beq M.length 0 with
    | true =>
      have : M = [] := List.eq_nil_of_length_eq_zero (Nat.eq_of_beq_eq_true hm)
      subst this
      exact ⟨_, _, rfl, ⟨hlm, .inr ⟨p, by simp, hp, by simpa using hat⟩⟩, Ext.refl _ _, fun _ _ ha => ⟨rfl, ha⟩⟩
    | false =>
      have hg : getB h p = some (L.flatten, e) := by unfold getB; rw [hat]
      have hc : cut L.flatten 0 (L.length * i.size) = some L.flatten := by
        unfold cut
        rw [if_pos (by rw [Nat.zero_add, flat_len ho.1]; exact Nat.le_refl _), List.drop_zero, ← flat_len ho.1, List.take_length]
      simp only [cond_false, hg, hc, Nat.beq_refl, Bool.and_self, cond_true]
      refine ⟨_, _, rfl, ⟨hlm, .inr ⟨h.n, by simp, hn0, ?_⟩⟩, ((Ext.refl n0 h).put .gone hp).push _ (by rw [n_put]; exact hn0), fun b hb ha => ?_⟩
      · have := at_push_n (h.put p .gone) (.cells (L.flatten ++ M.flatten) e)
        rw [n_put] at this
        rw [this]
        simp
      · refine ⟨?_, fun off len cap e => by cases e; omega⟩
        rw [at_push_lt _ (by rw [n_put]; exact hb), at_put_ne]
        intro hpb
        subst hpb
        exact ha _ _ _ rfl
end Go.Proofs.YtohbdgddnkoenaaGreat.Ex
end

section

set_option linter.unusedSimpArgs false
set_option linter.unusedVariables false
namespace Go.Proofs.YtohbdgddnkoenaaGreat.Ex
open Go
/-- A slice that reads as a list of elements (their cells). -/
def Rd (h : AH) (v : AV) (z : Nat) (L : List (List AV)) : Prop :=
  (∀ x ∈ L, x.length = z) ∧ ((v = .lit (.slice none 0 0) ∧ L = []) ∨ ∃ b off cap row, v = .sl b off L.length cap ∧ getR h b = some row ∧ cut row off (L.length * z) = some L.flatten)
theorem Rd.len {h : AH} {v : AV} {z : Nat} {L : List (List AV)} (hr : Rd h v z L) : lenA v = some L.length := by
  rcases hr.2 with ⟨rfl, rfl⟩ | ⟨b, off, cap, row, rfl, _⟩ <;> rfl
theorem Rd.src {h : AH} {v : AV} {z : Nat} {L : List (List AV)} (hr : Rd h v z L) : srcA h z v = some L.flatten := by
  rcases hr.2 with ⟨rfl, rfl⟩ | ⟨b, off, cap, row, rfl, h1, h2⟩
  · rfl
  · simp only [srcA, h1]
    exact h2
theorem flat_get {z : Nat} : ∀ {L : List (List AV)}, (∀ x ∈ L, x.length = z) → ∀ (i : Nat) {c : List AV}, L[i]? = some c → (L.flatten.drop (i * z)).take z = c
  | [], _, i, c, hc => by simp at hc
  | a :: r, h, i, c, hc => by
    have ha := h a (by simp)
    cases i with
    | zero =>
      obtain rfl : a = c := by simpa using hc
      rw [Nat.zero_mul, List.drop_zero, List.flatten_cons, ← ha, List.take_left']
      rfl
    | succ i =>
      rw [List.flatten_cons, Nat.succ_mul, Nat.add_comm, List.drop_append, List.drop_of_length_le (by omega), List.nil_append, ha, Nat.add_sub_cancel_left]
      exact flat_get (fun x hx => h x (by simp [hx])) i (by simpa using hc)
/-- An element is loaded. -/
theorem Rd.get {h : AH} {b off len : Nat} {cap : Cap} {z : Nat} {L : List (List AV)} (hr : Rd h (.sl b off len cap) z L) {i : Nat} {c : List AV} (hi : L[i]? = some c) :
    ∃ row, getR h b = some row ∧ (row.drop (off + i * z)).take z = c ∧ off + i * z + z ≤ row.length ∧ c.length = z := by
  rcases hr.2 with ⟨hh, _⟩ | ⟨b2, off2, cap2, row, hh, h1, h2⟩
  · cases hh
  · cases hh
    have hlt := (List.getElem?_eq_some_iff.1 hi).1
    have hcz := hr.1 c (List.mem_of_getElem? hi)
    unfold cut at h2
    split at h2
    case isFalse => cases h2
    rename_i hfit
    have h2 := Option.some.inj h2
    have hz : i * z + z ≤ L.length * z := by rw [← Nat.succ_mul]; exact Nat.mul_le_mul_right _ hlt
    refine ⟨row, h1, ?_, by omega, hcz⟩
    have := flat_get hr.1 i hi
    rw [← h2, List.drop_take, List.take_take, Nat.min_eq_left (by omega), List.drop_drop] at this
    exact this
theorem Rd.ext {n0 : Nat} {h h' : AH} {v : AV} {z : Nat} {L : List (List AV)} (hr : Rd h v z L) (hv : ∀ b off len cap, v = .sl b off len cap → h'.at b = h.at b) : Rd h' v z L := by
  refine ⟨hr.1, ?_⟩
  rcases hr.2 with hh | ⟨b, off, cap, row, hh, h1, h2⟩
  · exact .inl hh
  · refine .inr ⟨b, off, cap, row, hh, ?_, h2⟩
    unfold getR at h1 ⊢
    rw [hv _ _ _ _ hh]
    exact h1
theorem Own.rd {n0 : Nat} {h : AH} {v : AV} {z : Nat} {e : TypeId} {L : List (List AV)} (ho : Own n0 h v z e L) : Rd h v z L := by
  refine ⟨ho.1, ?_⟩
  rcases ho.2 with hh | ⟨p, rfl, hp, hat⟩
  · exact .inl hh
  · refine .inr ⟨p, 0, _, L.flatten, rfl, by unfold getR; rw [hat], ?_⟩
    unfold cut
    rw [if_pos (by rw [Nat.zero_add, flat_len ho.1]; exact Nat.le_refl _), List.drop_zero, ← flat_len ho.1, List.take_length]
end Go.Proofs.YtohbdgddnkoenaaGreat.Ex
end

section

set_option linter.unusedSimpArgs false
set_option linter.unusedVariables false
namespace Go.Proofs.YtohbdgddnkoenaaGreat.Ex
open Go
/-- How values of a type lie in cells; F: the blocks that they reach. -/
structure Rep (α : Type) where
  z : Nat
  is : (Nat → Prop) → AH → List AV → α → Prop
  len : ∀ {F h c x}, is F h c x → c.length = z
  one : ∀ {F h c x}, is F h c x → ∀ v ∈ c, v.one = true
  lift : ∀ {F G : Nat → Prop} {h h' : AH} {c x}, is F h c x → (∀ b, F b → b < h.n → h'.at b = h.at b ∧ G b) → is G h' c x
/-- A slice's length. -/
def SlN (v : AV) (n : Nat) : Prop := (v = .lit (.slice none 0 0) ∧ n = 0) ∨ ∃ b off cap, v = .sl b off n cap
def slB : AV → Nat
  | .sl b _ _ _ => b
  | _ => 0
def slO : AV → Nat
  | .sl _ o _ _ => o
  | _ => 0
/-- The blocks of a slice's cells. -/
def SlF (F : Nat → Prop) (v : AV) : Prop := ∀ b off n cap, v = .sl b off n cap → F b
theorem getR_lt {h : AH} {b : Nat} {row : List AV} (hr : getR h b = some row) : b < h.n := by
  unfold getR at hr
  cases hq : h.at b with
  | none => rw [hq] at hr; cases hr
  | some ab => exact at_lt hq
theorem Rd.slN {h : AH} {v : AV} {z : Nat} {L : List (List AV)} (hr : Rd h v z L) : SlN v L.length := by
  rcases hr.2 with ⟨rfl, rfl⟩ | ⟨b, off, cap, row, rfl, _⟩
  · exact .inl ⟨rfl, rfl⟩
  · exact .inr ⟨b, off, cap, rfl⟩
theorem SlN.one {v : AV} {n : Nat} (h : SlN v n) : v.one = true := by
  rcases h with ⟨rfl, _⟩ | ⟨b, off, cap, rfl⟩ <;> rfl
theorem SlN.lenA {v : AV} {n : Nat} (h : SlN v n) : lenA v = some n := by
  rcases h with ⟨rfl, rfl⟩ | ⟨b, off, cap, rfl⟩ <;> rfl
theorem Rd.lift {h h' : AH} {v : AV} {z : Nat} {L : List (List AV)} (hr : Rd h v z L) (hv : ∀ b off n cap, v = .sl b off n cap → b < h.n → h'.at b = h.at b) : Rd h' v z L :=
  hr.ext (n0 := 0) fun b off len cap e => by
    rcases hr.2 with ⟨rfl, _⟩ | ⟨b2, off2, cap2, row, rfl, h1, _⟩
    · cases e
    · cases e
      exact hv _ _ _ _ rfl (getR_lt h1)
/-- Elements and their cells. -/
def Els {α : Type} (R : Rep α) (F : Nat → Prop) (h : AH) (L : List (List AV)) (xs : List α) : Prop := L.length = xs.length ∧ ∀ (i : Nat) c x, L[i]? = some c → xs[i]? = some x → R.is F h c x
theorem Els.nil {α : Type} {R : Rep α} {F : Nat → Prop} {h : AH} : Els R F h [] [] := ⟨rfl, fun i c x hc => by simp at hc⟩
theorem Els.lens {α : Type} {R : Rep α} {F : Nat → Prop} {h : AH} {L : List (List AV)} {xs : List α} (he : Els R F h L xs) : ∀ c ∈ L, c.length = R.z := fun c hc => by
  obtain ⟨i, hi, rfl⟩ := List.mem_iff_getElem.1 hc
  have hx : i < xs.length := by rw [← he.1]; exact hi
  exact R.len (he.2 i _ xs[i] (List.getElem?_eq_getElem hi) (List.getElem?_eq_getElem hx))
theorem Els.ones {α : Type} {R : Rep α} {F : Nat → Prop} {h : AH} {L : List (List AV)} {xs : List α} (he : Els R F h L xs) : L.flatten.all AV.one = true := by
  simp only [List.all_eq_true, List.mem_flatten]
  rintro v ⟨c, hc, hv⟩
  obtain ⟨i, hi, rfl⟩ := List.mem_iff_getElem.1 hc
  have hx : i < xs.length := by rw [← he.1]; exact hi
  exact R.one (he.2 i _ xs[i] (List.getElem?_eq_getElem hi) (List.getElem?_eq_getElem hx)) v hv
theorem Els.lift {α : Type} {R : Rep α} {F G : Nat → Prop} {h h' : AH} {L : List (List AV)} {xs : List α} (he : Els R F h L xs) (hh : ∀ b, F b → b < h.n → h'.at b = h.at b ∧ G b) : Els R G h' L xs :=
  ⟨he.1, fun i c x hc hx => R.lift (he.2 i c x hc hx) hh⟩
theorem Els.append {α : Type} {R : Rep α} {F : Nat → Prop} {h : AH} {L M : List (List AV)} {xs ys : List α} (he : Els R F h L xs) (hm : Els R F h M ys) : Els R F h (L ++ M) (xs ++ ys) := by
  refine ⟨by simp [he.1, hm.1], fun i c x h1 h2 => ?_⟩
  by_cases hi : i < L.length
  · rw [List.getElem?_append_left hi] at h1
    rw [List.getElem?_append_left (by rw [← he.1]; exact hi)] at h2
    exact he.2 i _ _ h1 h2
  · rw [List.getElem?_append_right (by omega)] at h1
    rw [List.getElem?_append_right (by rw [← he.1]; omega), ← he.1] at h2
    exact hm.2 _ _ _ h1 h2
theorem Els.get {α : Type} {R : Rep α} {F : Nat → Prop} {h : AH} {L : List (List AV)} {xs : List α} (he : Els R F h L xs) {i : Nat} {x : α} (hx : xs[i]? = some x) : ∃ c, L[i]? = some c ∧ R.is F h c x := by
  have hi : i < L.length := by rw [he.1]; exact (List.getElem?_eq_some_iff.1 hx).1
  exact ⟨L[i], List.getElem?_eq_getElem hi, he.2 i _ x (List.getElem?_eq_getElem hi) hx⟩
/-- A slice's capacity is not less than its length. -/
def CapOk (z : Nat) (v : AV) : Prop := ∀ b off n cap, v = .sl b off n cap → match cap with
  | .kn k => n ≤ k
  | .un z' => z' = z
/-- A slice that is read. -/
def RSl {α : Type} (R : Rep α) : Rep (List α) where
  z := 1
  is F h c xs := ∃ v L, c = [v] ∧ Rd h v R.z L ∧ SlF F v ∧ CapOk R.z v ∧ Els R F h L xs
  len := fun ⟨v, L, e, _⟩ => by subst e; rfl
  one := fun ⟨v, L, e, h1, _⟩ u hu => by
    subst e
    simp at hu
    subst hu
    exact h1.slN.one
  lift := fun ⟨v, L, e, h1, h2, hc, h3⟩ hh => ⟨v, L, e, h1.lift fun b off n cap e' hb => (hh b (h2 b off n cap e') hb).1,
    fun b off n cap e' => by
      rcases h1.2 with ⟨hv, _⟩ | ⟨b2, off2, cap2, row, hv, h4, _⟩
      · rw [hv] at e'; cases e'
      · have e2 := e'
        rw [hv] at e'
        cases e'
        exact (hh _ (h2 _ _ _ _ e2) (getR_lt h4)).2, hc, h3.lift hh⟩
/-- Is it a slice? Its length. -/
def isSl : AV → Bool
  | .sl .. => true
  | .lit (.slice none 0 0) => true
  | _ => false
def lenD : AV → Nat
  | .sl _ _ n _ => n
  | _ => 0
section
variable {α : Type} {R : Rep α} {F : Nat → Prop} {h : AH} {v : AV} {xs : List α}
theorem SlN.isSl {n : Nat} (h : SlN v n) : isSl v = true := by rcases h with ⟨rfl, _⟩ | ⟨b, off, cap, rfl⟩ <;> rfl
theorem SlN.lenD {n : Nat} (h : SlN v n) : lenD v = n := by rcases h with ⟨rfl, rfl⟩ | ⟨b, off, cap, rfl⟩ <;> rfl
theorem SlN.of (h : Ex.isSl v = true) : ∃ n, SlN v n := by
  unfold Ex.isSl at h
  split at h
  · exact ⟨_, .inr ⟨_, _, _, rfl⟩⟩
  · exact ⟨0, .inl ⟨rfl, rfl⟩⟩
  · cases h
/-- A slice's value that reads as some list. -/
def IsSl (R : Rep α) (F : Nat → Prop) (h : AH) (v : AV) (xs : List α) : Prop := (RSl R).is F h [v] xs
theorem IsSl.mk {L : List (List AV)} (h1 : Rd h v R.z L) (h2 : SlF F v) (hc : CapOk R.z v) (h3 : Els R F h L xs) : IsSl R F h v xs := ⟨v, L, rfl, h1, h2, hc, h3⟩
theorem IsSl.out (hs : IsSl R F h v xs) : ∃ L, Rd h v R.z L ∧ SlF F v ∧ CapOk R.z v ∧ Els R F h L xs := by
  obtain ⟨v', L, e, h1, h2, hc, h3⟩ := hs
  cases e
  exact ⟨L, h1, h2, hc, h3⟩
theorem IsSl.slN (hs : IsSl R F h v xs) : SlN v xs.length := by
  obtain ⟨L, h1, _, _, h3⟩ := hs.out
  rw [← h3.1]
  exact h1.slN
theorem IsSl.one (hs : IsSl R F h v xs) : v.one = true := hs.slN.one
theorem IsSl.isSl (hs : IsSl R F h v xs) : Ex.isSl v = true := hs.slN.isSl
theorem IsSl.lenD (hs : IsSl R F h v xs) : Ex.lenD v = xs.length := hs.slN.lenD
theorem IsSl.cells (hs : IsSl R F h v xs) : v.cells = [v] := cells_one hs.one
theorem IsSl.lift {G : Nat → Prop} {h' : AH} (hs : IsSl R F h v xs) (hh : ∀ b, F b → b < h.n → h'.at b = h.at b ∧ G b) : IsSl R G h' v xs := (RSl R).lift hs hh
theorem IsSl.ext {h' : AH} {n0 : Nat} (hs : IsSl R F h v xs) (he : Ext n0 h h') (hn : h.n ≤ n0) : IsSl R F h' v xs := hs.lift fun b hb hlt => ⟨he.2 b (by omega), hb⟩
theorem IsSl.nil : IsSl R F h (.lit (.slice none 0 0)) [] := .mk (L := []) ⟨by simp, .inl ⟨rfl, rfl⟩⟩ (fun b off n cap e => by cases e) (fun b off n cap e => by cases e) .nil
/-- An element's cells, read. -/
theorem IsSl.get {T : TT} (hs : IsSl R F h v xs) {i : Nat} {x : α} (hx : xs[i]? = some x) :
    ∃ c, R.is F h c x ∧ (∀ e n j, sizeT T e = some n → 0 < n → j + n ≤ R.z → loadA T h e (slB v) (slO v + i * R.z + j) = ldL T e c j) := by
  obtain ⟨L, h1, h2, _, h3⟩ := hs.out
  obtain ⟨c, hc, hi⟩ := h3.get hx
  refine ⟨c, hi, fun e n j hn h0 hj => ?_⟩
  rcases h1.2 with ⟨_, rfl⟩ | ⟨b, off, cap, row, rfl, h4, h5⟩
  · simp at hc
  · obtain ⟨row', e1, e2, e3, e4⟩ := h1.get hc
    rw [h4] at e1
    obtain rfl := Option.some.inj e1
    have key : ∀ k, k < R.z → row[off + i * R.z + k]? = c[k]? := fun k hk => by
      rw [← e2, List.getElem?_take, if_pos hk, List.getElem?_drop]
    simp only [loadA, slB, slO, h4, ldL, hn]
    cases ha : isAggT T e with
    | none => rfl
    | some a =>
      cases a with
      | false => exact key j (by omega)
      | true =>
        simp only [cut]
        rw [if_pos (by omega), if_pos (by omega)]
        simp only [Option.map_some, Option.some.injEq, AV.agg.injEq]
        apply List.ext_getElem?
        intro k
        by_cases hk : k < n
        · rw [List.getElem?_take, if_pos hk, List.getElem?_take, if_pos hk, List.getElem?_drop, List.getElem?_drop]
          rw [Nat.add_assoc]
          exact key (j + k) (by omega)
        · rw [List.getElem?_take, if_neg hk, List.getElem?_take, if_neg hk]
/-- Part of a slice. -/
def subCap (l : Nat) : Cap → Cap
  | .kn k => .kn (k - l)
  | .un z' => .un z'
def subSl (z l r : Nat) : AV → AV
  | .sl b off _ cap => .sl b (off + l * z) (r - l) (subCap l cap)
  | v => v
theorem IsSl.sub {l r : Nat} (hs : IsSl R F h v xs) (hlr : l ≤ r) (hr : r ≤ xs.length) : IsSl R F h (subSl R.z l r v) ((xs.take r).drop l) := by
  obtain ⟨L, h1, h2, hc, h3⟩ := hs.out
  have hL : L.length = xs.length := h3.1
  have hE : Els R F h ((L.take r).drop l) ((xs.take r).drop l) := by
    refine ⟨by simp [hL], fun i c x e1 e2 => ?_⟩
    rw [List.getElem?_drop, List.getElem?_take] at e1 e2
    split at e1
    · rename_i hi
      rw [if_pos hi] at e2
      exact h3.2 _ _ _ e1 e2
    · cases e1
  rcases h1.2 with ⟨rfl, rfl⟩ | ⟨b, off, cap, row, rfl, h4, h5⟩
  · refine .mk (L := []) ⟨by simp, .inl ⟨rfl, rfl⟩⟩ (fun b off n cap e => by cases e) (fun b off n cap e => by cases e) ?_
    have : xs = [] := List.eq_nil_of_length_eq_zero (by rw [← hL]; rfl)
    subst this
    simpa using Els.nil
  · refine .mk (L := (L.take r).drop l) ⟨fun c hc => h1.1 c (List.mem_of_mem_take (List.mem_of_mem_drop hc)), .inr ⟨b, off + l * R.z, subCap l cap, row, ?_, h4, ?_⟩⟩ (fun b' off' n' cap' e => ?_) (fun b' off' n' cap' e => ?_) hE
    · show AV.sl b (off + l * R.z) (r - l) (subCap l cap) = _
      rw [show ((L.take r).drop l).length = r - l by rw [List.length_drop, List.length_take]; omega]
    · have hlen : ((L.take r).drop l).length = r - l := by rw [List.length_drop, List.length_take]; omega
      rw [hlen]
      unfold cut at h5 ⊢
      split at h5
      case isFalse => cases h5
      rename_i hfit
      have h5 := Option.some.inj h5
      have m1 : l * R.z + (r - l) * R.z = r * R.z := by rw [← Nat.add_mul]; congr 1; omega
      have m2 : r * R.z ≤ L.length * R.z := Nat.mul_le_mul_right _ (by omega)
      have hp := Nat.mul_le_mul_right R.z (show l ≤ r by omega)
      rw [if_pos (by omega)]
      congr 1
      have hflat : ∀ (M : List (List AV)) (k : Nat), (∀ c ∈ M, c.length = R.z) → (M.drop k).flatten = M.flatten.drop (k * R.z) := by
        intro M
        induction M with
        | nil => intro k _; simp
        | cons a M ih =>
          intro k hM
          cases k with
          | zero => simp
          | succ k =>
            rw [List.drop_succ_cons, ih k (fun c hc => hM c (by simp [hc])), List.flatten_cons, Nat.succ_mul, Nat.add_comm, ← List.drop_drop, List.drop_left' (hM a (by simp))]
      have hflat2 : ∀ (M : List (List AV)) (k : Nat), (∀ c ∈ M, c.length = R.z) → (M.take k).flatten = M.flatten.take (k * R.z) := by
        intro M
        induction M with
        | nil => intro k _; simp
        | cons a M ih =>
          intro k hM
          cases k with
          | zero => simp
          | succ k =>
            have ha := hM a (by simp)
            rw [List.take_succ_cons, List.flatten_cons, List.flatten_cons, ih k (fun c hc => hM c (by simp [hc])), Nat.succ_mul, List.take_append, List.take_of_length_le (l := a) (by omega), ha]
            congr 2
            omega
      rw [hflat _ _ (fun c hc => h1.1 c (List.mem_of_mem_take hc)), hflat2 _ _ h1.1, ← h5, List.take_take, List.drop_take, List.drop_drop]
      congr 1
      omega
    · show F b'
      have e' : AV.sl b (off + l * R.z) (r - l) (subCap l cap) = .sl b' off' n' cap' := e
      cases e'
      exact h2 b off _ cap rfl
    · have e' : AV.sl b (off + l * R.z) (r - l) (subCap l cap) = .sl b' off' n' cap' := e
      cases e'
      have := hc b off _ cap rfl
      cases cap with
      | kn k => show _ ≤ _; simp only at this; omega
      | un z' => exact this
/-! Slices of the run's own, that grow. -/
def OwnL (R : Rep α) (G : Nat → Prop) (n0 : Nat) (h : AH) (v : AV) (e : TypeId) (xs : List α) : Prop := ∃ L, Own n0 h v R.z e L ∧ Els R (fun b => G b ∧ Apart v b) h L xs
variable {G : Nat → Prop} {n0 : Nat} {e : TypeId}
theorem Own.slN {z : Nat} {L : List (List AV)} (h : Own n0 h v z e L) : SlN v L.length := by
  rcases h.2 with ⟨rfl, rfl⟩ | ⟨p, rfl, _⟩
  · exact .inl ⟨rfl, rfl⟩
  · exact .inr ⟨_, _, _, rfl⟩
theorem OwnL.nil : OwnL R G n0 h (.lit (.slice none 0 0)) e [] := ⟨[], ⟨by simp, .inl ⟨rfl, rfl⟩⟩, .nil⟩
theorem OwnL.slN (ho : OwnL R G n0 h v e xs) : SlN v xs.length := by
  obtain ⟨L, h1, h2⟩ := ho
  rw [← h2.1]
  exact h1.slN
theorem OwnL.one (ho : OwnL R G n0 h v e xs) : v.one = true := ho.slN.one
theorem OwnL.isSl (ho : OwnL R G n0 h v e xs) : Ex.isSl v = true := ho.slN.isSl
theorem OwnL.lenD (ho : OwnL R G n0 h v e xs) : Ex.lenD v = xs.length := ho.slN.lenD
theorem OwnL.cells (ho : OwnL R G n0 h v e xs) : v.cells = [v] := cells_one ho.one
theorem OwnL.lift {h' : AH} (ho : OwnL R G n0 h v e xs) (hv : ∀ b off n cap, v = .sl b off n cap → h'.at b = h.at b) (hh : ∀ b, G b → b < h.n → Apart v b → h'.at b = h.at b) : OwnL R G n0 h' v e xs := by
  obtain ⟨L, h1, h2⟩ := ho
  refine ⟨L, ⟨h1.1, ?_⟩, h2.lift fun b hb hlt => ⟨hh b hb.1 hlt hb.2, hb⟩⟩
  rcases h1.2 with hh | ⟨p, rfl, hp, hat⟩
  · exact .inl hh
  · exact .inr ⟨p, rfl, hp, (hv _ _ _ _ rfl).trans hat⟩
theorem OwnL.ext {h' : AH} {m : Nat} (ho : OwnL R G n0 h v e xs) (he : Ext m h h') (hm : h.n ≤ m) : OwnL R G n0 h' v e xs :=
  ho.lift (fun b off n cap ev => by
    obtain ⟨L, h1, h2⟩ := ho
    rcases h1.2 with ⟨hh, _⟩ | ⟨p, hh, hp, hat⟩
    · rw [hh] at ev; cases ev
    · rw [hh] at ev
      cases ev
      exact he.2 _ (by have := at_lt hat; omega)) (fun b _ hlt _ => he.2 b (by omega))
/-- Something is appended to it. -/
theorem OwnL.append {T : TT} {t tx : TypeId} {by' : Nat} {zv x : AV} {M : List (List AV)} {ys : List α} (ho : OwnL R G n0 h v e xs)
    (hu : und T t = some (.slice e)) (htx : und T tx = some (.slice e)) (hz : sizeT T e = some R.z) (hzv : zeroT T e = some zv) (hb : bytesT T e = some by')
    (hzl : zv.cells.length = R.z) (h0 : 0 < R.z) (h200 : R.z ≤ 200) (hx : srcA h R.z x = some M.flatten) (hxl : lenA x = some M.length) (hM : Els R (fun b => G b ∧ Apart v b) h M ys)
    (hn : xs.length + ys.length ≤ 4611686018427387904) (hby : (xs.length + ys.length) * by' ≤ 140737488355328) (hn0 : n0 ≤ h.n) :
    ∃ s' h', appendA T h t tx v x = some (s', h') ∧ OwnL R G n0 h' s' e (xs ++ ys) ∧ Ext n0 h h' ∧ ∀ b, b < h.n → Apart v b → h'.at b = h.at b ∧ Apart s' b := by
  obtain ⟨L, h1, h2⟩ := ho
  obtain ⟨s', h', a1, a2, a3, a4⟩ := append_own hu htx hz hzv hb hzl h0 h200 h1 hx hxl hM.lens hM.ones (by rw [h2.1, hM.1]; exact hn) (by rw [h2.1, hM.1]; exact hby) hn0
  exact ⟨s', h', a1, ⟨_, a2, (h2.append hM).lift fun b hb hlt => ⟨(a4 b hlt hb.2).1, hb.1, (a4 b hlt hb.2).2⟩⟩, a3, a4⟩
end
end Go.Proofs.YtohbdgddnkoenaaGreat.Ex
end

section

set_option linter.unusedSimpArgs false
set_option linter.unusedVariables false
namespace Go.Proofs.YtohbdgddnkoenaaGreat.Ex
open Go
section
variable {P : Program} {T : TT} {S : Sums} {t : TM} {h : AH} {d : Option Tmp} {ty : TypeId} {ps : String} {af : Array Edge} {g : Option (Nat × Bool)} {N : NT}
def isSlT (T : TT) (t : TypeId) : Bool := match und T t with
  | some (.slice _) => true
  | _ => false
/-- A slice's element: its cells. -/
def szE (T : TT) (t : TypeId) : Nat := match und T t with
  | some (.slice e) => (sizeT T e).getD 0
  | _ => 0
def isPtr : AV → Bool
  | .ptr _ _ => true
  | _ => false
theorem und_tab {t : TypeId} {dd : TypeDesc} (hu : und (tabOf P N) t = some dd) : (P.underlying t).getD .invalid = dd := by
  unfold und tabOf at hu
  cases hq : N.has t with
  | false => rw [hq] at hu; cases hu
  | true => rw [hq] at hu; simpa [tiOf] using hu
theorem und_tab_sl {t e : TypeId} (hu : und (tabOf P N) t = some (.slice e)) : P.underlying t = some (.slice e) := by
  have := und_tab hu
  cases hq : P.underlying t with
  | none => rw [hq] at this; cases this
  | some x => rw [hq] at this; exact congrArg some this
theorem isSlT_out {t : TypeId} (hT : isSlT T t = true) : ∃ e, und T t = some (.slice e) := by
  unfold isSlT at hT
  split at hT
  · rename_i e hu; exact ⟨e, hu⟩
  · cases hT
theorem pur_prog {α : Type} {f : Program → Sem α} : pur P (program >>= f) = pur P (f P) := rfl
theorem a_len {i ty' : Nat} (hs : isSl (t.get i) = true) (hT : isSlT (tabOf P N) ty' = true) :
    aop P (tabOf P N) ⟨d, .call ⟨.builtin .len, #[.tmp i], #[ty']⟩, ty, ps, af, g⟩ t h = some (.val (.lit (.int .i64 (lenD (t.get i)))), h) := by
  obtain ⟨e, hu⟩ := isSlT_out hT
  have hP := und_tab_sl hu
  rw [a_call]
  obtain ⟨n, ⟨hv, _⟩ | ⟨b, off, cap, hv⟩⟩ := SlN.of hs
  · have he : litEnv t (.tmp i) = .slice none 0 0 := by simp [litEnv, ev_tmp, hv, toVal]
    have hl : litOp P ⟨d, .call ⟨.builtin .len, #[.tmp i], #[ty']⟩, ty, ps, af, g⟩ t = some (.val (.lit (.int .i64 0))) := by
      simp only [litOp, notSelect, Op.operands, Call.operands, execOp, resolve]
      simp [litAll, ev_tmp, hv, toVal, invoke, builtin, Builtin.len_, he, underlying]
      rw [pur_prog, hP]
      rfl
    simp only [aCall, aBuiltin, evals, ev_tmp, hv, orLit, hl, lenD]
    rfl
  · simp only [aCall, aBuiltin, evals, ev_tmp, hv, hu, lenD]
/-- An element's place. -/
def iaM (h : AH) (v : AV) (z : Nat) : Option Nat → AR
  | some k => if k < lenD v then some (.val (.ptr (slB v) (slO v + k * z)), h) else none
  | none => none
theorem iaM_some {v : AV} {z k : Nat} : iaM h v z (some k) = if k < lenD v then some (.val (.ptr (slB v) (slO v + k * z)), h) else none := rfl
theorem szE_eq {e el z : Nat} (hu : und T e = some (.slice el)) (hz : sizeT T el = some z) : szE T e = z := by unfold szE; rw [hu]; simp [hz]
def szOk (T : TT) (t : TypeId) : Bool := match und T t with
  | some (.slice e) => (sizeT T e).isSome && Nat.blt 0 ((sizeT T e).getD 0)
  | _ => false
theorem szOk_out {e : TypeId} (hT : szOk T e = true) : ∃ el z, und T e = some (.slice el) ∧ sizeT T el = some z ∧ szE T e = z ∧ 0 < z := by
  unfold szOk at hT
  split at hT
  case h_2 => cases hT
  rename_i el hu
  simp only [Bool.and_eq_true] at hT
  obtain ⟨z, hz⟩ := Option.isSome_iff_exists.1 hT.1
  refine ⟨el, z, hu, hz, szE_eq hu hz, ?_⟩
  have := Nat.blt_eq.mp hT.2
  rw [hz] at this
  exact this
theorem a_ia {e i : Nat} {y : Operand} (hs : isSl (t.get i) = true) (hT : szOk T e = true) : aop P T ⟨d, .indexAddr e (.tmp i) y, ty, ps, af, g⟩ t h = iaM h (t.get i) (szE T e) ((evalA t y).bind natA) := by
  rw [a_indexAddr]
  obtain ⟨el, z, hu, hz, hzz, _⟩ := szOk_out hT
  rw [hzz]
  unfold aIndexAddr
  obtain ⟨n, ⟨hv, _⟩ | ⟨b, off, cap, hv⟩⟩ := SlN.of hs
  · rw [hu, ev_tmp, hv]
    cases (evalA t y).bind natA <;> simp [iaM, lenD]
  · rw [hu, ev_tmp, hv]
    cases (evalA t y).bind natA with
    | none => simp [iaM]
    | some k =>
      by_cases hk : k < n
      · simp [iaM, lenD, slB, slO, hz, hk]
      · simp [iaM, lenD, slB, slO, hz, hk]
theorem a_iap {e i : Nat} {y : Operand} (hs : isPtr (t.get i) = true) : aop P T ⟨d, .indexAddr e (.tmp i) y, ty, ps, af, g⟩ t h = aIndexAddr T t h e (.tmp i) y := rfl
/-- Part of a slice. -/
def aSlR (P : Program) (T : TT) (o : Oper) (t : TM) (h : AH) (e : TypeId) (x : Operand) (lo hi mx : Option Operand) : AR := aSlice P T o t h e x lo hi mx
def slM (h : AH) (v : AV) (z : Nat) (lo hi : Int) (r : AR) : AR := if 0 ≤ lo ∧ lo ≤ hi ∧ hi ≤ (lenD v : Int) then some (.val (subSl z lo.toNat hi.toNat v), h) else r
theorem sl_none {o : Oper} {i : Nat} (hx : .tmp i ∈ o.op.operands) {b off n : Nat} {cap : Cap} (hv : t.get i = .sl b off n cap) : litOp P o t = none := by
  have key : ∀ l : List Operand, Operand.tmp i ∈ l → litAll t l = false := by
    intro l
    induction l with
    | nil => intro h; cases h
    | cons a r ih =>
      intro h
      cases h with
      | head => simp [litAll, ev_tmp, hv, toVal]
      | tail _ h =>
        have := ih h
        simp only [litAll]
        split
        · rw [this]; simp
        · rfl
  have := key o.op.operands.toList (by simpa using hx)
  unfold litOp
  rw [this]
  simp
theorem capGe_ok {z n k : Nat} {cap : Cap} (hk : k ≤ n) (hc : match cap with | .kn k => n ≤ k | .un z' => z' = z) : capGe cap n k = some true := by
  cases cap with
  | kn m => simp only at hc; simp [capGe]; omega
  | un z' => simp [capGe, hk]
theorem sl1_ok {e : TypeId} {v : AV} {l r : Nat} {lo hi : Option Nat} (hT : szOk T e = true) (hc : CapOk (szE T e) v) {b off n : Nat} {cap : Cap} (hv : v = .sl b off n cap) (hl : lo.getD 0 = l) (hr : hi.getD n = r) (hlr : l ≤ r) (hrn : r ≤ n) :
    aSlice1 T h e v lo hi none = some (.val (subSl (szE T e) l r v), h) := by
  obtain ⟨el, z, hu, hz, hzz, _⟩ := szOk_out hT
  subst hv
  have hcap := hc b off n cap rfl
  rw [hzz] at hcap ⊢
  unfold aSlice1
  rw [hu]
  simp only [hz]
  have hb : boundsA n cap lo hi none = some (l, r, subCap l cap) := by
    unfold boundsA
    simp only [hl, hr, capGe_ok hrn hcap]
    rw [if_pos (by simp [hlr])]
    cases cap <;> rfl
  rw [hb]
  simp only
  have hf : capFits z (subCap l cap) = true := by
    cases cap with
    | kn k => rfl
    | un z' => simp only at hcap; subst hcap; simp [capFits, subCap]
  rw [hf]
  rfl
theorem nil_slice {e : TypeId} {lo hi : Option Value} (hP : P.underlying e = some (.slice ty)) (hl : lo = none ∨ lo = some (.int .i64 0)) (hh : hi = none ∨ hi = some (.int .i64 0)) (hi' : (P.info? ty).isSome = true) :
    pur P (do let x ← Instr.sliceAt e (.slice none 0 0) lo hi none; pure (Next.value x)) = some (.ok (.value (.slice none 0 0))) := by
  obtain ⟨ii, hii⟩ := Option.isSome_iff_exists.1 hi'
  have u1 : ∀ {α β : Type} (f : TypeDesc → Sem α) (g : α → Sem β), pur P ((underlying e >>= f) >>= g) = pur P (f (.slice ty) >>= g) := fun f g => by
    show pur P (((match P.underlying e with | some d => pure d | none => stuck "no such type") >>= f) >>= g) = _
    rw [hP]
    rfl
  have u2 : ∀ {α β : Type} (f : Nat → Sem α) (g : α → Sem β), pur P ((sizeOf ty >>= f) >>= g) = pur P (f ii.size >>= g) := fun f g => by
    show pur P (((((match P.info? ty with | some i => pure i | none => stuck "no such type") >>= fun i => pure i.size)) >>= f) >>= g) = _
    rw [hii]
    rfl
  unfold Instr.sliceAt
  rw [u1]
  show pur P (Instr.slice e (.slice none 0 0) lo hi none >>= _) = _
  unfold Instr.slice
  rw [u1]
  rcases hl with rfl | rfl <;> rcases hh with rfl | rfl <;> exact u2 _ _
theorem nilSl_lit {o : Oper} {e el i : Nat} {lo hi : Option Operand} (hu : und (tabOf P N) e = some (.slice el)) {z : Nat} (hel : sizeT (tabOf P N) el = some z) (h0 : 0 < z) (hv : t.get i = .lit (.slice none 0 0))
    (hl : lo = none ∨ ∃ x, lo = some x ∧ evalA t x = some (.lit (.int .i64 0))) (hh : hi = none ∨ ∃ x, hi = some x ∧ evalA t x = some (.lit (.int .i64 0))) (ho : o.op = .slice e (.tmp i) lo hi none) :
    litOp P o t = some (.val (.lit (.slice none 0 0))) := by
  obtain ⟨d, op, ty, ps, af, g⟩ := o
  simp only at ho
  subst ho
  have hinfo : (P.info? el).isSome = true := by
    cases hq : P.info? el with
    | some ii => rfl
    | none =>
      simp only [sizeT, Option.map_eq_some_iff, tabOf] at hel
      obtain ⟨ti, h1, h2⟩ := hel
      cases hN : N.has el with
      | false => rw [hN] at h1; cases h1
      | true =>
        rw [hN] at h1
        simp only [cond_true, Option.some.injEq] at h1
        rw [← h1] at h2
        simp only [tiOf, hq] at h2
        simp at h2
        omega
  have e0 : litEnv t (.tmp i) = .slice none 0 0 := by simp [litEnv, ev_tmp, hv, toVal]
  have key := nil_slice (P := P) (lo := lo.map (litEnv t)) (hi := hi.map (litEnv t)) (und_tab_sl hu) (by
    rcases hl with rfl | ⟨x, rfl, hx⟩
    · exact .inl rfl
    · exact .inr (by simp [litEnv, hx, toVal])) (by
    rcases hh with rfl | ⟨x, rfl, hx⟩
    · exact .inl rfl
    · exact .inr (by simp [litEnv, hx, toVal])) hinfo
  unfold litOp
  rw [if_pos]
  · show ofPR (pur P (do let x ← Instr.sliceAt e (litEnv t (.tmp i)) (lo.map (litEnv t)) (hi.map (litEnv t)) none; pure (Next.value x))) = _
    rw [e0, key]
    rfl
  · rcases hl with rfl | ⟨x, rfl, hx⟩ <;> rcases hh with rfl | ⟨y, rfl, hy⟩ <;> simp [notSelect, Op.operands, litAll, ev_tmp, hv, toVal, *]
theorem a_sl_hi {e i : Nat} {hi : Operand} (hs : isSl (t.get i) = true) (hT : szOk (tabOf P N) e = true) (hc : CapOk (szE (tabOf P N) e) (t.get i)) :
    aop P (tabOf P N) ⟨d, .slice e (.tmp i) none (some hi) none, ty, ps, af, g⟩ t h = (match evalA t hi with
      | some (.lit (.int .i64 n)) => slM h (t.get i) (szE (tabOf P N) e) 0 n (aSlR P (tabOf P N) ⟨d, .slice e (.tmp i) none (some hi) none, ty, ps, af, g⟩ t h e (.tmp i) none (some hi) none)
      | _ => aSlR P (tabOf P N) ⟨d, .slice e (.tmp i) none (some hi) none, ty, ps, af, g⟩ t h e (.tmp i) none (some hi) none) := by
  have h0 : aop P (tabOf P N) ⟨d, .slice e (.tmp i) none (some hi) none, ty, ps, af, g⟩ t h = aSlice P (tabOf P N) ⟨d, .slice e (.tmp i) none (some hi) none, ty, ps, af, g⟩ t h e (.tmp i) none (some hi) none := rfl
  rw [h0]
  split
  · rename_i n hn
    unfold slM
    split
    · rename_i hb
      obtain ⟨m, ⟨hv, hm⟩ | ⟨b, off, cap, hv⟩⟩ := SlN.of hs
      · obtain ⟨el, z, hu, hz, hzz, h0⟩ := szOk_out hT
        have hl : (lenD (t.get i)) = 0 := by rw [hv]; rfl
        obtain rfl : n = 0 := by omega
        unfold aSlice orLit
        rw [nilSl_lit hu hz h0 hv (.inl rfl) (.inr ⟨_, rfl, hn⟩) rfl, hv]
        rfl
      · unfold aSlice orLit
        rw [sl_none (i := i) (by simp [Op.operands]) hv]
        simp only [ev_tmp, optNat, hn, natA_int, if_pos hb.2.1, Option.map_some]
        have hl : (lenD (t.get i)) = m := by rw [hv]; rfl
        exact sl1_ok hT hc hv rfl rfl (by simp) (by simp; omega)
    · rfl
  · rfl
theorem a_sl_lo {e i : Nat} {lo : Operand} (hs : isSl (t.get i) = true) (hT : szOk (tabOf P N) e = true) (hc : CapOk (szE (tabOf P N) e) (t.get i)) :
    aop P (tabOf P N) ⟨d, .slice e (.tmp i) (some lo) none none, ty, ps, af, g⟩ t h = (match evalA t lo with
      | some (.lit (.int .i64 n)) => slM h (t.get i) (szE (tabOf P N) e) n (lenD (t.get i)) (aSlR P (tabOf P N) ⟨d, .slice e (.tmp i) (some lo) none none, ty, ps, af, g⟩ t h e (.tmp i) (some lo) none none)
      | _ => aSlR P (tabOf P N) ⟨d, .slice e (.tmp i) (some lo) none none, ty, ps, af, g⟩ t h e (.tmp i) (some lo) none none) := by
  have h0 : aop P (tabOf P N) ⟨d, .slice e (.tmp i) (some lo) none none, ty, ps, af, g⟩ t h = aSlice P (tabOf P N) ⟨d, .slice e (.tmp i) (some lo) none none, ty, ps, af, g⟩ t h e (.tmp i) (some lo) none none := rfl
  rw [h0]
  split
  · rename_i n hn
    unfold slM
    split
    · rename_i hb
      obtain ⟨m, ⟨hv, hm⟩ | ⟨b, off, cap, hv⟩⟩ := SlN.of hs
      · obtain ⟨el, z, hu, hz, hzz, h0⟩ := szOk_out hT
        have hl : (lenD (t.get i)) = 0 := by rw [hv]; rfl
        obtain rfl : n = 0 := by omega
        unfold aSlice orLit
        rw [nilSl_lit hu hz h0 hv (.inr ⟨_, rfl, hn⟩) (.inl rfl) rfl, hv]
        rfl
      · unfold aSlice orLit
        rw [sl_none (i := i) (by simp [Op.operands]) hv]
        simp only [ev_tmp, optNat, hn, natA_int, if_pos hb.1, Option.map_some]
        have hl : (lenD (t.get i)) = m := by rw [hv]; rfl
        rw [Int.toNat_natCast]
        exact sl1_ok hT hc hv rfl (by rw [hl]; rfl) (by simp; omega) (by omega)
    · rfl
  · rfl
theorem a_sl_lohi {e i : Nat} {lo hi : Operand} (hs : isSl (t.get i) = true) (hT : szOk (tabOf P N) e = true) (hc : CapOk (szE (tabOf P N) e) (t.get i)) :
    aop P (tabOf P N) ⟨d, .slice e (.tmp i) (some lo) (some hi) none, ty, ps, af, g⟩ t h = (match evalA t lo, evalA t hi with
      | some (.lit (.int .i64 n)), some (.lit (.int .i64 m)) => slM h (t.get i) (szE (tabOf P N) e) n m (aSlR P (tabOf P N) ⟨d, .slice e (.tmp i) (some lo) (some hi) none, ty, ps, af, g⟩ t h e (.tmp i) (some lo) (some hi) none)
      | _, _ => aSlR P (tabOf P N) ⟨d, .slice e (.tmp i) (some lo) (some hi) none, ty, ps, af, g⟩ t h e (.tmp i) (some lo) (some hi) none) := by
  have h0 : aop P (tabOf P N) ⟨d, .slice e (.tmp i) (some lo) (some hi) none, ty, ps, af, g⟩ t h = aSlice P (tabOf P N) ⟨d, .slice e (.tmp i) (some lo) (some hi) none, ty, ps, af, g⟩ t h e (.tmp i) (some lo) (some hi) none := rfl
  rw [h0]
  split
  · rename_i n k hn hk
    unfold slM
    split
    · rename_i hb
      obtain ⟨m, ⟨hv, hm⟩ | ⟨b, off, cap, hv⟩⟩ := SlN.of hs
      · obtain ⟨el, z, hu, hz, hzz, h0⟩ := szOk_out hT
        have hl : (lenD (t.get i)) = 0 := by rw [hv]; rfl
        obtain rfl : n = 0 := by omega
        obtain rfl : k = 0 := by omega
        unfold aSlice orLit
        rw [nilSl_lit hu hz h0 hv (.inr ⟨_, rfl, hn⟩) (.inr ⟨_, rfl, hk⟩) rfl, hv]
        rfl
      · unfold aSlice orLit
        rw [sl_none (i := i) (by simp [Op.operands]) hv]
        have hk0 : 0 ≤ k := by omega
        simp only [ev_tmp, optNat, hn, hk, natA_int, if_pos hb.1, if_pos hk0, Option.map_some]
        have hl : (lenD (t.get i)) = m := by rw [hv]; rfl
        exact sl1_ok hT hc hv rfl rfl (by simp; omega) (by simp; omega)
    · rfl
  · rfl
/-- Held against nil. -/
def isNil : AV → Bool
  | .lit (.slice none 0 0) => true
  | _ => false
/-- A slice held against nil. -/
theorem a_eqnil {e f : TypeId} {i : Nat} (hs : isSl (t.get i) = true) (hT : isSlT T e = true) (hN : pur P (binOp .eql e (.slice none 0 0) (.slice none 0 0)) = some (.ok (.bool true))) :
    aop P T ⟨d, .binOp .eql e (.tmp i) (.const (.slice none 0 0)) f, ty, ps, af, g⟩ t h = some (.val (.lit (.bool (isNil (t.get i)))), h) := by
  obtain ⟨el, hu⟩ := isSlT_out hT
  rw [a_bin]
  obtain ⟨n, ⟨hv, _⟩ | ⟨b, off, cap, hv⟩⟩ := SlN.of hs
  · unfold aBin
    rw [ev_tmp, hv, ev_nils]
    simp only [hN]
    rfl
  · have := binR_nil_eql (P := P) (T := T) (t := t) (h := h) (d := d) (ty := ty) (ps := ps) (af := af) (g := g) (e := e) (f := f) (i := i)
    rw [hu, hv] at this
    unfold aBinR at this
    rw [this, hv]
    rfl
theorem a_nenil {e f : TypeId} {i : Nat} (hs : isSl (t.get i) = true) (hT : isSlT T e = true) (hN : pur P (binOp .neq e (.slice none 0 0) (.slice none 0 0)) = some (.ok (.bool false))) :
    aop P T ⟨d, .binOp .neq e (.tmp i) (.const (.slice none 0 0)) f, ty, ps, af, g⟩ t h = some (.val (.lit (.bool (!isNil (t.get i)))), h) := by
  obtain ⟨el, hu⟩ := isSlT_out hT
  rw [a_bin]
  obtain ⟨n, ⟨hv, _⟩ | ⟨b, off, cap, hv⟩⟩ := SlN.of hs
  · unfold aBin
    rw [ev_tmp, hv, ev_nils]
    simp only [hN]
    rfl
  · have := binR_nil_neq (P := P) (T := T) (t := t) (h := h) (d := d) (ty := ty) (ps := ps) (af := af) (g := g) (e := e) (f := f) (i := i)
    rw [hu, hv] at this
    unfold aBinR at this
    rw [this, hv]
    rfl
theorem oneOf_0 : oneOf [] = .tup [] := rfl
theorem oneOf_1 {a : AV} : oneOf [a] = a := rfl
theorem oneOf_2 {a b : AV} : oneOf [a, b] = .tup [a, b] := rfl
theorem oneOf_3 {a b c : AV} : oneOf [a, b, c] = .tup [a, b, c] := rfl
/-! Numbers. -/
theorem nn0 (n : Nat) : ((0 : Int) ≤ (n : Int)) = True := by simp
theorem und_out {t : TypeId} {dd : TypeDesc} (hu : und (tabOf P N) t = some dd) (hne : dd ≠ .invalid) : P.underlying t = some dd := by
  have := und_tab hu
  cases hq : P.underlying t with
  | none => rw [hq] at this; exact absurd this.symm hne
  | some x => rw [hq] at this; exact congrArg some this
def boolM (h : AH) (a b : Bool) (r : AR) : BinOp → Option TypeDesc → AR
  | .eql, some .bool => some (.val (.lit (.bool (a == b))), h)
  | .neq, some .bool => some (.val (.lit (.bool (!(a == b)))), h)
  | _, _ => r
theorem boolM_eql {a b : Bool} {r : AR} : boolM h a b r .eql (some .bool) = some (.val (.lit (.bool (a == b))), h) := rfl
theorem boolM_neq {a b : Bool} {r : AR} : boolM h a b r .neq (some .bool) = some (.val (.lit (.bool (!(a == b)))), h) := rfl
theorem pur_beq {e : TypeId} {a b : Bool} (hP : P.underlying e = some .bool) : pur P (binOp .eql e (.bool a) (.bool b)) = some (.ok (.bool (a == b))) := by
  show pur P (((match P.underlying e with | some d => pure d | none => stuck "no such type") >>= _) >>= _) = _
  rw [hP]
  rfl
theorem pur_bne {e : TypeId} {a b : Bool} (hP : P.underlying e = some .bool) : pur P (binOp .neq e (.bool a) (.bool b)) = some (.ok (.bool (!(a == b)))) := by
  show pur P (((match P.underlying e with | some d => pure d | none => stuck "no such type") >>= _) >>= _) = _
  rw [hP]
  rfl
/-- What two plain values come to. -/
theorem a_bin2 {op : BinOp} {e f : TypeId} {i : Nat} {y : Operand} : aBin P (tabOf P N) ⟨d, .binOp op e (.tmp i) y f, ty, ps, af, g⟩ t h op e (.tmp i) y = (match t.get i, evalA t y with
   | .lit (.int k a), some (.lit (.int k' b)) => ofPV h (pur P (binOp op e (.int k a) (.int k' b)))
   | .lit (.bool a), some (.lit (.bool b)) => boolM h a b (aBinR P (tabOf P N) ⟨d, .binOp op e (.tmp i) y f, ty, ps, af, g⟩ t h op e (.tmp i) y) op (und (tabOf P N) e)
   | .lit (.string a), some (.lit (.string b)) => ofPV h (pur P (binOp op e (.string a) (.string b)))
   | _, _ => aBinR P (tabOf P N) ⟨d, .binOp op e (.tmp i) y f, ty, ps, af, g⟩ t h op e (.tmp i) y) := by
  split
  · rename_i k a k' b h1 h2
    exact bin_ints (by rw [ev_tmp, h1]) h2
  · rename_i a b h1 h2
    unfold boolM
    split
    · rename_i hu
      unfold aBin
      rw [ev_tmp, h1, h2]
      simp only [pur_beq (und_out hu (by simp))]
      rfl
    · rename_i hu
      unfold aBin
      rw [ev_tmp, h1, h2]
      simp only [pur_bne (und_out hu (by simp))]
      rfl
    · rfl
  · rename_i a b h1 h2
    unfold aBin
    rw [ev_tmp, h1, h2]
  · rfl
theorem a_bin_tt {op : BinOp} {e f : TypeId} {i j : Nat} : aop P T ⟨d, .binOp op e (.tmp i) (.tmp j) f, ty, ps, af, g⟩ t h = aBin P T ⟨d, .binOp op e (.tmp i) (.tmp j) f, ty, ps, af, g⟩ t h op e (.tmp i) (.tmp j) := rfl
theorem a_bin_ti {op : BinOp} {e f : TypeId} {i : Nat} {k : IntKind} {n : Int} : aop P T ⟨d, .binOp op e (.tmp i) (.const (.int k n)) f, ty, ps, af, g⟩ t h = aBin P T ⟨d, .binOp op e (.tmp i) (.const (.int k n)) f, ty, ps, af, g⟩ t h op e (.tmp i) (.const (.int k n)) := rfl
theorem a_bin_ts {op : BinOp} {e f : TypeId} {i : Nat} {n : ByteArray} : aop P T ⟨d, .binOp op e (.tmp i) (.const (.string n)) f, ty, ps, af, g⟩ t h = aBin P T ⟨d, .binOp op e (.tmp i) (.const (.string n)) f, ty, ps, af, g⟩ t h op e (.tmp i) (.const (.string n)) := rfl
theorem a_bin_it {op : BinOp} {e f : TypeId} {j : Nat} {k : IntKind} {n : Int} : aop P T ⟨d, .binOp op e (.const (.int k n)) (.tmp j) f, ty, ps, af, g⟩ t h = (match t.get j with
   | .lit (.int k' b) => ofPV h (pur P (binOp op e (.int k n) (.int k' b)))
   | _ => aBin P T ⟨d, .binOp op e (.const (.int k n)) (.tmp j) f, ty, ps, af, g⟩ t h op e (.const (.int k n)) (.tmp j)) := by
  rw [a_bin]
  split
  · rename_i k' b hb
    exact bin_ints rfl (by rw [ev_tmp, hb])
  · rfl
theorem un_not {b : Bool} : pur P (Op.unary .not (.bool b)) = some (.ok (.bool !b)) := rfl
theorem un_neg {k : IntKind} {a : Int} : pur P (Op.unary .neg (.int k a)) = some (.ok (.int k (k.wrap (0 - a)))) := rfl
theorem lit2 {o : Oper} {x y : Operand} {a b c : Value} (hx : evalA t x = some (.lit a)) (hy : evalA t y = some (.lit b)) (hops : o.op.operands = #[x, y]) (hn : notSelect o.op = true)
    (he : pur P (execOp (litEnv t) o) = some (.ok (.value c))) (hc : ofVal c = some (.lit c)) : litOp P o t = some (.val (.lit c)) := by
  unfold litOp
  rw [if_pos (by rw [hops, hn]; simp [litAll, hx, hy, toVal]), he]
  simp [ofPR, hc]
theorem a_min {x y : Operand} {t1 t2 : Nat} : aop P T ⟨d, .call ⟨.builtin .min, #[x, y], #[t1, t2]⟩, ty, ps, af, g⟩ t h = (match evalA t x, evalA t y with
    | some (.lit (.int .i64 a)), some (.lit (.int .i64 b)) => some (.val (.lit (.int .i64 (if b < a then b else a))), h)
    | _, _ => aCall P T ⟨d, .call ⟨.builtin .min, #[x, y], #[t1, t2]⟩, ty, ps, af, g⟩ t h ⟨.builtin .min, #[x, y], #[t1, t2]⟩) := by
  split
  · rename_i a b hx hy
    rw [a_call]
    have ex : litEnv t x = .int .i64 a := by simp [litEnv, hx, toVal]
    have ey : litEnv t y = .int .i64 b := by simp [litEnv, hy, toVal]
    have hl := lit2 (P := P) (o := ⟨d, .call ⟨.builtin .min, #[x, y], #[t1, t2]⟩, ty, ps, af, g⟩) (c := .int .i64 (if b < a then b else a)) hx hy (by simp [Op.operands, Call.operands]) rfl (by
      simp only [execOp, resolve]
      simp [invoke, builtin, Builtin.min_, ex, ey]
      rfl) rfl
    simp only [aCall, aBuiltin, orLit, hl]
  · rfl
theorem a_max {x y : Operand} {t1 t2 : Nat} : aop P T ⟨d, .call ⟨.builtin .max, #[x, y], #[t1, t2]⟩, ty, ps, af, g⟩ t h = (match evalA t x, evalA t y with
    | some (.lit (.int .i64 a)), some (.lit (.int .i64 b)) => some (.val (.lit (.int .i64 (if a < b then b else a))), h)
    | _, _ => aCall P T ⟨d, .call ⟨.builtin .max, #[x, y], #[t1, t2]⟩, ty, ps, af, g⟩ t h ⟨.builtin .max, #[x, y], #[t1, t2]⟩) := by
  split
  · rename_i a b hx hy
    rw [a_call]
    have ex : litEnv t x = .int .i64 a := by simp [litEnv, hx, toVal]
    have ey : litEnv t y = .int .i64 b := by simp [litEnv, hy, toVal]
    have hl := lit2 (P := P) (o := ⟨d, .call ⟨.builtin .max, #[x, y], #[t1, t2]⟩, ty, ps, af, g⟩) (c := .int .i64 (if a < b then b else a)) hx hy (by simp [Op.operands, Call.operands]) rfl (by
      simp only [execOp, resolve]
      simp [invoke, builtin, Builtin.max_, ex, ey]
      rfl) rfl
    simp only [aCall, aBuiltin, orLit, hl]
  · rfl
/-! Calls. -/
theorem a_callv {f : Operand} {xs : Array Operand} {ts : Array TypeId} : aop P T ⟨d, .call ⟨.value f, xs, ts⟩, ty, ps, af, g⟩ t h = (match evalA t f, evals t xs.toList with
    | some f, some args => (callA P f args).map (·, h)
    | _, _ => none) := rfl
theorem a_append {x y : Operand} {t1 t2 : TypeId} : aop P T ⟨d, .call ⟨.builtin .append, #[x, y], #[t1, t2]⟩, ty, ps, af, g⟩ t h = (match evalA t x, evalA t y with
    | some s, some x => (appendA T h t1 t2 s x).map fun r => (.val r.1, r.2)
    | _, _ => aCall P T ⟨d, .call ⟨.builtin .append, #[x, y], #[t1, t2]⟩, ty, ps, af, g⟩ t h ⟨.builtin .append, #[x, y], #[t1, t2]⟩) := by
  split
  · rename_i s x hs hx
    rw [a_call]
    simp only [aCall, aBuiltin, evals, hs, hx]
  · rfl
theorem tri_put {α : Type} (d : α) : ∀ (f : Nat) (t : Tri α) (k : Nat) (x y : α), Tri.put d f (Tri.put d f t k x) k y = Tri.put d f t k y
  | 0, _, _, _, _ => rfl
  | f + 1, t, k, x, y => by
    simp only [Tri.put]
    cases Nat.ble k 1 with
    | true => simp only [cond_true, Tri.lt, Tri.rt]
    | false =>
      cases Nat.beq (k % 2) 0 with
      | true => simp only [cond_true, cond_false, Tri.lt, Tri.rt, Tri.top, tri_put d f]
      | false => simp only [cond_false, Tri.lt, Tri.rt, Tri.top, tri_put d f]
theorem put_push {h : AH} {x y : AB} : (h.push x).put h.n y = h.push y := by
  unfold AH.put AH.push vPut vPush
  simp only
  rw [show Nat.blt h.n (h.n + 1) = true from Nat.blt_eq.mpr (Nat.lt_succ_self _), cond_true, tri_put]
section
variable {E : FE} {ops : Array Oper} {M : MO ops} {i : Nat} {l : List Nat} {rs : List (Nat × RD × AV)} {k : List AI} {K : KK} {o : Oper} {v : AV} {h1 : AH} {f : FuncId} {a : List AV}
theorem WOpD_av : WOpD P T S E t M i o l rs k K .acts (some (.val v, h1)) = WDM P T S E (setTmp t o.dst v) M l rs k h1 K := rfl
theorem WOpD_ae : WOpD P T S E t M i o l rs k K .acts (some (.enter f a, h1)) = WC P T S f a h1 fun v h2 => WDM P T S E (setTmp t o.dst v) M l rs k h2 K := rfl
theorem WOpD_s : WOpD P T S E t M i o l rs k K .still (some (.val v, h1)) = WDM P T S E (setTmp t o.dst v) M l rs k h1 K := rfl
theorem WOpD_l : WOpD P T S E t M i o l rs k K .alloc (some (.val v, h1)) = WDM P T S E (setTmp t o.dst v) M l rs k h1 K := rfl
theorem WOpD_r : WOpD P T S E t M i o l rs k K .reads (some (.val v, h1)) = (match rdOf o t with
    | some rd => WDM P T S E (setTmp t o.dst v) M l ((i, rd, v) :: rs) k h1 K
    | none => (litOp P o t).isSome = true ∧ WDM P T S E (setTmp t o.dst v) M l rs k h1 K) := rfl
end
theorem WRegD_t {E : FE} {ops : Array Oper} {M : MO ops} {i : Nat} {l : List Nat} {rs : List (Nat × RD × AV)} {k : List AI} {K : KK} {o : Oper} : WRegD P T S E t M i l rs k h K o (some true) = WOpD P T S E t M i o l rs k K (kindOf T o) (aop P T o t h) := rfl
theorem WRegD_f {E : FE} {ops : Array Oper} {M : MO ops} {i : Nat} {l : List Nat} {rs : List (Nat × RD × AV)} {k : List AI} {K : KK} {o : Oper} : WRegD P T S E t M i l rs k h K o (some false) = WDM P T S E (setTmp t o.dst aundef) M l rs k h K := rfl
theorem waits_eq {n M i k : Nat} : waits n M i k = decide ((M >>> (n * i + k)) % 2 = 1) := by
  unfold waits
  by_cases h : (M >>> (n * i + k)) % 2 = 1
  · rw [h]; rfl
  · rw [decide_eq_false h]
    exact Bool.eq_false_iff.mpr fun hh => h (Nat.eq_of_beq_eq_true hh)
theorem dropR_nil {n m i : Nat} : dropR n m i [] = [] := rfl
theorem dropR_cons {n m i k : Nat} {r : RD} {v : AV} {rs : List (Nat × RD × AV)} : dropR n m i ((k, r, v) :: rs) = bif waits n m i k then dropR n m i rs else (k, r, v) :: dropR n m i rs := by
  unfold dropR
  rw [List.filter_cons]
  cases waits n m i k <;> rfl
theorem ld_at {h : AH} {b : Nat} {l : List AV} {e' : TypeId} (hb : h.at b = some (.cells l e')) (e : TypeId) (off : Nat) : loadA T h e b off = ldL T e l off := ld_own hb
/-! Structs and arrays that are built. -/
def placesOf (T : TT) (t : TypeId) : Option (List (Nat × Nat)) := match und T t with
  | some (.struct fs) => places T fs.toList
  | _ => none
def bdM (h : AH) : Option AV → Option (List (Nat × Nat)) → Option (List (Nat × AV)) → AR
  | some (.agg z), some pl, some ps => val h ((fillA (fun i => pl[i]?) z ps).map .agg)
  | _, _, _ => none
theorem bd_eq {e : TypeId} {p : Array (Nat × Operand)} (hp : (placesOf T e).isSome = true) : aop P T ⟨d, .build e p, ty, ps, af, g⟩ t h = bdM h (zeroT T e) (placesOf T e) (evalParts t p.toList) := by
  obtain ⟨pl, hp⟩ := Option.isSome_iff_exists.1 hp
  rw [hp]
  rw [a_build]
  unfold aBuild bdM
  unfold placesOf at hp
  split at hp
  · rename_i fs hu
    cases evalParts t p.toList with
    | none => cases zeroT T e with
      | none => rfl
      | some z => cases z <;> rfl
    | some l =>
      simp only
      unfold buildA
      rw [hu]
      cases zeroT T e with
      | none => rfl
      | some z => cases z <;> first | rfl | (simp only [hp])
  · cases hp
def arrOf (T : TT) (t : TypeId) : Option Nat := match und T t with
  | some (.array _ e) => sizeT T e
  | _ => none
theorem bda_eq {e : TypeId} {p : Array (Nat × Operand)} (hp : (arrOf T e).isSome = true) : aop P T ⟨d, .build e p, ty, ps, af, g⟩ t h = (match zeroT T e, evalParts t p.toList with
    | some (.agg z), some l => val h ((fillA (fun i => some (i * (arrOf T e).getD 0, (arrOf T e).getD 0)) z l).map .agg)
    | _, _ => none) := by
  obtain ⟨n, hp⟩ := Option.isSome_iff_exists.1 hp
  rw [hp]
  simp only [Option.getD_some]
  rw [a_build]
  unfold aBuild
  unfold arrOf at hp
  split at hp
  · rename_i m el hu
    cases evalParts t p.toList with
    | none => cases zeroT T e with
      | none => rfl
      | some z => cases z <;> rfl
    | some l =>
      simp only
      unfold buildA
      rw [hu]
      cases zeroT T e with
      | none => rfl
      | some z => cases z <;> first | rfl | (simp only [hp])
  · cases hp
/-! Reads that are held. -/
theorem hold_nil : hold T h [] = true := rfl
theorem hold_cons {i : Nat} {r : RD} {v : AV} {rs : List (Nat × RD × AV)} : hold T h ((i, r, v) :: rs) = ((match rdA T h r with | some u => AV.same 8 u v | none => false) && hold T h rs) := rfl
theorem same_int {n : Nat} {k : IntKind} {a : Int} : AV.same n (.lit (.int k a)) (.lit (.int k a)) = true := by cases n <;> cases k <;> simp [AV.same, scalEq]
theorem same_bool {n : Nat} {a : Bool} : AV.same n (.lit (.bool a)) (.lit (.bool a)) = true := by cases n <;> simp [AV.same, scalEq]
theorem same_str {n : Nat} {a : ByteArray} : AV.same n (.lit (.string a)) (.lit (.string a)) = true := by cases n <;> simp [AV.same, scalEq]
theorem same_sl {n : Nat} {v : AV} (hv : isSl v = true) : AV.same n v v = true := by
  obtain ⟨m, ⟨rfl, _⟩ | ⟨b, off, cap, rfl⟩⟩ := SlN.of hv
  · cases n <;> simp [AV.same, scalEq]
  · cases n <;> cases cap <;> simp [AV.same, capEq]
theorem same_agg {n : Nat} {l m : List AV} : AV.same (n + 1) (.agg l) (.agg m) = (l.length == m.length && (l.zip m).all fun (x, y) => AV.same n x y) := by simp [AV.same]
theorem same_one {n b i : Nat} : AV.same n (.ptr b i) (.ptr b i) = true := by cases n <;> simp [AV.same]
/-- Two ways that meet. -/
theorem WB_cut {E : FE} {k : List AI} {K : KK} {a : Code} (Inv : TM → AH → Prop) (ha : ∀ k' K', (∀ t' h', Inv t' h' → WB P T S E t' k' h' K') → WB P T S E t (.code a :: k') h K') (hk : ∀ t' h', Inv t' h' → WB P T S E t' k h' K) : WB P T S E t (.code a :: k) h K := ha k K hk
/-- A loop that counts. -/
theorem WB_for {E : FE} {k : List AI} {K : KK} {c : Code} (n : Nat) (Inv : Nat → TM → AH → Prop)
    (step : ∀ i t h, i < n → ((i : Int) < (n : Int)) = True → Inv i t h → (∀ t' h', Inv (i + 1) t' h' → WB P T S E t' (.lp c :: k) h' K) → WB P T S E t (.code c :: .lp c :: k) h K)
    (leave : ∀ t h, ((n : Int) < (n : Int)) = False → Inv n t h → WB P T S E t (.code c :: .lp c :: k) h K) : ∀ t h, Inv 0 t h → WB P T S E t (.lp c :: k) h K := by
  intro t h h0
  refine WB_ind (fun (i : Nat) t h => i ≤ n ∧ Inv i t h) (fun i => n - i) ?_ 0 t h ⟨Nat.zero_le _, h0⟩
  rintro i t h ⟨hi, hI⟩ ih
  by_cases hlt : i < n
  · exact step i t h hlt (by simp; omega) hI fun t' h' hI' => ih (i + 1) t' h' ⟨hlt, hI'⟩ (by omega)
  · obtain rfl : i = n := by omega
    exact leave t h (by simp) hI
end
end Go.Proofs.YtohbdgddnkoenaaGreat.Ex
end

section

namespace Go.Proofs.YtohbdgddnkoenaaGreat.Ex
open Go
set_option maxRecDepth 100000 in
theorem tabA : (fun (f : Nat → Option Bool) => f 1 = some false ∧ f 2 = some false ∧ f 3 = some false ∧ f 4 = some false ∧ f 5 = some false ∧ f 6 = some false ∧ f 7 = some true ∧ f 8 = some true ∧ f 9 = some false ∧ f 10 = some false ∧ f 11 = some false ∧ f 12 = some false ∧ f 13 = some true ∧ f 14 = some true ∧ f 15 = some false ∧ f 16 = some false ∧ f 17 = some false ∧ f 18 = some true ∧ f 19 = some true ∧ f 20 = some false ∧ f 21 = some false ∧ f 22 = some true ∧ f 23 = some true ∧ f 24 = some true ∧ f 25 = some true ∧ f 26 = some false ∧ f 27 = some false ∧ f 28 = some false ∧ f 29 = some true ∧ f 30 = some true ∧ f 31 = some true ∧ f 32 = some true ∧ f 33 = some false ∧ f 34 = some false ∧ f 35 = some false ∧ f 36 = some true ∧ f 37 = some true ∧ f 38 = some false ∧ f 39 = some true ∧ f 40 = some true ∧ f 41 = some false ∧ f 42 = some true ∧ f 43 = some true ∧ f 44 = some true ∧ f 45 = some true ∧ f 46 = some false ∧ f 47 = some true ∧ f 48 = some true ∧ f 49 = some true ∧ f 50 = some true ∧ f 51 = some false ∧ f 52 = some false ∧ f 53 = some false ∧ f 54 = some false ∧ f 55 = some false ∧ f 56 = some false ∧ f 57 = some true ∧ f 58 = some true ∧ f 59 = some false ∧ f 60 = some true ∧ f 61 = some true ∧ f 62 = some true ∧ f 63 = some true ∧ f 64 = some false ∧ f 65 = some false ∧ f 66 = some true ∧ f 67 = some false ∧ f 68 = some false ∧ f 69 = some false ∧ f 70 = some false ∧ f 71 = some false ∧ f 72 = some false ∧ f 73 = some false ∧ f 74 = some false ∧ f 75 = some false ∧ f 76 = some false ∧ f 77 = some false ∧ f 78 = some false ∧ f 79 = some false ∧ f 80 = some true ∧ f 81 = some true ∧ f 82 = some false ∧ f 83 = some false ∧ f 84 = some false ∧ f 85 = some false ∧ f 86 = some false ∧ f 87 = some false ∧ f 88 = some true ∧ f 89 = some true ∧ f 90 = some false ∧ f 91 = some false ∧ f 92 = some false ∧ f 93 = some false ∧ f 94 = some false ∧ f 95 = some false ∧ f 96 = some true ∧ f 97 = some true ∧ f 98 = some true ∧ f 99 = some true ∧ f 100 = some true ∧ f 101 = some true ∧ f 102 = some true ∧ f 103 = some true ∧ f 104 = some false ∧ f 106 = some false ∧ f 108 = some false ∧ f 109 = some false ∧ f 110 = some false ∧ f 111 = some false ∧ f 113 = some false ∧ f 114 = some false ∧ f 115 = some false ∧ f 116 = some false ∧ f 117 = some true ∧ f 118 = some true ∧ f 119 = some false ∧ f 120 = some false ∧ f 121 = some true ∧ f 122 = some true ∧ f 123 = some false ∧ f 124 = some false ∧ f 125 = some false ∧ f 126 = some false ∧ f 127 = some false ∧ f 128 = some false ∧ f 129 = some false ∧ f 130 = some false ∧ f 131 = some false ∧ f 132 = some false ∧ f 133 = some false ∧ f 134 = some false ∧ f 135 = some false ∧ f 136 = some false ∧ f 137 = some false ∧ f 138 = some false ∧ f 139 = some false ∧ f 140 = some true ∧ f 141 = some true ∧ f 142 = some false ∧ f 143 = some true ∧ f 144 = some true ∧ f 145 = some false ∧ f 146 = some true ∧ f 147 = some true ∧ f 148 = some false ∧ f 149 = some false ∧ f 150 = some false ∧ f 151 = some false ∧ f 152 = some false ∧ f 153 = some false ∧ f 154 = some false ∧ f 155 = some false ∧ f 156 = some false ∧ f 157 = some false ∧ f 159 = some false ∧ f 160 = some false ∧ f 161 = some false ∧ f 162 = some false ∧ f 163 = some false ∧ f 164 = some false ∧ f 165 = some false ∧ f 166 = some false ∧ f 167 = some false ∧ f 168 = some false ∧ f 170 = some false ∧ f 171 = some false ∧ f 172 = some false ∧ f 173 = some false ∧ f 174 = some false ∧ f 175 = some false ∧ f 176 = some false ∧ f 177 = some false ∧ f 178 = some false ∧ f 179 = some false ∧ f 181 = some false ∧ f 182 = some false ∧ f 183 = some false ∧ f 184 = some false ∧ f 185 = some false ∧ f 186 = some false ∧ f 187 = some false ∧ f 188 = some false ∧ f 189 = some false ∧ f 190 = some false ∧ f 191 = some false ∧ f 192 = some false ∧ f 193 = some false ∧ f 194 = some false ∧ f 195 = some false ∧ f 196 = some false ∧ f 197 = some false ∧ f 198 = some false ∧ f 199 = some true ∧ f 200 = some true ∧ f 201 = some false ∧ f 202 = some false ∧ f 203 = some false ∧ f 204 = some false ∧ f 205 = some false ∧ f 206 = some false ∧ f 207 = some false ∧ f 208 = some false ∧ f 209 = some false ∧ f 210 = some true ∧ f 211 = some true ∧ f 212 = some false ∧ f 213 = some true ∧ f 214 = some true ∧ f 215 = some true ∧ f 216 = some true ∧ f 217 = some true ∧ f 218 = some true ∧ f 219 = some true ∧ f 220 = some true ∧ f 221 = some true ∧ f 222 = some true ∧ f 223 = some true ∧ f 224 = some true ∧ f 225 = some true ∧ f 226 = some true ∧ f 227 = some true ∧ f 228 = some true ∧ f 229 = some true ∧ f 230 = some false ∧ f 231 = some false ∧ f 232 = some false ∧ f 234 = some false ∧ f 235 = some false ∧ f 236 = some true ∧ f 237 = some true ∧ f 238 = some false ∧ f 239 = some false ∧ f 240 = some false ∧ f 242 = some false ∧ f 243 = some false ∧ f 245 = some false ∧ f 246 = some true ∧ f 247 = some true ∧ f 248 = some false ∧ f 249 = some false ∧ f 250 = some false ∧ f 251 = some false ∧ f 252 = some false ∧ f 253 = some true ∧ f 254 = some true ∧ f 255 = some false ∧ f 256 = some false ∧ f 257 = some false ∧ f 258 = some false ∧ f 259 = some true ∧ f 260 = some true ∧ f 261 = some true ∧ f 262 = some true ∧ f 263 = some true ∧ f 264 = some false ∧ f 265 = some false ∧ f 266 = some false ∧ f 267 = some false ∧ f 268 = some false ∧ f 269 = some false ∧ f 270 = some true ∧ f 271 = some true ∧ f 272 = some false) (isAggT (tabOf Tryz.prog NT0)) := by (repeat' apply And.intro) <;> kernel_rfl
set_option maxRecDepth 100000 in
theorem tabS : (fun (f : Nat → Option Nat) => f 1 = some 1 ∧ f 2 = some 1 ∧ f 3 = some 1 ∧ f 4 = some 1 ∧ f 5 = some 1 ∧ f 6 = some 1 ∧ f 7 = some 4 ∧ f 8 = some 4 ∧ f 9 = some 1 ∧ f 10 = some 1 ∧ f 11 = some 1 ∧ f 12 = some 1 ∧ f 13 = some 2 ∧ f 14 = some 2 ∧ f 15 = some 1 ∧ f 16 = some 1 ∧ f 17 = some 1 ∧ f 18 = some 1 ∧ f 19 = some 1 ∧ f 20 = some 1 ∧ f 21 = some 1 ∧ f 22 = some 2 ∧ f 23 = some 2 ∧ f 24 = some 2 ∧ f 25 = some 2 ∧ f 26 = some 1 ∧ f 27 = some 1 ∧ f 28 = some 1 ∧ f 29 = some 2 ∧ f 30 = some 2 ∧ f 31 = some 6 ∧ f 32 = some 6 ∧ f 33 = some 1 ∧ f 34 = some 1 ∧ f 35 = some 1 ∧ f 36 = some 6 ∧ f 37 = some 6 ∧ f 38 = some 1 ∧ f 39 = some 7 ∧ f 40 = some 7 ∧ f 41 = some 1 ∧ f 42 = some 4 ∧ f 43 = some 4 ∧ f 44 = some 5 ∧ f 45 = some 5 ∧ f 46 = some 1 ∧ f 47 = some 46 ∧ f 48 = some 46 ∧ f 49 = some 54 ∧ f 50 = some 54 ∧ f 51 = some 1 ∧ f 52 = some 1 ∧ f 53 = some 1 ∧ f 54 = some 1 ∧ f 55 = some 1 ∧ f 56 = some 1 ∧ f 57 = some 11 ∧ f 58 = some 11 ∧ f 59 = some 1 ∧ f 60 = some 8 ∧ f 61 = some 42 ∧ f 62 = some 42 ∧ f 63 = some 2 ∧ f 64 = some 1 ∧ f 65 = some 1 ∧ f 66 = some 11 ∧ f 67 = some 1 ∧ f 68 = some 1 ∧ f 69 = some 1 ∧ f 70 = some 1 ∧ f 71 = some 1 ∧ f 72 = some 1 ∧ f 73 = some 1 ∧ f 74 = some 1 ∧ f 75 = some 1 ∧ f 76 = some 1 ∧ f 77 = some 1 ∧ f 78 = some 1 ∧ f 79 = some 1 ∧ f 80 = some 7 ∧ f 81 = some 7 ∧ f 82 = some 1 ∧ f 83 = some 1 ∧ f 84 = some 1 ∧ f 85 = some 1 ∧ f 86 = some 1 ∧ f 87 = some 1 ∧ f 88 = some 5 ∧ f 89 = some 5 ∧ f 90 = some 1 ∧ f 91 = some 1 ∧ f 92 = some 1 ∧ f 93 = some 1 ∧ f 94 = some 1 ∧ f 95 = some 1 ∧ f 96 = some 5 ∧ f 97 = some 5 ∧ f 98 = some 4 ∧ f 99 = some 4 ∧ f 100 = some 6 ∧ f 101 = some 6 ∧ f 102 = some 4 ∧ f 103 = some 4 ∧ f 104 = some 1 ∧ f 106 = some 1 ∧ f 108 = some 1 ∧ f 109 = some 1 ∧ f 110 = some 1 ∧ f 111 = some 1 ∧ f 113 = some 1 ∧ f 114 = some 1 ∧ f 115 = some 1 ∧ f 116 = some 1 ∧ f 117 = some 4 ∧ f 118 = some 4 ∧ f 119 = some 1 ∧ f 120 = some 1 ∧ f 121 = some 5 ∧ f 122 = some 5 ∧ f 123 = some 1 ∧ f 124 = some 1 ∧ f 125 = some 1 ∧ f 126 = some 1 ∧ f 127 = some 1 ∧ f 128 = some 1 ∧ f 129 = some 1 ∧ f 130 = some 1 ∧ f 131 = some 1 ∧ f 132 = some 1 ∧ f 133 = some 1 ∧ f 134 = some 1 ∧ f 135 = some 1 ∧ f 136 = some 1 ∧ f 137 = some 1 ∧ f 138 = some 1 ∧ f 139 = some 1 ∧ f 140 = some 3 ∧ f 141 = some 3 ∧ f 142 = some 1 ∧ f 143 = some 2 ∧ f 144 = some 2 ∧ f 145 = some 1 ∧ f 146 = some 11 ∧ f 147 = some 11 ∧ f 148 = some 1 ∧ f 149 = some 1 ∧ f 150 = some 1 ∧ f 151 = some 1 ∧ f 152 = some 1 ∧ f 153 = some 1 ∧ f 154 = some 1 ∧ f 155 = some 1 ∧ f 156 = some 1 ∧ f 157 = some 1 ∧ f 159 = some 1 ∧ f 160 = some 1 ∧ f 161 = some 1 ∧ f 162 = some 1 ∧ f 163 = some 1 ∧ f 164 = some 1 ∧ f 165 = some 1 ∧ f 166 = some 1 ∧ f 167 = some 1 ∧ f 168 = some 1 ∧ f 170 = some 1 ∧ f 171 = some 1 ∧ f 172 = some 1 ∧ f 173 = some 1 ∧ f 174 = some 1 ∧ f 175 = some 1 ∧ f 176 = some 1 ∧ f 177 = some 1 ∧ f 178 = some 1 ∧ f 179 = some 1 ∧ f 181 = some 1 ∧ f 182 = some 1 ∧ f 183 = some 1 ∧ f 184 = some 1 ∧ f 185 = some 1 ∧ f 186 = some 1 ∧ f 187 = some 1 ∧ f 188 = some 1 ∧ f 189 = some 1 ∧ f 190 = some 1 ∧ f 191 = some 1 ∧ f 192 = some 1 ∧ f 193 = some 1 ∧ f 194 = some 1 ∧ f 195 = some 1 ∧ f 196 = some 1 ∧ f 197 = some 1 ∧ f 198 = some 1 ∧ f 199 = some 3 ∧ f 200 = some 3 ∧ f 201 = some 1 ∧ f 202 = some 1 ∧ f 203 = some 1 ∧ f 204 = some 1 ∧ f 205 = some 1 ∧ f 206 = some 1 ∧ f 207 = some 1 ∧ f 208 = some 1 ∧ f 209 = some 1 ∧ f 210 = some 8 ∧ f 211 = some 8 ∧ f 212 = some 1 ∧ f 213 = some 0 ∧ f 214 = some 0 ∧ f 215 = some 0 ∧ f 216 = some 1 ∧ f 217 = some 1 ∧ f 218 = some 2 ∧ f 219 = some 2 ∧ f 220 = some 2 ∧ f 221 = some 2 ∧ f 222 = some 3 ∧ f 223 = some 3 ∧ f 224 = some 256 ∧ f 225 = some 0 ∧ f 226 = some 1 ∧ f 227 = some 1 ∧ f 228 = some 260 ∧ f 229 = some 260 ∧ f 230 = some 1 ∧ f 231 = some 1 ∧ f 232 = some 1 ∧ f 234 = some 1 ∧ f 235 = some 1 ∧ f 236 = some 3 ∧ f 237 = some 9 ∧ f 238 = some 1 ∧ f 239 = some 1 ∧ f 240 = some 1 ∧ f 242 = some 1 ∧ f 243 = some 1 ∧ f 245 = some 1 ∧ f 246 = some 3 ∧ f 247 = some 3 ∧ f 248 = some 1 ∧ f 249 = some 1 ∧ f 250 = some 1 ∧ f 251 = some 1 ∧ f 252 = some 1 ∧ f 253 = some 3 ∧ f 254 = some 9 ∧ f 255 = some 1 ∧ f 256 = some 1 ∧ f 257 = some 1 ∧ f 258 = some 1 ∧ f 259 = some 4 ∧ f 260 = some 4 ∧ f 261 = some 0 ∧ f 262 = some 0 ∧ f 263 = some 0 ∧ f 264 = some 1 ∧ f 265 = some 1 ∧ f 266 = some 1 ∧ f 267 = some 1 ∧ f 268 = some 1 ∧ f 269 = some 1 ∧ f 270 = some 11 ∧ f 271 = some 11 ∧ f 272 = some 1) (sizeT (tabOf Tryz.prog NT0)) := by (repeat' apply And.intro) <;> kernel_rfl
set_option maxRecDepth 100000 in
theorem tabB : (fun (f : Nat → Option Nat) => f 1 = some 8 ∧ f 2 = some 8 ∧ f 3 = some 8 ∧ f 4 = some 1 ∧ f 5 = some 1 ∧ f 6 = some 1 ∧ f 7 = some 24 ∧ f 8 = some 24 ∧ f 9 = some 16 ∧ f 10 = some 16 ∧ f 11 = some 16 ∧ f 12 = some 8 ∧ f 13 = some 24 ∧ f 14 = some 24 ∧ f 15 = some 8 ∧ f 16 = some 8 ∧ f 17 = some 8 ∧ f 18 = some 8 ∧ f 19 = some 8 ∧ f 20 = some 16 ∧ f 21 = some 4 ∧ f 22 = some 16 ∧ f 23 = some 16 ∧ f 24 = some 16 ∧ f 25 = some 16 ∧ f 26 = some 24 ∧ f 27 = some 24 ∧ f 28 = some 24 ∧ f 29 = some 16 ∧ f 30 = some 16 ∧ f 31 = some 48 ∧ f 32 = some 48 ∧ f 33 = some 24 ∧ f 34 = some 24 ∧ f 35 = some 24 ∧ f 36 = some 96 ∧ f 37 = some 96 ∧ f 38 = some 8 ∧ f 39 = some 64 ∧ f 40 = some 64 ∧ f 41 = some 24 ∧ f 42 = some 56 ∧ f 43 = some 56 ∧ f 44 = some 64 ∧ f 45 = some 64 ∧ f 46 = some 24 ∧ f 47 = some 552 ∧ f 48 = some 552 ∧ f 49 = some 664 ∧ f 50 = some 664 ∧ f 51 = some 8 ∧ f 52 = some 24 ∧ f 53 = some 24 ∧ f 54 = some 8 ∧ f 55 = some 8 ∧ f 56 = some 24 ∧ f 57 = some 152 ∧ f 58 = some 152 ∧ f 59 = some 8 ∧ f 60 = some 64 ∧ f 61 = some 528 ∧ f 62 = some 528 ∧ f 63 = some 16 ∧ f 64 = some 8 ∧ f 65 = some 8 ∧ f 66 = some 152 ∧ f 67 = some 8 ∧ f 68 = some 8 ∧ f 69 = some 8 ∧ f 70 = some 8 ∧ f 71 = some 24 ∧ f 72 = some 8 ∧ f 73 = some 8 ∧ f 74 = some 8 ∧ f 75 = some 8 ∧ f 76 = some 8 ∧ f 77 = some 8 ∧ f 78 = some 8 ∧ f 79 = some 8 ∧ f 80 = some 56 ∧ f 81 = some 56 ∧ f 82 = some 8 ∧ f 83 = some 8 ∧ f 84 = some 8 ∧ f 85 = some 8 ∧ f 86 = some 8 ∧ f 87 = some 8 ∧ f 88 = some 72 ∧ f 89 = some 72 ∧ f 90 = some 8 ∧ f 91 = some 8 ∧ f 92 = some 8 ∧ f 93 = some 24 ∧ f 94 = some 24 ∧ f 95 = some 24 ∧ f 96 = some 88 ∧ f 97 = some 88 ∧ f 98 = some 64 ∧ f 99 = some 64 ∧ f 100 = some 40 ∧ f 101 = some 40 ∧ f 102 = some 32 ∧ f 103 = some 32 ∧ f 104 = some 8 ∧ f 106 = some 8 ∧ f 108 = some 8 ∧ f 109 = some 8 ∧ f 110 = some 8 ∧ f 111 = some 8 ∧ f 113 = some 8 ∧ f 114 = some 8 ∧ f 115 = some 8 ∧ f 116 = some 4 ∧ f 117 = some 40 ∧ f 118 = some 40 ∧ f 119 = some 8 ∧ f 120 = some 8 ∧ f 121 = some 40 ∧ f 122 = some 40 ∧ f 123 = some 8 ∧ f 124 = some 8 ∧ f 125 = some 8 ∧ f 126 = some 8 ∧ f 127 = some 8 ∧ f 128 = some 8 ∧ f 129 = some 8 ∧ f 130 = some 8 ∧ f 131 = some 8 ∧ f 132 = some 8 ∧ f 133 = some 8 ∧ f 134 = some 8 ∧ f 135 = some 8 ∧ f 136 = some 8 ∧ f 137 = some 8 ∧ f 138 = some 8 ∧ f 139 = some 8 ∧ f 140 = some 40 ∧ f 141 = some 40 ∧ f 142 = some 8 ∧ f 143 = some 32 ∧ f 144 = some 32 ∧ f 145 = some 8 ∧ f 146 = some 120 ∧ f 147 = some 120 ∧ f 148 = some 8 ∧ f 149 = some 8 ∧ f 150 = some 8 ∧ f 151 = some 8 ∧ f 152 = some 8 ∧ f 153 = some 8 ∧ f 154 = some 8 ∧ f 155 = some 8 ∧ f 156 = some 8 ∧ f 157 = some 8 ∧ f 159 = some 8 ∧ f 160 = some 8 ∧ f 161 = some 8 ∧ f 162 = some 8 ∧ f 163 = some 8 ∧ f 164 = some 8 ∧ f 165 = some 8 ∧ f 166 = some 8 ∧ f 167 = some 8 ∧ f 168 = some 24 ∧ f 170 = some 8 ∧ f 171 = some 8 ∧ f 172 = some 8 ∧ f 173 = some 8 ∧ f 174 = some 8 ∧ f 175 = some 8 ∧ f 176 = some 8 ∧ f 177 = some 8 ∧ f 178 = some 8 ∧ f 179 = some 8 ∧ f 181 = some 8 ∧ f 182 = some 8 ∧ f 183 = some 8 ∧ f 184 = some 8 ∧ f 185 = some 8 ∧ f 186 = some 8 ∧ f 187 = some 8 ∧ f 188 = some 8 ∧ f 189 = some 8 ∧ f 190 = some 8 ∧ f 191 = some 8 ∧ f 192 = some 8 ∧ f 193 = some 8 ∧ f 194 = some 8 ∧ f 195 = some 8 ∧ f 196 = some 8 ∧ f 197 = some 8 ∧ f 198 = some 8 ∧ f 199 = some 12 ∧ f 200 = some 12 ∧ f 201 = some 8 ∧ f 202 = some 8 ∧ f 203 = some 8 ∧ f 204 = some 8 ∧ f 205 = some 8 ∧ f 206 = some 8 ∧ f 207 = some 8 ∧ f 208 = some 8 ∧ f 209 = some 8 ∧ f 210 = some 144 ∧ f 211 = some 144 ∧ f 212 = some 8 ∧ f 213 = some 0 ∧ f 214 = some 0 ∧ f 215 = some 0 ∧ f 216 = some 4 ∧ f 217 = some 4 ∧ f 218 = some 8 ∧ f 219 = some 8 ∧ f 220 = some 8 ∧ f 221 = some 8 ∧ f 222 = some 12 ∧ f 223 = some 12 ∧ f 224 = some 1024 ∧ f 225 = some 0 ∧ f 226 = some 8 ∧ f 227 = some 8 ∧ f 228 = some 1048 ∧ f 229 = some 1048 ∧ f 230 = some 8 ∧ f 231 = some 8 ∧ f 232 = some 8 ∧ f 234 = some 8 ∧ f 235 = some 8 ∧ f 236 = some 24 ∧ f 237 = some 72 ∧ f 238 = some 8 ∧ f 239 = some 8 ∧ f 240 = some 8 ∧ f 242 = some 8 ∧ f 243 = some 8 ∧ f 245 = some 8 ∧ f 246 = some 12 ∧ f 247 = some 12 ∧ f 248 = some 8 ∧ f 249 = some 8 ∧ f 250 = some 8 ∧ f 251 = some 8 ∧ f 252 = some 8 ∧ f 253 = some 24 ∧ f 254 = some 72 ∧ f 255 = some 8 ∧ f 256 = some 8 ∧ f 257 = some 8 ∧ f 258 = some 8 ∧ f 259 = some 40 ∧ f 260 = some 40 ∧ f 261 = some 0 ∧ f 262 = some 0 ∧ f 263 = some 0 ∧ f 264 = some 1 ∧ f 265 = some 1 ∧ f 266 = some 8 ∧ f 267 = some 8 ∧ f 268 = some 4 ∧ f 269 = some 4 ∧ f 270 = some 48 ∧ f 271 = some 48 ∧ f 272 = some 8) (bytesT (tabOf Tryz.prog NT0)) := by (repeat' apply And.intro) <;> kernel_rfl
set_option maxRecDepth 100000 in
theorem tabZ : (fun (f : Nat → Option AV) (sl iz pz tz bz fz : AV) => f 1 = some fz ∧ f 2 = some iz ∧ f 3 = some iz ∧ f 4 = some bz ∧ f 5 = some (.lit (.int .u8 0)) ∧ f 6 = some (.lit (.int .u8 0)) ∧ f 7 = some (.agg [iz, iz, bz, (.lit (.int .u8 0))]) ∧ f 8 = some (.agg [iz, iz, bz, (.lit (.int .u8 0))]) ∧ f 9 = some tz ∧ f 10 = some tz ∧ f 11 = some tz ∧ f 12 = some (.lit (.int .u64 0)) ∧ f 13 = some (.agg [tz, (.lit (.int .u64 0))]) ∧ f 14 = some (.agg [tz, (.lit (.int .u64 0))]) ∧ f 15 = some pz ∧ f 16 = some pz ∧ f 17 = some pz ∧ f 18 = some (.agg [pz]) ∧ f 19 = some (.agg [pz]) ∧ f 20 = some (.lit .nilIface) ∧ f 21 = some (.lit (.int .i32 0)) ∧ f 22 = some (.agg [iz, iz]) ∧ f 23 = some (.agg [iz, iz]) ∧ f 24 = some (.agg [iz, iz]) ∧ f 25 = some (.agg [iz, iz]) ∧ f 26 = some sl ∧ f 27 = some sl ∧ f 28 = some sl ∧ f 29 = some (.agg [iz, iz]) ∧ f 30 = some (.agg [iz, iz]) ∧ f 31 = some (.agg [iz, iz, iz, iz, iz, iz]) ∧ f 32 = some (.agg [iz, iz, iz, iz, iz, iz]) ∧ f 33 = some sl ∧ f 34 = some sl ∧ f 35 = some sl ∧ f 36 = some (.agg [iz, iz, iz, sl, sl, sl]) ∧ f 37 = some (.agg [iz, iz, iz, sl, sl, sl]) ∧ f 38 = some iz ∧ f 39 = some (.agg [iz, iz, bz, iz, tz, iz, iz]) ∧ f 40 = some (.agg [iz, iz, bz, iz, tz, iz, iz]) ∧ f 41 = some sl ∧ f 42 = some (.agg [tz, iz, iz, sl]) ∧ f 43 = some (.agg [tz, iz, iz, sl]) ∧ f 44 = some (.agg [iz, tz, sl, iz, iz]) ∧ f 45 = some (.agg [iz, tz, sl, iz, iz]) ∧ f 46 = some sl ∧ f 47 = some (.agg [iz, iz, iz, iz, iz, iz, iz, iz, iz, iz, iz, iz, sl, sl, sl, iz, iz, iz, iz, iz, iz, iz, iz, iz, sl, sl, sl, iz, iz, bz, iz, tz, iz, iz, tz, iz, iz, sl, iz, tz, sl, iz, iz, sl, sl, iz]) ∧ f 48 = some (.agg [iz, iz, iz, iz, iz, iz, iz, iz, iz, iz, iz, iz, sl, sl, sl, iz, iz, iz, iz, iz, iz, iz, iz, iz, sl, sl, sl, iz, iz, bz, iz, tz, iz, iz, tz, iz, iz, sl, iz, tz, sl, iz, iz, sl, sl, iz]) ∧ f 49 = some (.agg [iz, iz, iz, iz, iz, iz, iz, iz, iz, iz, iz, iz, iz, iz, sl, sl, sl, iz, iz, iz, iz, iz, iz, iz, iz, iz, sl, sl, sl, iz, iz, bz, iz, tz, iz, iz, tz, iz, iz, sl, iz, tz, sl, iz, iz, sl, sl, iz, iz, iz, iz, sl, sl, sl]) ∧ f 50 = some (.agg [iz, iz, iz, iz, iz, iz, iz, iz, iz, iz, iz, iz, iz, iz, sl, sl, sl, iz, iz, iz, iz, iz, iz, iz, iz, iz, sl, sl, sl, iz, iz, bz, iz, tz, iz, iz, tz, iz, iz, sl, iz, tz, sl, iz, iz, sl, sl, iz, iz, iz, iz, sl, sl, sl]) ∧ f 51 = some pz ∧ f 52 = some sl ∧ f 53 = some sl ∧ f 54 = some (.lit (.map none)) ∧ f 55 = some (.lit (.map none)) ∧ f 56 = some sl ∧ f 57 = some (.agg [bz, iz, iz, iz, sl, sl, sl, bz, iz, iz, sl]) ∧ f 58 = some (.agg [bz, iz, iz, iz, sl, sl, sl, bz, iz, iz, sl]) ∧ f 59 = some fz ∧ f 60 = some (.agg [fz, fz, fz, fz, fz, fz, fz, fz]) ∧ f 61 = some (.agg [iz, iz, iz, iz, sl, iz, iz, iz, sl, sl, sl, iz, sl, iz, (.lit (.map none)), iz, iz, iz, iz, sl, sl, sl, (.lit (.map none)), bz, iz, iz, iz, sl, sl, sl, bz, iz, iz, sl, fz, fz, fz, fz, fz, fz, fz, fz]) ∧ f 62 = some (.agg [iz, iz, iz, iz, sl, iz, iz, iz, sl, sl, sl, iz, sl, iz, (.lit (.map none)), iz, iz, iz, iz, sl, sl, sl, (.lit (.map none)), bz, iz, iz, iz, sl, sl, sl, bz, iz, iz, sl, fz, fz, fz, fz, fz, fz, fz, fz]) ∧ f 63 = some (.agg [pz, pz]) ∧ f 64 = some fz ∧ f 65 = some fz ∧ f 66 = some (.agg [bz, iz, iz, iz, sl, sl, sl, bz, iz, iz, sl]) ∧ f 67 = some fz ∧ f 68 = some fz ∧ f 69 = some fz ∧ f 70 = some fz ∧ f 71 = some sl ∧ f 72 = some fz ∧ f 73 = some fz ∧ f 74 = some fz ∧ f 75 = some fz ∧ f 76 = some fz ∧ f 77 = some fz ∧ f 78 = some fz ∧ f 79 = some fz ∧ f 80 = some (.agg [iz, iz, iz, iz, iz, iz, iz]) ∧ f 81 = some (.agg [iz, iz, iz, iz, iz, iz, iz]) ∧ f 82 = some fz ∧ f 83 = some fz ∧ f 84 = some fz ∧ f 85 = some fz ∧ f 86 = some fz ∧ f 87 = some fz ∧ f 88 = some (.agg [iz, iz, sl, sl, bz]) ∧ f 89 = some (.agg [iz, iz, sl, sl, bz]) ∧ f 90 = some fz ∧ f 91 = some fz ∧ f 92 = some fz ∧ f 93 = some sl ∧ f 94 = some sl ∧ f 95 = some sl ∧ f 96 = some (.agg [iz, sl, sl, sl, iz]) ∧ f 97 = some (.agg [iz, sl, sl, sl, iz]) ∧ f 98 = some (.agg [iz, iz, sl, sl]) ∧ f 99 = some (.agg [iz, iz, sl, sl]) ∧ f 100 = some (.agg [bz, bz, iz, iz, iz, iz]) ∧ f 101 = some (.agg [bz, bz, iz, iz, iz, iz]) ∧ f 102 = some (.agg [iz, iz, iz, iz]) ∧ f 103 = some (.agg [iz, iz, iz, iz]) ∧ f 104 = some fz ∧ f 106 = some fz ∧ f 108 = some fz ∧ f 109 = some fz ∧ f 110 = some fz ∧ f 111 = some fz ∧ f 113 = some fz ∧ f 114 = some fz ∧ f 115 = some fz ∧ f 116 = some (.lit (.int .u32 0)) ∧ f 117 = some (.agg [tz, iz, iz, (.lit (.int .u32 0))]) ∧ f 118 = some (.agg [tz, iz, iz, (.lit (.int .u32 0))]) ∧ f 119 = some fz ∧ f 120 = some fz ∧ f 121 = some (.agg [iz, iz, iz, iz, iz]) ∧ f 122 = some (.agg [iz, iz, iz, iz, iz]) ∧ f 123 = some fz ∧ f 124 = some fz ∧ f 125 = some fz ∧ f 126 = some pz ∧ f 127 = some fz ∧ f 128 = some fz ∧ f 129 = some fz ∧ f 130 = some fz ∧ f 131 = some fz ∧ f 132 = some fz ∧ f 133 = some fz ∧ f 134 = some fz ∧ f 135 = some fz ∧ f 136 = some fz ∧ f 137 = some fz ∧ f 138 = some fz ∧ f 139 = some fz ∧ f 140 = some (.agg [iz, iz, sl]) ∧ f 141 = some (.agg [iz, iz, sl]) ∧ f 142 = some fz ∧ f 143 = some (.agg [iz, sl]) ∧ f 144 = some (.agg [iz, sl]) ∧ f 145 = some fz ∧ f 146 = some (.agg [iz, iz, iz, iz, iz, iz, iz, iz, iz, sl, sl]) ∧ f 147 = some (.agg [iz, iz, iz, iz, iz, iz, iz, iz, iz, sl, sl]) ∧ f 148 = some fz ∧ f 149 = some fz ∧ f 150 = some fz ∧ f 151 = some fz ∧ f 152 = some fz ∧ f 153 = some fz ∧ f 154 = some fz ∧ f 155 = some (.lit (.int .u64 0)) ∧ f 156 = some fz ∧ f 157 = some fz ∧ f 159 = some fz ∧ f 160 = some fz ∧ f 161 = some fz ∧ f 162 = some fz ∧ f 163 = some fz ∧ f 164 = some fz ∧ f 165 = some fz ∧ f 166 = some fz ∧ f 167 = some fz ∧ f 168 = some sl ∧ f 170 = some fz ∧ f 171 = some fz ∧ f 172 = some fz ∧ f 173 = some fz ∧ f 174 = some fz ∧ f 175 = some fz ∧ f 176 = some fz ∧ f 177 = some fz ∧ f 178 = some fz ∧ f 179 = some iz ∧ f 181 = some fz ∧ f 182 = some fz ∧ f 183 = some fz ∧ f 184 = some fz ∧ f 185 = some fz ∧ f 186 = some fz ∧ f 187 = some fz ∧ f 188 = some (.lit (.int .u64 0)) ∧ f 189 = some fz ∧ f 190 = some fz ∧ f 191 = some fz ∧ f 192 = some pz ∧ f 193 = some fz ∧ f 194 = some fz ∧ f 195 = some fz ∧ f 196 = some fz ∧ f 197 = some fz ∧ f 198 = some fz ∧ f 199 = some (.agg [(.lit (.int .u32 0)), (.lit (.int .u32 0)), (.lit (.int .u32 0))]) ∧ f 200 = some (.agg [(.lit (.int .u32 0)), (.lit (.int .u32 0)), (.lit (.int .u32 0))]) ∧ f 201 = some fz ∧ f 202 = some fz ∧ f 203 = some (.lit (.int .u64 0)) ∧ f 204 = some fz ∧ f 205 = some fz ∧ f 206 = some fz ∧ f 207 = some pz ∧ f 208 = some fz ∧ f 209 = some pz ∧ f 210 = some (.agg [iz, sl, sl, sl, iz, (.lit (.int .u32 0)), sl, sl]) ∧ f 211 = some (.agg [iz, sl, sl, sl, iz, (.lit (.int .u32 0)), sl, sl]) ∧ f 212 = some fz ∧ f 213 = some (.agg []) ∧ f 214 = some (.agg []) ∧ f 215 = some (.agg []) ∧ f 216 = some (.agg [(.lit (.int .u32 0))]) ∧ f 217 = some (.agg [(.lit (.int .u32 0))]) ∧ f 218 = some (.agg [(.lit (.int .i32 0)), (.lit (.int .u32 0))]) ∧ f 219 = some (.agg [(.lit (.int .i32 0)), (.lit (.int .u32 0))]) ∧ f 220 = some (.agg [(.lit (.int .i32 0)), (.lit (.int .u32 0))]) ∧ f 221 = some (.agg [(.lit (.int .i32 0)), (.lit (.int .u32 0))]) ∧ f 222 = some (.agg [(.lit (.int .u32 0)), (.lit (.int .i32 0)), (.lit (.int .u32 0))]) ∧ f 223 = some (.agg [(.lit (.int .u32 0)), (.lit (.int .i32 0)), (.lit (.int .u32 0))]) ∧ f 225 = some (.agg []) ∧ f 226 = some (.agg [iz]) ∧ f 227 = some (.agg [iz]) ∧ f 230 = some fz ∧ f 231 = some pz ∧ f 232 = some fz ∧ f 234 = some fz ∧ f 235 = some fz ∧ f 236 = some (.agg [(.lit (.int .u64 0)), (.lit (.int .u64 0)), (.lit (.int .u64 0))]) ∧ f 237 = some (.agg [(.lit (.int .u64 0)), (.lit (.int .u64 0)), (.lit (.int .u64 0)), (.lit (.int .u64 0)), (.lit (.int .u64 0)), (.lit (.int .u64 0)), (.lit (.int .u64 0)), (.lit (.int .u64 0)), (.lit (.int .u64 0))]) ∧ f 238 = some fz ∧ f 239 = some fz ∧ f 240 = some pz ∧ f 242 = some fz ∧ f 243 = some fz ∧ f 245 = some fz ∧ f 246 = some (.agg [(.lit (.int .u32 0)), (.lit (.int .u32 0)), (.lit (.int .u32 0))]) ∧ f 247 = some (.agg [(.lit (.int .u32 0)), (.lit (.int .u32 0)), (.lit (.int .u32 0))]) ∧ f 248 = some fz ∧ f 249 = some fz ∧ f 250 = some fz ∧ f 251 = some fz ∧ f 252 = some pz ∧ f 253 = some (.agg [iz, iz, iz]) ∧ f 254 = some (.agg [iz, iz, iz, iz, iz, iz, iz, iz, iz]) ∧ f 255 = some fz ∧ f 256 = some fz ∧ f 257 = some fz ∧ f 258 = some fz ∧ f 259 = some (.agg [pz, pz, pz, tz]) ∧ f 260 = some (.agg [pz, pz, pz, tz]) ∧ f 261 = some (.agg []) ∧ f 262 = some (.agg []) ∧ f 263 = some (.agg []) ∧ f 264 = some (.lit (.int .u8 0)) ∧ f 265 = some (.lit (.int .u8 0)) ∧ f 266 = some fz ∧ f 267 = some pz ∧ f 268 = some (.lit (.int .i32 0)) ∧ f 269 = some (.lit (.int .i32 0)) ∧ f 270 = some (.agg [(.lit (.int .u64 0)), (.lit (.int .u64 0)), (.lit (.int .u32 0)), (.lit (.int .u8 0)), (.lit (.int .u8 0)), (.lit (.int .u8 0)), (.lit (.int .u8 0)), fz, pz, (.lit (.int .i32 0)), (.lit (.int .i32 0))]) ∧ f 271 = some (.agg [(.lit (.int .u64 0)), (.lit (.int .u64 0)), (.lit (.int .u32 0)), (.lit (.int .u8 0)), (.lit (.int .u8 0)), (.lit (.int .u8 0)), (.lit (.int .u8 0)), fz, pz, (.lit (.int .i32 0)), (.lit (.int .i32 0))]) ∧ f 272 = some pz)
  (zeroT (tabOf Tryz.prog NT0)) (.lit (.slice none 0 0)) (.lit (.int .i64 0)) (.lit (.pointer none)) (.lit (.string ⟨#[]⟩)) (.lit (.bool false)) (.lit .nilFunc) := by (repeat' apply And.intro) <;> kernel_rfl
set_option maxRecDepth 100000 in
theorem tabU : (fun (f : Nat → Option TypeDesc) => f 2 = some (.int .i64) ∧ f 3 = some (.int .i64) ∧ f 4 = some (.bool) ∧ f 5 = some (.int .u8) ∧ f 6 = some (.int .u8) ∧ f 9 = some (.string) ∧ f 10 = some (.string) ∧ f 11 = some (.string) ∧ f 12 = some (.int .u64) ∧ f 15 = some (.pointer 260) ∧ f 16 = some (.pointer 263) ∧ f 17 = some (.pointer 271) ∧ f 21 = some (.int .i32) ∧ f 26 = some (.slice 141) ∧ f 27 = some (.slice 144) ∧ f 28 = some (.slice 147) ∧ f 33 = some (.slice 40) ∧ f 34 = some (.slice 122) ∧ f 35 = some (.slice 118) ∧ f 38 = some (.int .i64) ∧ f 41 = some (.slice 5) ∧ f 46 = some (.slice 9) ∧ f 51 = some (.pointer 62) ∧ f 52 = some (.slice 97) ∧ f 53 = some (.slice 89) ∧ f 54 = some (.map 3 81) ∧ f 55 = some (.map 3 3) ∧ f 56 = some (.slice 48) ∧ f 60 = some (.array 8 59) ∧ f 63 = some (.array 2 51) ∧ f 71 = some (.slice 3) ∧ f 93 = some (.slice 101) ∧ f 94 = some (.slice 103) ∧ f 95 = some (.slice 99) ∧ f 116 = some (.int .u32) ∧ f 126 = some (.pointer 48) ∧ f 155 = some (.int .u64) ∧ f 168 = some (.slice 32) ∧ f 179 = some (.int .i64) ∧ f 188 = some (.int .u64) ∧ f 192 = some (.pointer 229) ∧ f 203 = some (.int .u64) ∧ f 207 = some (.pointer 3) ∧ f 209 = some (.pointer 211) ∧ f 224 = some (.array 256 116) ∧ f 231 = some (.pointer 116) ∧ f 236 = some (.array 3 155) ∧ f 237 = some (.array 3 236) ∧ f 240 = some (.pointer 203) ∧ f 246 = some (.array 3 116) ∧ f 247 = some (.array 3 116) ∧ f 252 = some (.pointer 247) ∧ f 253 = some (.array 3 3) ∧ f 254 = some (.array 3 253) ∧ f 261 = some (.array 0 16) ∧ f 264 = some (.int .u8) ∧ f 265 = some (.int .u8) ∧ f 267 = some (.pointer 5) ∧ f 268 = some (.int .i32) ∧ f 269 = some (.int .i32)) (und (tabOf Tryz.prog NT0)) := by (repeat' apply And.intro) <;> kernel_rfl
set_option maxRecDepth 100000 in
theorem tabF : (fun (f : Nat → Nat → Option (Nat × Nat × Bool)) => f 7 0 = some (0, 1, false) ∧ f 7 1 = some (1, 1, false) ∧ f 7 2 = some (2, 1, false) ∧ f 7 3 = some (3, 1, false) ∧ f 8 0 = some (0, 1, false) ∧ f 8 1 = some (1, 1, false) ∧ f 8 2 = some (2, 1, false) ∧ f 8 3 = some (3, 1, false) ∧ f 13 0 = some (0, 1, false) ∧ f 13 1 = some (1, 1, false) ∧ f 14 0 = some (0, 1, false) ∧ f 14 1 = some (1, 1, false) ∧ f 18 0 = some (0, 1, false) ∧ f 19 0 = some (0, 1, false) ∧ f 22 0 = some (0, 1, false) ∧ f 22 1 = some (1, 1, false) ∧ f 23 0 = some (0, 1, false) ∧ f 23 1 = some (1, 1, false) ∧ f 24 0 = some (0, 1, false) ∧ f 24 1 = some (1, 1, false) ∧ f 25 0 = some (0, 1, false) ∧ f 25 1 = some (1, 1, false) ∧ f 29 0 = some (0, 1, false) ∧ f 29 1 = some (1, 1, false) ∧ f 30 0 = some (0, 1, false) ∧ f 30 1 = some (1, 1, false) ∧ f 31 0 = some (0, 1, false) ∧ f 31 1 = some (1, 2, true) ∧ f 31 2 = some (3, 2, true) ∧ f 31 3 = some (5, 1, false) ∧ f 32 0 = some (0, 1, false) ∧ f 32 1 = some (1, 2, true) ∧ f 32 2 = some (3, 2, true) ∧ f 32 3 = some (5, 1, false) ∧ f 36 0 = some (0, 1, false) ∧ f 36 1 = some (1, 2, true) ∧ f 36 2 = some (3, 1, false) ∧ f 36 3 = some (4, 1, false) ∧ f 36 4 = some (5, 1, false) ∧ f 37 0 = some (0, 1, false) ∧ f 37 1 = some (1, 2, true) ∧ f 37 2 = some (3, 1, false) ∧ f 37 3 = some (4, 1, false) ∧ f 37 4 = some (5, 1, false) ∧ f 39 0 = some (0, 2, true) ∧ f 39 1 = some (2, 1, false) ∧ f 39 2 = some (3, 1, false) ∧ f 39 3 = some (4, 1, false) ∧ f 39 4 = some (5, 1, false) ∧ f 39 5 = some (6, 1, false) ∧ f 40 0 = some (0, 2, true) ∧ f 40 1 = some (2, 1, false) ∧ f 40 2 = some (3, 1, false) ∧ f 40 3 = some (4, 1, false) ∧ f 40 4 = some (5, 1, false) ∧ f 40 5 = some (6, 1, false) ∧ f 42 0 = some (0, 1, false) ∧ f 42 1 = some (1, 2, true) ∧ f 42 2 = some (3, 1, false) ∧ f 43 0 = some (0, 1, false) ∧ f 43 1 = some (1, 2, true) ∧ f 43 2 = some (3, 1, false) ∧ f 44 0 = some (0, 1, false) ∧ f 44 1 = some (1, 1, false) ∧ f 44 2 = some (2, 1, false) ∧ f 44 3 = some (3, 2, true) ∧ f 45 0 = some (0, 1, false) ∧ f 45 1 = some (1, 1, false) ∧ f 45 2 = some (2, 1, false) ∧ f 45 3 = some (3, 2, true) ∧ f 47 0 = some (0, 1, false) ∧ f 47 1 = some (1, 2, true) ∧ f 47 2 = some (3, 2, true) ∧ f 47 3 = some (5, 1, false) ∧ f 47 4 = some (6, 1, false) ∧ f 47 5 = some (7, 2, true) ∧ f 47 6 = some (9, 1, false) ∧ f 47 7 = some (10, 1, false) ∧ f 47 8 = some (11, 1, false) ∧ f 47 9 = some (12, 1, false) ∧ f 47 10 = some (13, 1, false) ∧ f 47 11 = some (14, 1, false) ∧ f 47 12 = some (15, 6, true) ∧ f 47 13 = some (21, 6, true) ∧ f 47 14 = some (27, 7, true) ∧ f 47 15 = some (34, 4, true) ∧ f 47 16 = some (38, 5, true) ∧ f 47 17 = some (43, 1, false) ∧ f 47 18 = some (44, 1, false) ∧ f 47 19 = some (45, 1, false) ∧ f 48 0 = some (0, 1, false) ∧ f 48 1 = some (1, 2, true) ∧ f 48 2 = some (3, 2, true) ∧ f 48 3 = some (5, 1, false) ∧ f 48 4 = some (6, 1, false) ∧ f 48 5 = some (7, 2, true) ∧ f 48 6 = some (9, 1, false) ∧ f 48 7 = some (10, 1, false) ∧ f 48 8 = some (11, 1, false) ∧ f 48 9 = some (12, 1, false) ∧ f 48 10 = some (13, 1, false) ∧ f 48 11 = some (14, 1, false) ∧ f 48 12 = some (15, 6, true) ∧ f 48 13 = some (21, 6, true) ∧ f 48 14 = some (27, 7, true) ∧ f 48 15 = some (34, 4, true) ∧ f 48 16 = some (38, 5, true) ∧ f 48 17 = some (43, 1, false) ∧ f 48 18 = some (44, 1, false) ∧ f 48 19 = some (45, 1, false) ∧ f 49 0 = some (0, 1, false) ∧ f 49 1 = some (1, 1, false) ∧ f 49 2 = some (2, 46, true) ∧ f 49 3 = some (48, 6, true) ∧ f 50 0 = some (0, 1, false) ∧ f 50 1 = some (1, 1, false) ∧ f 50 2 = some (2, 46, true) ∧ f 50 3 = some (48, 6, true) ∧ f 57 0 = some (0, 1, false) ∧ f 57 1 = some (1, 6, true) ∧ f 57 2 = some (7, 1, false) ∧ f 57 3 = some (8, 1, false) ∧ f 57 4 = some (9, 1, false) ∧ f 57 5 = some (10, 1, false) ∧ f 58 0 = some (0, 1, false) ∧ f 58 1 = some (1, 6, true) ∧ f 58 2 = some (7, 1, false) ∧ f 58 3 = some (8, 1, false) ∧ f 58 4 = some (9, 1, false) ∧ f 58 5 = some (10, 1, false) ∧ f 61 0 = some (0, 2, true) ∧ f 61 1 = some (2, 1, false) ∧ f 61 2 = some (3, 1, false) ∧ f 61 3 = some (4, 1, false) ∧ f 61 4 = some (5, 6, true) ∧ f 61 5 = some (11, 1, false) ∧ f 61 6 = some (12, 1, false) ∧ f 61 7 = some (13, 1, false) ∧ f 61 8 = some (14, 1, false) ∧ f 61 9 = some (15, 1, false) ∧ f 61 10 = some (16, 6, true) ∧ f 61 11 = some (22, 1, false) ∧ f 61 12 = some (23, 11, true) ∧ f 61 13 = some (34, 8, true) ∧ f 62 0 = some (0, 2, true) ∧ f 62 1 = some (2, 1, false) ∧ f 62 2 = some (3, 1, false) ∧ f 62 3 = some (4, 1, false) ∧ f 62 4 = some (5, 6, true) ∧ f 62 5 = some (11, 1, false) ∧ f 62 6 = some (12, 1, false) ∧ f 62 7 = some (13, 1, false) ∧ f 62 8 = some (14, 1, false) ∧ f 62 9 = some (15, 1, false) ∧ f 62 10 = some (16, 6, true) ∧ f 62 11 = some (22, 1, false) ∧ f 62 12 = some (23, 11, true) ∧ f 62 13 = some (34, 8, true) ∧ f 66 0 = some (0, 1, false) ∧ f 66 1 = some (1, 6, true) ∧ f 66 2 = some (7, 1, false) ∧ f 66 3 = some (8, 1, false) ∧ f 66 4 = some (9, 1, false) ∧ f 66 5 = some (10, 1, false) ∧ f 80 0 = some (0, 6, true) ∧ f 80 1 = some (6, 1, false) ∧ f 81 0 = some (0, 6, true) ∧ f 81 1 = some (6, 1, false) ∧ f 88 0 = some (0, 1, false) ∧ f 88 1 = some (1, 1, false) ∧ f 88 2 = some (2, 1, false) ∧ f 88 3 = some (3, 1, false) ∧ f 88 4 = some (4, 1, false) ∧ f 89 0 = some (0, 1, false) ∧ f 89 1 = some (1, 1, false) ∧ f 89 2 = some (2, 1, false) ∧ f 89 3 = some (3, 1, false) ∧ f 89 4 = some (4, 1, false) ∧ f 96 0 = some (0, 1, false) ∧ f 96 1 = some (1, 1, false) ∧ f 96 2 = some (2, 1, false) ∧ f 96 3 = some (3, 1, false) ∧ f 96 4 = some (4, 1, false) ∧ f 97 0 = some (0, 1, false) ∧ f 97 1 = some (1, 1, false) ∧ f 97 2 = some (2, 1, false) ∧ f 97 3 = some (3, 1, false) ∧ f 97 4 = some (4, 1, false) ∧ f 98 0 = some (0, 1, false) ∧ f 98 1 = some (1, 1, false) ∧ f 98 2 = some (2, 1, false) ∧ f 98 3 = some (3, 1, false) ∧ f 99 0 = some (0, 1, false) ∧ f 99 1 = some (1, 1, false) ∧ f 99 2 = some (2, 1, false) ∧ f 99 3 = some (3, 1, false) ∧ f 100 0 = some (0, 1, false) ∧ f 100 1 = some (1, 1, false) ∧ f 100 2 = some (2, 1, false) ∧ f 100 3 = some (3, 1, false) ∧ f 100 4 = some (4, 1, false) ∧ f 100 5 = some (5, 1, false) ∧ f 101 0 = some (0, 1, false) ∧ f 101 1 = some (1, 1, false) ∧ f 101 2 = some (2, 1, false) ∧ f 101 3 = some (3, 1, false) ∧ f 101 4 = some (4, 1, false) ∧ f 101 5 = some (5, 1, false) ∧ f 102 0 = some (0, 1, false) ∧ f 102 1 = some (1, 1, false) ∧ f 102 2 = some (2, 1, false) ∧ f 102 3 = some (3, 1, false) ∧ f 103 0 = some (0, 1, false) ∧ f 103 1 = some (1, 1, false) ∧ f 103 2 = some (2, 1, false) ∧ f 103 3 = some (3, 1, false) ∧ f 117 0 = some (0, 1, false) ∧ f 117 1 = some (1, 2, true) ∧ f 117 2 = some (3, 1, false) ∧ f 118 0 = some (0, 1, false) ∧ f 118 1 = some (1, 2, true) ∧ f 118 2 = some (3, 1, false) ∧ f 121 0 = some (0, 1, false) ∧ f 121 1 = some (1, 1, false) ∧ f 121 2 = some (2, 1, false) ∧ f 121 3 = some (3, 2, true) ∧ f 122 0 = some (0, 1, false) ∧ f 122 1 = some (1, 1, false) ∧ f 122 2 = some (2, 1, false) ∧ f 122 3 = some (3, 2, true) ∧ f 140 0 = some (0, 1, false) ∧ f 140 1 = some (1, 1, false) ∧ f 140 2 = some (2, 1, false) ∧ f 141 0 = some (0, 1, false) ∧ f 141 1 = some (1, 1, false) ∧ f 141 2 = some (2, 1, false) ∧ f 143 0 = some (0, 1, false) ∧ f 143 1 = some (1, 1, false) ∧ f 144 0 = some (0, 1, false) ∧ f 144 1 = some (1, 1, false) ∧ f 146 0 = some (0, 1, false) ∧ f 146 1 = some (1, 1, false) ∧ f 146 2 = some (2, 1, false) ∧ f 146 3 = some (3, 4, true) ∧ f 146 4 = some (7, 4, true) ∧ f 147 0 = some (0, 1, false) ∧ f 147 1 = some (1, 1, false) ∧ f 147 2 = some (2, 1, false) ∧ f 147 3 = some (3, 4, true) ∧ f 147 4 = some (7, 4, true) ∧ f 199 0 = some (0, 1, false) ∧ f 199 1 = some (1, 1, false) ∧ f 199 2 = some (2, 1, false) ∧ f 200 0 = some (0, 1, false) ∧ f 200 1 = some (1, 1, false) ∧ f 200 2 = some (2, 1, false) ∧ f 210 0 = some (0, 5, true) ∧ f 210 1 = some (5, 1, false) ∧ f 210 2 = some (6, 1, false) ∧ f 210 3 = some (7, 1, false) ∧ f 211 0 = some (0, 5, true) ∧ f 211 1 = some (5, 1, false) ∧ f 211 2 = some (6, 1, false) ∧ f 211 3 = some (7, 1, false) ∧ f 216 0 = some (0, 0, true) ∧ f 216 1 = some (0, 1, false) ∧ f 217 0 = some (0, 0, true) ∧ f 217 1 = some (0, 1, false) ∧ f 218 0 = some (0, 1, false) ∧ f 218 1 = some (1, 1, false) ∧ f 219 0 = some (0, 1, false) ∧ f 219 1 = some (1, 1, false) ∧ f 220 0 = some (0, 0, true) ∧ f 220 1 = some (0, 2, true) ∧ f 221 0 = some (0, 0, true) ∧ f 221 1 = some (0, 2, true) ∧ f 222 0 = some (0, 0, true) ∧ f 222 1 = some (0, 1, true) ∧ f 222 2 = some (1, 2, true) ∧ f 223 0 = some (0, 0, true) ∧ f 223 1 = some (0, 1, true) ∧ f 223 2 = some (1, 2, true) ∧ f 226 0 = some (0, 0, true) ∧ f 226 1 = some (0, 0, true) ∧ f 226 2 = some (0, 1, false) ∧ f 227 0 = some (0, 0, true) ∧ f 227 1 = some (0, 0, true) ∧ f 227 2 = some (0, 1, false) ∧ f 228 0 = some (0, 3, true) ∧ f 228 1 = some (3, 256, true) ∧ f 228 2 = some (259, 1, true) ∧ f 229 0 = some (0, 3, true) ∧ f 229 1 = some (3, 256, true) ∧ f 229 2 = some (259, 1, true) ∧ f 259 0 = some (0, 1, false) ∧ f 259 1 = some (1, 1, false) ∧ f 259 2 = some (2, 1, false) ∧ f 259 3 = some (3, 1, false) ∧ f 260 0 = some (0, 1, false) ∧ f 260 1 = some (1, 1, false) ∧ f 260 2 = some (2, 1, false) ∧ f 260 3 = some (3, 1, false) ∧ f 262 0 = some (0, 0, true) ∧ f 263 0 = some (0, 0, true) ∧ f 270 0 = some (0, 1, false) ∧ f 270 1 = some (1, 1, false) ∧ f 270 2 = some (2, 1, false) ∧ f 270 3 = some (3, 1, false) ∧ f 270 4 = some (4, 1, false) ∧ f 270 5 = some (5, 1, false) ∧ f 270 6 = some (6, 1, false) ∧ f 270 7 = some (7, 1, false) ∧ f 270 8 = some (8, 1, false) ∧ f 270 9 = some (9, 1, false) ∧ f 270 10 = some (10, 1, false) ∧ f 271 0 = some (0, 1, false) ∧ f 271 1 = some (1, 1, false) ∧ f 271 2 = some (2, 1, false) ∧ f 271 3 = some (3, 1, false) ∧ f 271 4 = some (4, 1, false) ∧ f 271 5 = some (5, 1, false) ∧ f 271 6 = some (6, 1, false) ∧ f 271 7 = some (7, 1, false) ∧ f 271 8 = some (8, 1, false) ∧ f 271 9 = some (9, 1, false) ∧ f 271 10 = some (10, 1, false)) (fieldOff (tabOf Tryz.prog NT0)) := by (repeat' apply And.intro) <;> kernel_rfl
set_option maxRecDepth 100000 in
theorem tabN :
  pur Tryz.prog (binOp .eql 26 (.slice none 0 0) (.slice none 0 0)) = some (.ok (.bool true)) ∧ pur Tryz.prog (binOp .neq 26 (.slice none 0 0) (.slice none 0 0)) = some (.ok (.bool false)) ∧ pur Tryz.prog (binOp .eql 27 (.slice none 0 0) (.slice none 0 0)) = some (.ok (.bool true)) ∧ pur Tryz.prog (binOp .neq 27 (.slice none 0 0) (.slice none 0 0)) = some (.ok (.bool false)) ∧ pur Tryz.prog (binOp .eql 28 (.slice none 0 0) (.slice none 0 0)) = some (.ok (.bool true)) ∧ pur Tryz.prog (binOp .neq 28 (.slice none 0 0) (.slice none 0 0)) = some (.ok (.bool false)) ∧ pur Tryz.prog (binOp .eql 33 (.slice none 0 0) (.slice none 0 0)) = some (.ok (.bool true)) ∧ pur Tryz.prog (binOp .neq 33 (.slice none 0 0) (.slice none 0 0)) = some (.ok (.bool false)) ∧ pur Tryz.prog (binOp .eql 34 (.slice none 0 0) (.slice none 0 0)) = some (.ok (.bool true)) ∧ pur Tryz.prog (binOp .neq 34 (.slice none 0 0) (.slice none 0 0)) = some (.ok (.bool false)) ∧ pur Tryz.prog (binOp .eql 35 (.slice none 0 0) (.slice none 0 0)) = some (.ok (.bool true)) ∧ pur Tryz.prog (binOp .neq 35 (.slice none 0 0) (.slice none 0 0)) = some (.ok (.bool false)) ∧ pur Tryz.prog (binOp .eql 41 (.slice none 0 0) (.slice none 0 0)) = some (.ok (.bool true)) ∧ pur Tryz.prog (binOp .neq 41 (.slice none 0 0) (.slice none 0 0)) = some (.ok (.bool false)) ∧ pur Tryz.prog (binOp .eql 46 (.slice none 0 0) (.slice none 0 0)) = some (.ok (.bool true)) ∧ pur Tryz.prog (binOp .neq 46 (.slice none 0 0) (.slice none 0 0)) = some (.ok (.bool false)) ∧ pur Tryz.prog (binOp .eql 52 (.slice none 0 0) (.slice none 0 0)) = some (.ok (.bool true)) ∧ pur Tryz.prog (binOp .neq 52 (.slice none 0 0) (.slice none 0 0)) = some (.ok (.bool false)) ∧ pur Tryz.prog (binOp .eql 53 (.slice none 0 0) (.slice none 0 0)) = some (.ok (.bool true)) ∧ pur Tryz.prog (binOp .neq 53 (.slice none 0 0) (.slice none 0 0)) = some (.ok (.bool false)) ∧ pur Tryz.prog (binOp .eql 56 (.slice none 0 0) (.slice none 0 0)) = some (.ok (.bool true)) ∧ pur Tryz.prog (binOp .neq 56 (.slice none 0 0) (.slice none 0 0)) = some (.ok (.bool false)) ∧ pur Tryz.prog (binOp .eql 71 (.slice none 0 0) (.slice none 0 0)) = some (.ok (.bool true)) ∧ pur Tryz.prog (binOp .neq 71 (.slice none 0 0) (.slice none 0 0)) = some (.ok (.bool false)) ∧ pur Tryz.prog (binOp .eql 93 (.slice none 0 0) (.slice none 0 0)) = some (.ok (.bool true)) ∧ pur Tryz.prog (binOp .neq 93 (.slice none 0 0) (.slice none 0 0)) = some (.ok (.bool false)) ∧ pur Tryz.prog (binOp .eql 94 (.slice none 0 0) (.slice none 0 0)) = some (.ok (.bool true)) ∧ pur Tryz.prog (binOp .neq 94 (.slice none 0 0) (.slice none 0 0)) = some (.ok (.bool false)) ∧ pur Tryz.prog (binOp .eql 95 (.slice none 0 0) (.slice none 0 0)) = some (.ok (.bool true)) ∧ pur Tryz.prog (binOp .neq 95 (.slice none 0 0) (.slice none 0 0)) = some (.ok (.bool false)) ∧ pur Tryz.prog (binOp .eql 168 (.slice none 0 0) (.slice none 0 0)) = some (.ok (.bool true)) ∧ pur Tryz.prog (binOp .neq 168 (.slice none 0 0) (.slice none 0 0)) = some (.ok (.bool false)) := by (repeat' apply And.intro) <;> kernel_rfl
set_option maxRecDepth 100000 in
theorem tabR :
  Tryz.f2.results.toList = [] ∧ Tryz.f3.results.toList = [.tmp 2] ∧ Tryz.f4.results.toList = [.tmp 4] ∧ Tryz.f5.results.toList = [.cell 4 58] ∧ Tryz.f6.results.toList = [.cell 2 58] ∧ Tryz.f7.results.toList = [.cell 4 58] ∧ Tryz.f8.results.toList = [.tmp 0] ∧ Tryz.f9.results.toList = [.cell 4 58] ∧ Tryz.f10.results.toList = [.tmp 2] ∧ Tryz.f11.results.toList = [.tmp 2] ∧ Tryz.f12.results.toList = [.tmp 2] ∧ Tryz.f13.results.toList = [.cell 2 37] ∧ Tryz.f14.results.toList = [.tmp 0] ∧ Tryz.f15.results.toList = [.tmp 2] ∧ Tryz.f16.results.toList = [.tmp 2] ∧ Tryz.f17.results.toList = [.tmp 2] ∧ Tryz.f18.results.toList = [.cell 2 23] ∧ Tryz.f19.results.toList = [.tmp 6] ∧ Tryz.f20.results.toList = [.tmp 2] ∧ Tryz.f21.results.toList = [] ∧ Tryz.f22.results.toList = [] ∧ Tryz.f23.results.toList = [.tmp 2] ∧ Tryz.f24.results.toList = [.cell 2 37] ∧ Tryz.f25.results.toList = [] ∧ Tryz.f26.results.toList = [.tmp 4] ∧ Tryz.f27.results.toList = [.tmp 2] ∧ Tryz.f28.results.toList = [] ∧ Tryz.f29.results.toList = [.cell 2 58] ∧ Tryz.f30.results.toList = [] ∧ Tryz.f31.results.toList = [] ∧ Tryz.f32.results.toList = [] ∧ Tryz.f33.results.toList = [] ∧ Tryz.f34.results.toList = [.tmp 4] ∧ Tryz.f35.results.toList = [.tmp 4] ∧ Tryz.f36.results.toList = [.cell 2 89] ∧ Tryz.f37.results.toList = [.tmp 2] ∧ Tryz.f38.results.toList = [.tmp 2] ∧ Tryz.f39.results.toList = [.tmp 4, .tmp 5] ∧ Tryz.f40.results.toList = [.tmp 12, .cell 13 58, .tmp 14] ∧ Tryz.f41.results.toList = [.tmp 4] ∧ Tryz.f42.results.toList = [.tmp 4] ∧ Tryz.f43.results.toList = [.tmp 4] ∧ Tryz.f44.results.toList = [] ∧ Tryz.f45.results.toList = [.tmp 2] ∧ Tryz.f46.results.toList = [.tmp 2] ∧ Tryz.f47.results.toList = [.tmp 4] ∧ Tryz.f48.results.toList = [.tmp 4] ∧ Tryz.f49.results.toList = [.tmp 2] ∧ Tryz.f50.results.toList = [.tmp 4] ∧ Tryz.f51.results.toList = [.tmp 2] ∧ Tryz.f52.results.toList = [.tmp 2] ∧ Tryz.f53.results.toList = [.tmp 4] ∧ Tryz.f54.results.toList = [.tmp 2] ∧ Tryz.f55.results.toList = [.tmp 2] ∧ Tryz.f56.results.toList = [.tmp 2] ∧ Tryz.f57.results.toList = [.tmp 2] ∧ Tryz.f58.results.toList = [.tmp 4] ∧ Tryz.f59.results.toList = [.tmp 4] ∧ Tryz.f60.results.toList = [.tmp 4, .tmp 5] ∧ Tryz.f61.results.toList = [.tmp 2] ∧ Tryz.f62.results.toList = [.tmp 2] ∧ Tryz.f63.results.toList = [.tmp 2] ∧ Tryz.f64.results.toList = [.tmp 2] ∧ Tryz.f65.results.toList = [.tmp 2] ∧ Tryz.f66.results.toList = [.cell 4 32] ∧ Tryz.f67.results.toList = [.tmp 4] ∧ Tryz.f68.results.toList = [.tmp 4] ∧ Tryz.f69.results.toList = [.tmp 4] ∧ Tryz.f70.results.toList = [.tmp 4] ∧ Tryz.f71.results.toList = [.tmp 4] ∧ Tryz.f72.results.toList = [.tmp 4] ∧ Tryz.f73.results.toList = [.tmp 4] ∧ Tryz.f74.results.toList = [.tmp 4] ∧ Tryz.f75.results.toList = [.tmp 4] ∧ Tryz.f76.results.toList = [.tmp 4] ∧ Tryz.f77.results.toList = [.tmp 4] ∧ Tryz.f78.results.toList = [.tmp 4] ∧ Tryz.f79.results.toList = [.tmp 4] ∧ Tryz.f80.results.toList = [.tmp 4] ∧ Tryz.f81.results.toList = [.tmp 4] ∧ Tryz.f82.results.toList = [] ∧ Tryz.f83.results.toList = [.tmp 2] ∧ Tryz.f84.results.toList = [.tmp 4] ∧ Tryz.f85.results.toList = [.cell 2 97] ∧ Tryz.f86.results.toList = [.cell 4 103, .tmp 5] ∧ Tryz.f87.results.toList = [.tmp 4] ∧ Tryz.f88.results.toList = [.tmp 4] ∧ Tryz.f89.results.toList = [.tmp 4] ∧ Tryz.f90.results.toList = [.tmp 4] ∧ Tryz.f91.results.toList = [.tmp 6] ∧ Tryz.f92.results.toList = [] ∧ Tryz.f93.results.toList = [.cell 4 103, .tmp 5] ∧ Tryz.f94.results.toList = [.tmp 6] ∧ Tryz.f95.results.toList = [.tmp 4] ∧ Tryz.f96.results.toList = [.tmp 2, .tmp 3] ∧ Tryz.f97.results.toList = [.tmp 8] ∧ Tryz.f98.results.toList = [.tmp 6, .tmp 7] ∧ Tryz.f99.results.toList = [.cell 2 30] ∧ Tryz.f100.results.toList = [.tmp 4] ∧ Tryz.f101.results.toList = [.tmp 4] ∧ Tryz.f102.results.toList = [.tmp 4] ∧ Tryz.f103.results.toList = [.tmp 4] ∧ Tryz.f104.results.toList = [] ∧ Tryz.f105.results.toList = [] ∧ Tryz.f106.results.toList = [] ∧ Tryz.f107.results.toList = [.tmp 6, .tmp 7] ∧ Tryz.f108.results.toList = [] ∧ Tryz.f109.results.toList = [.tmp 6] ∧ Tryz.f110.results.toList = [.tmp 4] ∧ Tryz.f111.results.toList = [.tmp 8] ∧ Tryz.f112.results.toList = [.tmp 8, .tmp 9] ∧ Tryz.f113.results.toList = [.tmp 2] ∧ Tryz.f114.results.toList = [.tmp 2] ∧ Tryz.f115.results.toList = [.tmp 2] ∧ Tryz.f116.results.toList = [] ∧ Tryz.f117.results.toList = [.tmp 6] ∧ Tryz.f118.results.toList = [.tmp 6] ∧ Tryz.f119.results.toList = [.tmp 0] ∧ Tryz.f120.results.toList = [.tmp 6] ∧ Tryz.f121.results.toList = [.tmp 4] ∧ Tryz.f122.results.toList = [.tmp 2] ∧ Tryz.f123.results.toList = [.tmp 2] ∧ Tryz.f124.results.toList = [.tmp 10, .tmp 11] ∧ Tryz.f125.results.toList = [.tmp 4] ∧ Tryz.f126.results.toList = [.tmp 6] ∧ Tryz.f127.results.toList = [.cell 2 200] ∧ Tryz.f128.results.toList = [.tmp 6] ∧ Tryz.f129.results.toList = [] ∧ Tryz.f130.results.toList = [.tmp 2] ∧ Tryz.f131.results.toList = [.tmp 2] ∧ Tryz.f132.results.toList = [.tmp 6] ∧ Tryz.f133.results.toList = [.tmp 10] ∧ Tryz.f134.results.toList = [.tmp 2] ∧ Tryz.f135.results.toList = [.tmp 2] ∧ Tryz.f136.results.toList = [] ∧ Tryz.f137.results.toList = [] ∧ Tryz.f138.results.toList = [.tmp 4] ∧ Tryz.f139.results.toList = [.tmp 4] ∧ Tryz.f140.results.toList = [.tmp 4] ∧ Tryz.f141.results.toList = [.cell 4 99, .tmp 5] ∧ Tryz.f142.results.toList = [.tmp 8, .tmp 9] ∧ Tryz.f143.results.toList = [] ∧ Tryz.f144.results.toList = [.tmp 7] ∧ Tryz.f145.results.toList = [.tmp 4] ∧ Tryz.f146.results.toList = [.tmp 8, .tmp 9] ∧ Tryz.f147.results.toList = [.tmp 2] ∧ Tryz.f148.results.toList = [.cell 4 99, .tmp 5] ∧ Tryz.f149.results.toList = [] ∧ Tryz.f150.results.toList = [.tmp 6, .tmp 7, .tmp 8] ∧ Tryz.f151.results.toList = [] ∧ Tryz.f152.results.toList = [.tmp 4] ∧ Tryz.f153.results.toList = [.tmp 6] ∧ Tryz.f154.results.toList = [] ∧ Tryz.f155.results.toList = [.tmp 6] ∧ Tryz.f156.results.toList = [.cell 4 99, .tmp 5] ∧ Tryz.f157.results.toList = [.tmp 8, .tmp 9] ∧ Tryz.f158.results.toList = [.tmp 4] ∧ Tryz.f159.results.toList = [.tmp 2] ∧ Tryz.f160.results.toList = [] ∧ Tryz.f161.results.toList = [] ∧ Tryz.f162.results.toList = [.tmp 7] ∧ Tryz.f163.results.toList = [.tmp 4] ∧ Tryz.f164.results.toList = [.tmp 8] ∧ Tryz.f165.results.toList = [] ∧ Tryz.f166.results.toList = [.tmp 2] ∧ Tryz.f167.results.toList = [] := by (repeat' apply And.intro) <;> kernel_rfl
set_option maxRecDepth 100000 in
theorem tabP : (fun (f : Nat → Option (List (Nat × Nat))) => f 7 = some [(0, 1), (1, 1), (2, 1), (3, 1)] ∧ f 8 = some [(0, 1), (1, 1), (2, 1), (3, 1)] ∧ f 13 = some [(0, 1), (1, 1)] ∧ f 14 = some [(0, 1), (1, 1)] ∧ f 18 = some [(0, 1)] ∧ f 19 = some [(0, 1)] ∧ f 22 = some [(0, 1), (1, 1)] ∧ f 23 = some [(0, 1), (1, 1)] ∧ f 24 = some [(0, 1), (1, 1)] ∧ f 25 = some [(0, 1), (1, 1)] ∧ f 29 = some [(0, 1), (1, 1)] ∧ f 30 = some [(0, 1), (1, 1)] ∧ f 31 = some [(0, 1), (1, 2), (3, 2), (5, 1)] ∧ f 32 = some [(0, 1), (1, 2), (3, 2), (5, 1)] ∧ f 36 = some [(0, 1), (1, 2), (3, 1), (4, 1), (5, 1)] ∧ f 37 = some [(0, 1), (1, 2), (3, 1), (4, 1), (5, 1)] ∧ f 39 = some [(0, 2), (2, 1), (3, 1), (4, 1), (5, 1), (6, 1)] ∧ f 40 = some [(0, 2), (2, 1), (3, 1), (4, 1), (5, 1), (6, 1)] ∧ f 42 = some [(0, 1), (1, 2), (3, 1)] ∧ f 43 = some [(0, 1), (1, 2), (3, 1)] ∧ f 44 = some [(0, 1), (1, 1), (2, 1), (3, 2)] ∧ f 45 = some [(0, 1), (1, 1), (2, 1), (3, 2)] ∧ f 47 = some [(0, 1), (1, 2), (3, 2), (5, 1), (6, 1), (7, 2), (9, 1), (10, 1), (11, 1), (12, 1), (13, 1), (14, 1), (15, 6), (21, 6), (27, 7), (34, 4), (38, 5), (43, 1), (44, 1), (45, 1)] ∧ f 48 = some [(0, 1), (1, 2), (3, 2), (5, 1), (6, 1), (7, 2), (9, 1), (10, 1), (11, 1), (12, 1), (13, 1), (14, 1), (15, 6), (21, 6), (27, 7), (34, 4), (38, 5), (43, 1), (44, 1), (45, 1)] ∧ f 49 = some [(0, 1), (1, 1), (2, 46), (48, 6)] ∧ f 50 = some [(0, 1), (1, 1), (2, 46), (48, 6)] ∧ f 57 = some [(0, 1), (1, 6), (7, 1), (8, 1), (9, 1), (10, 1)] ∧ f 58 = some [(0, 1), (1, 6), (7, 1), (8, 1), (9, 1), (10, 1)] ∧ f 61 = some [(0, 2), (2, 1), (3, 1), (4, 1), (5, 6), (11, 1), (12, 1), (13, 1), (14, 1), (15, 1), (16, 6), (22, 1), (23, 11), (34, 8)] ∧ f 62 = some [(0, 2), (2, 1), (3, 1), (4, 1), (5, 6), (11, 1), (12, 1), (13, 1), (14, 1), (15, 1), (16, 6), (22, 1), (23, 11), (34, 8)] ∧ f 66 = some [(0, 1), (1, 6), (7, 1), (8, 1), (9, 1), (10, 1)] ∧ f 80 = some [(0, 6), (6, 1)] ∧ f 81 = some [(0, 6), (6, 1)] ∧ f 88 = some [(0, 1), (1, 1), (2, 1), (3, 1), (4, 1)] ∧ f 89 = some [(0, 1), (1, 1), (2, 1), (3, 1), (4, 1)] ∧ f 96 = some [(0, 1), (1, 1), (2, 1), (3, 1), (4, 1)] ∧ f 97 = some [(0, 1), (1, 1), (2, 1), (3, 1), (4, 1)] ∧ f 98 = some [(0, 1), (1, 1), (2, 1), (3, 1)] ∧ f 99 = some [(0, 1), (1, 1), (2, 1), (3, 1)] ∧ f 100 = some [(0, 1), (1, 1), (2, 1), (3, 1), (4, 1), (5, 1)] ∧ f 101 = some [(0, 1), (1, 1), (2, 1), (3, 1), (4, 1), (5, 1)] ∧ f 102 = some [(0, 1), (1, 1), (2, 1), (3, 1)] ∧ f 103 = some [(0, 1), (1, 1), (2, 1), (3, 1)] ∧ f 117 = some [(0, 1), (1, 2), (3, 1)] ∧ f 118 = some [(0, 1), (1, 2), (3, 1)] ∧ f 121 = some [(0, 1), (1, 1), (2, 1), (3, 2)] ∧ f 122 = some [(0, 1), (1, 1), (2, 1), (3, 2)] ∧ f 140 = some [(0, 1), (1, 1), (2, 1)] ∧ f 141 = some [(0, 1), (1, 1), (2, 1)] ∧ f 143 = some [(0, 1), (1, 1)] ∧ f 144 = some [(0, 1), (1, 1)] ∧ f 146 = some [(0, 1), (1, 1), (2, 1), (3, 4), (7, 4)] ∧ f 147 = some [(0, 1), (1, 1), (2, 1), (3, 4), (7, 4)] ∧ f 199 = some [(0, 1), (1, 1), (2, 1)] ∧ f 200 = some [(0, 1), (1, 1), (2, 1)] ∧ f 210 = some [(0, 5), (5, 1), (6, 1), (7, 1)] ∧ f 211 = some [(0, 5), (5, 1), (6, 1), (7, 1)] ∧ f 213 = some [] ∧ f 214 = some [] ∧ f 215 = some [] ∧ f 216 = some [(0, 0), (0, 1)] ∧ f 217 = some [(0, 0), (0, 1)] ∧ f 218 = some [(0, 1), (1, 1)] ∧ f 219 = some [(0, 1), (1, 1)] ∧ f 220 = some [(0, 0), (0, 2)] ∧ f 221 = some [(0, 0), (0, 2)] ∧ f 222 = some [(0, 0), (0, 1), (1, 2)] ∧ f 223 = some [(0, 0), (0, 1), (1, 2)] ∧ f 225 = some [] ∧ f 226 = some [(0, 0), (0, 0), (0, 1)] ∧ f 227 = some [(0, 0), (0, 0), (0, 1)] ∧ f 228 = some [(0, 3), (3, 256), (259, 1)] ∧ f 229 = some [(0, 3), (3, 256), (259, 1)] ∧ f 259 = some [(0, 1), (1, 1), (2, 1), (3, 1)] ∧ f 260 = some [(0, 1), (1, 1), (2, 1), (3, 1)] ∧ f 262 = some [(0, 0)] ∧ f 263 = some [(0, 0)] ∧ f 270 = some [(0, 1), (1, 1), (2, 1), (3, 1), (4, 1), (5, 1), (6, 1), (7, 1), (8, 1), (9, 1), (10, 1)] ∧ f 271 = some [(0, 1), (1, 1), (2, 1), (3, 1), (4, 1), (5, 1), (6, 1), (7, 1), (8, 1), (9, 1), (10, 1)]) (placesOf (tabOf Tryz.prog NT0)) := by (repeat' apply And.intro) <;> kernel_rfl
end Go.Proofs.YtohbdgddnkoenaaGreat.Ex
end

section

set_option linter.unusedSimpArgs false
set_option linter.unusedVariables false
namespace Go.Proofs.YtohbdgddnkoenaaGreat.Ex
open Go
def S00 : Sums := fun _ => none
section
variable {P : Program} {T : TT} {S : Sums} {t : TM} {h : AH} {d : Option Tmp} {ty : TypeId} {ps : String} {af : Array Edge} {g : Option (Nat × Bool)} {k k' : IntKind} {a b : Int} {e : TypeId}
def xorI (k : IntKind) (a b : Int) : Int := k.wrap ((BitVec.ofInt k.bits a ^^^ BitVec.ofInt k.bits b).toNat : Int)
def andI (k : IntKind) (a b : Int) : Int := k.wrap ((BitVec.ofInt k.bits a &&& BitVec.ofInt k.bits b).toNat : Int)
def orI (k : IntKind) (a b : Int) : Int := k.wrap ((BitVec.ofInt k.bits a ||| BitVec.ofInt k.bits b).toNat : Int)
def shlI (k : IntKind) (a b : Int) : Int := k.wrap (a * 2 ^ min b.toNat k.bits)
def shrI (k : IntKind) (a b : Int) : Int := a.fdiv (2 ^ min b.toNat k.bits)
theorem pb_xor : pur P (binOp .xor e (.int k a) (.int k b)) = some (.ok (.int k (xorI k a b))) := by simp [binOp, Op.intBits, xorI]; rfl
theorem pb_and : pur P (binOp .and e (.int k a) (.int k b)) = some (.ok (.int k (andI k a b))) := by simp [binOp, Op.intBits, andI]; rfl
theorem pb_or : pur P (binOp .or e (.int k a) (.int k b)) = some (.ok (.int k (orI k a b))) := by simp [binOp, Op.intBits, orI]; rfl
theorem pb_shl (hb : 0 ≤ b) : pur P (binOp .shl e (.int k a) (.int k' b)) = some (.ok (.int k (shlI k a b))) := by
  have : ¬ b < 0 := by omega
  simp [binOp, Op.shift, shlI, this]; rfl
theorem pb_shr (hb : 0 ≤ b) : pur P (binOp .shr e (.int k a) (.int k' b)) = some (.ok (.int k (shrI k a b))) := by
  have : ¬ b < 0 := by omega
  simp [binOp, Op.shift, shrI, this]; rfl
theorem pb_quo (hb : ¬ b = 0) : pur P (binOp .quo e (.int k a) (.int k b)) = some (.ok (.int k (k.wrap (a.tdiv b)))) := by simp [binOp, Op.intDiv, hb]; rfl
theorem pb_rem (hb : ¬ b = 0) : pur P (binOp .rem e (.int k a) (.int k b)) = some (.ok (.int k (a.tmod b))) := by simp [binOp, Op.intDiv, hb]; rfl
def aNilR (P : Program) (o : Oper) (t : TM) (h : AH) (x : Operand) : AR := aNilCheck P o t h x
theorem a_nil {i : Nat} : aop P T ⟨d, .nilCheck (.tmp i), ty, ps, af, g⟩ t h = (match t.get i with
    | .ptr b off => some (.val (.ptr b off), h)
    | _ => aNilR P ⟨d, .nilCheck (.tmp i), ty, ps, af, g⟩ t h (.tmp i)) := by
  show aNilCheck _ _ _ _ _ = _
  split
  · rename_i b off hb
    unfold aNilCheck
    rw [ev_tmp, hb]
  · rfl
theorem tri_comm {α : Type} (dd : α) : ∀ (f f' : Nat) (t : Tri α) (k j : Nat) (x y : α), 1 ≤ k → 1 ≤ j → k ≠ j → k < 2 ^ f → j < 2 ^ f' → Tri.put dd f (Tri.put dd f' t j y) k x = Tri.put dd f' (Tri.put dd f t k x) j y
  | 0, _, _, _, _, _, _, h1, _, _, h2, _ => by simp at h2; omega
  | _ + 1, 0, _, _, _, _, _, _, h1, _, _, h2 => by simp at h2; omega
  | f + 1, f' + 1, t, k, j, x, y, hk, hj, hne, h1, h2 => by
    have e1 : k / 2 < 2 ^ f := by rw [Nat.pow_succ] at h1; omega
    have e2 : j / 2 < 2 ^ f' := by rw [Nat.pow_succ] at h2; omega
    have key := fun t => tri_comm dd f f' t (k / 2) (j / 2) x y
    simp only [Tri.put]
    cases hk1 : Nat.ble k 1 <;> cases hj1 : Nat.ble j 1 <;> cases hk2 : Nat.beq (k % 2) 0 <;> cases hj2 : Nat.beq (j % 2) 0 <;> simp only [cond_true, cond_false, Tri.lt, Tri.rt, Tri.top, Tri.n.injEq, true_and, and_true]
    all_goals first
      | (exfalso; have := Nat.ble_eq.mp hk1; have := Nat.ble_eq.mp hj1; omega)
      | skip
    all_goals
      have g1 : ¬ k ≤ 1 := fun h => by rw [Nat.ble_eq.mpr h] at hk1; cases hk1
      have g2 : ¬ j ≤ 1 := fun h => by rw [Nat.ble_eq.mpr h] at hj1; cases hj1
    · have p1 : ¬ k % 2 = 0 := fun h => by rw [h] at hk2; cases hk2
      have p2 : ¬ j % 2 = 0 := fun h => by rw [h] at hj2; cases hj2
      exact key _ (by omega) (by omega) (by omega) e1 e2
    · have p1 := Nat.eq_of_beq_eq_true hk2
      have p2 := Nat.eq_of_beq_eq_true hj2
      exact key _ (by omega) (by omega) (by omega) e1 e2
theorem put_push_eq {b : Nat} {x y : AB} (hb : b = h.n) : (h.push x).put b y = h.push y := by subst hb; exact put_push
theorem put_push_lt {b : Nat} {x y : AB} (hb : b < h.n) : (h.push x).put b y = (h.put b y).push x := by
  unfold AH.put AH.push vPut vPush
  simp only
  rw [show Nat.blt b (h.n + 1) = true from Nat.blt_eq.mpr (by omega), show Nat.blt b h.n = true from Nat.blt_eq.mpr hb]
  simp only [cond_true]
  rw [tri_comm _ _ _ _ _ _ _ _ (by omega) (by omega) (by omega) (log2_lt _ (by omega)) (log2_lt _ (by omega))]
theorem lt_a1 {n : Nat} : n < n + 1 := Nat.lt_succ_self n
theorem lt_a2 {n : Nat} : n < n + 1 + 1 := by omega
theorem lt_a3 {n : Nat} : n < n + 1 + 1 + 1 := by omega
theorem lt_a4 {n : Nat} : n < n + 1 + 1 + 1 + 1 := by omega
theorem lt_a5 {n : Nat} : n < n + 1 + 1 + 1 + 1 + 1 := by omega
theorem lt_a6 {n : Nat} : n < n + 1 + 1 + 1 + 1 + 1 + 1 := by omega
theorem lt_a7 {n : Nat} : n < n + 1 + 1 + 1 + 1 + 1 + 1 + 1 := by omega
theorem res_cell {i : Nat} {r : List ResultVar} : resultsA T h t (.cell i ty :: r) = (match t.get i, resultsA T h t r with
    | .ptr b off, some l => (loadA T h ty b off).map (· :: l)
    | _, _ => none) := rfl
/-- A pointer held against nil. -/
def isPtrT (T : TT) (t : TypeId) : Bool := match und T t with
  | some (.pointer _) => true
  | _ => false
theorem pn_none {o : Oper} {i : Nat} {b off : Nat} {op : BinOp} {f : TypeId} (ho : o.op = .binOp op e (.tmp i) (.const (.pointer none)) f) (hv : t.get i = .ptr b off) : litOp P o t = none := by
  unfold litOp
  rw [ho, if_neg]
  simp [Op.operands, litAll, ev_tmp, hv, toVal]
theorem a_eqnilp {i : Nat} {f : TypeId} (hT : isPtrT T e = true) : aop P T ⟨d, .binOp .eql e (.tmp i) (.const (.pointer none)) f, ty, ps, af, g⟩ t h = (match t.get i with
    | .ptr _ _ => some (.val (.lit (.bool false)), h)
    | _ => aBin P T ⟨d, .binOp .eql e (.tmp i) (.const (.pointer none)) f, ty, ps, af, g⟩ t h .eql e (.tmp i) (.const (.pointer none))) := by
  rw [a_bin]
  split
  · rename_i b off hv
    unfold isPtrT at hT
    split at hT
    case h_2 => cases hT
    rename_i el hu
    unfold aBin
    simp only [ev_tmp, hv, ev_nilp]
    simp only [orLit, pn_none (o := ⟨d, .binOp .eql e (.tmp i) (.const (.pointer none)) f, ty, ps, af, g⟩) rfl hv, aSame, hu, ev_tmp, hv, ev_nilp, sameA]
  · rfl
theorem a_nenilp {i : Nat} {f : TypeId} (hT : isPtrT T e = true) : aop P T ⟨d, .binOp .neq e (.tmp i) (.const (.pointer none)) f, ty, ps, af, g⟩ t h = (match t.get i with
    | .ptr _ _ => some (.val (.lit (.bool true)), h)
    | _ => aBin P T ⟨d, .binOp .neq e (.tmp i) (.const (.pointer none)) f, ty, ps, af, g⟩ t h .neq e (.tmp i) (.const (.pointer none))) := by
  rw [a_bin]
  split
  · rename_i b off hv
    unfold isPtrT at hT
    split at hT
    case h_2 => cases hT
    rename_i el hu
    unfold aBin
    simp only [ev_tmp, hv, ev_nilp]
    simp only [orLit, pn_none (o := ⟨d, .binOp .neq e (.tmp i) (.const (.pointer none)) f, ty, ps, af, g⟩) rfl hv, aSame, hu, ev_tmp, hv, ev_nilp, sameA]
    rfl
  · rfl
/-- An array's element, of values that are known. -/
theorem a_index_lit {i j : Nat} {vx vy vr : Value} {ar : AV} (hx : toVal (t.get i) = some vx) (hy : toVal (t.get j) = some vy)
    (he : pur P (Instr.index e vx vy) = some (.ok vr)) (hr : ofVal vr = some ar) : aop P T ⟨d, .index e (.tmp i) (.tmp j), ty, ps, af, g⟩ t h = some (.val ar, h) := by
  have key : ∀ (f : Value → Sem Next), pur P (Instr.index e vx vy >>= f) = pur P (f vr) := fun f => by
    generalize Instr.index e vx vy = s at he
    induction s with
    | pure x => simp [pur] at he; subst he; rfl
    | halt r => cases r <;> simp [pur] at he
    | program k ih => exact ih P he
    | mark e k ih => exact ih he
    | _ => simp [pur] at he
  have h0 : litOp P ⟨d, .index e (.tmp i) (.tmp j), ty, ps, af, g⟩ t = some (.val ar) := by
    unfold litOp
    rw [if_pos (by simp [notSelect, Op.operands, litAll, ev_tmp, hx, hy])]
    have e1 : litEnv t (.tmp i) = vx := by simp [litEnv, ev_tmp, hx]
    have e2 : litEnv t (.tmp j) = vy := by simp [litEnv, ev_tmp, hy]
    simp only [execOp, e1, e2, key]
    show ofPR (some (.ok (.value vr))) = _
    simp only [ofPR, hr, Option.map_some]
  show aIndex _ _ _ _ _ _ _ _ = _
  unfold aIndex orLit
  rw [h0]
def strAt (s : ByteArray) (n : Int) : Option Nat := if 0 ≤ n then (s[n.toNat]?).map (·.toNat) else none
def isStrT (T : TT) (t : TypeId) : Bool := match und T t with
  | some .string => true
  | _ => false
theorem index_str_run {N : NT} {s : ByteArray} {n : Int} {b : Nat} (hT : isStrT (tabOf P N) e = true) (hb : strAt s n = some b) : pur P (Instr.index e (.string s) (.int k n)) = some (.ok (.int .u8 b)) := by
  have hu : und (tabOf P N) e = some .string := by
    unfold isStrT at hT
    split at hT
    · assumption
    · cases hT
  have hP : P.underlying e = some .string := by
    have := und_tab hu
    cases hq : P.underlying e with
    | none => rw [hq] at this; cases this
    | some x => rw [hq] at this; exact congrArg some this
  have u1 : ∀ {α : Type} (f : TypeDesc → Sem α), pur P (underlying e >>= f) = pur P (f .string) := fun f => by
    show pur P ((match P.underlying e with | some d => pure d | none => stuck "no such type") >>= f) = _
    rw [hP]
    rfl
  unfold Instr.index
  show pur P (underlying e >>= _) = _
  rw [u1]
  unfold strAt at hb
  split at hb
  case isFalse => cases hb
  rename_i h0
  obtain ⟨c, hc, rfl⟩ := Option.map_eq_some_iff.1 hb
  simp only [if_pos h0, hc]
  rfl
/-- A text's byte. -/
def aIdxR (P : Program) (T : TT) (o : Oper) (t : TM) (h : AH) (e : TypeId) (x y : Operand) : AR := aIndex P T o t h e x y
theorem idx_str {N : NT} {x y : Operand} {s : ByteArray} {n : Int} {b : Nat} (hT : isStrT (tabOf P N) e = true) (hx : evalA t x = some (.lit (.string s))) (hy : evalA t y = some (.lit (.int k n))) (hb : strAt s n = some b) : aop P (tabOf P N) ⟨d, .index e x y, ty, ps, af, g⟩ t h = some (.val (.lit (.int .u8 b)), h) := by
  have he := index_str_run (P := P) (k := k) hT hb
  have key : ∀ (f : Value → Sem Next), pur P (Instr.index e (.string s) (.int k n) >>= f) = pur P (f (.int .u8 b)) := fun f => by
    generalize Instr.index e (.string s) (.int k n) = s at he
    induction s with
    | pure x => simp [pur] at he; subst he; rfl
    | halt r => cases r <;> simp [pur] at he
    | program k ih => exact ih P he
    | mark e k ih => exact ih he
    | _ => simp [pur] at he
  have h0 : litOp P ⟨d, .index e x y, ty, ps, af, g⟩ t = some (.val (.lit (.int .u8 b))) := by
    unfold litOp
    rw [if_pos (by simp [notSelect, Op.operands, litAll, hx, hy, toVal])]
    have e1 : litEnv t x = .string s := by simp [litEnv, hx, toVal]
    have e2 : litEnv t y = .int k n := by simp [litEnv, hy, toVal]
    simp only [execOp, e1, e2, key]
    rfl
  show aIndex _ _ _ _ _ _ _ _ = _
  unfold aIndex orLit
  rw [h0]
theorem a_idx_cs {N : NT} {s : ByteArray} {j : Nat} (hT : isStrT (tabOf P N) e = true) : aop P (tabOf P N) ⟨d, .index e (.const (.string s)) (.tmp j), ty, ps, af, g⟩ t h = (match t.get j with
    | .lit (.int _ n) => (match strAt s n with
      | some b => some (.val (.lit (.int .u8 b)), h)
      | none => aIdxR P (tabOf P N) ⟨d, .index e (.const (.string s)) (.tmp j), ty, ps, af, g⟩ t h e (.const (.string s)) (.tmp j))
    | _ => aIdxR P (tabOf P N) ⟨d, .index e (.const (.string s)) (.tmp j), ty, ps, af, g⟩ t h e (.const (.string s)) (.tmp j)) := by
  split
  · rename_i k n hy
    split
    · rename_i b hb
      exact idx_str hT rfl (by rw [ev_tmp, hy]) hb
    · rfl
  · rfl
def aConR (P : Program) (T : TT) (o : Oper) (t : TM) (h : AH) (src dst : TypeId) (x : Operand) : AR := aConvert P T o t h src dst x
/-- A number of another kind. -/
theorem a_conv {src dst i : Nat} : aop P T ⟨d, .convert src dst (.tmp i), ty, ps, af, g⟩ t h = (match t.get i, und T src, und T dst with
    | .lit (.int _ n), some _, some (.int k') => some (.val (.lit (.int k' (k'.wrap n))), h)
    | _, _, _ => aConR P T ⟨d, .convert src dst (.tmp i), ty, ps, af, g⟩ t h src dst (.tmp i)) := by
  show aConvert _ _ _ _ _ _ _ _ = _
  split
  · rename_i k n d' k' h1 h2 h3
    unfold aConvert
    rw [ev_tmp, h1, h2, h3]
  · rfl
theorem a_mkf {f : Fn} {xs ys : Array Operand} : aop P T ⟨d, .makeFunc f xs ys, ty, ps, af, g⟩ t h = aMakeFunc t h f xs ys := rfl
/-- A loop by goto. -/
theorem WB_again {E : FE} {k : List AI} {K : KK} (Inv : Nat → TM → AH → Prop) (n : Nat)
    (step : ∀ n t h, Inv n t h → (∀ m t' h', m < n → Inv m t' h' → WB P T S E t' k h' K) → WB P T S E t k h K) : ∀ t h, Inv n t h → WB P T S E t k h K := by
  induction n using Nat.strongRecOn with
  | _ n ih => exact fun t h hi => step n t h hi fun m t' h' hm hi' => ih m hm t' h' hi'
theorem WB_lab {E : FE} {l : Nat} {k k' : List AI} {K : KK} (hk : gotoA l k = some k') (hs : ∀ t h, WB P T S E t k' h K = WB P T S E t k h K) (Inv : Nat → TM → AH → Prop) (n : Nat)
    (step : ∀ n t h, Inv n t h → (∀ m t' h', m < n → Inv m t' h' → WGoto P T S E t' h' K (gotoA l k)) → WB P T S E t k h K) : ∀ t h, Inv n t h → WB P T S E t (.code (.label l) :: k) h K := by
  intro t h hi
  rw [WB_label]
  rw [hk] at step
  have := WB_again (k := k') Inv n (fun n t h hi ih => by rw [hs]; exact step n t h hi ih) t h hi
  rw [hs] at this
  exact this
end
theorem wrap_in {n : Int} (h1 : -9223372036854775808 ≤ n) (h2 : n < 9223372036854775808) : IntKind.i64.wrap n = n := IntWalk.i64_in _ ⟨h1, by omega⟩
theorem wrap_u32 {n : Int} (h1 : 0 ≤ n) (h2 : n < 4294967296) : IntKind.u32.wrap n = n := by
  unfold IntKind.wrap
  simp [IntKind.bits, IntKind.signed]
  omega
theorem wrap_u64 {n : Int} (h1 : 0 ≤ n) (h2 : n < 18446744073709551616) : IntKind.u64.wrap n = n := by
  unfold IntKind.wrap
  simp [IntKind.bits, IntKind.signed]
  omega
theorem wrap_succ {i n : Nat} (h : i < n) (hn : n < 9223372036854775808) : IntKind.i64.wrap ((i : Int) + 1) = ((i + 1 : Nat) : Int) := (wrap_in (by omega) (by omega)).trans (by omega)
end Go.Proofs.YtohbdgddnkoenaaGreat.Ex
end

section

set_option linter.unusedSimpArgs false
set_option linter.unusedVariables false
namespace Go.Proofs.YtohbdgddnkoenaaGreat.Ex
open Go Go.RowKit
variable {P : Program} {ρ : Nat → Value} {fl : Nat}
mutual
theorem rel.back {μ μ1 : Mu} {w w1 : World} (hm : More μ μ1) : ∀ (a : AV) (v0 v : Value), rel ρ μ w a v0 → rel ρ μ1 w1 a v → rel ρ μ w1 a v
  | .lit _, _, _, _, h => by unfold rel at h ⊢; exact h
  | .ptr b off, _, _, h0, h => by
    unfold rel at h0 h ⊢
    obtain ⟨r, base, e0, _⟩ := h0
    obtain ⟨r', base', e1, e2⟩ := h
    rw [hm _ _ e0] at e1
    cases e1
    exact ⟨r, base, e0, e2⟩
  | .sl b off len cap, _, _, h0, h => by
    unfold rel at h0 h ⊢
    rcases h with ⟨r', base', o', c', e1, e2, e3, e4⟩ | h
    · rcases h0 with ⟨r, base, o, c, e0, _⟩ | ⟨rfl, rfl, _⟩
      · rw [hm _ _ e0] at e1
        cases e1
        exact .inl ⟨_, _, o', c', e0, e2, e3, e4⟩
      · obtain ⟨rfl, _, _⟩ := e4
        exact .inr ⟨rfl, rfl, _, e2⟩
    · exact .inr h
  | .mp b, _, _, h0, h => by
    unfold rel at h0 h ⊢
    obtain ⟨r, e0, _⟩ := h0
    obtain ⟨r', e1, e2⟩ := h
    rw [hm _ _ e0] at e1
    cases e1
    exact ⟨r, e0, e2⟩
  | .agg l, _, _, h0, h => by
    unfold rel at h0 h ⊢
    obtain ⟨l0, _, h0⟩ := h0
    obtain ⟨l', e, h⟩ := h
    exact ⟨l', e, rels.back hm l l0 l' h0 h⟩
  | .tup l, _, _, h0, h => by
    unfold rel at h0 h ⊢
    obtain ⟨l0, _, h0⟩ := h0
    obtain ⟨l', e, h⟩ := h
    exact ⟨l', e, rels.back hm l l0 l' h0 h⟩
  | .ifc t a, _, _, h0, h => by
    unfold rel at h0 h ⊢
    obtain ⟨u0, _, h0⟩ := h0
    obtain ⟨u, e, h⟩ := h
    exact ⟨u, e, rel.back hm a u0 u h0 h⟩
  | .fn f a b, _, _, h0, h => by
    unfold rel at h0 h ⊢
    obtain ⟨f0, a0, b0, _, g0, h1, h2⟩ := h0
    obtain ⟨f', a', b', e, g, h3, h4⟩ := h
    refine ⟨f', a', b', e, ?_, rels.back hm a a0 a' h1 h3, rels.back hm b b0 b' h2 h4⟩
    cases f <;> first
      | exact g
      | (obtain ⟨r, e0, _⟩ := g0
         obtain ⟨r', e1, e2⟩ := g
         rw [hm _ _ e0] at e1
         cases e1
         exact ⟨r, e0, e2⟩)
  | .ext _, _, _, _, h => by unfold rel at h ⊢; exact h
  | .any, _, _, _, h => by unfold rel at h ⊢; exact h
  | .rng _ _ _, _, _, _, h => by unfold rel at h ⊢; exact h
theorem rels.back {μ μ1 : Mu} {w w1 : World} (hm : More μ μ1) : ∀ (a : List AV) (v0 v : List Value), rels ρ μ w a v0 → rels ρ μ1 w1 a v → rels ρ μ w1 a v
  | [], _, _, _, h => by unfold rels at h ⊢; exact h
  | x :: xs, _, _, h0, h => by
    unfold rels at h0 h ⊢
    obtain ⟨a0, r0, _, p0, q0⟩ := h0
    obtain ⟨a, r1, e, p, q⟩ := h
    exact ⟨a, r1, e, rel.back hm x a0 a p0 p, rels.back hm xs r0 r1 q0 q⟩
end
theorem window.back {μ μ1 : Mu} {w w1 : World} (hm : More μ μ1) {base base1 : Nat} {l : List AV} {c0 c1 : Array Value} (h0 : window ρ μ w base l c0) (h1 : window ρ μ1 w1 base1 l c1) : window ρ μ w1 base1 l c1 :=
  ⟨h1.1, fun i x hx => by
    obtain ⟨v0, _, a⟩ := h0.2 i x hx
    obtain ⟨v, e, b⟩ := h1.2 i x hx
    exact ⟨v, e, rel.back hm x v0 v a b⟩⟩
theorem entsRel.back {μ μ1 : Mu} {w w1 : World} (hm : More μ μ1) : ∀ {l : List AE} {m0 m1 : List MapEntry}, entsRel ρ μ w l m0 → entsRel ρ μ1 w1 l m1 → entsRel ρ μ w1 l m1
  | [], _, _, _, h => h
  | a :: r, _, _, h0, h => by
    obtain ⟨e0, es0, _, ⟨_, _, p0, _⟩, q0⟩ := h0
    obtain ⟨e, es, rfl, ⟨g1, g2, p, g4⟩, q⟩ := h
    exact ⟨e, es, rfl, ⟨g1, g2, rel.back hm _ _ _ p0 p, g4⟩, entsRel.back hm q0 q⟩
theorem objRel.back {μ μ1 : Mu} {w w1 : World} (hm : More μ μ1) {base base1 : Nat} {ab : AB} {o0 o1 : Obj} (h0 : objRel P ρ μ w base ab o0) (h1 : objRel P ρ μ1 w1 base1 ab o1) : objRel P ρ μ w1 base1 ab o1 := by
  cases ab with
  | cells l e =>
    obtain ⟨c0, _, a, _⟩ := h0
    obtain ⟨c1, e1, b, c⟩ := h1
    exact ⟨c1, e1, a.back hm b, c⟩
  | frz l e =>
    obtain ⟨c0, _, _, a⟩ := h0
    obtain ⟨c1, fz, e1, b⟩ := h1
    exact ⟨c1, fz, e1, a.back hm b⟩
  | map es clock =>
    obtain ⟨m0, _, _, a⟩ := h0
    obtain ⟨m1, e1, e2, b⟩ := h1
    exact ⟨m1, e1, e2, a.back hm b⟩
  | loop a =>
    obtain ⟨l0, _, _, _, _, _, q0, _⟩ := h0
    obtain ⟨l1, e1, e2, p1, p2, p3, q1, p4, p5, p6⟩ := h1
    exact ⟨l1, e1, e2, p1, p2, p3, rels.back hm _ _ _ q0 q1, p4, p5, p6⟩
  | iter m since seen last =>
    obtain ⟨_, m0, _, q0⟩ := h0
    obtain ⟨e0, m1, e1, q1⟩ := h1
    refine ⟨e0, m1, e1, ?_⟩
    cases m with
    | none => exact q1
    | some b =>
      obtain ⟨r0, g0, _⟩ := q0
      obtain ⟨r1, g1, g2⟩ := q1
      rw [hm _ _ g0] at g1
      cases g1
      exact ⟨r0, g0, g2⟩
  | siter s pos => exact h1
  | defd => exact h1
  | gone => trivial
/-- New blocks of which nobody knows are forgotten. -/
theorem EffL.forget {μ μ1 : Mu} {h h1 : List AB} {w w1 : World} (hr : HRL P ρ fl μ h w) (q : EffL P ρ fl μ h w μ1 h1 w1) (hl : ∀ b, b < h.length → h1[b]? = h[b]?) : EffL P ρ fl μ h w μ h w1 := by
  refine ⟨More.refl μ, Nat.le_refl _, fun b x e1 e2 => (by rw [e1] at e2; cases e2), fun _ _ _ => rfl, fun _ e => e, fun _ _ _ e => e, q.grows, q.size, fun b r base e1 e2 => (by rw [e1] at e2; cases e2), q.rest, q.same, ?_⟩
  refine ⟨q.hr.floor, hr.dom, fun b r base ab e1 e2 => ?_, hr.inj, hr.pin.more (More.refl μ) q.grows⟩
  have hb := hr.dom b _ e1
  obtain ⟨p1, p2, o1, p3, p4⟩ := q.hr.obj b r base ab (q.more _ _ e1) (by rw [hl b hb]; exact e2)
  obtain ⟨_, _, o0, _, g4⟩ := hr.obj b r base ab e1 e2
  exact ⟨p1, p2, o1, p3, g4.back q.more p4⟩
theorem Eff.forget {μ μ1 : Mu} {h h1 : AH} {w w1 : World} (hr : HR P ρ fl μ h w) (q : Eff P ρ fl μ h w μ1 h1 w1) (he : Ext h.n h h1) : Eff P ρ fl μ h w μ h w1 :=
  EffL.forget hr q fun b hb => by
    rw [L_at, L_at]
    exact he.2 b (by rw [show h.L.length = h.n from vL_n _ _] at hb; exact hb)
theorem sums_ok00 (ρ : Nat → Value) (fl : Nat) : SumsOK P ρ fl S00 := by
  intro f g args h v h' hs
  cases hs
/-- A contract, of one outcome or of several, told of the real machine. -/
theorem calls_of_wcm {T : TT} {S : Sums} (hT : TT.Sound P T) (hNG : NoNG P) (hMix : P.follows .mixedOrders = true) (hS : SumsOK P ρ fl S) {f : FuncId} {args : List AV} {h : AH} {Q : AV → AH → Prop}
    (hw : WCm P T S f args h Q) {μ : Mu} {w : World} {args' : List Value} (hr : HR P ρ fl μ h w) (ha : rels ρ μ w args args') :
    Calls P f args'.toArray w fun e w' => ∃ v h' μ' v', Q v h' ∧ e = .returned v' ∧ Eff P ρ fl μ h w μ' h' w' ∧ rel ρ μ' w' v v' := by
  obtain ⟨n, L, hex, -, hq⟩ := hw
  intro cs
  obtain ⟨_, h2⟩ := ex_ok hT hNG hMix hS n _ _ _ hex
  obtain ⟨e, cm, h', hm, hcs, μ', w', f', cs', q1, q2, q3, q4⟩ := h2 _ w cs args' hr ha trivial
  obtain ⟨v, cm2, he, hv⟩ := hq _ hm
  cases he
  cases cm with
  | some m => cases hcs
  | none =>
    have q4 : cs' = cs := q4
    subst q4
    obtain ⟨r1, r2, r3, r4, fn, v', r5, r6, r7⟩ := q3
    exact ⟨.returned v', w', f', ⟨v, h', μ', v', hv, rfl, q1, r7⟩, q2, r1, r4, r2, r3, fn, by rw [r1]; exact r5, r6⟩
/-- A contract that gives a plain value and changes nothing that is seen. -/
theorem sum_of_wcm {T : TT} {S : Sums} (hT : TT.Sound P T) (hNG : NoNG P) (hMix : P.follows .mixedOrders = true) (hS : SumsOK P ρ fl S) {f : FuncId} {args : List AV} {h : AH} {x : Value} (hx : scal x = true)
    (hw : WCm P T S f args h fun r h' => Ext h.n h h' ∧ r = .lit x) {μ : Mu} {w : World} {args' : List Value} (hr : HR P ρ fl μ h w) (ha : rels ρ μ w args args') :
    Calls P f args'.toArray w fun e w' => ∃ μ' v', e = .returned v' ∧ Eff P ρ fl μ h w μ' h w' ∧ rel ρ μ' w' (.lit x) v' := by
  refine (calls_of_wcm hT hNG hMix hS hw hr ha).mono fun e w' hy => ?_
  obtain ⟨v, h', μ', v', ⟨he, rfl⟩, rfl, q1, q2⟩ := hy
  exact ⟨μ, v', rfl, q1.forget hr he, by rw [rel_lit_inv q2]; exact rel_lit hx⟩
theorem sum_of_wc {T : TT} {S : Sums} (hT : TT.Sound P T) (hNG : NoNG P) (hMix : P.follows .mixedOrders = true) (hS : SumsOK P ρ fl S) {f : FuncId} {args : List AV} {h : AH} {x : Value} (hx : scal x = true)
    (hw : WC P T S f args h fun r h' => Ext h.n h h' ∧ r = .lit x) {μ : Mu} {w : World} {args' : List Value} (hr : HR P ρ fl μ h w) (ha : rels ρ μ w args args') :
    Calls P f args'.toArray w fun e w' => ∃ μ' v', e = .returned v' ∧ Eff P ρ fl μ h w μ' h w' ∧ rel ρ μ' w' (.lit x) v' := sum_of_wcm hT hNG hMix hS hx hw.toM hr ha
end Go.Proofs.YtohbdgddnkoenaaGreat.Ex
end

section

set_option linter.unusedSimpArgs false
set_option linter.unusedVariables false
namespace Go.Proofs.YtohbdgddnkoenaaGreat.Ex
open Go Go.RowKit
def sameLs : List AV → List AV → Bool
  | [], [] => true
  | a :: l, b :: m => AV.same 8 a b && sameLs l m
  | _, _ => false
theorem sameLs_eq : ∀ {l m : List AV}, sameLs l m = true → l = m
  | [], [], _ => rfl
  | a :: l, b :: m, h => by
    simp only [sameLs, Bool.and_eq_true] at h
    rw [same_sound 8 a b h.1, sameLs_eq h.2]
  | [], _ :: _, h => by cases h
  | _ :: _, [], h => by cases h
def sameEs : List AE → List AE → Bool
  | [], [] => true
  | a :: l, b :: m => (AV.same 8 (.lit a.key) (.lit b.key) && AV.same 8 a.val b.val && Nat.beq a.born b.born) && sameEs l m
  | _, _ => false
theorem sameEs_eq : ∀ {l m : List AE}, sameEs l m = true → l = m
  | [], [], _ => rfl
  | ⟨k, v, n⟩ :: l, ⟨k', v', n'⟩ :: m, h => by
    simp only [sameEs, Bool.and_eq_true] at h
    obtain ⟨⟨⟨h1, h2⟩, h3⟩, h4⟩ := h
    have h1 := same_sound 8 _ _ h1
    have h2 := same_sound 8 _ _ h2
    have h3 := Nat.eq_of_beq_eq_true h3
    cases h1; cases h2; cases h3
    rw [sameEs_eq h4]
  | [], _ :: _, h => by cases h
  | _ :: _, [], h => by cases h
def sameO : Option AB → Option AB → Bool
  | some (.cells l e), some (.cells m e') => Nat.beq e e' && sameLs l m
  | some (.frz l e), some (.frz m e') => Nat.beq e e' && sameLs l m
  | some (.map l c), some (.map m c') => Nat.beq c c' && sameEs l m
  | some (.iter m s l k), some (.iter m' s' l' k') => decide (m = m' ∧ s = s' ∧ l = l' ∧ k = k')
  | some .defd, some .defd => true
  | some .gone, some .gone => true
  | none, none => true
  | _, _ => false
theorem sameO_eq {a b : Option AB} (h : sameO a b = true) : a = b := by
  unfold sameO at h
  split at h
  · simp only [Bool.and_eq_true] at h
    rw [Nat.eq_of_beq_eq_true h.1, sameLs_eq h.2]
  · simp only [Bool.and_eq_true] at h
    rw [Nat.eq_of_beq_eq_true h.1, sameLs_eq h.2]
  · simp only [Bool.and_eq_true] at h
    rw [Nat.eq_of_beq_eq_true h.1, sameEs_eq h.2]
  · obtain ⟨rfl, rfl, rfl, rfl⟩ := of_decide_eq_true h
    rfl
  · rfl
  · rfl
  · rfl
  · cases h
def isLp : Option AB → Bool
  | some (.loop _) => true
  | _ => false
/-- One block of the heap that is told. -/
def meet1 (n0 : Nat) (h1 : AH) (r : List AH) (b : Nat) (m : AH) : Option AH :=
  bif Nat.blt b n0 then bif r.all (fun h => sameO (h1.at b) (h.at b)) then some m else none
  else bif !isLp (h1.at b) && r.all (fun h => sameO (h1.at b) (h.at b)) then some m else some (m.put b .gone)
/-- All blocks. -/
def meetB (n0 : Nat) (h1 : AH) (r : List AH) (N : Nat) : Nat → Nat → AH → Option AH
  | 0, lo, m => bif Nat.ble N lo then some m else meet1 n0 h1 r lo m
  | k + 1, lo, m => bif Nat.ble N lo then some m else (meetB n0 h1 r N k lo m).bind fun m' => meetB n0 h1 r N k (Nat.add lo (Nat.pow 2 k)) m'
def MeetAt (n0 : Nat) (h1 : AH) (r : List AH) (m m' : AH) (c : Nat) : Prop := (m'.at c = m.at c ∧ ∀ h ∈ r, h1.at c = h.at c) ∨ (m'.at c = some .gone ∧ n0 ≤ c)
theorem meet1_ok {n0 : Nat} {h1 : AH} {r : List AH} {b : Nat} {m m' : AH} (hb : b < m.n) (hm : meet1 n0 h1 r b m = some m') : m'.n = m.n ∧ (∀ c, c ≠ b → m'.at c = m.at c) ∧ MeetAt n0 h1 r m m' b := by
  have hall : r.all (fun h => sameO (h1.at b) (h.at b)) = true → ∀ h ∈ r, h1.at b = h.at b := fun ha h hh => sameO_eq (List.all_eq_true.1 ha h hh)
  unfold meet1 at hm
  cases h0 : Nat.blt b n0 with
  | true =>
    rw [h0] at hm
    cases ha : r.all (fun h => sameO (h1.at b) (h.at b)) with
    | false => rw [ha] at hm; cases hm
    | true =>
      rw [ha] at hm
      cases hm
      exact ⟨rfl, fun _ _ => rfl, .inl ⟨rfl, hall ha⟩⟩
  | false =>
    rw [h0] at hm
    have hn0 : n0 ≤ b := by
      rcases Nat.lt_or_ge b n0 with q | q
      · rw [show Nat.blt b n0 = true from Nat.ble_eq_true_of_le q] at h0; cases h0
      · exact q
    cases ha : (!isLp (h1.at b) && r.all (fun h => sameO (h1.at b) (h.at b))) with
    | true =>
      rw [ha] at hm
      cases hm
      rw [Bool.and_eq_true] at ha
      exact ⟨rfl, fun _ _ => rfl, .inl ⟨rfl, hall ha.2⟩⟩
    | false =>
      rw [ha] at hm
      cases hm
      exact ⟨n_put _ _ _, fun c hc => at_put_ne _ (Ne.symm hc), .inr ⟨at_put_same _ hb, hn0⟩⟩
theorem meetB_ok {n0 : Nat} {h1 : AH} {r : List AH} {N : Nat} : ∀ (k lo : Nat) (m m' : AH), m.n = N → meetB n0 h1 r N k lo m = some m' →
    m'.n = m.n ∧ (∀ c, c < lo ∨ lo + 2 ^ k ≤ c → m'.at c = m.at c) ∧ ∀ c, lo ≤ c → c < lo + 2 ^ k → c < N → MeetAt n0 h1 r m m' c
  | 0, lo, m, m', hn, hm => by
    unfold meetB at hm
    cases h0 : Nat.ble N lo with
    | true =>
      rw [h0] at hm
      cases hm
      have := Nat.le_of_ble_eq_true h0
      exact ⟨rfl, fun _ _ => rfl, fun c h2 _ h3 => by omega⟩
    | false =>
      rw [h0] at hm
      have hlt : lo < N := by
        rcases Nat.lt_or_ge lo N with q | q
        · exact q
        · rw [Nat.ble_eq_true_of_le q] at h0; cases h0
      obtain ⟨q1, q2, q3⟩ := meet1_ok (by omega) hm
      refine ⟨q1, fun c hc => q2 c (by rcases hc with h | h <;> omega), fun c h2 h3 _ => ?_⟩
      obtain rfl : c = lo := by omega
      exact q3
  | k + 1, lo, m, m', hn, hm => by
    unfold meetB at hm
    have hp : 2 ^ (k + 1) = 2 ^ k + 2 ^ k := by omega
    cases h0 : Nat.ble N lo with
    | true =>
      rw [h0] at hm
      cases hm
      have := Nat.le_of_ble_eq_true h0
      exact ⟨rfl, fun _ _ => rfl, fun c h2 _ h3 => by omega⟩
    | false =>
      rw [h0] at hm
      simp only [cond_false] at hm
      obtain ⟨m1, e1, e2⟩ := Option.bind_eq_some_iff.1 hm
      obtain ⟨a1, a2, a3⟩ := meetB_ok k lo m m1 hn e1
      obtain ⟨b1, b2, b3⟩ := meetB_ok k (lo + 2 ^ k) m1 m' (by rw [a1, hn]) e2
      refine ⟨b1.trans a1, fun c hc => (b2 c (by omega)).trans (a2 c (by omega)), fun c h2 h3 h4 => ?_⟩
      by_cases hlt : c < lo + 2 ^ k
      · have hb := b2 c (.inl hlt)
        rcases a3 c h2 hlt h4 with ⟨q, q'⟩ | ⟨q, q'⟩
        · exact .inl ⟨hb.trans q, q'⟩
        · exact .inr ⟨hb.trans q, q'⟩
      · have ha := a2 c (.inr (by omega))
        rcases b3 c (by omega) (by omega) h4 with ⟨q, q'⟩ | q
        · exact .inl ⟨q.trans ha, q'⟩
        · exact .inr q
/-- What is told of a heap: its blocks, but for some new ones that are given up. -/
theorem meet_all {n0 : Nat} {h1 : AH} {r : List AH} {m' : AH} (hk : h1.n ≤ 2 ^ 13) (hm : meetB n0 h1 r h1.n 13 0 h1 = some m') (hn : ∀ h ∈ r, h.n = h1.n) : m'.n = h1.n ∧ ∀ h ∈ h1 :: r, ∀ c, m'.at c = h.at c ∨ (m'.at c = some .gone ∧ n0 ≤ c) := by
  obtain ⟨q1, q2, q3⟩ := meetB_ok 13 0 h1 m' rfl hm
  refine ⟨q1, fun h hh c => ?_⟩
  have hhn : h.n = h1.n := by
    rcases List.mem_cons.1 hh with rfl | hh
    · rfl
    · exact hn h hh
  by_cases hc : c < h1.n
  · rcases q3 c (Nat.zero_le _) (by omega) hc with ⟨a, b⟩ | a
    · rcases List.mem_cons.1 hh with rfl | hh
      · exact .inl a
      · exact .inl (a.trans (b h hh))
    · exact .inr a
  · left
    have key : ∀ x : AH, x.n ≤ c → x.at c = none := fun x hx => by
      cases hq : x.at c with
      | none => rfl
      | some y => exact absurd (at_lt hq) (by omega)
    rw [key m' (by omega), key h (by omega)]
/-- New blocks are given up. -/
theorem EffL.drop {P : Program} {ρ : Nat → Value} {fl : Nat} {μ μ1 : Mu} {h h1 h2 : List AB} {w w1 : World} (q : EffL P ρ fl μ h w μ1 h1 w1) (hl : h2.length = h1.length) (hd : ∀ c : Nat, h2[c]? = h1[c]? ∨ (h2[c]? = some .gone ∧ h.length ≤ c)) : EffL P ρ fl μ h w μ1 h2 w1 := by
  have old : ∀ c, c < h.length → h2[c]? = h1[c]? := fun c hc => by
    rcases hd c with e | ⟨_, e⟩
    · exact e
    · omega
  have lt : ∀ (c : Nat) (x : AB), h[c]? = some x → c < h.length := fun c x e => (List.getElem?_eq_some_iff.1 e).1
  refine ⟨q.more, by rw [hl]; exact q.len, q.new, fun b hb hn => (old b hb).trans (q.keep b hb hn), fun b hb => (old b (lt b _ hb)).trans (q.gone b hb), fun b l e hb => (old b (lt b _ hb)).trans (q.frz b l e hb), q.grows, q.size, q.own, q.rest, q.same, ?_⟩
  refine ⟨q.hr.floor, fun b x hb => by rw [hl]; exact q.hr.dom b x hb, fun b r base ab e1 e2 => ?_, fun b b' r base base' ab ab' e1 e2 e3 e4 e5 e6 => ?_, q.hr.pin⟩
  · rcases hd b with e | ⟨e, _⟩
    · exact q.hr.obj b r base ab e1 (by rw [← e]; exact e2)
    · rw [e] at e2
      cases e2
      have hb := q.hr.dom b _ e1
      obtain ⟨_, p2, o, p3, _⟩ := q.hr.obj b r base _ e1 (List.getElem?_eq_getElem hb)
      exact ⟨fun hw => (by cases hw), p2, o, p3, trivial⟩
  · have f1 : h1[b]? = some ab := by
      rcases hd b with e | ⟨e, _⟩
      · rw [← e]; exact e3
      · rw [e] at e3; cases e3; cases e5
    have f2 : h1[b']? = some ab' := by
      rcases hd b' with e | ⟨e, _⟩
      · rw [← e]; exact e4
      · rw [e] at e4; cases e4; cases e6
    exact q.hr.inj b b' r base base' ab ab' e1 e2 f1 f2 e5 e6
theorem Eff.drop {P : Program} {ρ : Nat → Value} {fl : Nat} {μ μ1 : Mu} {h h1 h2 : AH} {w w1 : World} (q : Eff P ρ fl μ h w μ1 h1 w1) (hl : h2.n = h1.n) (hd : ∀ c : Nat, h2.at c = h1.at c ∨ (h2.at c = some .gone ∧ h.n ≤ c)) : Eff P ρ fl μ h w μ1 h2 w1 :=
  EffL.drop q (by rw [L_n, L_n, hl]) fun c => by
    rw [L_at, L_at, L_n]
    exact hd c
def outV : Outs → Option (List (AV × AH))
  | [] => some []
  | (.ended (.ret v) none, h) :: r => (outV r).map ((v, h) :: ·)
  | _ => none
theorem outV_mem : ∀ {L : Outs} {l : List (AV × AH)}, outV L = some l → ∀ x ∈ L, ∃ v h, x = (.ended (.ret v) none, h) ∧ (v, h) ∈ l
  | [], _, _, x, hx => by cases hx
  | y :: r, l, h, x, hx => by
    unfold outV at h
    split at h
    · rename_i e; cases e
    · rename_i v h0 r' e
      cases e
      obtain ⟨l', e1, rfl⟩ := Option.map_eq_some_iff.1 h
      rcases List.mem_cons.1 hx with rfl | hx
      · exact ⟨v, h0, rfl, List.mem_cons_self ..⟩
      · obtain ⟨v', h', e2, e3⟩ := outV_mem e1 x hx
        exact ⟨v', h', e2, List.mem_cons_of_mem _ e3⟩
    · cases h
/-- A run as a sum. -/
def colS (P : Program) (T : TT) (S : Sums) (n : Nat) (f : FuncId) (args : List AV) (h : AH) : Option (AV × AH) := match ex P T S n (.call f args none) h with
  | some L => match outV L with
    | some ((v, h1) :: r) => bif Nat.ble h1.n 8192 && r.all (fun x => AV.same 8 v x.1 && Nat.beq x.2.n h1.n) then (meetB h.n h1 (r.map (·.2)) h1.n 13 0 h1).map fun m => (v, m) else none
    | _ => none
  | none => none
theorem colS_ok {P : Program} {ρ : Nat → Value} {fl : Nat} {T : TT} {S : Sums} (hT : TT.Sound P T) (hNG : NoNG P) (hMix : P.follows .mixedOrders = true) (hS : SumsOK P ρ fl S) {n : Nat} {f : FuncId} {args : List AV} {h h' : AH} {v : AV} (hg : colS P T S n f args h = some (v, h')) {μ : Mu} {w : World} {args' : List Value} (hr : HR P ρ fl μ h w) (ha : rels ρ μ w args args') :
    Calls P f args'.toArray w fun e w' => ∃ μ' v', e = .returned v' ∧ Eff P ρ fl μ h w μ' h' w' ∧ rel ρ μ' w' v v' := by
  unfold colS at hg
  cases hex : ex P T S n (.call f args none) h with
  | none => rw [hex] at hg; cases hg
  | some L =>
  rw [hex] at hg
  simp only at hg
  cases hv : outV L with
  | none => rw [hv] at hg; cases hg
  | some l =>
  rw [hv] at hg
  cases l with
  | nil => cases hg
  | cons x r =>
  obtain ⟨v0, h1⟩ := x
  simp only at hg
  cases hc : (Nat.ble h1.n 8192 && r.all (fun x => AV.same 8 v0 x.1 && Nat.beq x.2.n h1.n)) with
  | false => rw [hc] at hg; cases hg
  | true =>
  rw [hc] at hg
  obtain ⟨m, hm, e⟩ := Option.map_eq_some_iff.1 hg
  cases e
  rw [Bool.and_eq_true] at hc
  have hr0 := fun x hx => List.all_eq_true.1 hc.2 x hx
  have hrr : ∀ x ∈ r, x.1 = v ∧ x.2.n = h1.n := fun x hx => by
    have := hr0 x hx
    rw [Bool.and_eq_true] at this
    exact ⟨(same_sound 8 _ _ this.1).symm, Nat.eq_of_beq_eq_true this.2⟩
  obtain ⟨m1, m2⟩ := meet_all (Nat.le_of_ble_eq_true hc.1) hm (fun h hh => by
    obtain ⟨x, hx, rfl⟩ := List.mem_map.1 hh
    exact (hrr x hx).2)
  have hw : WCm P T S f args h fun v' h2 => (v', h2) ∈ (v, h1) :: r := ⟨n, L, hex, .inl rfl, fun x hx => by
    obtain ⟨v', h2, rfl, e2⟩ := outV_mem hv x hx
    exact ⟨v', none, rfl, e2⟩⟩
  refine (calls_of_wcm hT hNG hMix hS hw hr ha).mono fun e w' hy => ?_
  obtain ⟨v', h2, μ', u, hin, rfl, q1, q2⟩ := hy
  have hv' : v' = v ∧ h2.n = h1.n ∧ h2 ∈ h1 :: r.map (·.2) := by
    rcases List.mem_cons.1 hin with e | e
    · cases e
      exact ⟨rfl, rfl, List.mem_cons_self ..⟩
    · exact ⟨(hrr _ e).1, (hrr _ e).2, List.mem_cons_of_mem _ (List.mem_map.2 ⟨_, e, rfl⟩)⟩
  obtain ⟨rfl, e2, e3⟩ := hv'
  exact ⟨μ', u, rfl, q1.drop (by rw [m1, e2]) (m2 h2 e3), q2⟩
end Go.Proofs.YtohbdgddnkoenaaGreat.Ex
end

section

set_option linter.unusedSimpArgs false
set_option linter.unusedVariables false
namespace Go.Proofs.YtohbdgddnkoenaaGreat.Ex
open Go Go.RowKit
/-- A heap written over another one. -/
def AH.ov (h : AH) (n : Nat) (l : List (Nat × AB)) : AH := l.foldl (fun h p => h.put p.1 p.2) { h with n := n }
/-- All blocks from lo on pass. -/
def allB (p : Nat → Bool) (N : Nat) : Nat → Nat → Bool
  | 0, lo => bif Nat.ble N lo then true else p lo
  | k + 1, lo => bif Nat.ble N lo then true else allB p N k lo && allB p N k (Nat.add lo (Nat.pow 2 k))
theorem allB_ok {p : Nat → Bool} {N : Nat} : ∀ (k lo : Nat), allB p N k lo = true → ∀ c, lo ≤ c → c < lo + 2 ^ k → c < N → p c = true
  | 0, lo, hm, c, h1, h2, h3 => by
    unfold allB at hm
    cases h0 : Nat.ble N lo with
    | true => have := Nat.le_of_ble_eq_true h0; omega
    | false =>
      rw [h0] at hm
      obtain rfl : c = lo := by omega
      exact hm
  | k + 1, lo, hm, c, h1, h2, h3 => by
    unfold allB at hm
    have hp : 2 ^ (k + 1) = 2 ^ k + 2 ^ k := by omega
    cases h0 : Nat.ble N lo with
    | true => have := Nat.le_of_ble_eq_true h0; omega
    | false =>
      rw [h0] at hm
      simp only [cond_false, Bool.and_eq_true] at hm
      by_cases hlt : c < lo + 2 ^ k
      · exact allB_ok k lo hm.1 c h1 hlt h3
      · exact allB_ok k (lo + 2 ^ k) hm.2 c (by omega) (by omega) h3
theorem at_ge {h : AH} {c : Nat} (hc : h.n ≤ c) : h.at c = none := by
  cases hq : h.at c with
  | none => rfl
  | some y => exact absurd (at_lt hq) (by omega)
/-- The very same heap. -/
def eqH (h g : AH) : Bool := Nat.beq h.n g.n && Nat.ble g.n 8192 && allB (fun c => sameO (h.at c) (g.at c)) g.n 13 0
theorem eqH_L {h g : AH} (he : eqH h g = true) : h.L = g.L := by
  unfold eqH at he
  simp only [Bool.and_eq_true] at he
  obtain ⟨⟨h1, h2⟩, h3⟩ := he
  have h1 := Nat.eq_of_beq_eq_true h1
  have h2 := Nat.le_of_ble_eq_true h2
  refine List.ext_getElem? fun c => ?_
  rw [L_at, L_at]
  by_cases hc : c < g.n
  · exact sameO_eq (allB_ok 13 0 h3 c (Nat.zero_le _) (by omega) hc)
  · rw [at_ge (by omega), at_ge (by omega)]
def isGone : Option AB → Bool
  | some .gone => true
  | _ => false
theorem isGone_eq {x : Option AB} (h : isGone x = true) : x = some .gone := by
  unfold isGone at h
  split at h
  · rfl
  · cases h
/-- A heap told: some new blocks are given up. -/
def dropH (n0 : Nat) (h1 h : AH) : Bool := Nat.beq h1.n h.n && Nat.ble h.n 8192 && allB (fun c => (isGone (h1.at c) && Nat.ble n0 c) || sameO (h1.at c) (h.at c)) h.n 13 0
theorem dropH_ok {n0 : Nat} {h1 h : AH} (he : dropH n0 h1 h = true) : h1.n = h.n ∧ ∀ c, h1.at c = h.at c ∨ (h1.at c = some .gone ∧ n0 ≤ c) := by
  unfold dropH at he
  simp only [Bool.and_eq_true] at he
  obtain ⟨⟨q1, q2⟩, q3⟩ := he
  have q1 := Nat.eq_of_beq_eq_true q1
  have q2 := Nat.le_of_ble_eq_true q2
  refine ⟨q1, fun c => ?_⟩
  by_cases hc : c < h.n
  · have := allB_ok 13 0 q3 c (Nat.zero_le _) (by omega) hc
    rw [Bool.or_eq_true, Bool.and_eq_true] at this
    rcases this with ⟨a, b⟩ | a
    · exact .inr ⟨isGone_eq a, Nat.le_of_ble_eq_true b⟩
    · exact .inl (sameO_eq a)
  · exact .inl (by rw [at_ge (by omega), at_ge (by omega)])
/-- What a run comes to is this. -/
def colM (P : Program) (T : TT) (S : Sums) (n : Nat) (f : FuncId) (args : List AV) (H0 : AH) (v : AV) (H1 : AH) : Bool := match ex P T S n (.call f args none) H0 with
  | some L => match outV L with
    | some l => l.all fun x => AV.same 8 v x.1 && dropH H0.n H1 x.2
    | none => false
  | none => false
theorem colM_ok {P : Program} {ρ : Nat → Value} {fl : Nat} {T : TT} {S : Sums} (hT : TT.Sound P T) (hNG : NoNG P) (hMix : P.follows .mixedOrders = true) (hS : SumsOK P ρ fl S) {n : Nat} {f : FuncId} {args : List AV} {h h' : AH} {v : AV} (hg : colM P T S n f args h v h' = true) {μ : Mu} {w : World} {args' : List Value} (hr : HR P ρ fl μ h w) (ha : rels ρ μ w args args') :
    Calls P f args'.toArray w fun e w' => ∃ μ' v', e = .returned v' ∧ Eff P ρ fl μ h w μ' h' w' ∧ rel ρ μ' w' v v' := by
  unfold colM at hg
  cases hex : ex P T S n (.call f args none) h with
  | none => rw [hex] at hg; cases hg
  | some L =>
  rw [hex] at hg
  simp only at hg
  cases hv : outV L with
  | none => rw [hv] at hg; cases hg
  | some l =>
  rw [hv] at hg
  have hl := fun x hx => List.all_eq_true.1 hg x hx
  have hw : WCm P T S f args h fun v' h2 => (v', h2) ∈ l := ⟨n, L, hex, .inl rfl, fun x hx => by
    obtain ⟨v', h2, rfl, e2⟩ := outV_mem hv x hx
    exact ⟨v', none, rfl, e2⟩⟩
  refine (calls_of_wcm hT hNG hMix hS hw hr ha).mono fun e w' hy => ?_
  obtain ⟨v', h2, μ', u, hin, rfl, q1, q2⟩ := hy
  have := hl _ hin
  rw [Bool.and_eq_true] at this
  obtain ⟨a, b⟩ := this
  obtain rfl := same_sound 8 _ _ a
  obtain ⟨m1, m2⟩ := dropH_ok b
  exact ⟨μ', u, rfl, q1.drop m1 m2, q2⟩
/-- A remembered run. -/
structure Memo where
  args : List AV
  h0 : AH
  v : AV
  h1 : AH
def Memo.ok (P : Program) (T : TT) (S : Sums) (n : Nat) (f : FuncId) (m : Memo) : Bool := colM P T S n f m.args m.h0 m.v m.h1
/-- The first that fits. -/
def memoS : List Memo → List AV → AH → Option (AV × AH)
  | [], _, _ => none
  | m :: r, args, h => bif sameLs args m.args && eqH h m.h0 then some (m.v, m.h1) else memoS r args h
theorem memoS_ok {P : Program} {ρ : Nat → Value} {fl : Nat} {T : TT} {S : Sums} (hT : TT.Sound P T) (hNG : NoNG P) (hMix : P.follows .mixedOrders = true) (hS : SumsOK P ρ fl S) {n : Nat} {f : FuncId} {args : List AV} {h h' : AH} {v : AV} {μ : Mu} {w : World} {args' : List Value} (hr : HR P ρ fl μ h w) (ha : rels ρ μ w args args') (ms : List Memo) (hm : ∀ m ∈ ms, m.ok P T S n f = true) (hg : memoS ms args h = some (v, h')) :
    Calls P f args'.toArray w fun e w' => ∃ μ' v', e = .returned v' ∧ Eff P ρ fl μ h w μ' h' w' ∧ rel ρ μ' w' v v' := by
  induction ms with
  | nil => cases hg
  | cons m r ih =>
    unfold memoS at hg
    cases hc : (sameLs args m.args && eqH h m.h0) with
    | false =>
      rw [hc] at hg
      exact ih (fun x hx => hm x (List.mem_cons_of_mem _ hx)) hg
    | true =>
      rw [hc] at hg
      cases hg
      rw [Bool.and_eq_true] at hc
      obtain rfl := sameLs_eq hc.1
      have hL := eqH_L hc.2
      have hr' : HR P ρ fl μ m.h0 w := by unfold HR at hr ⊢; rw [← hL]; exact hr
      refine (colM_ok hT hNG hMix hS (hm m (List.mem_cons_self ..)) hr' ha).mono fun e w' hy => ?_
      obtain ⟨μ', u, rfl, q1, q2⟩ := hy
      refine ⟨μ', u, rfl, ?_, q2⟩
      unfold Eff at q1 ⊢
      rw [hL]
      exact q1
end Go.Proofs.YtohbdgddnkoenaaGreat.Ex
end
