/- The abstract machine's types, operands and rows of cells, held against the model's. -/
import Derived.Test.YtfchbkmegicfoaaGreatExh
import Derived.Orders
import Derived.Deep.MidRow
set_option linter.unusedSimpArgs false
set_option linter.unusedVariables false
namespace Go.Proofs.YtfchbkmegicfoaaGreat.Ex
open Go Go.RowKit

structure TT.Sound (P : Program) (T : TT) : Prop where
  und : ∀ t i, T t = some i → P.underlying t = some i.desc
  info : ∀ t i, T t = some i → ∃ info z, P.info? t = some info ∧ info.size = i.size ∧ info.bytes = i.bytes ∧ info.zero = some z ∧ ofVal1 z = some i.zero
  ck : ∀ t i v, T t = some i → i.ck v = true → ∀ b, ∃ a, pur P (Instr.checkKey b 10000 t v) = some (.ok a)
  eq : ∀ t i a b r, T t = some i → i.eq a b = some r → pur P (Op.equal t a b) = some (.ok r)

theorem NT.all_has {p : Nat → Bool} {t : Nat} : ∀ {N : NT}, N.all p = true → N.has t = true → p t = true
  | .leaf, _, h => by cases h
  | .node l k r, ha, h => by
    simp only [NT.all, Bool.and_eq_true] at ha
    simp only [NT.has] at h
    cases h1 : Nat.beq t k with
    | true =>
      obtain rfl := Nat.eq_of_beq_eq_true h1
      exact ha.1.1
    | false =>
      rw [h1] at h
      simp only [cond_false] at h
      cases h2 : Nat.blt t k with
      | true => rw [h2] at h; exact NT.all_has ha.1.2 h
      | false => rw [h2] at h; exact NT.all_has ha.2 h

theorem tabOf_sound {P : Program} {N : NT} (h : N.all (okType P) = true) : TT.Sound P (tabOf P N) := by
  have key : ∀ t i, tabOf P N t = some i → okType P t = true ∧ i = tiOf P t := fun t i hi => by
    unfold tabOf at hi
    cases hh : NT.has t N with
    | false => rw [hh] at hi; cases hi
    | true =>
      rw [hh] at hi
      exact ⟨NT.all_has h hh, (Option.some.inj hi).symm⟩
  refine ⟨fun t i hi => ?_, fun t i hi => ?_, fun t i v hi hc b => ?_, fun t i a b r hi he => ?_⟩
  rotate_left 2
  · obtain ⟨_, rfl⟩ := key t i hi
    simp only [tiOf] at hc
    split at hc
    · rename_i x y h1 h2
      cases b
      · exact ⟨y, h2⟩
      · exact ⟨x, h1⟩
    · cases hc
  · obtain ⟨_, rfl⟩ := key t i hi
    simp only [tiOf] at he
    split at he
    · obtain rfl := Option.some.inj he
      assumption
    · cases he
  · obtain ⟨h1, rfl⟩ := key t i hi
    simp only [okType, Bool.and_eq_true] at h1
    obtain ⟨d, hd⟩ := Option.isSome_iff_exists.1 h1.1
    simp [tiOf, hd]
  · obtain ⟨h1, rfl⟩ := key t i hi
    simp only [okType, Bool.and_eq_true] at h1
    obtain ⟨a, ha⟩ := Option.isSome_iff_exists.1 h1.2
    cases hq : P.info? t with
    | none => rw [hq] at ha; cases ha
    | some info =>
      cases hz : info.zero with
      | none => rw [hq] at ha; simp [hz] at ha
      | some z =>
        rw [hq] at ha
        simp only [Option.bind_some, hz] at ha
        exact ⟨info, z, rfl, by simp [tiOf, hq], by simp [tiOf, hq], hz, by simp [tiOf, hq, hz, ha]⟩

variable {P : Program} {T : TT} {ρ : Nat → Value} {fl : Nat} {μ : Mu} {h : AH} {w : World}

theorem run_und (hT : TT.Sound P T) {t : TypeId} {d : TypeDesc} (hd : und T t = some d) (w : World) : (underlying t).run P w = .ok d w := by
  simp only [und, Option.map_eq_some_iff] at hd
  obtain ⟨i, h1, rfl⟩ := hd
  simp [underlying, hT.und t i h1]

theorem und_P (hT : TT.Sound P T) {t : TypeId} {d : TypeDesc} (hd : und T t = some d) : P.underlying t = some d := by
  simp only [und, Option.map_eq_some_iff] at hd
  obtain ⟨i, h1, rfl⟩ := hd
  exact hT.und t i h1

theorem run_size (hT : TT.Sound P T) {t : TypeId} {n : Nat} (hd : sizeT T t = some n) (w : World) : (sizeOf t).run P w = .ok n w := by
  simp only [sizeT, Option.map_eq_some_iff] at hd
  obtain ⟨i, h1, rfl⟩ := hd
  obtain ⟨info, z, h2, h3, _⟩ := hT.info t i h1
  simp [sizeOf, typeInfo, h2, h3]

theorem size_P (hT : TT.Sound P T) {t : TypeId} {n : Nat} (hd : sizeT T t = some n) : (P.info? t).map (·.size) = some n := by
  simp only [sizeT, Option.map_eq_some_iff] at hd
  obtain ⟨i, h1, rfl⟩ := hd
  obtain ⟨info, z, h2, h3, _⟩ := hT.info t i h1
  simp [h2, h3]

theorem run_zero (hT : TT.Sound P T) {t : TypeId} {z : AV} (hd : zeroT T t = some z) (w : World) : ∃ v, (zeroValue t).run P w = .ok v w ∧ ofVal1 v = some z := by
  simp only [zeroT, Option.map_eq_some_iff] at hd
  obtain ⟨i, h1, rfl⟩ := hd
  obtain ⟨info, z, h2, _, _, h3, h4⟩ := hT.info t i h1
  exact ⟨z, by simp [zeroValue, typeInfo, h2, h3], h4⟩

theorem isAggD_match (d : TypeDesc) : (match d with | .struct _ | .array _ _ => true | _ => false) = isAggD d := rfl

theorem run_isAgg (hT : TT.Sound P T) {t : TypeId} {b : Bool} (hd : isAggT T t = some b) (w : World) : (isAgg t).run P w = .ok b w := by
  simp only [isAggT, Option.map_eq_some_iff] at hd
  obtain ⟨i, h1, rfl⟩ := hd
  unfold isAgg
  have h2 : und T t = some i.desc := by simp [und, h1]
  rw [Sem.run_bind, run_und hT h2]
  cases i.desc <;> rfl

/-! Programs that ask nothing of the world. -/

theorem pur_run {α : Type} (s : Sem α) : ∀ r, pur P s = some r → ∀ w, s.run P w = match r with | .ok a => .ok a w | .pan v => .halt (.panic v) w := by
  induction s with
  | pure a => intro r hr w; simp only [pur, Option.some.injEq] at hr; subst hr; rfl
  | program k ih => intro r hr w; exact ih P r hr w
  | mark m k ih => intro r hr w; exact ih r hr w
  | halt x =>
    intro r hr w
    cases x <;> simp only [pur, Option.some.injEq, reduceCtorEq] at hr
    subst hr
    rfl
  | load m a k ih => intro r hr; cases hr
  | store m a v k ih => intro r hr; cases hr
  | new o k ih => intro r hr; cases hr
  | shape r k ih => intro r hr; cases hr
  | freeze a n k ih => intro r hr; cases hr
  | frozen a k ih => intro r hr; cases hr
  | getObj r k ih => intro r hr; cases hr
  | setObj r o k ih => intro r hr; cases hr
  | choose q k ih => intro r hr; cases hr
  | sys c k ih => intro r hr; cases hr

/-! Operands. -/

def EnvR (ρ : Nat → Value) (μ : Mu) (w : World) (tmps : TM) (ev : Operand → Value) : Prop := ∀ x a, evalA tmps x = some a → rel ρ μ w a (ev x)

theorem envR_of {tmps : TM} {ev : Operand → Value} {l : List Value} (hl : rels ρ μ w tmps.L l) (h1 : ∀ t, ev (.tmp t) = l.getD t undef) (h2 : ∀ v, ev (.const v) = v) (h3 : ∀ f, ev (.func f) = .func (.func f) #[] #[]) : EnvR ρ μ w tmps ev := by
  intro x a hx
  cases x with
  | tmp t =>
    simp only [evalA, Option.some.injEq] at hx
    subst hx
    rw [h1, ← TL_at, ← List.getD_eq_getElem?_getD]
    exact rels_getD t hl
  | const v => rw [h2]; exact ofVal_rel hx
  | global g => cases hx
  | func f =>
    simp only [evalA, Option.some.injEq] at hx
    subst hx
    rw [h3]
    unfold rel
    exact ⟨.func f, [], [], rfl, rfl, rels_nil, rels_nil⟩

variable {tmps : TM} {ev : Operand → Value}

theorem evals_sound (he : EnvR ρ μ w tmps ev) : ∀ {l : List Operand} {xs : List AV}, evals tmps l = some xs → rels ρ μ w xs (l.map ev)
  | [], xs, hh => by simp only [evals, Option.some.injEq] at hh; subst hh; exact rels_nil
  | x :: r, xs, hh => by
    unfold evals at hh
    split at hh
    · rename_i v vs hv hvs
      obtain rfl := Option.some.inj hh
      exact rels_cons (he x v hv) (evals_sound he hvs)
    · cases hh

theorem litAll_sound (he : EnvR ρ μ w tmps ev) : ∀ {l : List Operand}, litAll tmps l = true → ∀ x ∈ l, ev x = litEnv tmps x
  | [], _, x, hx => by cases hx
  | y :: r, hh, x, hx => by
    unfold litAll at hh
    split at hh
    · rename_i v hv
      simp only [Bool.and_eq_true] at hh
      cases hx with
      | head =>
        obtain ⟨u, hu⟩ := Option.isSome_iff_exists.1 hh.1
        simp only [litEnv, hv, hu, Option.getD_some]
        exact toVal_rel hu (he _ _ hv)
      | tail _ hm => exact litAll_sound he hh.2 x hm
    · cases hh

/-! What an operation comes to. -/

def valOK (P : Program) (ρ : Nat → Value) (fl : Nat) (μ : Mu) (h : AH) (w : World) (r : Result Next) (v : AV) (h' : AH) : Prop :=
  ∃ μ' w' v', (r = .ok (.value v') w' ∨ (r = .ok .skip w' ∧ v' = undef)) ∧ Eff P ρ fl μ h w μ' h' w' ∧ rel ρ μ' w' v v'

def OpOK (P : Program) (ρ : Nat → Value) (fl : Nat) (μ : Mu) (h : AH) (w : World) (r : Result Next) : AN → AH → Prop
  | .val v, h' => valOK P ρ fl μ h w r v h'
  | .enter f args, h' => h' = h ∧ ∃ args', rels ρ μ w args args' ∧ r = (callFunc f args'.toArray).run P w
  | .round l args, h' => h' = h ∧ ∃ rl args', μ l = some (rl, 0) ∧ rels ρ μ w args args' ∧ r = (Instr.yield rl args'.toArray).run P w
  | .defer f args, h' => h' = h ∧ ∃ d args', rels ρ μ w args args' ∧ r = .ok (.defer d) w ∧ (∃ fn c, d.target = .fn fn c) ∧ ∀ w', (invoke d.target d.args).run P w' = (callFunc f args'.toArray).run P w'
  | .recover, h' => h' = h ∧ r = .ok .recover w
  | .pan v, h' => h' = h ∧ ∃ v', r = .halt (.panic v') w ∧ rel ρ μ w v v'

theorem valOK_here {r : Result Next} {v : AV} {v' : Value} (hr : HR P ρ fl μ h w) (h1 : r = .ok (.value v') w) (h2 : rel ρ μ w v v') : valOK P ρ fl μ h w r v h :=
  ⟨μ, w, v', .inl h1, Eff.refl hr, h2⟩

theorem litOp_sound {o : Oper} {n : AN} (hr : HR P ρ fl μ h w) (he : EnvR ρ μ w tmps ev) (hl : litOp P o tmps = some n) : OpOK P ρ fl μ h w ((execOp ev o).run P w) n h := by
  unfold litOp at hl
  split at hl
  case isFalse => cases hl
  rename_i hc
  simp only [Bool.and_eq_true] at hc
  have heq : execOp ev o = execOp (litEnv tmps) o := execOp_congr o (fun cs b hcs => by
    have := hc.1
    rw [hcs] at this
    cases this) (fun x hx => litAll_sound he hc.2 x (by simpa using hx))
  rw [heq]
  cases hp : pur P (execOp (litEnv tmps) o) with
  | none => rw [hp] at hl; cases hl
  | some r =>
    rw [hp] at hl
    have hrun := pur_run _ r hp w
    cases r with
    | ok nx =>
      cases nx with
      | value v =>
        simp only [ofPR, Option.map_eq_some_iff] at hl
        obtain ⟨a, ha, rfl⟩ := hl
        exact valOK_here hr hrun (ofVal_rel ha)
      | _ => cases hl
    | pan v =>
      simp only [ofPR, Option.map_eq_some_iff] at hl
      obtain ⟨a, ha, rfl⟩ := hl
      exact ⟨rfl, v, hrun, ofVal_rel ha⟩

theorem orLit_sound {o : Oper} {n : AN} {h' : AH} {k : Unit → AR} (hr : HR P ρ fl μ h w) (he : EnvR ρ μ w tmps ev) (hl : orLit P o tmps h k = some (n, h'))
    (hk : k () = some (n, h') → OpOK P ρ fl μ h w ((execOp ev o).run P w) n h') : OpOK P ρ fl μ h w ((execOp ev o).run P w) n h' := by
  unfold orLit at hl
  split at hl
  · rename_i m hm
    simp only [Option.some.injEq, Prod.mk.injEq] at hl
    obtain ⟨rfl, rfl⟩ := hl
    exact litOp_sound hr he hm
  · exact hk hl

theorem val_some {x : Option AV} {n : AN} {h' : AH} (hv : val h x = some (n, h')) : ∃ a, x = some a ∧ n = .val a ∧ h' = h := by
  simp only [val, Option.map_eq_some_iff, Prod.mk.injEq] at hv
  obtain ⟨a, h1, h2, h3⟩ := hv
  exact ⟨a, h1, h2.symm, h3.symm⟩

/-! Rows of cells. -/

theorem getB_R {b : Nat} {l : List AV} {e : TypeId} (hg : getB h b = some (l, e)) : h.at b = some (.cells l e) ∧ getR h b = some l := by
  unfold getB at hg
  split at hg
  · rename_i l' e' hb
    simp only [Option.some.injEq, Prod.mk.injEq] at hg
    obtain ⟨rfl, rfl⟩ := hg
    exact ⟨hb, by simp [getR, hb]⟩
  · cases hg

theorem getR_sound {b r base : Nat} {l : List AV} (hr : HR P ρ fl μ h w) (hb : μ b = some (r, base)) (hg : getR h b = some l) :
    ∃ cur e fz, w.heap[r]? = some (.cells cur e fz) ∧ window ρ μ w base l cur := by
  unfold getR at hg
  split at hg
  · rename_i l' e hx
    obtain rfl := Option.some.inj hg
    obtain ⟨_, _, o, h1, h2⟩ := hr.obj b r base _ hb hx
    obtain ⟨cur, rfl, h3, _⟩ := h2
    exact ⟨cur, _, _, h1, h3⟩
  · rename_i l' e hx
    obtain rfl := Option.some.inj hg
    obtain ⟨_, _, o, h1, h2⟩ := hr.obj b r base _ hb hx
    obtain ⟨cur, fz, rfl, h3⟩ := h2
    exact ⟨cur, _, _, h1, h3⟩
  · cases hg

theorem getB_sound {b r base : Nat} {l : List AV} {e : TypeId} (hr : HR P ρ fl μ h w) (hb : μ b = some (r, base)) (hg : getB h b = some (l, e)) :
    ∃ cur, w.heap[r]? = some (.cells cur e (0, 0)) ∧ window ρ μ w base l cur ∧ (bigT P e = true → base = 0 ∧ cur.size = l.length) := by
  obtain ⟨hx, _⟩ := getB_R hg
  obtain ⟨_, _, o, h1, h2⟩ := hr.obj b r base _ hb hx
  obtain ⟨cur, rfl, h3⟩ := h2
  exact ⟨cur, h1, h3⟩

theorem cut_some {l cs : List AV} {i n : Nat} (hc : cut l i n = some cs) : i + n ≤ l.length ∧ cs = (l.drop i).take n := by
  unfold cut at hc
  split at hc
  · exact ⟨by assumption, (Option.some.inj hc).symm⟩
  · cases hc

theorem cut_sound {base off n : Nat} {l cs : List AV} {cur : Array Value} (hw : window ρ μ w base l cur) (hc : cut l off n = some cs) :
    ∃ vs : List Value, rels ρ μ w cs vs ∧ vs.length = n ∧ cs.length = n ∧ base + off + n ≤ cur.size ∧ ∀ (j : Nat) (v : Value), vs[j]? = some v → cur[base + off + j]? = some v := by
  obtain ⟨h1, rfl⟩ := cut_some hc
  obtain ⟨h2, h3⟩ := hw
  have hl : ((l.drop off).take n).length = n := by simp; omega
  have hlv : ((cur.toList.drop (base + off)).take n).length = n := by simp; omega
  refine ⟨(cur.toList.drop (base + off)).take n, rels_of_get (by rw [hl, hlv]) (fun i x hx => ?_), hlv, hl, by omega, fun j v hv => ?_⟩
  · rw [List.getElem?_take] at hx
    split at hx
    · rename_i hi
      rw [List.getElem?_drop] at hx
      obtain ⟨v, h4, h5⟩ := h3 _ _ hx
      refine ⟨v, ?_, h5⟩
      rw [List.getElem?_take, if_pos hi, List.getElem?_drop, Array.getElem?_toList, Nat.add_assoc]
      exact h4
    · cases hx
  · rw [List.getElem?_take] at hv
    split at hv
    · rw [List.getElem?_drop, Array.getElem?_toList] at hv
      exact hv
    · cases hv

theorem put_some {l vs l' : List AV} {i : Nat} (hp : put l i vs = some l') : i + vs.length ≤ l.length ∧ l' = l.take i ++ vs ++ l.drop (i + vs.length) := by
  unfold put at hp
  split at hp
  · exact ⟨by assumption, (Option.some.inj hp).symm⟩
  · cases hp

theorem put_length {l vs l' : List AV} {i : Nat} (hp : put l i vs = some l') : l'.length = l.length := by
  obtain ⟨h1, rfl⟩ := put_some hp
  simp
  omega

theorem put_get {l vs l' : List AV} {i : Nat} (hp : put l i vs = some l') (k : Nat) : l'[k]? = if i ≤ k ∧ k < i + vs.length then vs[k - i]? else l[k]? := by
  obtain ⟨h1, rfl⟩ := put_some hp
  have hti : (l.take i).length = i := by simp; omega
  rw [List.append_assoc]
  by_cases hk : k < i
  · rw [List.getElem?_append_left (by omega), if_neg (by omega), List.getElem?_take, if_pos hk]
  · rw [List.getElem?_append_right (by omega), hti]
    by_cases hk2 : k < i + vs.length
    · rw [List.getElem?_append_left (by omega), if_pos (by omega)]
    · rw [List.getElem?_append_right (by omega), if_neg (by omega), List.getElem?_drop]
      congr 1
      omega

theorem rels_one {l : List AV} {l' : List Value} (hl : rels ρ μ w l l') (h1 : l.all AV.one = true) : ∀ u ∈ l', u.oneCell' = true := by
  induction l generalizing l' with
  | nil => rw [rels_nil_inv hl]; intro u hu; cases hu
  | cons x xs ih =>
    obtain ⟨v, vs, rfl, h2, h3⟩ := rels_cons_inv hl
    simp only [List.all_cons, Bool.and_eq_true] at h1
    intro u hu
    cases hu with
    | head => exact rel_one h2 h1.1
    | tail _ hm => exact ih h3 h1.2 u hm

theorem one_setCells {r e : Nat} {cur : Array Value} {fz : Nat × Nat} (hg : w.heap[r]? = some (.cells cur e fz)) (o : Nat) (vs : List Value) (hl : o + vs.length ≤ cur.size) : One r w (w.setCells r o vs) := by
  refine ⟨size_setCells' _ _ _ _, fun k hk => other_setCells' _ _ _ _ k hk, fun k cur' e' fz' hk => ?_, ⟨tape_setCells' _ _ _ _, (os_setCells' _ _ _ _).1, (os_setCells' _ _ _ _).2⟩⟩
  by_cases hkr : k = r
  · subst hkr
    rw [hg] at hk
    obtain ⟨rfl, rfl, rfl⟩ := Obj.cells.inj (Option.some.inj hk)
    obtain ⟨c, h1, h2, _⟩ := heap_setCells vs o w _ hg hl
    exact ⟨c, _, _, h1, h2⟩
  · exact ⟨cur', e', fz', by rw [other_setCells' _ _ _ _ k hkr]; exact hk, rfl⟩

/-- Cells are laid into a row that may be written. -/
theorem setCells_eff {b r base off : Nat} {l l' vs : List AV} {e : TypeId} {rvs : List Value} (hr : HR P ρ fl μ h w) (hb : μ b = some (r, base)) (hg : getB h b = some (l, e)) (hp : put l off vs = some l') (hv : rels ρ μ w vs rvs) :
    Eff P ρ fl μ h w μ (h.put b (.cells l' e)) (w.setCells r (base + off) rvs) ∧ (∀ j, j < rvs.length → (w.cell? ⟨r, base + off + j, none⟩).isSome = true) ∧ (∀ j, j < rvs.length → w.frozen? ⟨r, base + off + j, none⟩ = false) := by
  obtain ⟨cur, h1, h2, hbig⟩ := getB_sound hr hb hg
  obtain ⟨hx, _⟩ := getB_R hg
  obtain ⟨p1, _⟩ := put_some hp
  have hlen := rels_length hv
  have hfit : base + off + rvs.length ≤ cur.size := by have := h2.1; omega
  refine ⟨?_, fun j hj => ?_, fun j hj => frozen_in h1⟩
  · obtain ⟨cur', c1, c2, c3⟩ := heap_setCells rvs (base + off) w cur h1 hfit
    have hone := one_setCells h1 (base + off) rvs hfit
    refine Eff.upd hr hb hx rfl hone c1 ⟨cur', rfl, ⟨by rw [put_length hp, c2]; exact h2.1, fun i x hi => ?_⟩, fun hb => by rw [put_length hp, c2]; exact hbig hb⟩
    rw [put_get hp] at hi
    rw [c3]
    by_cases hk : off ≤ i ∧ i < off + vs.length
    · rw [if_pos hk] at hi
      rw [if_pos (by omega), show base + i - (base + off) = i - off by omega]
      obtain ⟨v, q1, q2⟩ := rels_get hv hi
      exact ⟨v, q1, rel.mono (More.refl μ) hone.grows _ _ q2⟩
    · rw [if_neg hk] at hi
      rw [if_neg (by omega)]
      obtain ⟨v, q1, q2⟩ := h2.2 i x hi
      exact ⟨v, q1, rel.mono (More.refl μ) hone.grows _ _ q2⟩
  · rw [cell_in h1, Array.getElem?_eq_getElem (by omega)]
    rfl

theorem loadA_sound {t : TypeId} {b r base off : Nat} {v : AV} (hT : TT.Sound P T) (hr : HR P ρ fl μ h w) (hb : μ b = some (r, base)) (hl : loadA T h t b off = some v) :
    ∃ v', (loadVar t ⟨r, base + off, none⟩).run P w = .ok v' w ∧ rel ρ μ w v v' := by
  unfold loadA at hl
  split at hl
  · rename_i l n hg hA hS
    simp only [Option.map_eq_some_iff] at hl
    obtain ⟨cs, hc, rfl⟩ := hl
    obtain ⟨cur, e, fz, h1, h2⟩ := getR_sound hr hb hg
    obtain ⟨vs, h3, h4, h5, h6, h7⟩ := cut_sound h2 hc
    have hA' := hA
    simp only [isAggT, Option.map_eq_some_iff] at hA
    obtain ⟨i, hi, hd⟩ := hA
    refine ⟨.agg vs.toArray, run_loadVar_mid w r (base + off) t vs i.desc (fun j u hu => ?_) (hT.und t i hi) hd (by rw [size_P hT hS, h4]), ?_⟩
    · rw [cell_in h1]
      exact h7 j u hu
    · unfold rel
      exact ⟨vs, rfl, h3⟩
  · rename_i l n hg hA hS
    obtain ⟨cur, e, fz, h1, h2⟩ := getR_sound hr hb hg
    obtain ⟨v', h3, h4⟩ := h2.2 _ _ hl
    refine ⟨v', ?_, h4⟩
    unfold loadVar
    have hc : w.cell? ⟨r, base + off, none⟩ = some v' := by rw [cell_in h1, h3]
    simp [Sem.run_bind, run_isAgg hT hA, hc]
  · cases hl

theorem storeA_sound {t : TypeId} {b r base off : Nat} {x : AV} {x' : Value} {h' : AH} (hT : TT.Sound P T) (hr : HR P ρ fl μ h w) (hb : μ b = some (r, base)) (hx : rel ρ μ w x x') (hl : storeA T h t b off x = some h') :
    ∃ w', (storeVar t ⟨r, base + off, none⟩ x').run P w = .ok () w' ∧ Eff P ρ fl μ h w μ h' w' := by
  unfold storeA at hl
  split at hl
  · rename_i l e n hg hS
    split at hl
    · rename_i hc
      simp only [Option.map_eq_some_iff] at hl
      obtain ⟨l', hp, rfl⟩ := hl
      simp only [Bool.and_eq_true, decide_eq_true_eq] at hc
      have hcells : rels ρ μ w x.cells x'.cells.toList := rel_cells hx
      obtain ⟨e1, e2, e3⟩ := setCells_eff hr hb hg hp hcells
      have hone := rels_one hcells hc.2
      have hst := run_storeCells_cells (P := P) r (base + off) x'.cells.toList 0 w (by simpa using e2) (by simpa using e3) hone
      have hsz : x'.cells.size = n := by
        have := rels_length hcells
        rw [Array.length_toList] at this
        omega
      refine ⟨_, ?_, e1⟩
      simp only [Nat.add_zero] at hst
      unfold storeVar
      simp [Sem.run_bind, run_size hT hS, hsz, hst]
    · cases hl
  · cases hl

end Go.Proofs.YtfchbkmegicfoaaGreat.Ex
