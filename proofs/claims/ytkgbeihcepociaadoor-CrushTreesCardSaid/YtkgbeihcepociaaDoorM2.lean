/- Part 2 of the proof: Exo, Exp, Exq, Exs, Ext, Exu. -/
import Derived.Orders
import Derived.Deep.MidRow
import Derived.Laws.IdiomStrings
import Derived.Laws.MakeOwn
import Derived.Test.YtkgbeihcepociaaDoorM1
section

set_option linter.unusedSimpArgs false
set_option linter.unusedVariables false
namespace Go.Proofs.YtkgbeihcepociaaDoor.Ex
open Go Go.RowKit
structure TT.Sound (P : Program) (T : TT) : Prop where
  und : ∀ t i, T t = some i → P.underlying t = some i.desc
  info : ∀ t i, T t = some i → ∃ info z, P.info? t = some info ∧ info.size = i.size ∧ info.bytes = i.bytes ∧ info.zero = some z ∧ ofVal1 z = some i.zero
  ck : ∀ t i v, T t = some i → i.ck v = true → ∀ b, ∃ a, pur P (Instr.checkKey b 10000 t v) = some (.ok a)
  eq : ∀ t i a b r, T t = some i → i.eq a b = some r → pur P (Op.equal t a b) = some (.ok r)
theorem NT.all_has {p : Nat → Bool} {t : Nat} : ∀ {N : NT}, N.all p = true → N.has t = true → p t = true
  | .leaf, _, h => by cases h
  | .node l k r, ha, h => by
    simp only [NT.all, Bool.and_eq_true] at ha
    simp only [NT.has] at h
    cases h1 : Nat.beq t k with
    | true =>
      obtain rfl := Nat.eq_of_beq_eq_true h1
      exact ha.1.1
    | false =>
      rw [h1] at h
      simp only [cond_false] at h
      cases h2 : Nat.blt t k with
      | true => rw [h2] at h; exact NT.all_has ha.1.2 h
      | false => rw [h2] at h; exact NT.all_has ha.2 h
theorem tabOf_sound {P : Program} {N : NT} (h : N.all (okType P) = true) : TT.Sound P (tabOf P N) := by
  have key : ∀ t i, tabOf P N t = some i → okType P t = true ∧ i = tiOf P t := fun t i hi => by
    unfold tabOf at hi
    cases hh : NT.has t N with
    | false => rw [hh] at hi; cases hi
    | true =>
      rw [hh] at hi
      exact ⟨NT.all_has h hh, (Option.some.inj hi).symm⟩
  refine ⟨fun t i hi => ?_, fun t i hi => ?_, fun t i v hi hc b => ?_, fun t i a b r hi he => ?_⟩
  rotate_left 2
  · obtain ⟨_, rfl⟩ := key t i hi
    simp only [tiOf] at hc
    split at hc
    · rename_i x y h1 h2
      cases b
      · exact ⟨y, h2⟩
      · exact ⟨x, h1⟩
    · cases hc
  · obtain ⟨_, rfl⟩ := key t i hi
    simp only [tiOf] at he
    split at he
    · obtain rfl := Option.some.inj he
      assumption
    · cases he
  · obtain ⟨h1, rfl⟩ := key t i hi
    simp only [okType, Bool.and_eq_true] at h1
    obtain ⟨d, hd⟩ := Option.isSome_iff_exists.1 h1.1
    simp [tiOf, hd]
  · obtain ⟨h1, rfl⟩ := key t i hi
    simp only [okType, Bool.and_eq_true] at h1
    obtain ⟨a, ha⟩ := Option.isSome_iff_exists.1 h1.2
    cases hq : P.info? t with
    | none => rw [hq] at ha; cases ha
    | some info =>
      cases hz : info.zero with
      | none => rw [hq] at ha; simp [hz] at ha
      | some z =>
        rw [hq] at ha
        simp only [Option.bind_some, hz] at ha
        exact ⟨info, z, rfl, by simp [tiOf, hq], by simp [tiOf, hq], hz, by simp [tiOf, hq, hz, ha]⟩
variable {P : Program} {T : TT} {ρ : Nat → Value} {fl : Nat} {μ : Mu} {h : AH} {w : World}
theorem run_und (hT : TT.Sound P T) {t : TypeId} {d : TypeDesc} (hd : und T t = some d) (w : World) : (underlying t).run P w = .ok d w := by
  simp only [und, Option.map_eq_some_iff] at hd
  obtain ⟨i, h1, rfl⟩ := hd
  simp [underlying, hT.und t i h1]
theorem und_P (hT : TT.Sound P T) {t : TypeId} {d : TypeDesc} (hd : und T t = some d) : P.underlying t = some d := by
  simp only [und, Option.map_eq_some_iff] at hd
  obtain ⟨i, h1, rfl⟩ := hd
  exact hT.und t i h1
theorem run_size (hT : TT.Sound P T) {t : TypeId} {n : Nat} (hd : sizeT T t = some n) (w : World) : (sizeOf t).run P w = .ok n w := by
  simp only [sizeT, Option.map_eq_some_iff] at hd
  obtain ⟨i, h1, rfl⟩ := hd
  obtain ⟨info, z, h2, h3, _⟩ := hT.info t i h1
  simp [sizeOf, typeInfo, h2, h3]
theorem size_P (hT : TT.Sound P T) {t : TypeId} {n : Nat} (hd : sizeT T t = some n) : (P.info? t).map (·.size) = some n := by
  simp only [sizeT, Option.map_eq_some_iff] at hd
  obtain ⟨i, h1, rfl⟩ := hd
  obtain ⟨info, z, h2, h3, _⟩ := hT.info t i h1
  simp [h2, h3]
theorem run_zero (hT : TT.Sound P T) {t : TypeId} {z : AV} (hd : zeroT T t = some z) (w : World) : ∃ v, (zeroValue t).run P w = .ok v w ∧ ofVal1 v = some z := by
  simp only [zeroT, Option.map_eq_some_iff] at hd
  obtain ⟨i, h1, rfl⟩ := hd
  obtain ⟨info, z, h2, _, _, h3, h4⟩ := hT.info t i h1
  exact ⟨z, by simp [zeroValue, typeInfo, h2, h3], h4⟩
theorem run_isAgg (hT : TT.Sound P T) {t : TypeId} {b : Bool} (hd : isAggT T t = some b) (w : World) : (isAgg t).run P w = .ok b w := by
  simp only [isAggT, Option.map_eq_some_iff] at hd
  obtain ⟨i, h1, rfl⟩ := hd
  unfold isAgg
  have h2 : und T t = some i.desc := by simp [und, h1]
  rw [Sem.run_bind, run_und hT h2]
  cases i.desc <;> rfl
/-! Programs that ask nothing of the world. -/
theorem pur_run {α : Type} (s : Sem α) : ∀ r, pur P s = some r → ∀ w, s.run P w = match r with | .ok a => .ok a w | .pan v => .halt (.panic v) w := by
  induction s with
  | pure a => intro r hr w; simp only [pur, Option.some.injEq] at hr; subst hr; rfl
  | program k ih => intro r hr w; exact ih P r hr w
  | mark m k ih => intro r hr w; exact ih r hr w
  | halt x =>
    intro r hr w
    cases x <;> simp only [pur, Option.some.injEq, reduceCtorEq] at hr
    subst hr
    rfl
  | load m a k ih => intro r hr; cases hr
  | store m a v k ih => intro r hr; cases hr
  | new o k ih => intro r hr; cases hr
  | shape r k ih => intro r hr; cases hr
  | freeze a n k ih => intro r hr; cases hr
  | frozen a k ih => intro r hr; cases hr
  | getObj r k ih => intro r hr; cases hr
  | setObj r o k ih => intro r hr; cases hr
  | choose q k ih => intro r hr; cases hr
  | sys c k ih => intro r hr; cases hr
/-! Operands. -/
def EnvR (ρ : Nat → Value) (μ : Mu) (w : World) (tmps : TM) (ev : Operand → Value) : Prop := ∀ x a, evalA tmps x = some a → rel ρ μ w a (ev x)
theorem envR_of {tmps : TM} {ev : Operand → Value} {l : List Value} (hl : rels ρ μ w tmps.L l) (h1 : ∀ t, ev (.tmp t) = l.getD t undef) (h2 : ∀ v, ev (.const v) = v) (h3 : ∀ f, ev (.func f) = .func (.func f) #[] #[]) : EnvR ρ μ w tmps ev := by
  intro x a hx
  cases x with
  | tmp t =>
    simp only [evalA, Option.some.injEq] at hx
    subst hx
    rw [h1, ← TL_at, ← List.getD_eq_getElem?_getD]
    exact rels_getD t hl
  | const v => rw [h2]; exact ofVal_rel hx
  | global g => cases hx
  | func f =>
    simp only [evalA, Option.some.injEq] at hx
    subst hx
    rw [h3]
    unfold rel
    exact ⟨.func f, [], [], rfl, rfl, rels_nil, rels_nil⟩
variable {tmps : TM} {ev : Operand → Value}
theorem evals_sound (he : EnvR ρ μ w tmps ev) : ∀ {l : List Operand} {xs : List AV}, evals tmps l = some xs → rels ρ μ w xs (l.map ev)
  | [], xs, hh => by simp only [evals, Option.some.injEq] at hh; subst hh; exact rels_nil
  | x :: r, xs, hh => by
    unfold evals at hh
    split at hh
    · rename_i v vs hv hvs
      obtain rfl := Option.some.inj hh
      exact rels_cons (he x v hv) (evals_sound he hvs)
    · cases hh
theorem litAll_sound (he : EnvR ρ μ w tmps ev) : ∀ {l : List Operand}, litAll tmps l = true → ∀ x ∈ l, ev x = litEnv tmps x
  | [], _, x, hx => by cases hx
  | y :: r, hh, x, hx => by
    unfold litAll at hh
    split at hh
    · rename_i v hv
      simp only [Bool.and_eq_true] at hh
      cases hx with
      | head =>
        obtain ⟨u, hu⟩ := Option.isSome_iff_exists.1 hh.1
        simp only [litEnv, hv, hu, Option.getD_some]
        exact toVal_rel hu (he _ _ hv)
      | tail _ hm => exact litAll_sound he hh.2 x hm
    · cases hh
/-! What an operation comes to. -/
def valOK (P : Program) (ρ : Nat → Value) (fl : Nat) (μ : Mu) (h : AH) (w : World) (r : Result Next) (v : AV) (h' : AH) : Prop :=
  ∃ μ' w' v', (r = .ok (.value v') w' ∨ (r = .ok .skip w' ∧ v' = undef)) ∧ Eff P ρ fl μ h w μ' h' w' ∧ rel ρ μ' w' v v'
def OpOK (P : Program) (ρ : Nat → Value) (fl : Nat) (μ : Mu) (h : AH) (w : World) (r : Result Next) : AN → AH → Prop
  | .val v, h' => valOK P ρ fl μ h w r v h'
  | .enter f args, h' => h' = h ∧ ∃ args', rels ρ μ w args args' ∧ r = (callFunc f args'.toArray).run P w
  | .round l args, h' => h' = h ∧ ∃ rl args', μ l = some (rl, 0) ∧ rels ρ μ w args args' ∧ r = (Instr.yield rl args'.toArray).run P w
  | .defer f args, h' => h' = h ∧ ∃ d args', rels ρ μ w args args' ∧ r = .ok (.defer d) w ∧ (∃ fn c, d.target = .fn fn c) ∧ ∀ w', (invoke d.target d.args).run P w' = (callFunc f args'.toArray).run P w'
  | .recover, h' => h' = h ∧ r = .ok .recover w
  | .pan v, h' => h' = h ∧ ∃ v', r = .halt (.panic v') w ∧ rel ρ μ w v v'
theorem valOK_here {r : Result Next} {v : AV} {v' : Value} (hr : HR P ρ fl μ h w) (h1 : r = .ok (.value v') w) (h2 : rel ρ μ w v v') : valOK P ρ fl μ h w r v h :=
  ⟨μ, w, v', .inl h1, Eff.refl hr, h2⟩
theorem litOp_sound {o : Oper} {n : AN} (hr : HR P ρ fl μ h w) (he : EnvR ρ μ w tmps ev) (hl : litOp P o tmps = some n) : OpOK P ρ fl μ h w ((execOp ev o).run P w) n h := by
  unfold litOp at hl
  split at hl
  case isFalse => cases hl
  rename_i hc
  simp only [Bool.and_eq_true] at hc
  have heq : execOp ev o = execOp (litEnv tmps) o := execOp_congr o (fun cs b hcs => by
    have := hc.1
    rw [hcs] at this
    cases this) (fun x hx => litAll_sound he hc.2 x (by simpa using hx))
  rw [heq]
  cases hp : pur P (execOp (litEnv tmps) o) with
  | none => rw [hp] at hl; cases hl
  | some r =>
    rw [hp] at hl
    have hrun := pur_run _ r hp w
    cases r with
    | ok nx =>
      cases nx with
      | value v =>
        simp only [ofPR, Option.map_eq_some_iff] at hl
        obtain ⟨a, ha, rfl⟩ := hl
        exact valOK_here hr hrun (ofVal_rel ha)
      | _ => cases hl
    | pan v =>
      simp only [ofPR, Option.map_eq_some_iff] at hl
      obtain ⟨a, ha, rfl⟩ := hl
      exact ⟨rfl, v, hrun, ofVal_rel ha⟩
theorem orLit_sound {o : Oper} {n : AN} {h' : AH} {k : Unit → AR} (hr : HR P ρ fl μ h w) (he : EnvR ρ μ w tmps ev) (hl : orLit P o tmps h k = some (n, h'))
    (hk : k () = some (n, h') → OpOK P ρ fl μ h w ((execOp ev o).run P w) n h') : OpOK P ρ fl μ h w ((execOp ev o).run P w) n h' := by
  unfold orLit at hl
  split at hl
  · rename_i m hm
    simp only [Option.some.injEq, Prod.mk.injEq] at hl
    obtain ⟨rfl, rfl⟩ := hl
    exact litOp_sound hr he hm
  · exact hk hl
theorem val_some {x : Option AV} {n : AN} {h' : AH} (hv : val h x = some (n, h')) : ∃ a, x = some a ∧ n = .val a ∧ h' = h := by
  simp only [val, Option.map_eq_some_iff, Prod.mk.injEq] at hv
  obtain ⟨a, h1, h2, h3⟩ := hv
  exact ⟨a, h1, h2.symm, h3.symm⟩
/-! Rows of cells. -/
theorem getB_R {b : Nat} {l : List AV} {e : TypeId} (hg : getB h b = some (l, e)) : h.at b = some (.cells l e) ∧ getR h b = some l := by
  unfold getB at hg
  split at hg
  · rename_i l' e' hb
    simp only [Option.some.injEq, Prod.mk.injEq] at hg
    obtain ⟨rfl, rfl⟩ := hg
    exact ⟨hb, by simp [getR, hb]⟩
  · cases hg
theorem getR_sound {b r base : Nat} {l : List AV} (hr : HR P ρ fl μ h w) (hb : μ b = some (r, base)) (hg : getR h b = some l) :
    ∃ cur e fz, w.heap[r]? = some (.cells cur e fz) ∧ window ρ μ w base l cur := by
  unfold getR at hg
  split at hg
  · rename_i l' e hx
    obtain rfl := Option.some.inj hg
    obtain ⟨_, _, o, h1, h2⟩ := hr.obj b r base _ hb hx
    obtain ⟨cur, rfl, h3, _⟩ := h2
    exact ⟨cur, _, _, h1, h3⟩
  · rename_i l' e hx
    obtain rfl := Option.some.inj hg
    obtain ⟨_, _, o, h1, h2⟩ := hr.obj b r base _ hb hx
    obtain ⟨cur, fz, rfl, h3⟩ := h2
    exact ⟨cur, _, _, h1, h3⟩
  · cases hg
theorem getB_sound {b r base : Nat} {l : List AV} {e : TypeId} (hr : HR P ρ fl μ h w) (hb : μ b = some (r, base)) (hg : getB h b = some (l, e)) :
    ∃ cur, w.heap[r]? = some (.cells cur e (0, 0)) ∧ window ρ μ w base l cur ∧ (bigT P e = true → base = 0 ∧ cur.size = l.length) := by
  obtain ⟨hx, _⟩ := getB_R hg
  obtain ⟨_, _, o, h1, h2⟩ := hr.obj b r base _ hb hx
  obtain ⟨cur, rfl, h3⟩ := h2
  exact ⟨cur, h1, h3⟩
theorem cut_some {l cs : List AV} {i n : Nat} (hc : cut l i n = some cs) : i + n ≤ l.length ∧ cs = (l.drop i).take n := by
  unfold cut at hc
  split at hc
  · exact ⟨by assumption, (Option.some.inj hc).symm⟩
  · cases hc
theorem cut_sound {base off n : Nat} {l cs : List AV} {cur : Array Value} (hw : window ρ μ w base l cur) (hc : cut l off n = some cs) :
    ∃ vs : List Value, rels ρ μ w cs vs ∧ vs.length = n ∧ cs.length = n ∧ base + off + n ≤ cur.size ∧ ∀ (j : Nat) (v : Value), vs[j]? = some v → cur[base + off + j]? = some v := by
  obtain ⟨h1, rfl⟩ := cut_some hc
  obtain ⟨h2, h3⟩ := hw
  have hl : ((l.drop off).take n).length = n := by simp; omega
  have hlv : ((cur.toList.drop (base + off)).take n).length = n := by simp; omega
  refine ⟨(cur.toList.drop (base + off)).take n, rels_of_get (by rw [hl, hlv]) (fun i x hx => ?_), hlv, hl, by omega, fun j v hv => ?_⟩
  · rw [List.getElem?_take] at hx
    split at hx
    · rename_i hi
      rw [List.getElem?_drop] at hx
      obtain ⟨v, h4, h5⟩ := h3 _ _ hx
      refine ⟨v, ?_, h5⟩
      rw [List.getElem?_take, if_pos hi, List.getElem?_drop, Array.getElem?_toList, Nat.add_assoc]
      exact h4
    · cases hx
  · rw [List.getElem?_take] at hv
    split at hv
    · rw [List.getElem?_drop, Array.getElem?_toList] at hv
      exact hv
    · cases hv
theorem put_some {l vs l' : List AV} {i : Nat} (hp : put l i vs = some l') : i + vs.length ≤ l.length ∧ l' = l.take i ++ vs ++ l.drop (i + vs.length) := by
  unfold put at hp
  split at hp
  · exact ⟨by assumption, (Option.some.inj hp).symm⟩
  · cases hp
theorem put_length {l vs l' : List AV} {i : Nat} (hp : put l i vs = some l') : l'.length = l.length := by
  obtain ⟨h1, rfl⟩ := put_some hp
  simp
  omega
theorem put_get {l vs l' : List AV} {i : Nat} (hp : put l i vs = some l') (k : Nat) : l'[k]? = if i ≤ k ∧ k < i + vs.length then vs[k - i]? else l[k]? := by
  obtain ⟨h1, rfl⟩ := put_some hp
  have hti : (l.take i).length = i := by simp; omega
  rw [List.append_assoc]
  by_cases hk : k < i
  · rw [List.getElem?_append_left (by omega), if_neg (by omega), List.getElem?_take, if_pos hk]
  · rw [List.getElem?_append_right (by omega), hti]
    by_cases hk2 : k < i + vs.length
    · rw [List.getElem?_append_left (by omega), if_pos (by omega)]
    · rw [List.getElem?_append_right (by omega), if_neg (by omega), List.getElem?_drop]
      congr 1
      omega
theorem rels_one {l : List AV} {l' : List Value} (hl : rels ρ μ w l l') (h1 : l.all AV.one = true) : ∀ u ∈ l', u.oneCell' = true := by
  induction l generalizing l' with
  | nil => rw [rels_nil_inv hl]; intro u hu; cases hu
  | cons x xs ih =>
    obtain ⟨v, vs, rfl, h2, h3⟩ := rels_cons_inv hl
    simp only [List.all_cons, Bool.and_eq_true] at h1
    intro u hu
    cases hu with
    | head => exact rel_one h2 h1.1
    | tail _ hm => exact ih h3 h1.2 u hm
theorem one_setCells {r e : Nat} {cur : Array Value} {fz : Nat × Nat} (hg : w.heap[r]? = some (.cells cur e fz)) (o : Nat) (vs : List Value) (hl : o + vs.length ≤ cur.size) : One r w (w.setCells r o vs) := by
  refine ⟨size_setCells' _ _ _ _, fun k hk => other_setCells' _ _ _ _ k hk, fun k cur' e' fz' hk => ?_, ⟨tape_setCells' _ _ _ _, (os_setCells' _ _ _ _).1, (os_setCells' _ _ _ _).2⟩⟩
  by_cases hkr : k = r
  · subst hkr
    rw [hg] at hk
    obtain ⟨rfl, rfl, rfl⟩ := Obj.cells.inj (Option.some.inj hk)
    obtain ⟨c, h1, h2, _⟩ := heap_setCells vs o w _ hg hl
    exact ⟨c, _, _, h1, h2⟩
  · exact ⟨cur', e', fz', by rw [other_setCells' _ _ _ _ k hkr]; exact hk, rfl⟩
/-- Cells are laid into a row that may be written. -/
theorem setCells_eff {b r base off : Nat} {l l' vs : List AV} {e : TypeId} {rvs : List Value} (hr : HR P ρ fl μ h w) (hb : μ b = some (r, base)) (hg : getB h b = some (l, e)) (hp : put l off vs = some l') (hv : rels ρ μ w vs rvs) :
    Eff P ρ fl μ h w μ (h.put b (.cells l' e)) (w.setCells r (base + off) rvs) ∧ (∀ j, j < rvs.length → (w.cell? ⟨r, base + off + j, none⟩).isSome = true) ∧ (∀ j, j < rvs.length → w.frozen? ⟨r, base + off + j, none⟩ = false) := by
  obtain ⟨cur, h1, h2, hbig⟩ := getB_sound hr hb hg
  obtain ⟨hx, _⟩ := getB_R hg
  obtain ⟨p1, _⟩ := put_some hp
  have hlen := rels_length hv
  have hfit : base + off + rvs.length ≤ cur.size := by have := h2.1; omega
  refine ⟨?_, fun j hj => ?_, fun j hj => frozen_in h1⟩
  · obtain ⟨cur', c1, c2, c3⟩ := heap_setCells rvs (base + off) w cur h1 hfit
    have hone := one_setCells h1 (base + off) rvs hfit
    refine Eff.upd hr hb hx rfl hone c1 ⟨cur', rfl, ⟨by rw [put_length hp, c2]; exact h2.1, fun i x hi => ?_⟩, fun hb => by rw [put_length hp, c2]; exact hbig hb⟩
    rw [put_get hp] at hi
    rw [c3]
    by_cases hk : off ≤ i ∧ i < off + vs.length
    · rw [if_pos hk] at hi
      rw [if_pos (by omega), show base + i - (base + off) = i - off by omega]
      obtain ⟨v, q1, q2⟩ := rels_get hv hi
      exact ⟨v, q1, rel.mono (More.refl μ) hone.grows _ _ q2⟩
    · rw [if_neg hk] at hi
      rw [if_neg (by omega)]
      obtain ⟨v, q1, q2⟩ := h2.2 i x hi
      exact ⟨v, q1, rel.mono (More.refl μ) hone.grows _ _ q2⟩
  · rw [cell_in h1, Array.getElem?_eq_getElem (by omega)]
    rfl
theorem loadA_sound {t : TypeId} {b r base off : Nat} {v : AV} (hT : TT.Sound P T) (hr : HR P ρ fl μ h w) (hb : μ b = some (r, base)) (hl : loadA T h t b off = some v) :
    ∃ v', (loadVar t ⟨r, base + off, none⟩).run P w = .ok v' w ∧ rel ρ μ w v v' := by
  unfold loadA at hl
  split at hl
  · rename_i l n hg hA hS
    simp only [Option.map_eq_some_iff] at hl
    obtain ⟨cs, hc, rfl⟩ := hl
    obtain ⟨cur, e, fz, h1, h2⟩ := getR_sound hr hb hg
    obtain ⟨vs, h3, h4, h5, h6, h7⟩ := cut_sound h2 hc
    have hA' := hA
    simp only [isAggT, Option.map_eq_some_iff] at hA
    obtain ⟨i, hi, hd⟩ := hA
    refine ⟨.agg vs.toArray, run_loadVar_mid w r (base + off) t vs i.desc (fun j u hu => ?_) (hT.und t i hi) hd (by rw [size_P hT hS, h4]), ?_⟩
    · rw [cell_in h1]
      exact h7 j u hu
    · unfold rel
      exact ⟨vs, rfl, h3⟩
  · rename_i l n hg hA hS
    obtain ⟨cur, e, fz, h1, h2⟩ := getR_sound hr hb hg
    obtain ⟨v', h3, h4⟩ := h2.2 _ _ hl
    refine ⟨v', ?_, h4⟩
    unfold loadVar
    have hc : w.cell? ⟨r, base + off, none⟩ = some v' := by rw [cell_in h1, h3]
    simp [Sem.run_bind, run_isAgg hT hA, hc]
  · cases hl
theorem storeA_sound {t : TypeId} {b r base off : Nat} {x : AV} {x' : Value} {h' : AH} (hT : TT.Sound P T) (hr : HR P ρ fl μ h w) (hb : μ b = some (r, base)) (hx : rel ρ μ w x x') (hl : storeA T h t b off x = some h') :
    ∃ w', (storeVar t ⟨r, base + off, none⟩ x').run P w = .ok () w' ∧ Eff P ρ fl μ h w μ h' w' := by
  unfold storeA at hl
  split at hl
  · rename_i l e n hg hS
    split at hl
    · rename_i hc
      simp only [Option.map_eq_some_iff] at hl
      obtain ⟨l', hp, rfl⟩ := hl
      simp only [Bool.and_eq_true, decide_eq_true_eq] at hc
      have hcells : rels ρ μ w x.cells x'.cells.toList := rel_cells hx
      obtain ⟨e1, e2, e3⟩ := setCells_eff hr hb hg hp hcells
      have hone := rels_one hcells hc.2
      have hst := run_storeCells_cells (P := P) r (base + off) x'.cells.toList 0 w (by simpa using e2) (by simpa using e3) hone
      have hsz : x'.cells.size = n := by
        have := rels_length hcells
        rw [Array.length_toList] at this
        omega
      refine ⟨_, ?_, e1⟩
      simp only [Nat.add_zero] at hst
      unfold storeVar
      simp [Sem.run_bind, run_size hT hS, hsz, hst]
    · cases hl
  · cases hl
end Go.Proofs.YtkgbeihcepociaaDoor.Ex
end

section

set_option linter.unusedSimpArgs false
set_option linter.unusedVariables false
namespace Go.Proofs.YtkgbeihcepociaaDoor.Ex
open Go Go.RowKit
variable {P : Program} {T : TT} {ρ : Nat → Value} {fl : Nat} {μ : Mu} {h : AH} {w : World} {tmps : TM} {ev : Operand → Value} {o : Oper} {n : AN} {h' : AH}
theorem op_move {x : Operand} (hr : HR P ρ fl μ h w) (he : EnvR ρ μ w tmps ev) (ho : o.op = .move x ∨ o.op = .assign x) (ha : val h (evalA tmps x) = some (n, h')) :
    OpOK P ρ fl μ h w ((execOp ev o).run P w) n h' := by
  obtain ⟨a, h1, rfl, rfl⟩ := val_some ha
  rcases ho with ho | ho <;> exact valOK_here hr (by simp [execOp, ho]) (he x a h1)
theorem rel_bool_inv {b : Bool} {v : Value} (hh : rel ρ μ w (.lit (.bool b)) v) : v = .bool b := by unfold rel at hh; exact hh.1
theorem op_pick {c a b : Operand} (hr : HR P ρ fl μ h w) (he : EnvR ρ μ w tmps ev) (ho : o.op = .pick c a b) (ha : aPick tmps h c a b = some (n, h')) :
    OpOK P ρ fl μ h w ((execOp ev o).run P w) n h' := by
  unfold aPick at ha
  split at ha
  · rename_i t hc
    have h1 := rel_bool_inv (he c _ hc)
    obtain ⟨x, hx, rfl, rfl⟩ := val_some ha
    refine valOK_here hr (v' := if t then ev a else ev b) (by simp [execOp, ho, h1, asBool]) ?_
    cases t <;> exact he _ _ hx
  · cases ha
theorem window_of {l : List AV} {cur : Array Value} (hh : rels ρ μ w l cur.toList) : window ρ μ w 0 l cur :=
  ⟨by have := rels_length hh; rw [Array.length_toList] at this; omega, fun i x hx => by
    obtain ⟨v, h1, h2⟩ := rels_get hh hx
    exact ⟨v, by rw [Nat.zero_add, ← Array.getElem?_toList]; exact h1, h2⟩⟩
theorem whole_of {e : TypeId} {l : List AV} {cur : Array Value} (hh : rels ρ μ w l cur.toList) : window ρ μ w 0 l cur ∧ (bigT P e = true → 0 = 0 ∧ cur.size = l.length) :=
  ⟨window_of hh, fun _ => ⟨rfl, by have := rels_length hh; rwa [Array.length_toList] at this⟩⟩
theorem rel_new (x : Nat × Nat) : rel ρ (up μ h.n (x.1, 0)) w (.ptr h.n 0) (.pointer (some ⟨x.1, 0, none⟩)) := by
  unfold rel
  exact ⟨x.1, 0, up_same _ _ _, rfl⟩
theorem op_alloc {t : TypeId} (hT : TT.Sound P T) (hr : HR P ρ fl μ h w) (ho : o.op = .alloc t) (ha : aAlloc T h t = some (n, h')) :
    OpOK P ρ fl μ h w ((execOp ev o).run P w) n h' := by
  simp only [aAlloc, Option.map_eq_some_iff, Prod.mk.injEq] at ha
  obtain ⟨z, h1, rfl, rfl⟩ := ha
  obtain ⟨v, h2, h3⟩ := run_zero hT h1 w
  refine ⟨_, _, .pointer (some ⟨w.heap.size, 0, none⟩), .inl ?_, Eff.alloc hr (o := .cells v.cells t) ⟨v.cells, rfl, whole_of (rel_cells (ofVal1_rel h3))⟩, rel_new (w.heap.size, 0)⟩
  simp [execOp, ho, Instr.alloc, h2, newVar, newRow]
theorem op_box {t : TypeId} {x : Operand} (hr : HR P ρ fl μ h w) (he : EnvR ρ μ w tmps ev) (ho : o.op = .box t x) (ha : aBox tmps h t x = some (n, h')) :
    OpOK P ρ fl μ h w ((execOp ev o).run P w) n h' := by
  unfold aBox at ha
  split at ha
  · rename_i z hz
    split at ha
    · simp only [Option.some.injEq, Prod.mk.injEq] at ha
      obtain ⟨rfl, rfl⟩ := ha
      refine ⟨_, _, .pointer (some ⟨w.heap.size, 0, none⟩), .inl ?_, Eff.alloc hr (o := .cells (ev x).cells t) ⟨_, rfl, whole_of (rel_cells (he x z hz))⟩, rel_new (w.heap.size, 0)⟩
      simp [execOp, ho, Instr.box, newVar, newRow]
    · cases ha
  · cases ha
/-! Filling. -/
def partsRel (ρ : Nat → Value) (μ : Mu) (w : World) : List (Nat × AV) → List (Nat × Value) → Prop
  | [], l => l = []
  | (i, a) :: r, l => ∃ v l', l = (i, v) :: l' ∧ rel ρ μ w a v ∧ partsRel ρ μ w r l'
theorem evalParts_sound (he : EnvR ρ μ w tmps ev) : ∀ {l : List (Nat × Operand)} {ps : List (Nat × AV)}, evalParts tmps l = some ps → partsRel ρ μ w ps (l.map fun p => (p.1, ev p.2))
  | [], ps, hh => by simp only [evalParts, Option.some.injEq] at hh; subst hh; rfl
  | (i, x) :: r, ps, hh => by
    unfold evalParts at hh
    split at hh
    · rename_i v vs hv hvs
      obtain rfl := Option.some.inj hh
      exact ⟨ev x, _, rfl, he x v hv, evalParts_sound he hvs⟩
    · cases hh
theorem fold_cells (off : Nat) : ∀ (vs : List Value) (k : Nat) (cells : Array Value), off + k + vs.length ≤ cells.size →
    ((vs.zipIdx k).foldl (fun cs (x : Value × Nat) => cs.setIfInBounds (off + x.2) x.1) cells).size = cells.size ∧
    ∀ i, ((vs.zipIdx k).foldl (fun cs (x : Value × Nat) => cs.setIfInBounds (off + x.2) x.1) cells)[i]? = if off + k ≤ i ∧ i < off + k + vs.length then vs[i - (off + k)]? else cells[i]?
  | [], k, cells, _ => ⟨rfl, fun i => by simp only [List.zipIdx_nil, List.foldl_nil]; rw [if_neg (by simp)]⟩
  | v :: r, k, cells, hl => by
    simp only [List.length_cons] at hl
    obtain ⟨h1, h2⟩ := fold_cells off r (k + 1) (cells.setIfInBounds (off + k) v) (by simp; omega)
    simp only [List.zipIdx_cons, List.foldl_cons]
    refine ⟨by rw [h1]; simp, fun i => ?_⟩
    rw [h2 i]
    simp only [List.length_cons]
    by_cases hi : i = off + k
    · subst hi
      rw [if_neg (by omega), if_pos (by omega), Array.getElem?_setIfInBounds, if_pos rfl]
      simp
      omega
    · by_cases hk : off + (k + 1) ≤ i ∧ i < off + (k + 1) + r.length
      · rw [if_pos hk, if_pos (by omega), show i - (off + k) = (i - (off + (k + 1))) + 1 by omega, List.getElem?_cons_succ]
      · rw [if_neg hk, if_neg (by omega), Array.getElem?_setIfInBounds, if_neg (by omega)]
theorem fillA_sound {place : Nat → Option (Nat × Nat)} : ∀ {ps : List (Nat × AV)} {rps : List (Nat × Value)} {cells res : List AV} {rcells : Array Value}, partsRel ρ μ w ps rps → rels ρ μ w cells rcells.toList → fillA place cells ps = some res →
    ∃ rres, Instr.fill place rcells rps = some rres ∧ rels ρ μ w res rres.toList
  | [], rps, cells, res, rcells, hp, hc, hf => by
    obtain rfl := hp
    simp only [fillA, Option.some.injEq] at hf
    subst hf
    exact ⟨rcells, rfl, hc⟩
  | (i, a) :: r, rps, cells, res, rcells, hp, hc, hf => by
    obtain ⟨v, l', rfl, h1, h2⟩ := hp
    unfold fillA at hf
    split at hf
    · rename_i off size hpl
      split at hf
      · rename_i hsz
        split at hf
        · rename_i c hput
          have hcs := rel_cells h1
          have hlen := rels_length hcs
          rw [Array.length_toList] at hlen
          obtain ⟨p1, _⟩ := put_some hput
          have hclen := rels_length hc
          rw [Array.length_toList] at hclen
          obtain ⟨f1, f2⟩ := fold_cells off v.cells.toList 0 rcells (by rw [Array.length_toList]; omega)
          have hnew : rels ρ μ w c ((v.cells.toList.zipIdx 0).foldl (fun cs (x : Value × Nat) => cs.setIfInBounds (off + x.2) x.1) rcells).toList := by
            refine rels_of_get (by rw [Array.length_toList, f1, put_length hput, hclen]) (fun k x hk => ?_)
            rw [Array.getElem?_toList, f2, Array.length_toList]
            rw [put_get hput] at hk
            by_cases hin : off ≤ k ∧ k < off + a.cells.length
            · rw [if_pos hin] at hk
              rw [if_pos (by omega), Nat.add_zero]
              exact rels_get hcs hk
            · rw [if_neg hin] at hk
              rw [if_neg (by omega), ← Array.getElem?_toList]
              exact rels_get hc hk
          obtain ⟨rres, q1, q2⟩ := fillA_sound h2 hnew hf
          refine ⟨rres, ?_, q2⟩
          have e1 : ¬ (v.cells.size ≠ size || decide (off + v.cells.size > rcells.size)) = true := by
            simp
            omega
          have e2 : v.cells.zipIdx.foldl (fun cs (x : Value × Nat) => cs.setIfInBounds (off + x.2) x.1) rcells = (v.cells.toList.zipIdx 0).foldl (fun cs (x : Value × Nat) => cs.setIfInBounds (off + x.2) x.1) rcells := by
            rw [← Array.foldl_toList, Array.toList_zipIdx]
          simp only [Instr.fill, hpl, e1, if_false]
          rw [e2]
          exact q1
        · cases hf
      · cases hf
    · cases hf
theorem places_run (hT : TT.Sound P T) (w : World) : ∀ {fs : List Field} {pl : List (Nat × Nat)}, places T fs = some pl → (fs.mapM fun f => Prod.mk f.offset <$> sizeOf f.type).run P w = .ok pl w
  | [], pl, hh => by simp only [places, Option.some.injEq] at hh; subst hh; simp
  | f :: r, pl, hh => by
    unfold places at hh
    split at hh
    · rename_i n' l hn hl
      obtain rfl := Option.some.inj hh
      simp [List.mapM_cons, run_size hT hn, places_run hT w hl]
    · cases hh
theorem op_build {t : TypeId} {ps : Array (Nat × Operand)} (hT : TT.Sound P T) (hr : HR P ρ fl μ h w) (he : EnvR ρ μ w tmps ev) (ho : o.op = .build t ps) (ha : aBuild T tmps h t ps = some (n, h')) :
    OpOK P ρ fl μ h w ((execOp ev o).run P w) n h' := by
  unfold aBuild at ha
  split at ha
  case h_2 => cases ha
  rename_i ps' hps
  obtain ⟨a, h1, rfl, rfl⟩ := val_some ha
  have hpr := evalParts_sound he hps
  unfold buildA at h1
  split at h1
  · rename_i z fs hz hu
    split at h1
    · rename_i pl hpl
      simp only [Option.map_eq_some_iff] at h1
      obtain ⟨res, hf, rfl⟩ := h1
      obtain ⟨v, hv, hv2⟩ := run_zero hT hz w
      obtain ⟨rres, q1, q2⟩ := fillA_sound (ρ := ρ) hpr (rel_cells (ofVal1_rel hv2)) hf
      refine valOK_here hr (v' := .agg rres) ?_ (by unfold rel; exact ⟨rres.toList, by simp, q2⟩)
      have e1 : (fs.mapM fun f => Prod.mk f.offset <$> sizeOf f.type).run P w = .ok pl.toArray w := by
        rw [Array.mapM_eq_mapM_toList]
        simp [places_run hT w hpl]
      simp [execOp, ho, Instr.build, hv, run_und hT hu, e1, q1]
    · cases h1
  · rename_i z m e hz hu
    split at h1
    · rename_i sz hs
      simp only [Option.map_eq_some_iff] at h1
      obtain ⟨res, hf, rfl⟩ := h1
      obtain ⟨v, hv, hv2⟩ := run_zero hT hz w
      obtain ⟨rres, q1, q2⟩ := fillA_sound (ρ := ρ) hpr (rel_cells (ofVal1_rel hv2)) hf
      refine valOK_here hr (v' := .agg rres) ?_ (by unfold rel; exact ⟨rres.toList, by simp, q2⟩)
      simp [execOp, ho, Instr.build, hv, run_und hT hu, run_size hT hs, q1]
    · cases h1
  · cases h1
/-! Rows of zeros. -/
theorem rep_length (z : List AV) : ∀ m, (rep z m).length = m * z.length
  | 0 => by simp [rep]
  | m + 1 => by rw [rep, List.length_append, rep_length z m, Nat.add_mul, Nat.one_mul, Nat.add_comm]
theorem rep_get (z : List AV) : ∀ (m k : Nat), k < m * z.length → (rep z m)[k]? = z[k % z.length]?
  | 0, k, hk => by omega
  | m + 1, k, hk => by
    rw [rep]
    rw [Nat.add_mul, Nat.one_mul] at hk
    by_cases h1 : k < z.length
    · rw [List.getElem?_append_left h1, Nat.mod_eq_of_lt h1]
    · have h2 : k % z.length = (k - z.length) % z.length := Nat.mod_eq_sub_mod (by omega)
      rw [List.getElem?_append_right (by omega), rep_get z m _ (by omega), h2]
theorem rep_rels {z : List AV} {rz : Array Value} (hz : rels ρ μ w z rz.toList) (m : Nat) : rels ρ μ w (rep z m) ((Array.range (m * z.length)).map (fun i => rz[i % rz.size]!)).toList := by
  have hlen := rels_length hz
  rw [Array.length_toList] at hlen
  refine rels_of_get (by simp [rep_length]) (fun k x hx => ?_)
  have hk : k < m * z.length := by rw [← rep_length]; exact (List.getElem?_eq_some_iff.1 hx).1
  rw [rep_get z m k hk] at hx
  obtain ⟨v, h1, h2⟩ := rels_get hz hx
  refine ⟨v, ?_, h2⟩
  rw [Array.getElem?_toList] at h1
  simp only [Array.toList_map, List.getElem?_map, Array.toList_range, List.getElem?_range hk, Option.map_some, Option.some.injEq]
  have hi : k % rz.size = k % z.length := by rw [hlen]
  rw [hi, getElem!_def, h1]
theorem rel_sl_new {len k : Nat} (hk : len ≤ k) (hm : k ≤ maxLen) (w' : World) : rel ρ (up μ h.n (w.heap.size, 0)) w' (.sl h.n 0 len (.kn k)) (.slice (some ⟨w.heap.size, 0, none⟩) len k) := by
  unfold rel
  exact .inl ⟨w.heap.size, 0, 0, k, up_same _ _ _, rfl, .inr rfl, rfl, hk, hm⟩
theorem op_buildSlice {t : TypeId} {m : Nat} {ps : Array (Nat × Operand)} (hT : TT.Sound P T) (hr : HR P ρ fl μ h w) (he : EnvR ρ μ w tmps ev) (ho : o.op = .buildSlice t m ps) (ha : aBuildSlice T tmps h t m ps = some (n, h')) :
    OpOK P ρ fl μ h w ((execOp ev o).run P w) n h' := by
  unfold aBuildSlice at ha
  split at ha
  case h_2 => cases ha
  rename_i e ps' hu hps
  split at ha
  case h_2 => cases ha
  rename_i i hi
  split at ha
  case isFalse => cases ha
  rename_i hc
  simp only [Bool.and_eq_true, decide_eq_true_eq] at hc
  simp only [Option.map_eq_some_iff, Prod.mk.injEq] at ha
  obtain ⟨l, hf, rfl, rfl⟩ := ha
  obtain ⟨z, hz, hz2⟩ := run_zero hT (show zeroT T e = some i.zero by simp [zeroT, hi]) w
  have hzr := rel_cells (ofVal1_rel (ρ := ρ) (μ := μ) (w := w) hz2)
  have hlen := rels_length hzr
  rw [Array.length_toList] at hlen
  have hs := run_size hT (show sizeT T e = some i.size by simp [sizeT, hi]) w
  have hrow : rels ρ μ w (rep i.zero.cells m) ((Array.range (m * i.size)).map (fun k => (if m * i.size = 0 then (#[] : Array Value) else z.cells)[k % (if m * i.size = 0 then (#[] : Array Value) else z.cells).size]!)).toList := by
    by_cases h0 : m * i.size = 0
    · have : rep i.zero.cells m = [] := List.eq_nil_of_length_eq_zero (by rw [rep_length, hc.1.1]; exact h0)
      rw [this, h0]
      simp [rels_nil]
    · simp only [h0, if_false]
      have := rep_rels hzr m
      rw [hc.1.1] at this
      exact this
  obtain ⟨rres, q1, q2⟩ := fillA_sound (evalParts_sound he hps) hrow hf
  have hmm : m ≤ maxLen := by
    simp only [maxLen]
    omega
  refine ⟨_, _, .slice (some ⟨w.heap.size, 0, none⟩) m m, .inl ?_, Eff.alloc hr (o := .cells rres e) ⟨rres, rfl, whole_of q2⟩, rel_sl_new (Nat.le_refl _) hmm _⟩
  have h24 : ¬ (m * i.size > 2 ^ 24) := by omega
  by_cases h0 : m * i.size = 0
  · simp only [h0, if_true] at q1
    have e0 : Array.range 0 = #[] := rfl
    simp only [e0, List.map_toArray, List.map_nil] at q1
    simp [execOp, ho, Instr.buildSlice, run_und hT hu, hs, h0, e0, q1, newRow]
  · simp only [h0, if_false] at q1
    simp [execOp, ho, Instr.buildSlice, run_und hT hu, hs, h0, h24, hz, q1, newRow]
end Go.Proofs.YtkgbeihcepociaaDoor.Ex
end

section

set_option linter.unusedSimpArgs false
set_option linter.unusedVariables false
namespace Go.Proofs.YtkgbeihcepociaaDoor.Ex
open Go Go.RowKit
variable {P : Program} {T : TT} {ρ : Nat → Value} {fl : Nat} {μ : Mu} {h : AH} {w : World} {tmps : TM} {ev : Operand → Value} {o : Oper} {n : AN} {h' : AH}
theorem rel_ptr_inv {b off : Nat} {v : Value} (hh : rel ρ μ w (.ptr b off) v) : ∃ r base, μ b = some (r, base) ∧ v = .pointer (some ⟨r, base + off, none⟩) := by unfold rel at hh; exact hh
theorem rel_lit_inv {u v : Value} (hh : rel ρ μ w (.lit u) v) : v = u := by unfold rel at hh; exact hh.1
theorem op_load {t : TypeId} {x : Operand} (hT : TT.Sound P T) (hr : HR P ρ fl μ h w) (he : EnvR ρ μ w tmps ev) (ho : o.op = .load t x) (ha : aLoad T tmps h t x = some (n, h')) :
    OpOK P ρ fl μ h w ((execOp ev o).run P w) n h' := by
  unfold aLoad at ha
  split at ha
  · rename_i b off hx
    obtain ⟨a, h1, rfl, rfl⟩ := val_some ha
    obtain ⟨r, base, hb, hv⟩ := rel_ptr_inv (he x _ hx)
    obtain ⟨v', h2, h3⟩ := loadA_sound hT hr hb h1
    exact valOK_here hr (by simp [execOp, ho, hv, Instr.loadAt, Instr.sureAddr, h2]) h3
  · cases ha
theorem op_store {t : TypeId} {x y : Operand} (hT : TT.Sound P T) (hr : HR P ρ fl μ h w) (he : EnvR ρ μ w tmps ev) (ho : o.op = .store t x y) (ha : aStore T tmps h t x y = some (n, h')) :
    OpOK P ρ fl μ h w ((execOp ev o).run P w) n h' := by
  unfold aStore at ha
  split at ha
  · rename_i b off u hx hy
    simp only [Option.map_eq_some_iff, Prod.mk.injEq] at ha
    obtain ⟨h1, h2, rfl, rfl⟩ := ha
    obtain ⟨r, base, hb, hv⟩ := rel_ptr_inv (he x _ hx)
    obtain ⟨w', h3, h4⟩ := storeA_sound hT hr hb (he y _ hy) h2
    exact ⟨μ, w', undef, .inr ⟨by simp [execOp, ho, hv, Instr.storeAt, Instr.sureAddr, h3], rfl⟩, h4, rel_undef⟩
  · cases ha
theorem rel_fn_inv {f : FuncId} {a b : List AV} {v : Value} (hh : rel ρ μ w (.fn (.func f) a b) v) : ∃ x y, v = .func (.func f) x y := by
  unfold rel at hh
  obtain ⟨f', x, y, h1, h2, _⟩ := hh
  simp only [fnRel] at h2
  subst h2
  exact ⟨_, _, h1⟩
theorem rel_ifc_inv {t : TypeId} {a : AV} {v : Value} (hh : rel ρ μ w (.ifc t a) v) : ∃ u, v = .iface t u ∧ rel ρ μ w a u := by unfold rel at hh; exact hh
theorem op_nilCheck {x : Operand} (hr : HR P ρ fl μ h w) (he : EnvR ρ μ w tmps ev) (ho : o.op = .nilCheck x) (ha : aNilCheck P o tmps h x = some (n, h')) :
    OpOK P ρ fl μ h w ((execOp ev o).run P w) n h' := by
  unfold aNilCheck at ha
  split at ha
  · rename_i b off hx
    simp only [Option.some.injEq, Prod.mk.injEq] at ha
    obtain ⟨rfl, rfl⟩ := ha
    have h1 := he x _ hx
    obtain ⟨r, base, hb, hv⟩ := rel_ptr_inv h1
    exact valOK_here hr (by simp [execOp, ho, hv]) (hv ▸ h1)
  · rename_i g a b hx
    simp only [Option.some.injEq, Prod.mk.injEq] at ha
    obtain ⟨rfl, rfl⟩ := ha
    have h1 := he x _ hx
    obtain ⟨p, q, hv⟩ := rel_fn_inv h1
    exact valOK_here hr (by simp [execOp, ho, hv]) (hv ▸ h1)
  · rename_i t u hx
    simp only [Option.some.injEq, Prod.mk.injEq] at ha
    obtain ⟨rfl, rfl⟩ := ha
    have h1 := he x _ hx
    obtain ⟨q, hv, _⟩ := rel_ifc_inv h1
    exact valOK_here hr (by simp [execOp, ho, hv]) (hv ▸ h1)
  · exact orLit_sound hr he ha fun hk => by cases hk
/-! Comparisons. -/
theorem eqGuard_run {op : BinOp} {t : TypeId} {x y : Operand} {a b : Value} (h1 : ¬ (a = .nilIface ∧ b = .nilIface)) (h2 : ∀ cs, a ≠ .agg cs) (w : World) : (eqGuard op t x y a b).run P w = .ok () w := by
  unfold eqGuard
  cases op <;> (try rfl)
  all_goals (cases a <;> first | rfl | (exact absurd rfl (h2 _)) | (cases b <;> first | rfl | exact absurd ⟨rfl, rfl⟩ h1))
theorem equal_succ (t : TypeId) (x y : Value) : Op.equal t x y = Op.equalIn (9999 + 1) t x y := rfl
theorem sameA_sound {t : TypeId} {d : TypeDesc} {a b : AV} {x y : Value} {r : Bool} (hT : TT.Sound P T) (hr : HR P ρ fl μ h w) (hd : und T t = some d) (ha : rel ρ μ w a x) (hb : rel ρ μ w b y) (hs : sameA T d a b = some r) :
    (Op.equal t x y).run P w = .ok r w ∧ ¬ (x = .nilIface ∧ y = .nilIface) ∧ ∀ cs, x ≠ .agg cs := by
  have hu := run_und hT hd w
  rw [equal_succ]
  generalize 9999 = dep
  unfold sameA at hs
  split at hs
  case h_1 =>
    obtain rfl := Option.some.inj hs
    obtain ⟨r, base, _, rfl⟩ := rel_ptr_inv ha
    obtain rfl := rel_lit_inv hb
    exact ⟨by simp [Op.equalIn, hu], by simp, by simp⟩
  case h_2 =>
    obtain rfl := Option.some.inj hs
    obtain ⟨r, base, _, rfl⟩ := rel_ptr_inv hb
    obtain rfl := rel_lit_inv ha
    exact ⟨by simp [Op.equalIn, hu], by simp, by simp⟩
  case h_3 =>
    obtain rfl := Option.some.inj hs
    unfold rel at ha
    obtain rfl := rel_lit_inv hb
    rcases ha with ⟨r, base, o, c, _, rfl, _⟩ | ⟨_, _, a, rfl⟩ <;> exact ⟨by simp [Op.equalIn, hu], by simp, by simp⟩
  case h_4 =>
    obtain rfl := Option.some.inj hs
    unfold rel at hb
    obtain rfl := rel_lit_inv ha
    rcases hb with ⟨r, base, o, c, _, rfl, _⟩ | ⟨_, _, a, rfl⟩ <;> exact ⟨by simp [Op.equalIn, hu], by simp, by simp⟩
  case h_5 =>
    obtain rfl := Option.some.inj hs
    unfold rel at ha
    obtain ⟨r, _, rfl⟩ := ha
    obtain rfl := rel_lit_inv hb
    exact ⟨by simp [Op.equalIn, hu], by simp, by simp⟩
  case h_6 =>
    obtain rfl := Option.some.inj hs
    unfold rel at hb
    obtain ⟨r, _, rfl⟩ := hb
    obtain rfl := rel_lit_inv ha
    exact ⟨by simp [Op.equalIn, hu], by simp, by simp⟩
  case h_7 =>
    obtain rfl := Option.some.inj hs
    unfold rel at ha
    obtain ⟨f', p, q, rfl, _⟩ := ha
    obtain rfl := rel_lit_inv hb
    exact ⟨by simp [Op.equalIn, hu], by simp, by simp⟩
  case h_8 =>
    obtain rfl := Option.some.inj hs
    unfold rel at hb
    obtain ⟨f', p, q, rfl, _⟩ := hb
    obtain rfl := rel_lit_inv ha
    exact ⟨by simp [Op.equalIn, hu], by simp, by simp⟩
  case h_9 =>
    obtain rfl := Option.some.inj hs
    obtain ⟨u, rfl, _⟩ := rel_ifc_inv ha
    obtain rfl := rel_lit_inv hb
    exact ⟨by simp [Op.equalIn, hu], by simp, by simp⟩
  case h_10 =>
    obtain rfl := Option.some.inj hs
    obtain ⟨u, rfl, _⟩ := rel_ifc_inv hb
    obtain rfl := rel_lit_inv ha
    exact ⟨by simp [Op.equalIn, hu], by simp, by simp⟩
  case h_11 e b1 i b2 j =>
    obtain ⟨r1, base1, m1, rfl⟩ := rel_ptr_inv ha
    obtain ⟨r2, base2, m2, rfl⟩ := rel_ptr_inv hb
    split at hs
    case h_2 => cases hs
    rename_i k hk
    have hsz := run_size hT hk w
    refine ⟨?_, by simp, by simp⟩
    cases hbb : Nat.beq b1 b2 with
    | true =>
      rw [hbb] at hs
      obtain rfl := Option.some.inj hs
      obtain rfl := Nat.eq_of_beq_eq_true hbb
      rw [m1] at m2
      obtain ⟨rfl, rfl⟩ := Prod.mk.inj (Option.some.inj m2)
      have e1 : ((⟨r1, base1 + i, none⟩ : Addr) == ⟨r1, base1 + j, none⟩) = Nat.beq i j := by
        rw [Bool.eq_iff_iff]
        simp
      simp [Op.equalIn, hu, hsz, sameAddr, e1]
    | false => rw [hbb] at hs; cases hs
  case h_12 => cases hs
/-- Neither is a plain pair. -/
def loose : Value → Value → Bool
  | .pointer _, .pointer _ | .slice .., .slice .. | .map _, .map _ | .func .., .nilFunc | .nilFunc, .func .. | .iface .., .nilIface | .nilIface, .iface .. => true
  | _, _ => false
theorem bin_loose {t : TypeId} {x y : Value} (hl : loose x y = true) : binOp .eql t x y = (do pure (.bool (← Op.equal t x y))) ∧ binOp .neq t x y = (do pure (.bool (!(← Op.equal t x y)))) := by
  unfold loose at hl
  split at hl <;> first | exact ⟨rfl, rfl⟩ | cases hl
theorem sameA_bin {t : TypeId} {d : TypeDesc} {a b : AV} {x y : Value} {r : Bool} (hd : und T t = some d) (ha : rel ρ μ w a x) (hb : rel ρ μ w b y) (hs : sameA T d a b = some r) :
    binOp .eql t x y = (do pure (.bool (← Op.equal t x y))) ∧ binOp .neq t x y = (do pure (.bool (!(← Op.equal t x y)))) := by
  refine bin_loose ?_
  unfold sameA at hs
  split at hs
  case h_12 => cases hs
  all_goals
    unfold rel at ha hb
    first
      | (obtain ⟨_, _, _, rfl⟩ := ha; obtain ⟨_, _, _, rfl⟩ := hb; rfl)
      | (obtain ⟨_, _, _, rfl⟩ := ha; obtain ⟨rfl, _⟩ := hb; rfl)
      | (obtain ⟨_, _, _, rfl⟩ := hb; obtain ⟨rfl, _⟩ := ha; rfl)
      | (obtain ⟨rfl, _⟩ := hb; rcases ha with ⟨_, _, _, _, _, rfl, _⟩ | ⟨_, _, _, rfl⟩ <;> rfl)
      | (obtain ⟨rfl, _⟩ := ha; rcases hb with ⟨_, _, _, _, _, rfl, _⟩ | ⟨_, _, _, rfl⟩ <;> rfl)
      | (obtain ⟨_, _, rfl⟩ := ha; obtain ⟨rfl, _⟩ := hb; rfl)
      | (obtain ⟨_, _, rfl⟩ := hb; obtain ⟨rfl, _⟩ := ha; rfl)
      | (obtain ⟨_, _, _, rfl, _⟩ := ha; obtain ⟨rfl, _⟩ := hb; rfl)
      | (obtain ⟨_, _, _, rfl, _⟩ := hb; obtain ⟨rfl, _⟩ := ha; rfl)
      | (obtain ⟨_, rfl, _⟩ := ha; obtain ⟨rfl, _⟩ := hb; rfl)
      | (obtain ⟨_, rfl, _⟩ := hb; obtain ⟨rfl, _⟩ := ha; rfl)
theorem op_same {op : BinOp} {t ty : TypeId} {x y : Operand} (hT : TT.Sound P T) (hr : HR P ρ fl μ h w) (he : EnvR ρ μ w tmps ev) (ho : o.op = .binOp op t x y ty) (ha : aSame T tmps h op t x y = some (n, h')) :
    OpOK P ρ fl μ h w ((execOp ev o).run P w) n h' := by
  unfold aSame at ha
  split at ha
  case h_2 => cases ha
  rename_i d a b hd hx hy
  split at ha
  · rename_i r hs
    simp only [Option.some.injEq, Prod.mk.injEq] at ha
    obtain ⟨rfl, rfl⟩ := ha
    obtain ⟨h1, h2, h3⟩ := sameA_sound hT hr hd (he x _ hx) (he y _ hy) hs
    refine valOK_here hr (v' := .bool r) ?_ (rel_lit rfl)
    simp only [execOp, ho, Sem.run_bind, eqGuard_run h2 h3, Result.andThen_ok]
    rw [(sameA_bin hd (he x _ hx) (he y _ hy) hs).1]
    simp [h1]
  · rename_i r hs
    simp only [Option.some.injEq, Prod.mk.injEq] at ha
    obtain ⟨rfl, rfl⟩ := ha
    obtain ⟨h1, h2, h3⟩ := sameA_sound hT hr hd (he x _ hx) (he y _ hy) hs
    refine valOK_here hr (v' := .bool !r) ?_ (rel_lit rfl)
    simp only [execOp, ho, Sem.run_bind, eqGuard_run h2 h3, Result.andThen_ok]
    rw [(sameA_bin hd (he x _ hx) (he y _ hy) hs).2]
    simp [h1]
  · cases ha
end Go.Proofs.YtkgbeihcepociaaDoor.Ex
end

section

set_option linter.unusedSimpArgs false
set_option linter.unusedVariables false
namespace Go.Proofs.YtkgbeihcepociaaDoor.Ex
open Go Go.RowKit
variable {P : Program} {T : TT} {ρ : Nat → Value} {fl : Nat} {μ : Mu} {h : AH} {w : World} {tmps : TM} {ev : Operand → Value} {o : Oper} {n : AN} {h' : AH}
theorem rel_lit_scal {u v : Value} (hh : rel ρ μ w (.lit u) v) : scal v = true := by unfold rel at hh; rw [hh.1]; exact hh.2
theorem ofPV_sound {s : Sem Value} {r : Result Next} (hr : HR P ρ fl μ h w) (ha : ofPV h (pur P s) = some (n, h')) (hrun : r = ((s.run P w).andThen fun v w' => .ok (.value v) w')) : OpOK P ρ fl μ h w r n h' := by
  cases hp : pur P s with
  | none => rw [hp] at ha; cases ha
  | some pr =>
    rw [hp] at ha
    have hs := pur_run s pr hp w
    cases pr with
    | ok v =>
      simp only [ofPV, Option.map_eq_some_iff, Prod.mk.injEq] at ha
      obtain ⟨a, h1, rfl, rfl⟩ := ha
      exact valOK_here hr (by rw [hrun, hs]; rfl) (ofScal_rel h1)
    | pan v =>
      simp only [ofPV, Option.map_eq_some_iff, Prod.mk.injEq] at ha
      obtain ⟨a, h1, rfl, rfl⟩ := ha
      exact ⟨rfl, v, by rw [hrun, hs]; rfl, ofVal_rel h1⟩
theorem cmpB_sound {op : BinOp} {a b u f : Bool} {c m : Int} {r : Bool} {t : TypeId} (hc : cmpB op b a u f = some r) (hb : b = true → m < c) (ha : a = true → c < m) (hu : u = true → m ≤ c) (hf : f = true → c ≤ m) :
    (binOp op t (.int .i64 m) (.int .i64 c)).run P w = .ok (.bool r) w := by
  have key : ∀ v : Bool, (binOp op t (.int .i64 m) (.int .i64 c)) = .pure (.bool v) → v = r → (binOp op t (.int .i64 m) (.int .i64 c)).run P w = .ok (.bool r) w := fun v e1 e2 => by rw [e1, e2]; rfl
  cases op <;> simp only [cmpB, reduceCtorEq] at hc
  case eql => 
    refine key (m == c) (by simp [binOp, Op.intCmp]; rfl) ?_
    cases b <;> cases a <;> simp at hc hb ha ⊢ <;> subst hc <;> simp <;> omega
  case neq =>
    refine key (m != c) (by simp [binOp, Op.intCmp]; rfl) ?_
    cases b <;> cases a <;> simp at hc hb ha ⊢ <;> subst hc <;> simp <;> omega
  case lss =>
    refine key (decide (m < c)) (by simp [binOp, Op.intCmp]; rfl) ?_
    cases b <;> cases f <;> simp at hc hb hf ⊢ <;> subst hc <;> simp <;> omega
  case leq =>
    refine key (decide (m ≤ c)) (by simp [binOp, Op.intCmp]; rfl) ?_
    cases u <;> cases a <;> simp at hc hu ha ⊢ <;> subst hc <;> simp <;> omega
  case gtr =>
    refine key (decide (m > c)) (by simp [binOp, Op.intCmp]; rfl) ?_
    cases u <;> cases a <;> simp at hc hu ha ⊢ <;> subst hc <;> simp <;> omega
  case geq =>
    refine key (decide (m ≥ c)) (by simp [binOp, Op.intCmp]; rfl) ?_
    cases b <;> cases f <;> simp at hc hb hf ⊢ <;> subst hc <;> simp <;> omega
theorem cmpR_sound {op : BinOp} {lo hi : Option Int} {c m : Int} {r : Bool} {t : TypeId} (hc : cmpR op lo hi c = some r) (hlo : ∀ a, lo = some a → a ≤ m) (hhi : ∀ b, hi = some b → m ≤ b) :
    (binOp op t (.int .i64 m) (.int .i64 c)).run P w = .ok (.bool r) w := by
  refine cmpB_sound hc (fun h => ?_) (fun h => ?_) (fun h => ?_) (fun h => ?_)
  · cases hi <;> simp [ltO] at h; have := hhi _ rfl; omega
  · cases lo <;> simp [gtO] at h; have := hlo _ rfl; omega
  · cases hi <;> simp [ltO] at h; have := hhi _ rfl; omega
  · cases lo <;> simp [gtO] at h; have := hlo _ rfl; omega
theorem op_bin {op : BinOp} {t ty : TypeId} {x y : Operand} (hT : TT.Sound P T) (hr : HR P ρ fl μ h w) (he : EnvR ρ μ w tmps ev) (ho : o.op = .binOp op t x y ty) (ha : aBin P T o tmps h op t x y = some (n, h')) :
    OpOK P ρ fl μ h w ((execOp ev o).run P w) n h' := by
  unfold aBin at ha
  split at ha
  · exact orLit_sound hr he ha fun hk => op_same hT hr he ho hk
  · rename_i a b hne hx hy
    have h1 := he x _ hx
    have h2 := he y _ hy
    have e1 := rel_lit_inv h1
    have e2 := rel_lit_inv h2
    have hs := rel_lit_scal h1
    refine ofPV_sound hr ha ?_
    rw [← e1, ← e2]
    simp only [execOp, ho, Sem.run_bind]
    rw [eqGuard_run (fun hh => by
      rw [e1] at hh
      exact hne hh.1) (fun cs hcs => by rw [hcs] at hs; cases hs)]
    simp only [Result.andThen_ok]
    rfl
  · rename_i i lo hi c hx hy
    have h1 := he x _ hx
    have e2 := rel_lit_inv (he y _ hy)
    unfold rel at h1
    obtain ⟨_, m, e1, hlo, hhi⟩ := h1
    simp only [val, Option.map_eq_some_iff, Prod.mk.injEq] at ha
    obtain ⟨a, ⟨r, hc, rfl⟩, rfl, rfl⟩ := ha
    refine valOK_here hr ?_ (rel_lit (v := .bool r) rfl)
    simp only [execOp, ho, Sem.run_bind]
    rw [eqGuard_run (fun hh => by rw [e1] at hh; cases hh.1) (fun cs hcs => by rw [e1] at hcs; cases hcs)]
    simp only [Result.andThen_ok]
    rw [e1, e2, cmpR_sound hc hlo hhi]
    rfl
  · exact orLit_sound hr he ha fun hk => op_same hT hr he ho hk
theorem op_un {op : UnOp} {t : TypeId} {x : Operand} (hr : HR P ρ fl μ h w) (he : EnvR ρ μ w tmps ev) (ho : o.op = .unOp op t x) (ha : aUn P tmps h op x = some (n, h')) :
    OpOK P ρ fl μ h w ((execOp ev o).run P w) n h' := by
  unfold aUn at ha
  split at ha
  · rename_i a hx
    have e1 := rel_lit_inv (he x _ hx)
    refine ofPV_sound hr ha ?_
    rw [← e1]
    simp only [execOp, ho, Sem.run_bind]
    rfl
  · cases ha
theorem rel_sl_inv {b off len : Nat} {cap : Cap} {v : Value} (hh : rel ρ μ w (.sl b off len cap) v) : (∃ r base o c, μ b = some (r, base) ∧ v = .slice (some ⟨r, o, none⟩) len c ∧ (c = 0 ∨ o = base + off) ∧ capRel w r (base + off) len cap c) ∨ (len = 0 ∧ cap = .kn 0 ∧ ∃ a, v = .slice (some a) 0 0) := by unfold rel at hh; exact hh
theorem capRel_le {r o' len c : Nat} {cap : Cap} (hh : capRel w r o' len cap c) : len ≤ c ∧ c ≤ maxLen := by
  cases cap with
  | kn k => obtain ⟨rfl, h2, h3⟩ := hh; exact ⟨h2, h3⟩
  | un z => exact ⟨hh.1, hh.2.1⟩
theorem bytesA_some : ∀ {l : List AV} {bs : List UInt8} {vs : List Value}, bytesA l = some bs → rels ρ μ w l vs → vs = bs.map bv
  | [], bs, vs, hb, hv => by
    simp only [bytesA, Option.some.injEq] at hb
    subst hb
    rw [rels_nil_inv hv]
    rfl
  | x :: r, bs, vs, hb, hv => by
    unfold bytesA at hb
    split at hb
    · rename_i hnil; cases hnil
    · rename_i k r' heq
      obtain ⟨rfl, rfl⟩ := List.cons.inj heq
      cases hk : Nat.blt k 256 with
      | false => rw [hk] at hb; cases hb
      | true =>
        rw [hk] at hb
        simp only [cond_true, Option.map_eq_some_iff] at hb
        obtain ⟨bs', h1, rfl⟩ := hb
        obtain ⟨v, vs', rfl, h2, h3⟩ := rels_cons_inv hv
        have hk2 : k < 256 := Nat.blt_eq.mp hk
        rw [rel_lit_inv h2, bytesA_some h1 h3, List.map_cons]
        congr 1
        unfold bv
        congr 1
        simp
        omega
    · cases hb
/-- The bytes of a slice, read. -/
theorem bytesAt_reads {b off len : Nat} {cap : Cap} {v : Value} {bs : List UInt8} (hr : HR P ρ fl μ h w) (hv : rel ρ μ w (.sl b off len cap) v) (hb : bytesAt h b off len = some bs) :
    ∃ g, bs.length = len ∧ Reads w 1 v len (bs.map bv) g ∧ ∀ k, g = some k → ∃ base, μ b = some (k, base) := by
  rcases rel_sl_inv hv with ⟨r, base, o', c, h1, rfl, h2, h3⟩ | ⟨rfl, rfl, ad, rfl⟩
  rotate_left
  · unfold bytesAt at hb
    split at hb
    case h_2 => cases hb
    split at hb
    case h_2 => cases hb
    rename_i cs hc
    unfold cut at hc
    split at hc
    case isFalse => cases hc
    obtain rfl := Option.some.inj hc
    simp only [List.take_zero, bytesA, Option.some.injEq] at hb
    subst hb
    exact ⟨none, rfl, ⟨by simp, .inl ⟨_, 0, rfl, rfl⟩⟩, fun k hk => by cases hk⟩
  obtain ⟨h4, h5⟩ := capRel_le h3
  unfold bytesAt at hb
  split at hb
  case h_2 => cases hb
  rename_i l hg
  split at hb
  case h_2 => cases hb
  rename_i cs hc
  obtain ⟨cur, e, fz, k1, k2⟩ := getR_sound hr h1 hg
  obtain ⟨vs, k3, k4, k5, k6, k7⟩ := cut_sound k2 hc
  obtain rfl := bytesA_some hb k3
  have hlen : bs.length = len := by simpa using k4
  refine ⟨some r, hlen, ⟨by simp [hlen], ?_⟩, fun k hk => by cases hk; exact ⟨base, h1⟩⟩
  by_cases hc0 : len = 0
  · exact .inl ⟨_, c, by rw [hc0], hc0⟩
  · refine .inr ⟨r, o', c, rfl, rfl, h4, h5, fun j hj => ?_⟩
    obtain rfl : o' = base + off := h2.resolve_left (by omega)
    rw [cell_in k1, List.getElem?_eq_getElem hj]
    exact k7 j _ (List.getElem?_eq_getElem hj)
theorem freeze_one {r : Nat} {cur : Array Value} {e : TypeId} {fz : Nat × Nat} (hg : w.heap[r]? = some (.cells cur e fz)) (k m : Nat) : One r w (w.freeze ⟨r, k, none⟩ m) ∧ ∃ fz', (w.freeze ⟨r, k, none⟩ m).heap[r]? = some (.cells cur e fz') := by
  unfold World.freeze
  split
  · exact ⟨⟨rfl, fun _ _ => rfl, Grows.refl w, ⟨rfl, rfl, rfl⟩⟩, fz, hg⟩
  · obtain ⟨a, b⟩ := fz
    have key : ∀ j, j ≠ r → (w.heap.modify r fun
        | .cells c elem (lo, hi) => .cells c elem (if lo == hi then (k, k + m) else (min lo k, max hi (k + m)))
        | o => o)[j]? = w.heap[j]? := fun j hj => by rw [Array.getElem?_modify, if_neg (Ne.symm hj)]
    refine ⟨⟨by simp, key, fun j cur' e' fz' hj => ?_, ⟨rfl, rfl, rfl⟩⟩, (if a == b then (k, k + m) else (min a k, max b (k + m))), by simp [Array.getElem?_modify, hg]⟩
    by_cases hjr : j = r
    · subst hjr
      rw [hg] at hj
      obtain ⟨rfl, rfl, rfl⟩ := Obj.cells.inj (Option.some.inj hj)
      exact ⟨cur, e, _, by simp [Array.getElem?_modify, hg]; rfl, rfl⟩
    · exact ⟨cur', e', fz', by show (w.heap.modify r _)[j]? = _; rw [Array.getElem?_modify, if_neg (Ne.symm hjr)]; exact hj, rfl⟩
theorem byteCells_rels (s : ByteArray) (rest : Array Value) : window ρ μ w 0 (byteCells s) (s.data.map (fun b => Value.int .u8 b.toNat) ++ rest) := by
  refine ⟨by simp [byteCells], fun i x hx => ?_⟩
  unfold byteCells at hx
  rw [List.getElem?_map] at hx
  cases hb : s.data.toList[i]? with
  | none => rw [hb] at hx; cases hx
  | some b =>
    rw [hb] at hx
    simp only [Option.map_some, Option.some.injEq] at hx
    subst hx
    rw [Array.getElem?_toList] at hb
    have hlt := (Array.getElem?_eq_some_iff.1 hb).1
    refine ⟨.int .u8 b.toNat, ?_, rel_lit rfl⟩
    rw [Nat.zero_add, Array.getElem?_append_left (by simpa using hlt), Array.getElem?_map, hb]
    rfl
theorem aConv1_sound {src dst : TypeId} {a : AV} {x : Value} (hT : TT.Sound P T) (hr : HR P ρ fl μ h w) (hx : rel ρ μ w a x) (ha : aConv1 T h src dst a = some (n, h')) {r : Result Next}
    (hrun : r = (((convert src dst x).run P w).andThen fun v w' => .ok (.value v) w')) : OpOK P ρ fl μ h w r n h' := by
  unfold aConv1 at ha
  split at ha
  · rename_i e b off len cap hs hd
    split at ha
    case h_2 => cases ha
    rename_i he
    obtain ⟨y, hy, rfl, rfl⟩ := val_some ha
    simp only [Option.map_eq_some_iff] at hy
    obtain ⟨bs, hb, rfl⟩ := hy
    obtain ⟨g, h2, h3, _⟩ := bytesAt_reads hr hx hb
    refine valOK_here hr (v' := .string ⟨bs.toArray⟩) ?_ (rel_lit rfl)
    rw [hrun, h3.string_run (und_P hT hs) (und_P hT he) (und_P hT hd)]
    rfl
  · rename_i e0 e b off len cap hs hd
    split at ha
    case isFalse => cases ha
    rename_i hsd
    obtain rfl : src = dst := by simpa using hsd
    split at ha
    case h_2 => cases ha
    rename_i l e' he hg
    cases hnul : isNul len cap with
    | true => rw [hnul] at ha; cases ha
    | false =>
    rw [hnul] at ha
    simp only [cond_false, Option.some.injEq, Prod.mk.injEq] at ha
    obtain ⟨rfl, rfl⟩ := ha
    rcases rel_sl_inv hx with ⟨r1, base, o', c, h1, rfl, h2, h3⟩ | ⟨rfl, rfl, ad, rfl⟩
    rotate_left
    · cases hnul
    obtain ⟨cur, k1, k2, _⟩ := getB_sound hr h1 hg
    obtain ⟨f1, fz', f2⟩ := freeze_one k1 cur.size 1
    have heff := Eff.upd hr h1 (getB_R hg).1 rfl f1 f2 (ab' := .frz l e') ⟨cur, fz', rfl, k2.1, fun i x hi => by
      obtain ⟨v, q1, q2⟩ := k2.2 i x hi
      exact ⟨v, q1, rel.mono (More.refl μ) f1.grows _ _ q2⟩⟩
    refine ⟨μ, _, .slice (some ⟨r1, o', none⟩) len c, .inl ?_, heff, rel.mono (More.refl μ) f1.grows _ _ hx⟩
    have hsh : w.shape? r1 = some (e', cur.size) := by simp [World.shape?, k1]
    have hcv : (convert src src (.slice (some ⟨r1, o', none⟩) len c)).run P w = .ok (.slice (some ⟨r1, o', none⟩) len c) (w.freeze ⟨r1, cur.size, none⟩ 1) := by
      simp [convert, run_und hT hd, run_und hT he, markStringish, hsh]
    rw [hrun, hcv]
    rfl
  · rename_i e s hs hd
    split at ha
    case h_2 => cases ha
    rename_i he
    cases hlb : Nat.ble s.size 16777216 with
    | false => rw [hlb] at ha; cases ha
    | true =>
    rw [hlb] at ha
    simp only [cond_true, Option.some.injEq, Prod.mk.injEq] at ha
    obtain ⟨rfl, rfl⟩ := ha
    have hlen : s.size ≤ maxLen := by
      have := Nat.ble_eq.mp hlb
      simp only [maxLen]
      omega
    obtain rfl := rel_lit_inv hx
    have hcv := run_bytes_of_string (P := P) w src dst e s (und_P hT hs) (und_P hT hd) (und_P hT he)
    have e1 : Eff P ρ fl μ h w μ h w.drew := Eff.drew hr 1
    have e2 := Eff.alloc e1.hr (ab := .frz (byteCells s) e) (o := .cells (bytesRow s (grownCap w s.size 0 e)) e ((bytesRow s (grownCap w s.size 0 e)).size, (bytesRow s (grownCap w s.size 0 e)).size + 1)) ⟨_, _, rfl, byteCells_rels s _⟩
    have hge := grownCap_ge w s.size 0 e
    have hsz : (bytesRow s (grownCap w s.size 0 e)).size = grownCap w s.size 0 e := by
      have : s.data.size = s.size := rfl
      simp [bytesRow, this]
      omega
    refine ⟨_, _, .slice (some ⟨w.heap.size, 0, none⟩) s.size (grownCap w s.size 0 e), .inl ?_, e1.trans hr e2, ?_⟩
    · rw [hrun, hcv]
      rfl
    · unfold rel
      refine .inl ⟨w.heap.size, 0, 0, _, up_same _ _ _, rfl, .inr rfl, hge, grownCap_le_maxLen w s.size 0 e hlen, by omega, ?_⟩
      refine ⟨_, _, _, heap_alloc_new' w.drew _, ?_⟩
      rw [hsz]
      omega
  · cases ha
end Go.Proofs.YtkgbeihcepociaaDoor.Ex
end

section

set_option linter.unusedSimpArgs false
set_option linter.unusedVariables false
namespace Go.Proofs.YtkgbeihcepociaaDoor.Ex
open Go Go.RowKit
variable {P : Program} {T : TT} {ρ : Nat → Value} {fl : Nat} {μ : Mu} {h : AH} {w : World} {tmps : TM} {ev : Operand → Value} {o : Oper} {n : AN} {h' : AH}
theorem op_convert {src dst : TypeId} {x : Operand} (hT : TT.Sound P T) (hr : HR P ρ fl μ h w) (he : EnvR ρ μ w tmps ev) (ho : o.op = .convert src dst x) (ha : aConvert P T o tmps h src dst x = some (n, h')) :
    OpOK P ρ fl μ h w ((execOp ev o).run P w) n h' := by
  unfold aConvert at ha
  split at ha
  · rename_i k m hx
    split at ha
    · rename_i d0 k' hs hd
      simp only [Option.some.injEq, Prod.mk.injEq] at ha
      obtain ⟨rfl, rfl⟩ := ha
      have h1 := rel_lit_inv (he x _ hx)
      refine valOK_here hr (v' := .int k' (k'.wrap m)) ?_ (rel_lit rfl)
      simp [execOp, ho, h1, convert, run_und hT hs, run_und hT hd, Conv.intToInt]
    · exact orLit_sound hr he ha fun hk => by cases hk
  · rename_i v hx
    refine orLit_sound hr he ha fun hk => aConv1_sound hT hr (he x _ hx) hk ?_
    simp only [execOp, ho, Sem.run_bind]
    rfl
  · cases ha
theorem op_makeInterface {t : TypeId} {x : Operand} (hT : TT.Sound P T) (hr : HR P ρ fl μ h w) (he : EnvR ρ μ w tmps ev) (ho : o.op = .makeInterface t x) (ha : aMakeInterface T tmps h t x = some (n, h')) :
    OpOK P ρ fl μ h w ((execOp ev o).run P w) n h' := by
  unfold aMakeInterface at ha
  split at ha
  · cases ha
  · rename_i d y hne hd hx
    simp only [Option.some.injEq, Prod.mk.injEq] at ha
    obtain ⟨rfl, rfl⟩ := ha
    refine valOK_here hr (v' := .iface t (ev x)) ?_ (by unfold rel; exact ⟨_, rfl, he x _ hx⟩)
    have : (Instr.makeInterface t (ev x)).run P w = .ok (.iface t (ev x)) w := by
      simp only [Instr.makeInterface, Sem.run_bind, run_und hT hd, Result.andThen_ok]
      cases d <;> first | rfl | (exact absurd rfl (hne _))
    simp [execOp, ho, this]
  · cases ha
theorem arr_map (f : Operand → Value) (l : Array Operand) : l.map f = (l.toList.map f).toArray := by
  cases l
  simp
theorem op_makeFunc {f : Fn} {first caps : Array Operand} (hr : HR P ρ fl μ h w) (he : EnvR ρ μ w tmps ev) (ho : o.op = .makeFunc f first caps) (ha : aMakeFunc tmps h f first caps = some (n, h')) :
    OpOK P ρ fl μ h w ((execOp ev o).run P w) n h' := by
  unfold aMakeFunc at ha
  split at ha
  · rename_i a b h1 h2
    cases hy : notYield f with
    | false => rw [hy] at ha; cases ha
    | true =>
      rw [hy] at ha
      simp only [cond_true, Option.some.injEq, Prod.mk.injEq] at ha
      obtain ⟨rfl, rfl⟩ := ha
      refine valOK_here hr (v' := .func f (first.map ev) (caps.map ev)) (by simp [execOp, ho, Instr.makeFunc]) ?_
      unfold rel
      refine ⟨f, first.toList.map ev, caps.toList.map ev, by rw [arr_map, arr_map], ?_, evals_sound he h1, evals_sound he h2⟩
      cases f <;> first | rfl | cases hy
  · cases ha
theorem op_makeMap {t : TypeId} (hr : HR P ρ fl μ h w) (ho : o.op = .makeMap t none) : OpOK P ρ fl μ h w ((execOp ev o).run P w) (.val (.mp h.n)) (h.push (.map [] 0)) := by
  refine ⟨_, _, .map (some w.heap.size), .inl ?_, Eff.alloc hr (o := .map #[] 0) ⟨#[], rfl, rfl, rfl⟩, ?_⟩
  · simp [execOp, ho, Instr.makeMap]
  · unfold rel
    exact ⟨w.heap.size, up_same _ _ _, rfl⟩
theorem natA_inv {v : AV} {k : Nat} {u : Value} (hv : natA v = some k) (hu : rel ρ μ w v u) : ∃ kd i, u = .int kd i ∧ 0 ≤ i ∧ i.toNat = k := by
  unfold natA at hv
  split at hv
  · rename_i i hi
    split at hv
    · unfold intA at hi
      split at hi
      · rename_i kd i'
        obtain rfl := Option.some.inj hi
        exact ⟨kd, _, rel_lit_inv hu, by assumption, Option.some.inj hv⟩
      · cases hi
    · cases hv
  · cases hv
theorem op_makeSlice {t : TypeId} {l c : Operand} (hT : TT.Sound P T) (hr : HR P ρ fl μ h w) (he : EnvR ρ μ w tmps ev) (ho : o.op = .makeSlice t l c) (ha : aMakeSlice T tmps h t l c = some (n, h')) :
    OpOK P ρ fl μ h w ((execOp ev o).run P w) n h' := by
  unfold aMakeSlice at ha
  split at ha
  case h_2 => cases ha
  rename_i e k m hu hl hc
  split at ha
  case h_2 => cases ha
  rename_i i hi
  split at ha
  case isFalse => cases ha
  rename_i hcond
  simp only [Bool.and_eq_true, decide_eq_true_eq] at hcond
  obtain ⟨⟨⟨c1, c2⟩, c3⟩, c4⟩ := hcond
  simp only [Option.some.injEq, Prod.mk.injEq] at ha
  obtain ⟨rfl, rfl⟩ := ha
  obtain ⟨al, al1, al2⟩ := Option.bind_eq_some_iff.1 hl
  obtain ⟨ac, ac1, ac2⟩ := Option.bind_eq_some_iff.1 hc
  obtain ⟨kl, il, e1, e2, rfl⟩ := natA_inv al2 (he l _ al1)
  obtain ⟨kc, ic, f1, f2, rfl⟩ := natA_inv ac2 (he c _ ac1)
  obtain ⟨info, z, g1, g2, g3, g4, g5⟩ := hT.info e i hi
  have hzr := rel_cells (ofVal1_rel (ρ := ρ) (μ := μ) (w := w) g5)
  have hlen := rels_length hzr
  rw [Array.length_toList] at hlen
  have hb : (info.bytes : Int) * ic ≤ 281474976710656 := by
    have h1 : ((i.bytes * ic.toNat : Nat) : Int) ≤ 281474976710656 := by omega
    rw [Int.natCast_mul, Int.toNat_of_nonneg f2, ← g3] at h1
    exact h1
  have hrun := run_make (P := P) w t e info z (und_P hT hu) g1 g4 kl kc il ic e2 (by omega) hb (by omega)
  have hrow := rep_rels hzr ic.toNat
  rw [c4] at hrow
  refine ⟨_, _, .slice (some ⟨w.heap.size, 0, none⟩) il.toNat ic.toNat, .inl ?_, Eff.alloc hr (o := .cells (madeCells z.cells (ic.toNat * info.size)) e) ⟨_, rfl, whole_of (by rw [g2]; exact hrow)⟩, rel_sl_new c1 (by simp only [maxLen]; omega) _⟩
  simp [execOp, ho, e1, f1, hrun]
/-! Slice expressions. -/
def optRel : Option Nat → Option Value → Prop
  | none, u => u = none
  | some k, u => ∃ kd i, u = some (.int kd i) ∧ 0 ≤ i ∧ i.toNat = k
theorem optNat_sound (he : EnvR ρ μ w tmps ev) {x : Option Operand} {k : Option Nat} (hx : optNat tmps x = some k) : optRel k (x.map ev) := by
  cases x with
  | none =>
    change some none = some k at hx
    obtain rfl := Option.some.inj hx
    rfl
  | some y =>
    change (match evalA tmps y with | some v => (natA v).map some | none => none) = some k at hx
    split at hx
    · rename_i v hv
      simp only [Option.map_eq_some_iff] at hx
      obtain ⟨k', h1, rfl⟩ := hx
      obtain ⟨kd, i, h2, h3, h4⟩ := natA_inv h1 (he y _ hv)
      exact ⟨kd, i, by simp [h2], h3, h4⟩
    · cases hx
def capFor (m l : Nat) : Cap → Option Nat → Cap → Prop
  | cap, none, c' => c' = (match cap with | .kn k => .kn (k - l) | .un z => .un z)
  | _, some _, c' => c' = .kn (m - l)
theorem low_run {P : Program} {w : World} {lo : Option Nat} {rlo : Option Value} (y : Nat) (code : BoundsCode) (k m : Nat) : optRel lo rlo → lo.getD 0 ≤ y → (match rlo with
      | some v => (do let l ← Instr.sliceBound v y code; pure (l, k, m))
      | none => (do let l ← pure 0; pure (l, k, m)) : Sem (Nat × Nat × Nat)).run P w = .ok (lo.getD 0, k, m) w := fun h1 hy => by
  cases lo with
  | none => obtain rfl := h1; rfl
  | some k =>
    obtain ⟨kd, i, rfl, h4, h5⟩ := h1
    simp only [Option.getD_some] at hy ⊢
    rw [Sem.run_bind, run_sliceBound w kd i y code h4 (by omega), h5]
    rfl
theorem bounds_sound {isS : Bool} {len c : Nat} {cap c' : Cap} {lo hi mx : Option Nat} {rlo rhi rmx : Option Value} {l r : Nat} (h1 : optRel lo rlo) (h2 : optRel hi rhi) (h3 : optRel mx rmx)
    (hcap : ∀ k, capGe cap len k = some true → k ≤ c) (hb : boundsA len cap lo hi mx = some (l, r, c')) (w : World) :
    ∃ m, (Instr.sliceBounds isS len c rlo rhi rmx).run P w = .ok (l, r, m) w ∧ l ≤ r ∧ r ≤ m ∧ m ≤ c ∧ (mx = none → m = c) ∧ capFor m l cap mx c' := by
  unfold boundsA at hb
  cases mx with
  | some m =>
    obtain ⟨km, im, rfl, m1, m2⟩ := h3
    cases hi with
    | none => simp at hb
    | some k =>
      obtain ⟨kh, ih, rfl, g1, g2⟩ := h2
      simp only at hb
      split at hb
      · rename_i hc
        simp only [Bool.and_eq_true, decide_eq_true_eq, beq_iff_eq] at hc
        simp only [Option.some.injEq, Prod.mk.injEq] at hb
        obtain ⟨rfl, rfl, rfl⟩ := hb
        have hmc := hcap m hc.2
        refine ⟨m, ?_, hc.1.1, hc.1.2, hmc, by simp, rfl⟩
        simp only [Instr.sliceBounds, Sem.run_bind]
        rw [run_sliceBound w km im c _ m1 (by omega), m2]
        simp only [Result.andThen_ok, Sem.run_bind]
        rw [run_sliceBound w kh ih m _ g1 (by omega), g2]
        simp only [Result.andThen_ok]
        exact low_run k _ _ _ h1 hc.1.1
      · cases hb
  | none =>
    obtain rfl := h3
    simp only at hb
    split at hb
    · rename_i hc
      simp only [Bool.and_eq_true, decide_eq_true_eq, beq_iff_eq] at hc
      simp only [Option.some.injEq, Prod.mk.injEq] at hb
      obtain ⟨rfl, rfl, rfl⟩ := hb
      have hrc := hcap _ hc.2
      refine ⟨c, ?_, hc.1, hrc, Nat.le_refl _, fun _ => rfl, rfl⟩
      simp only [Instr.sliceBounds, Sem.run_bind, Sem.run_pure, Result.andThen_ok]
      cases hi with
      | none =>
        obtain rfl := h2
        simp only [Option.getD_none, Sem.run_pure, Result.andThen_ok, Sem.run_bind] at hc ⊢
        exact low_run len _ _ _ h1 hc.1
      | some k =>
        obtain ⟨kh, ih, rfl, g1, g2⟩ := h2
        simp only [Option.getD_some] at hc hrc ⊢
        rw [Sem.run_bind, run_sliceBound w kh ih c _ g1 (by omega), g2]
        simp only [Result.andThen_ok]
        exact low_run k _ _ _ h1 hc.1
    · cases hb
theorem capGe_of {r o' len c : Nat} {cap : Cap} (hh : capRel w r o' len cap c) (k : Nat) (hk : capGe cap len k = some true) : k ≤ c := by
  cases cap with
  | kn m => simp only [capGe, Option.some.injEq, decide_eq_true_eq] at hk; obtain ⟨rfl, _⟩ := hh; exact hk
  | un z =>
    simp only [capGe] at hk
    split at hk
    · exact Nat.le_trans (by assumption) hh.1
    · cases hk
/-- The slice that a slice expression gives. -/
theorem sl_cut {b off len c m l r base r1 o' z : Nat} {cap c' : Cap} {mx : Option Nat} (hb : μ b = some (r1, base)) (ho : c = 0 ∨ o' = base + off) (hc : capRel w r1 (base + off) len cap c)
    (h1 : l ≤ r) (h2 : r ≤ m) (h3 : m ≤ c) (hm : mx = none → m = c) (hf : capFor m l cap mx c') (hz : capFits z c' = true) :
    rel ρ μ w (.sl b (off + l * z) (r - l) c') (.slice (if m = l then some ⟨r1, o', none⟩ else (some ⟨r1, o', none⟩ : Option Addr).map (·.add (l * z))) (r - l) (m - l)) := by
  have hmax := (capRel_le hc).2
  have key : ∃ o2, (if m = l then some ⟨r1, o', none⟩ else (some ⟨r1, o', none⟩ : Option Addr).map (·.add (l * z))) = some ⟨r1, o2, none⟩ ∧ (m - l = 0 ∨ o2 = base + (off + l * z)) := by
    by_cases hml : m = l
    · exact ⟨o', by simp [hml], .inl (by omega)⟩
    · refine ⟨o' + l * z, by simp [hml, addr_add], .inr ?_⟩
      rcases ho with h0 | rfl
      · omega
      · omega
  obtain ⟨o2, e1, e2⟩ := key
  rw [e1]
  unfold rel
  refine .inl ⟨r1, base, o2, m - l, hb, rfl, e2, ?_⟩
  cases mx with
  | some k =>
    simp only [capFor] at hf
    subst hf
    exact ⟨rfl, by omega, by omega⟩
  | none =>
    have hmc := hm rfl
    subst hmc
    simp only [capFor] at hf
    subst hf
    cases cap with
    | kn k =>
      obtain ⟨rfl, _, _⟩ := hc
      exact ⟨rfl, by omega, by omega⟩
    | un z2 =>
      obtain ⟨_, _, q1, cur, e, fz, q2, q3⟩ := hc
      simp only [capFits] at hz
      obtain rfl := Nat.eq_of_beq_eq_true hz
      refine ⟨by omega, by omega, q1, cur, e, fz, q2, ?_⟩
      have : l * z + (m - l) * z = m * z := by rw [← Nat.add_mul]; congr 1; omega
      omega
theorem op_slice {t : TypeId} {x : Operand} {lo hi mx : Option Operand} (hT : TT.Sound P T) (hr : HR P ρ fl μ h w) (he : EnvR ρ μ w tmps ev) (ho : o.op = .slice t x lo hi mx) (ha : aSlice P T o tmps h t x lo hi mx = some (n, h')) :
    OpOK P ρ fl μ h w ((execOp ev o).run P w) n h' := by
  unfold aSlice at ha
  refine orLit_sound hr he ha fun hk => ?_
  split at hk
  case h_2 => cases hk
  rename_i y l0 h0 m0 hx hl hh hm
  have q1 := optNat_sound he hl
  have q2 := optNat_sound he hh
  have q3 := optNat_sound he hm
  have hv := he x _ hx
  unfold aSlice1 at hk
  split at hk
  · rename_i e b off len cap hu
    split at hk
    case h_2 => cases hk
    rename_i z l r c' hz hb
    cases hfit : capFits z c' with
    | false => rw [hfit] at hk; cases hk
    | true =>
      rw [hfit] at hk
      simp only [cond_true, Option.some.injEq, Prod.mk.injEq] at hk
      obtain ⟨rfl, rfl⟩ := hk
      rcases rel_sl_inv hv with ⟨r1, base, o', c, h1, h2, h3, h4⟩ | ⟨rfl, rfl, ad, h2⟩
      rotate_left
      · obtain ⟨m, b1, b2, b3, b4, b5, b6⟩ := bounds_sound (P := P) (isS := true) (len := 0) (c := 0) q1 q2 q3 (fun k hk => by simp only [capGe, Option.some.injEq, decide_eq_true_eq] at hk; exact hk) hb w
        obtain rfl : m = 0 := by omega
        obtain rfl : r = 0 := by omega
        obtain rfl : l = 0 := by omega
        refine valOK_here hr (v' := .slice (some ad) 0 0) ?_ ?_
        · simp [execOp, ho, h2, Instr.sliceAt, Instr.slice, run_und hT hu, b1, run_size hT hz]
        · unfold rel
          refine .inr ⟨rfl, ?_, ad, rfl⟩
          cases m0 with
          | some k => simp only [capFor] at b6; subst b6; rfl
          | none => simp only [capFor] at b6; subst b6; rfl
      obtain ⟨m, b1, b2, b3, b4, b5, b6⟩ := bounds_sound (P := P) (isS := true) (len := len) (c := c) q1 q2 q3 (capGe_of h4) hb w
      refine valOK_here hr ?_ (sl_cut h1 h3 h4 b2 b3 b4 b5 b6 hfit)
      simp [execOp, ho, h2, Instr.sliceAt, Instr.slice, run_und hT hu, b1, run_size hT hz]
  · rename_i k e b off hu
    split at hk
    case h_2 => cases hk
    rename_i z l r c' hz hb
    cases hfit : Nat.ble k 16777216 with
    | false => rw [hfit] at hk; cases hk
    | true =>
      rw [hfit] at hk
      simp only [cond_true, Option.some.injEq, Prod.mk.injEq] at hk
      obtain ⟨rfl, rfl⟩ := hk
      have hk2 := Nat.ble_eq.mp hfit
      obtain ⟨r1, base, h1, h2⟩ := rel_ptr_inv hv
      have h4 : capRel w r1 (base + off) k (.kn k) k := ⟨rfl, Nat.le_refl _, by simp only [maxLen]; omega⟩
      obtain ⟨m, b1, b2, b3, b4, b5, b6⟩ := bounds_sound (P := P) (isS := false) (len := k) (c := k) q1 q2 q3 (capGe_of h4) hb w
      have hcf : capFits z c' = true := by
        cases m0 <;> simp only [capFor] at b6 <;> subst b6 <;> rfl
      refine valOK_here hr ?_ (sl_cut h1 (.inr rfl) h4 b2 b3 b4 b5 b6 hcf)
      simp [execOp, ho, h2, Instr.sliceAt, Instr.sureAddr, run_und hT hu, b1, run_size hT hz]
      split <;> rfl
  · cases hk
end Go.Proofs.YtkgbeihcepociaaDoor.Ex
end

section

set_option linter.unusedSimpArgs false
set_option linter.unusedVariables false
namespace Go.Proofs.YtkgbeihcepociaaDoor.Ex
open Go Go.RowKit
variable {P : Program} {T : TT} {ρ : Nat → Value} {fl : Nat} {μ : Mu} {h : AH} {w : World} {tmps : TM} {ev : Operand → Value} {o : Oper} {n : AN} {h' : AH}
theorem op_fieldAddr {t : TypeId} {x : Operand} {i : Nat} (hT : TT.Sound P T) (hr : HR P ρ fl μ h w) (he : EnvR ρ μ w tmps ev) (ho : o.op = .fieldAddr t x i) (ha : aFieldAddr T tmps h t x i = some (n, h')) :
    OpOK P ρ fl μ h w ((execOp ev o).run P w) n h' := by
  unfold aFieldAddr at ha
  split at ha
  case h_2 => cases ha
  rename_i fs b off hu hx
  split at ha
  case h_2 => cases ha
  rename_i f hf
  split at ha
  case h_2 => cases ha
  rename_i k hk
  simp only [Option.some.injEq, Prod.mk.injEq] at ha
  obtain ⟨rfl, rfl⟩ := ha
  obtain ⟨r, base, hb, hv⟩ := rel_ptr_inv (he x _ hx)
  refine valOK_here hr (v' := .pointer (some ⟨r, base + (off + f.offset), none⟩)) ?_ (by unfold rel; exact ⟨r, base, hb, rfl⟩)
  simp [execOp, ho, hv, Instr.fieldAt, Instr.sureAddr, run_und hT hu, hf, fieldPlace, run_size hT hk, addr_add, Nat.add_assoc]
theorem partA_sound {t : TypeId} {l : List AV} {l' : List Value} {off : Nat} {a : AV} (hT : TT.Sound P T) (hl : rels ρ μ w l l') (hp : partA T t l off = some a) (w' : World) :
    ∃ v, (part t l'.toArray off).run P w' = .ok v w' ∧ rel ρ μ w a v := by
  unfold partA at hp
  split at hp
  case h_2 => cases hp
  rename_i i hi
  have hA := run_isAgg hT (show isAggT T t = some (isAggD i.desc) by simp [isAggT, hi]) w'
  have hS := run_size hT (show sizeT T t = some i.size by simp [sizeT, hi]) w'
  cases hd : isAggD i.desc with
  | true =>
    rw [hd] at hp hA
    simp only [cond_true, Option.map_eq_some_iff] at hp
    obtain ⟨cs, hc, rfl⟩ := hp
    obtain ⟨c1, rfl⟩ := cut_some hc
    refine ⟨.agg (l'.toArray.extract off (off + i.size)), by simp [part, hA, hS], ?_⟩
    unfold rel
    refine ⟨(l'.drop off).take i.size, ?_, rels_take _ (rels_drop _ hl)⟩
    simp [List.extract_eq_take_drop]
  | false =>
    rw [hd] at hp hA
    simp only [cond_false] at hp
    obtain ⟨v, h1, h2⟩ := rels_get hl hp
    exact ⟨v, by simp [part, hA, h1], h2⟩
theorem rel_agg_inv {l : List AV} {v : Value} (hh : rel ρ μ w (.agg l) v) : ∃ l', v = .agg l'.toArray ∧ rels ρ μ w l l' := by unfold rel at hh; exact hh
theorem rel_tup_inv {l : List AV} {v : Value} (hh : rel ρ μ w (.tup l) v) : ∃ l', v = .tuple l'.toArray ∧ rels ρ μ w l l' := by unfold rel at hh; exact hh
theorem op_field {t : TypeId} {x : Operand} {i : Nat} (hT : TT.Sound P T) (hr : HR P ρ fl μ h w) (he : EnvR ρ μ w tmps ev) (ho : o.op = .field t x i) (ha : aField T tmps h t x i = some (n, h')) :
    OpOK P ρ fl μ h w ((execOp ev o).run P w) n h' := by
  unfold aField at ha
  split at ha
  case h_2 => cases ha
  rename_i fs l hu hx
  split at ha
  case h_2 => cases ha
  rename_i f hf
  obtain ⟨a, h1, rfl, rfl⟩ := val_some ha
  obtain ⟨l', hv, hl⟩ := rel_agg_inv (he x _ hx)
  obtain ⟨v, h2, h3⟩ := partA_sound hT hl h1 w
  exact valOK_here hr (by simp [execOp, ho, hv, Instr.field, run_und hT hu, hf, asAgg, h2]) h3
theorem op_indexAddr {t : TypeId} {x ix : Operand} (hT : TT.Sound P T) (hr : HR P ρ fl μ h w) (he : EnvR ρ μ w tmps ev) (ho : o.op = .indexAddr t x ix) (ha : aIndexAddr T tmps h t x ix = some (n, h')) :
    OpOK P ρ fl μ h w ((execOp ev o).run P w) n h' := by
  unfold aIndexAddr at ha
  split at ha
  · rename_i e b off len cap i hu hx hix
    split at ha
    case h_2 => cases ha
    rename_i z hz
    split at ha
    case isFalse => cases ha
    rename_i hlt
    simp only [Option.some.injEq, Prod.mk.injEq] at ha
    obtain ⟨rfl, rfl⟩ := ha
    obtain ⟨ai, ai1, ai2⟩ := Option.bind_eq_some_iff.1 hix
    obtain ⟨kd, iv, e1, e2, rfl⟩ := natA_inv ai2 (he ix _ ai1)
    rcases rel_sl_inv (he x _ hx) with ⟨r, base, o', c, h1, h2, h3, h4⟩ | ⟨rfl, _⟩
    rotate_left
    · omega
    have h5 := (capRel_le h4).1
    obtain rfl : o' = base + off := h3.resolve_left (by omega)
    have hi2 : iv < (len : Int) := by omega
    refine valOK_here hr (v' := .pointer (some ⟨r, base + (off + iv.toNat * z), none⟩)) ?_ (by unfold rel; exact ⟨r, base, h1, rfl⟩)
    by_cases hl1 : len ≤ 1
    · simp [execOp, ho, h2, e1, Instr.indexAt, asIntOf, run_und hT hu, hl1, e2, hi2, run_size hT hz, addr_add, Nat.add_assoc]
    · simp [execOp, ho, h2, e1, Instr.indexAt, asIntOf, run_und hT hu, hl1, e2, hi2, run_size hT hz, addr_add, Nat.add_assoc]
  · rename_i m e b off i hu hx hix
    split at ha
    case h_2 => cases ha
    rename_i z hz
    split at ha
    case isFalse => cases ha
    rename_i hlt
    simp only [Option.some.injEq, Prod.mk.injEq] at ha
    obtain ⟨rfl, rfl⟩ := ha
    obtain ⟨ai, ai1, ai2⟩ := Option.bind_eq_some_iff.1 hix
    obtain ⟨kd, iv, e1, e2, rfl⟩ := natA_inv ai2 (he ix _ ai1)
    obtain ⟨r, base, h1, h2⟩ := rel_ptr_inv (he x _ hx)
    have hi2 : iv < (m : Int) := by omega
    refine valOK_here hr (v' := .pointer (some ⟨r, base + (off + iv.toNat * z), none⟩)) ?_ (by unfold rel; exact ⟨r, base, h1, rfl⟩)
    by_cases hl1 : m ≤ 1
    · simp [execOp, ho, h2, e1, Instr.indexAt, Instr.sureAddr, asIntOf, run_und hT hu, hl1, e2, hi2, run_size hT hz, addr_add, Nat.add_assoc]
    · simp [execOp, ho, h2, e1, Instr.indexAt, Instr.sureAddr, asIntOf, run_und hT hu, hl1, e2, hi2, run_size hT hz, addr_add, Nat.add_assoc]
  · cases ha
theorem op_index {t : TypeId} {x ix : Operand} (hT : TT.Sound P T) (hr : HR P ρ fl μ h w) (he : EnvR ρ μ w tmps ev) (ho : o.op = .index t x ix) (ha : aIndex P T o tmps h t x ix = some (n, h')) :
    OpOK P ρ fl μ h w ((execOp ev o).run P w) n h' := by
  unfold aIndex at ha
  refine orLit_sound hr he ha fun hk => ?_
  split at hk
  case h_2 => cases hk
  rename_i m e l i hu hx hix
  split at hk
  case h_2 => cases hk
  rename_i z hz
  split at hk
  case isFalse => cases hk
  rename_i hlt
  obtain ⟨a, h1, rfl, rfl⟩ := val_some hk
  obtain ⟨ai, ai1, ai2⟩ := Option.bind_eq_some_iff.1 hix
  obtain ⟨kd, iv, e1, e2, rfl⟩ := natA_inv ai2 (he ix _ ai1)
  obtain ⟨l', hv, hl⟩ := rel_agg_inv (he x _ hx)
  obtain ⟨v, h2, h3⟩ := partA_sound hT hl h1 w
  have hi2 : iv < (m : Int) := by omega
  exact valOK_here hr (by simp [execOp, ho, hv, e1, Instr.index, asIntOf, run_und hT hu, e2, hi2, run_size hT hz, h2]) h3
theorem op_extract {x : Operand} {i : Nat} (hr : HR P ρ fl μ h w) (he : EnvR ρ μ w tmps ev) (ho : o.op = .extract x i) (ha : aExtract tmps h x i = some (n, h')) :
    OpOK P ρ fl μ h w ((execOp ev o).run P w) n h' := by
  unfold aExtract at ha
  split at ha
  case h_2 => cases ha
  rename_i l hx
  obtain ⟨a, h1, rfl, rfl⟩ := val_some ha
  obtain ⟨l', hv, hl⟩ := rel_tup_inv (he x _ hx)
  obtain ⟨v, h2, h3⟩ := rels_get hl h1
  exact valOK_here hr (by simp [execOp, ho, hv, Instr.extract, h2]) h3
theorem rel_pair {a : AV} {v : Value} (hh : rel ρ μ w a v) (b : Bool) : rel ρ μ w (.tup [a, .lit (.bool b)]) (.tuple #[v, .bool b]) := by
  unfold rel
  exact ⟨[v, .bool b], rfl, rels_cons hh (rels_cons (rel_lit rfl) rels_nil)⟩
theorem rel_okPair {a : AV} {v : Value} (hh : rel ρ μ w a v) (ok b : Bool) : rel ρ μ w (okPair ok a b) (if ok then .tuple #[v, .bool b] else v) := by
  cases ok
  · exact hh
  · exact rel_pair hh b
theorem op_assert {x : Operand} {xt t : TypeId} {ok : Bool} (hT : TT.Sound P T) (hr : HR P ρ fl μ h w) (he : EnvR ρ μ w tmps ev) (ho : o.op = .typeAssert x xt t ok) (ha : aAssert P T tmps h x t ok = some (n, h')) :
    OpOK P ρ fl μ h w ((execOp ev o).run P w) n h' := by
  unfold aAssert at ha
  split at ha
  · rename_i d y i hx hi
    have hu := run_und hT (show und T t = some i.desc by simp [und, hi]) w
    obtain ⟨u, hv, hu2⟩ := rel_ifc_inv (he x _ hx)
    obtain ⟨z, hz, hz2⟩ := run_zero hT (show zeroT T t = some i.zero by simp [zeroT, hi]) w
    split at ha
    · rename_i want hd
      split at ha
      case h_2 => cases ha
      rename_i j hj
      split at ha
      case isFalse => cases ha
      rename_i hmiss
      simp only [Option.some.injEq, Prod.mk.injEq] at ha
      obtain ⟨rfl, rfl⟩ := ha
      refine valOK_here hr ?_ (rel_okPair (hv ▸ he x _ hx) ok true)
      rw [hd] at hu
      have hm2 : Instr.missingMethod want j.methods = none := by simpa using hmiss
      simp [execOp, ho, hv, Instr.typeAssert, hu, typeInfo, hj, hm2]
    · rename_i hni
      cases hdt : Nat.beq d t with
      | true =>
        rw [hdt] at ha
        simp only [cond_true, Option.some.injEq, Prod.mk.injEq] at ha
        obtain ⟨rfl, rfl⟩ := ha
        obtain rfl := Nat.eq_of_beq_eq_true hdt
        refine valOK_here hr ?_ (rel_okPair hu2 ok true)
        have : (Instr.typeAssert (.iface d u) xt d ok).run P w = .ok (if ok then .tuple #[u, .bool true] else u) w := by
          simp only [Instr.typeAssert, Sem.run_bind, hu, Result.andThen_ok]
          cases hd : i.desc <;> first | (exact absurd hd (hni _)) | (simp; done) | simp
        simp [execOp, ho, hv, this]
      | false =>
        rw [hdt] at ha
        simp only [cond_false] at ha
        cases ok with
        | false => cases ha
        | true =>
          simp only [cond_true, Option.some.injEq, Prod.mk.injEq] at ha
          obtain ⟨rfl, rfl⟩ := ha
          have hne : t ≠ d := fun hh => by subst hh; simp at hdt
          refine valOK_here hr (v' := .tuple #[z, .bool false]) ?_ (rel_pair (ofVal1_rel hz2) false)
          have : (Instr.typeAssert (.iface d u) xt t true).run P w = .ok (.tuple #[z, .bool false]) w := by
            simp only [Instr.typeAssert, Sem.run_bind, hu, Result.andThen_ok]
            cases hd : i.desc <;> first | (exact absurd hd (hni _)) | (simp [Ne.symm hne, hz]; done) | simp [Ne.symm hne, hz]
          simp [execOp, ho, hv, this]
  · rename_i i hx hi
    have hu := run_und hT (show und T t = some i.desc by simp [und, hi]) w
    have hv := rel_lit_inv (he x _ hx)
    obtain ⟨z, hz, hz2⟩ := run_zero hT (show zeroT T t = some i.zero by simp [zeroT, hi]) w
    cases ok with
    | false => cases ha
    | true =>
      simp only [cond_true, Option.some.injEq, Prod.mk.injEq] at ha
      obtain ⟨rfl, rfl⟩ := ha
      refine valOK_here hr (v' := .tuple #[z, .bool false]) ?_ (rel_pair (ofVal1_rel hz2) false)
      have : (Instr.typeAssert .nilIface xt t true).run P w = .ok (.tuple #[z, .bool false]) w := by
        simp only [Instr.typeAssert, Sem.run_bind, hu, Result.andThen_ok]
        cases hd : i.desc <;> simp [hz]
      simp [execOp, ho, hv, this]
  · cases ha
theorem op_panic {x : Operand} (hr : HR P ρ fl μ h w) (he : EnvR ρ μ w tmps ev) (ho : o.op = .panic x) (ha : aPanic tmps h x = some (n, h')) :
    OpOK P ρ fl μ h w ((execOp ev o).run P w) n h' := by
  unfold aPanic at ha
  split at ha
  · rename_i t y hx
    simp only [Option.some.injEq, Prod.mk.injEq] at ha
    obtain ⟨rfl, rfl⟩ := ha
    have h1 := he x _ hx
    obtain ⟨u, hv, _⟩ := rel_ifc_inv h1
    exact ⟨rfl, ev x, by simp [execOp, ho, hv, Instr.panic], h1⟩
  · cases ha
/-! Maps. -/
theorem findA_sound {kind : TypeDesc} {k : Value} : ∀ {es : List AE} {res : List MapEntry} {i : Nat} {f : Option (Nat × AV)}, entsRel ρ μ w es res → findA kind k es i = some f →
    ∃ g, Instr.findNow kind k res i = some g ∧ (match f with | none => g = none | some (j, a) => ∃ v, g = some (j, v) ∧ rel ρ μ w a v ∧ i ≤ j ∧ ∃ e, res[j - i]? = some e ∧ Instr.sameNow kind k e.key = some true)
  | [], res, i, f, hr, hf => by
    simp only [entsRel] at hr
    subst hr
    simp only [findA, Option.some.injEq] at hf
    subst hf
    exact ⟨none, rfl, rfl⟩
  | a :: r, res, i, f, hr, hf => by
    simp only [entsRel] at hr
    obtain ⟨e, es, rfl, h1, h2⟩ := hr
    obtain ⟨k1, k2, k3, k4⟩ := h1
    unfold findA at hf
    rw [← k1] at hf
    split at hf
    · rename_i hs
      obtain rfl := Option.some.inj hf
      exact ⟨some (i, e.val), by simp [Instr.findNow, hs], e.val, rfl, k3, Nat.le_refl _, e, by simp, hs⟩
    · rename_i hs
      obtain ⟨g, g1, g2⟩ := findA_sound h2 hf
      refine ⟨g, by simp [Instr.findNow, hs, g1], ?_⟩
      cases f with
      | none => exact g2
      | some p =>
        obtain ⟨j, b⟩ := p
        obtain ⟨v, v1, v2, v3, e', v4, v5⟩ := g2
        exact ⟨v, v1, v2, by omega, e', by rw [show j - i = (j - (i + 1)) + 1 by omega, List.getElem?_cons_succ]; exact v4, v5⟩
    · cases hf
theorem run_checkKey' (hT : TT.Sound P T) {k : TypeId} {d : TypeDesc} (hd : und T k = some d) (hk : keyKind d = true) (b : Bool) (v : Value) (w : World) : (Instr.checkKey b 10000 k v).run P w = .ok () w := by
  rw [show (10000 : Nat) = 9999 + 1 from rfl]
  generalize 9999 = m
  unfold Instr.checkKey
  rw [Sem.run_bind, run_und hT hd]
  simp only [Result.andThen_ok]
  cases d <;> first | rfl | cases hk
theorem findE_sound {eq : Value → Value → Option Bool} {kt : TypeId} {k : Value} (heq : ∀ b r, eq k b = some r → ∀ w, (Op.equal kt k b).run P w = .ok r w) : ∀ {es : List AE} {res : List MapEntry} {i : Nat} {f : Option (Nat × AV)}, entsRel ρ μ w es res → findE eq k es i = some f →
    ∃ g, (∀ w', (Instr.findAsking kt k res i).run P w' = .ok g w') ∧ (match f with | none => g = none | some (j, a) => ∃ v, g = some (j, v) ∧ rel ρ μ w a v ∧ i ≤ j ∧ ∃ e, res[j - i]? = some e ∧ Instr.sameBits 10000 e.key k = true)
  | [], res, i, f, hr, hf => by
    simp only [entsRel] at hr
    subst hr
    simp only [findE, Option.some.injEq] at hf
    subst hf
    exact ⟨none, fun _ => rfl, rfl⟩
  | a :: r, res, i, f, hr, hf => by
    simp only [entsRel] at hr
    obtain ⟨e, es, rfl, h1, h2⟩ := hr
    obtain ⟨k1, k2, k3, k4⟩ := h1
    unfold findE at hf
    rw [← k1] at hf
    split at hf
    · rename_i hs
      cases hb : Instr.sameBits 10000 e.key k with
      | false => rw [hb] at hf; cases hf
      | true =>
      rw [hb] at hf
      obtain rfl := Option.some.inj hf
      exact ⟨some (i, e.val), fun w' => by simp [Instr.findAsking, heq _ _ hs w'], e.val, rfl, k3, Nat.le_refl _, e, by simp, hb⟩
    · rename_i hs
      obtain ⟨g, g1, g2⟩ := findE_sound heq h2 hf
      refine ⟨g, fun w' => by simp [Instr.findAsking, heq _ _ hs w', g1 w'], ?_⟩
      cases f with
      | none => exact g2
      | some p =>
        obtain ⟨j, b⟩ := p
        obtain ⟨v, v1, v2, v3, e', v4, v5⟩ := g2
        exact ⟨v, v1, v2, by omega, e', by rw [show j - i = (j - (i + 1)) + 1 by omega, List.getElem?_cons_succ]; exact v4, v5⟩
    · cases hf
theorem ba_eq {a b : ByteArray} (hh : (a == b) = true) : a = b := by
  obtain ⟨x⟩ := a
  obtain ⟨y⟩ := b
  have e : x = y := by simpa using (show (x == y) = true from hh)
  rw [e]
theorem sameNow_bits {d : TypeDesc} {a b : Value} (hs : Instr.sameNow d a b = some true) (m : Nat) : Instr.sameBits m b a = true := by
  unfold Instr.sameNow at hs
  split at hs
  · rename_i k a k' b
    split at hs
    · rename_i hk
      subst hk
      simp only [Option.some.injEq, beq_iff_eq] at hs
      subst hs
      simp [Instr.sameBits]
    · cases hs
  · simp only [Option.some.injEq] at hs
    have := ba_eq hs
    subst this
    simp only [Instr.sameBits]
    exact hs
  · simp only [Option.some.injEq, beq_iff_eq] at hs
    subst hs
    simp [Instr.sameBits]
  · cases hs
/-- A key is found in a map. -/
theorem findT_sound (hT : TT.Sound P T) {t : TypeId} {k : Value} {es : List AE} {res : List MapEntry} {f : Option (Nat × AV)} (hr : entsRel ρ μ w es res) (hf : findT T t k es = some f) :
    ∃ kt e, und T t = some (.map kt e) ∧ (∀ b w', ∃ a, (Instr.checkKey b 10000 kt k).run P w' = .ok a w') ∧ ∃ g, (∀ w', (Instr.findKey kt k res).run P w' = .ok g w') ∧
      (match f with | none => g = none | some (j, a) => ∃ v, g = some (j, v) ∧ rel ρ μ w a v ∧ ∃ e, res[j]? = some e ∧ Instr.sameBits 10000 e.key k = true) := by
  unfold findT at hf
  split at hf
  case h_2 => cases hf
  rename_i kt e hu
  split at hf
  case h_2 => cases hf
  rename_i i hi
  have hd : und T kt = some i.desc := by simp [und, hi]
  cases hk : keyKind i.desc with
  | true =>
    rw [hk] at hf
    simp only [cond_true] at hf
    obtain ⟨g, g1, g2⟩ := findA_sound hr hf
    refine ⟨kt, e, hu, fun b w' => ⟨(), run_checkKey' hT hd hk b k w'⟩, g, fun w' => by simp [Instr.findKey, run_und hT hd, g1], ?_⟩
    cases f with
    | none => exact g2
    | some p =>
      obtain ⟨j, a⟩ := p
      obtain ⟨v, v1, v2, _, e', v4, v5⟩ := g2
      exact ⟨v, v1, v2, e', v4, sameNow_bits v5 10000⟩
  | false =>
    rw [hk] at hf
    simp only [cond_false] at hf
    cases hc : (isStructD i.desc && i.ck k) with
    | false => rw [hc] at hf; cases hf
    | true =>
    rw [hc] at hf
    simp only [cond_true] at hf
    simp only [Bool.and_eq_true] at hc
    obtain ⟨g, g1, g2⟩ := findE_sound (P := P) (kt := kt) (fun b r hb w' => by
      have := pur_run _ _ (hT.eq kt i k b r hi hb) w'
      simpa using this) hr hf
    refine ⟨kt, e, hu, fun b w' => ?_, g, fun w' => ?_, ?_⟩
    · obtain ⟨a, ha⟩ := hT.ck kt i k hi hc.2 b
      exact ⟨a, by simpa using pur_run _ _ ha w'⟩
    · unfold Instr.findKey
      rw [Sem.run_bind, run_und hT hd]
      simp only [Result.andThen_ok]
      have hno : Instr.findNow i.desc k res 0 = none ∨ (Instr.findNow i.desc k res 0 = some none ∧ res = []) := by
        cases res with
        | nil => exact .inr ⟨rfl, rfl⟩
        | cons x xs =>
          left
          unfold Instr.findNow
          have : Instr.sameNow i.desc k x.key = none := by
            cases hq : i.desc <;> rw [hq] at hc <;> first | (cases hc.1; done) | skip
            unfold Instr.sameNow
            rfl
          rw [this]
      rcases hno with h1 | ⟨h1, h2⟩
      · rw [h1]
        exact g1 w'
      · rw [h1]
        subst h2
        have := g1 w'
        simp only [Instr.findAsking, Sem.run_pure, Result.ok.injEq, and_true] at this
        rw [← this]
        rfl
    · cases f with
      | none => exact g2
      | some p =>
        obtain ⟨j, a⟩ := p
        obtain ⟨v, v1, v2, _, e', v4, v5⟩ := g2
        exact ⟨v, v1, v2, e', v4, v5⟩
theorem keyOf_rel {a : AV} {k v : Value} (hk : keyOf a = some k) (hv : rel ρ μ w a v) : v = k ∧ keyV k = true := by
  unfold keyOf at hk
  split at hk
  · obtain rfl := Option.some.inj hk
    unfold rel at hv
    refine ⟨hv.1, ?_⟩
    unfold keyV
    split
    · simp [scal] at hv
    · exact hv.2
  · rename_i l
    simp only [Option.map_eq_some_iff] at hk
    obtain ⟨m, hm, rfl⟩ := hk
    unfold rel at hv
    obtain ⟨l', rfl, h2⟩ := hv
    obtain rfl := toScals_rel hm h2
    refine ⟨rfl, ?_⟩
    simp only [keyV, List.all_eq_true]
    intro x hx
    exact toScals_scal hm h2 x (by simpa using hx)
  · cases hk
theorem elemT_inv {t e : TypeId} (he : elemT T t = some e) : ∃ k, und T t = some (.map k e) := by
  unfold elemT at he
  split at he
  · obtain rfl := Option.some.inj he
    exact ⟨_, by assumption⟩
  · cases he
theorem op_lookup {t : TypeId} {m k : Operand} {ok : Bool} (hT : TT.Sound P T) (hr : HR P ρ fl μ h w) (he : EnvR ρ μ w tmps ev) (ho : o.op = .lookup t m k ok) (ha : aLookup T tmps h t m k ok = some (n, h')) :
    OpOK P ρ fl μ h w ((execOp ev o).run P w) n h' := by
  unfold aLookup at ha
  split at ha
  case h_2 => cases ha
  rename_i am ak hm hk
  obtain ⟨a, h1, rfl, rfl⟩ := val_some ha
  unfold lookupA at h1
  split at h1
  case h_2 => cases h1
  rename_i key es e hkey hes hel
  obtain ⟨hkv, _⟩ := keyOf_rel hkey (he k _ hk)
  obtain ⟨_, hu0⟩ := elemT_inv hel
  have key2 : ∀ (res : Array MapEntry), entsRel ρ μ w es res.toList → (∀ (kt : TypeId) (g : Option (Nat × Value)) (z : Value), und T t = some (.map kt e) → (∀ b w', ∃ a, (Instr.checkKey b 10000 kt key).run P w' = .ok a w') → (∀ w', (Instr.findKey kt key res.toList).run P w' = .ok g w') → (g = none → (zeroValue e).run P w = .ok z w) →
      (Instr.lookup t (ev m) key ok).run P w = .ok (if ok then .tuple #[(match g with | some (_, v) => v | none => z), .bool g.isSome] else (match g with | some (_, v) => v | none => z)) w) →
      OpOK P ρ fl μ h' w ((execOp ev o).run P w) (.val a) h' := fun res hres hrun => by
    split at h1
    · rename_i j v hf
      obtain rfl := Option.some.inj h1
      obtain ⟨kt, e2, hu, hck, g, g1, v', rfl, g2, _⟩ := findT_sound hT hres hf
      obtain ⟨rfl, rfl⟩ : kt = _ ∧ e2 = e := by rw [hu0] at hu; simp at hu; exact ⟨hu.1.symm, hu.2.symm⟩
      have h3 := hrun _ _ undef hu hck g1 (fun hh => by cases hh)
      refine valOK_here hr (v' := if ok then .tuple #[v', .bool true] else v') (by simp only [execOp, ho, hkv, Sem.run_bind, h3]; rfl) ?_
      cases ok
      · exact g2
      · exact rel_pair g2 true
    · rename_i z hf hz
      obtain rfl := Option.some.inj h1
      obtain ⟨kt, e2, hu, hck, g, g1, rfl⟩ := findT_sound hT hres hf
      obtain ⟨rfl, rfl⟩ : kt = _ ∧ e2 = e := by rw [hu0] at hu; simp at hu; exact ⟨hu.1.symm, hu.2.symm⟩
      obtain ⟨zv, z1, z2⟩ := run_zero hT hz w
      have h3 := hrun _ _ zv hu hck g1 (fun _ => z1)
      refine valOK_here hr (v' := if ok then .tuple #[zv, .bool false] else zv) (by simp only [execOp, ho, hkv, Sem.run_bind, h3]; rfl) ?_
      cases ok
      · exact ofVal1_rel z2
      · exact rel_pair (ofVal1_rel z2) false
    · cases h1
  unfold entsA at hes
  split at hes
  · obtain rfl := Option.some.inj hes
    have hv := rel_lit_inv (he m _ hm)
    refine key2 #[] rfl fun kt g z hu hck hg hz => ?_
    obtain ⟨a0, hck⟩ := hck true w
    have hg := hg w
    simp only [Instr.lookup, hv, Sem.run_bind, run_und hT hu, Result.andThen_ok, Sem.run_pure]
    rw [show (#[] : Array MapEntry).isEmpty = true from rfl, hck]
    simp only [Result.andThen_ok, hg]
    cases g with
    | none => cases ok <;> simp [hz rfl]
    | some p => cases ok <;> simp
  · rename_i b
    split at hes
    case h_2 => cases hes
    rename_i es' clock hb
    obtain rfl := Option.some.inj hes
    have hv := he m _ hm
    unfold rel at hv
    obtain ⟨r, hr1, hv⟩ := hv
    obtain ⟨_, _, ob, o1, o2⟩ := hr.obj b r 0 _ hr1 hb
    obtain ⟨res, rfl, _, o3⟩ := o2
    refine key2 res o3 fun kt g z hu hck hg hz => ?_
    obtain ⟨a0, hck⟩ := hck res.isEmpty w
    have hgo : (getObj r).run P w = .ok (.map res clock) w := by simp [getObj, Sem.run, o1]
    simp only [Instr.lookup, hv, Sem.run_bind, run_und hT hu, Result.andThen_ok, hgo, Sem.run_pure, hck, hg w]
    cases g with
    | none => cases ok <;> simp [hz rfl]
    | some p => cases ok <;> simp
  · cases hes
theorem entsRel_length {l : List AE} {l' : List MapEntry} (hh : entsRel ρ μ w l l') : l'.length = l.length := by
  induction l generalizing l' with
  | nil => simp only [entsRel] at hh; rw [hh]; rfl
  | cons a r ih =>
    simp only [entsRel] at hh
    obtain ⟨e, es, rfl, _, h2⟩ := hh
    rw [List.length_cons, List.length_cons, ih h2]
theorem entsRel_append {l m : List AE} {l' m' : List MapEntry} (hh : entsRel ρ μ w l l') (hk : entsRel ρ μ w m m') : entsRel ρ μ w (l ++ m) (l' ++ m') := by
  induction l generalizing l' with
  | nil => simp only [entsRel] at hh; rw [hh]; exact hk
  | cons a r ih =>
    simp only [entsRel] at hh
    obtain ⟨e, es, rfl, h1, h2⟩ := hh
    exact ⟨e, es ++ m', rfl, h1, ih h2⟩
theorem entsRel_modify {f : AE → AE} {g : MapEntry → MapEntry} {l : List AE} {l' : List MapEntry} (i : Nat) (hh : entsRel ρ μ w l l') (hfg : ∀ a e, entRel ρ μ w a e → entRel ρ μ w (f a) (g e)) : entsRel ρ μ w (l.modify i f) (l'.modify i g) := by
  induction l generalizing l' i with
  | nil => simp only [entsRel] at hh; subst hh; simp [entsRel]
  | cons a r ih =>
    simp only [entsRel] at hh
    obtain ⟨e, es, rfl, h1, h2⟩ := hh
    cases i with
    | zero => exact ⟨_, _, rfl, hfg _ _ h1, h2⟩
    | succ i => exact ⟨_, _, by simp [List.modify_succ_cons], h1, ih i h2⟩
theorem entsRel_erase {l : List AE} {l' : List MapEntry} (i : Nat) (hh : entsRel ρ μ w l l') : entsRel ρ μ w (l.eraseIdx i) (l'.eraseIdx i) := by
  induction l generalizing l' i with
  | nil => simp only [entsRel] at hh; subst hh; simp [entsRel]
  | cons a r ih =>
    simp only [entsRel] at hh
    obtain ⟨e, es, rfl, h1, h2⟩ := hh
    cases i with
    | zero => exact h2
    | succ i => exact ⟨e, _, rfl, h1, ih i h2⟩
theorem setObj_one {r : Nat} {es : Array MapEntry} {c : Nat} (hg : w.heap[r]? = some (.map es c)) (o' : Obj) (hn : True) : One r w { w with heap := w.heap.setIfInBounds r o' } ∧ (w.heap.setIfInBounds r o')[r]? = some o' := by
  have hlt := lt_in hg
  refine ⟨⟨by simp, fun k hk => ?_, fun k cur e fz hk => ?_, ⟨rfl, rfl, rfl⟩⟩, by simp [hlt]⟩
  · show (w.heap.setIfInBounds r o')[k]? = _
    rw [Array.getElem?_setIfInBounds, if_neg (Ne.symm hk)]
  · have hne : r ≠ k := fun e' => by subst e'; rw [hg] at hk; cases hk
    exact ⟨cur, e, fz, by show (w.heap.setIfInBounds r o')[k]? = _; rw [Array.getElem?_setIfInBounds, if_neg hne]; exact hk, rfl⟩
theorem run_setObj_map {r : Nat} {es : Array MapEntry} {c : Nat} (hg : w.heap[r]? = some (.map es c)) (o' : Obj) : (setObj r o').run P w = .ok () { w with heap := w.heap.setIfInBounds r o' } := by
  simp [setObj, Sem.run, hg]
end Go.Proofs.YtkgbeihcepociaaDoor.Ex
end
