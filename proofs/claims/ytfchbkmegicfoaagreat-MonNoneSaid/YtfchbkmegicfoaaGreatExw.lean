/- The abstract machine's operations, held against the model's: copy, len, calls; all of them. -/
import Derived.Test.YtfchbkmegicfoaaGreatExv
set_option linter.unusedSimpArgs false
set_option linter.unusedVariables false
namespace Go.Proofs.YtfchbkmegicfoaaGreat.Ex
open Go Go.RowKit

variable {P : Program} {T : TT} {ρ : Nat → Value} {fl : Nat} {μ : Mu} {h : AH} {w : World} {tmps : TM} {ev : Operand → Value} {o : Oper} {n : AN} {h' : AH}

/-- The first k elements of what is copied. -/
theorem srcA_first {z m k : Nat} {x : AV} {v : Value} {new : List AV} (hr : HR P ρ fl μ h w) (hv : rel ρ μ w x v) (hl : lenA x = some m) (hs : srcA h z x = some new) (hn : new.length = m * z) (hk : k ≤ m) :
    ∃ vs, rels ρ μ w new vs ∧ (Builtin.lenOf v).run P w = .ok m w ∧ (Builtin.firstCells z k v).run P w = .ok (vs.take (k * z)).toArray w := by
  unfold srcA at hs
  split at hs
  · obtain rfl := Option.some.inj hs
    obtain rfl := rel_lit_inv hv
    simp only [lenA, Option.some.injEq] at hl
    subst hl
    obtain rfl : k = 0 := by omega
    exact ⟨[], rels_nil, rfl, by simpa using run_firstCells_none (P := P) w z 0 0 0⟩
  · rename_i s
    cases hz1 : Nat.beq z 1 with
    | false => rw [hz1] at hs; cases hs
    | true =>
    rw [hz1] at hs
    obtain rfl := Nat.eq_of_beq_eq_true hz1
    obtain rfl := Option.some.inj hs
    obtain rfl := rel_lit_inv hv
    simp only [lenA, Option.some.injEq] at hl
    subst hl
    refine ⟨Go.byteCells s, rels_byteCells s, rfl, ?_⟩
    simp only [Builtin.firstCells, Sem.run_pure, Nat.mul_one]
    congr 1
    apply Array.ext'
    simp [Go.byteCells, ByteArray.data_extract, List.map_take]
  · rename_i b off len cap
    split at hs
    case h_2 => cases hs
    rename_i l hg
    simp only [lenA, Option.some.injEq] at hl
    subst hl
    obtain ⟨r, base, o', c, q1, rfl, q2, q3⟩ := rel_sl_inv hv
    obtain ⟨cur, e, fz, k1, k2⟩ := getR_sound hr q1 hg
    obtain ⟨vs, k3, k4, k5, k6, k7⟩ := cut_sound k2 hs
    have hle := (capRel_le q3).1
    have hcell : ∀ j u, (vs.take (k * z))[j]? = some u → w.cell? ((⟨r, o', none⟩ : Addr).add j) = some u := fun j u hu => by
      rw [List.getElem?_take] at hu
      split at hu
      case isFalse => cases hu
      have hj := (List.getElem?_eq_some_iff.1 hu).1
      have : 0 < len := by
        rcases Nat.eq_zero_or_pos len with h0 | h0
        · subst h0; simp only [Nat.zero_mul] at k4; omega
        · exact h0
      obtain rfl : o' = base + off := q2.resolve_left (by omega)
      rw [addr_add, cell_in k1]
      exact k7 j u hu
    have hkz : k * z ≤ len * z := Nat.mul_le_mul_right _ hk
    refine ⟨vs, k3, rfl, ?_⟩
    have := run_firstCells_some (P := P) w z k (⟨r, o', none⟩ : Addr) len c (vs.take (k * z)) (by rw [List.length_take]; omega) hcell
    exact this
  · cases hs

theorem copyA_sound {t ty : TypeId} {l : List TypeId} {d x a : AV} {rd rx : Value} (hT : TT.Sound P T) (hr : HR P ρ fl μ h w) (hd : rel ρ μ w d rd) (hx : rel ρ μ w x rx) (ha : copyA T h t d x = some (a, h')) :
    valOK P ρ fl μ h w (((Builtin.copy_ (t :: l).toArray ty #[rd, rx]).run P w).andThen fun v w' => .ok (.value v) w') a h' := by
  unfold copyA at ha
  split at ha
  case h_2 => cases ha
  rename_i e hu
  split at ha
  case h_2 => cases ha
  rename_i z n m hz hn hm
  split at ha
  case h_2 => cases ha
  rename_i cs hcs
  generalize hc : (Nat.beq cs.length (m * z) && cs.all AV.one) = cb at ha
  cases cb with
  | false => cases ha
  | true =>
  simp only [Bool.and_eq_true] at hc
  have d1 := Nat.eq_of_beq_eq_true hc.1
  simp only [cond_true] at ha
  obtain ⟨vs, v1, v2, v3⟩ := srcA_first (P := P) (k := Nat.min m n) hr hx hm hcs d1 (Nat.min_le_left _ _)
  unfold copyB at ha
  split at ha
  · rename_i b off len cap
    simp only [lenA, Option.some.injEq] at hn
    subst hn
    split at ha
    case h_2 => cases ha
    rename_i l0 e' hg
    simp only [Option.map_eq_some_iff, Prod.mk.injEq] at ha
    obtain ⟨l', hput, rfl, rfl⟩ := ha
    obtain ⟨r, base, o', c, q1, rfl, q2, q3⟩ := rel_sl_inv hd
    have hle := (capRel_le q3).1
    obtain ⟨f1, f2, f3⟩ := setCells_eff hr q1 hg hput (rels_take _ v1)
    have hst : (storeCells ⟨r, o', none⟩ (vs.take (Nat.min m len * z))).run P w = .ok () (w.setCells r (base + off) (vs.take (Nat.min m len * z))) := by
      rcases q2 with h0 | rfl
      · have : Nat.min m len = 0 := by
          have := Nat.min_le_right m len
          have h2 : Nat.min m len ≤ len := this
          omega
        rw [this]
        simp [storeCells, World.setCells]
      · have := run_storeCells_cells (P := P) r (base + off) (vs.take (Nat.min m len * z)) 0 w (by simpa using f2) (by simpa using f3) (fun v hv => rels_one v1 hc.2 v (List.mem_of_mem_take hv))
        simpa using this
    refine ⟨μ, _, .int .i64 (Nat.min m len : Nat), .inl ?_, f1, rel_lit rfl⟩
    simp [Builtin.copy_, run_und hT hu, v2, run_size hT hz, v3, hst, goInt]
  · simp only [lenA, Option.some.injEq] at hn
    subst hn
    simp only [Option.some.injEq, Prod.mk.injEq] at ha
    obtain ⟨rfl, rfl⟩ := ha
    obtain rfl := rel_lit_inv hd
    refine valOK_here hr (v' := .int .i64 0) ?_ (rel_lit rfl)
    have h0 : Nat.min m 0 = 0 := Nat.min_zero m
    rw [h0] at v3
    simp [Builtin.copy_, run_und hT hu, v2, run_size hT hz, v3, goInt, h0]
  · cases ha

/-! Calls. -/

theorem method_run {t : TypeId} {name : String} {f : FuncId} (hm : methodA P t name = some f) (v : Value) (k : Nat) (w : World) : (method (k + 1) t v name).run P w = .ok (f, v) w := by
  unfold methodA at hm
  split at hm
  case h_2 => cases hm
  rename_i i hi
  split at hm
  case h_2 => cases hm
  rename_i m hfind
  cases hp : m.path.isEmpty with
  | false => rw [hp] at hm; cases hm
  | true =>
    rw [hp] at hm
    have hpath : m.path.toList = [] := by simpa [Array.isEmpty_iff] using hp
    simp only [cond_true] at hm
    split at hm
    · rename_i g d hg hd
      obtain rfl := Option.some.inj hm
      simp [method, typeInfo, hi, hfind, hpath, follow, hg, receiverAt, run_underlying hd, Place.get]
    · cases hm
    · rename_i g d hnp hg hd
      obtain rfl := Option.some.inj hm
      have hr : ∀ wr, (receiverAt t (.val v) false wr).run P w = .ok v w := fun wr => by
        unfold receiverAt
        rw [Sem.run_bind, run_underlying hd]
        simp only [Result.andThen_ok]
        cases d <;> first | rfl | (exact absurd rfl (hnp _ _ rfl))
      simp [method, typeInfo, hi, hfind, hpath, follow, hg, hr]
    · cases hm

def callOK (P : Program) (ρ : Nat → Value) (μ : Mu) (w : World) (d : Deferred) : AN → Prop
  | .enter g a => ∃ a', rels ρ μ w a a' ∧ ∀ w', (invoke d.target d.args).run P w' = (callFunc g a'.toArray).run P w'
  | .round l a => ∃ rl a', μ l = some (rl, 0) ∧ rels ρ μ w a a' ∧ ∀ w', (invoke d.target d.args).run P w' = (Instr.yield rl a'.toArray).run P w'
  | _ => False

theorem callA_sound {f : AV} {fv : Value} {ys : List AV} {args : List Value} {an : AN} (hf : rel ρ μ w f fv) (hargs : rels ρ μ w ys args) (hc : callA P f ys = some an) :
    ∃ d, (∀ w', (Deferred.ofValue fv args.toArray).run P w' = .ok d w') ∧ (∃ fn c, d.target = .fn fn c) ∧ callOK P ρ μ w d an := by
  unfold callA at hc
  split at hc
  · obtain rfl := Option.some.inj hc
    rename_i g first caps
    unfold rel at hf
    obtain ⟨f', a, b, rfl, h1, h2, h3⟩ := hf
    simp only [fnRel] at h1
    subst h1
    refine ⟨{ target := .fn (.func g) b.toArray, args := a.toArray ++ args.toArray }, fun w' => rfl, ⟨_, _, rfl⟩, a ++ args ++ b, rels_append (rels_append h2 hargs) h3, fun w' => ?_⟩
    simp [invoke]
  · obtain rfl := Option.some.inj hc
    rename_i l
    unfold rel at hf
    obtain ⟨f', a, b, rfl, ⟨rl, h0, rfl⟩, h2, h3⟩ := hf
    obtain rfl := rels_nil_inv h2
    obtain rfl := rels_nil_inv h3
    exact ⟨{ target := .fn (.yield rl) #[], args := #[] ++ args.toArray }, fun w' => rfl, ⟨_, _, rfl⟩, rl, args, h0, hargs, fun w' => by simp [invoke]⟩
  · rename_i name t v
    simp only [Option.map_eq_some_iff] at hc
    obtain ⟨g, hm, rfl⟩ := hc
    unfold rel at hf
    obtain ⟨f', a, b, rfl, h1, h2, h3⟩ := hf
    simp only [fnRel] at h1
    subst h1
    obtain ⟨x, xs, rfl, h4, h5⟩ := rels_cons_inv h2
    obtain rfl := rels_nil_inv h5
    obtain rfl := rels_nil_inv h3
    obtain ⟨u, rfl, hu⟩ := rel_ifc_inv h4
    refine ⟨{ target := .fn (.method name) #[], args := #[.iface t u] ++ args.toArray }, fun w' => rfl, ⟨_, _, rfl⟩, u :: args, rels_cons hu hargs, fun w' => ?_⟩
    obtain ⟨k, hk⟩ : ∃ k, P.types.size + Made.depth = k + 1 := ⟨P.types.size + 99, by simp [Made.depth]⟩
    simp [invoke, callMethod, hk, method_run hm]
  · cases hc

theorem invoke_recv (r : Value) (name : String) (args : Array Value) : (Deferred.ofValue (.func (.method name) #[r] #[]) args) = (pure { target := .fn (.method name) #[], args := #[r] ++ args } : Sem Deferred) := rfl

theorem op_call {c : Call} (hT : TT.Sound P T) (hr : HR P ρ fl μ h w) (he : EnvR ρ μ w tmps ev) (ho : o.op = .call c) (ha : aCall P T o tmps h c = some (n, h')) :
    OpOK P ρ fl μ h w ((execOp ev o).run P w) n h' := by
  unfold aCall at ha
  split at ha
  · rename_i b hb
    obtain ⟨cs, hexec⟩ : ∃ cs, ∀ w', (execOp ev o).run P w' = (builtin b c.argTypes o.type cs (c.args.map ev)).run P w' := ⟨_, fun w' => by
      simp only [execOp, ho, resolve, hb, invoke, Sem.run_bind, Sem.run_pure, Result.andThen_ok]
      rfl⟩
    unfold aBuiltin at ha
    split at ha
    · rename_i s x t tx hargs htypes
      simp only [Option.map_eq_some_iff, Prod.mk.injEq] at ha
      obtain ⟨⟨a, hh⟩, h1, rfl, rfl⟩ := ha
      obtain ⟨v1, l1, e1, r1, r2⟩ := rels_cons_inv (evals_sound he hargs)
      obtain ⟨v2, l2, rfl, r3, r4⟩ := rels_cons_inv r2
      obtain rfl := rels_nil_inv r4
      have hty : c.argTypes = #[t, tx] := by rw [← Array.toArray_toList (xs := c.argTypes), htypes]
      have := appendA_sound (ty := o.type) (P := P) hT hr r1 r3 h1
      rw [hexec, arr_map, e1, hty]
      simpa [builtin, OpOK] using this
    · rename_i s x t rest hargs htypes
      simp only [Option.map_eq_some_iff, Prod.mk.injEq] at ha
      obtain ⟨⟨a, hh⟩, h1, rfl, rfl⟩ := ha
      obtain ⟨v1, l1, e1, r1, r2⟩ := rels_cons_inv (evals_sound he hargs)
      obtain ⟨v2, l2, rfl, r3, r4⟩ := rels_cons_inv r2
      obtain rfl := rels_nil_inv r4
      have hty : c.argTypes = (t :: rest).toArray := by rw [← Array.toArray_toList (xs := c.argTypes), htypes]
      have := copyA_sound (ty := o.type) (P := P) (l := rest) hT hr r1 r3 h1
      rw [hexec, arr_map, e1, hty]
      simpa [builtin, OpOK] using this
    · rename_i m k t rest hargs htypes
      simp only [Option.map_eq_some_iff, Prod.mk.injEq] at ha
      obtain ⟨hh, h1, rfl, rfl⟩ := ha
      obtain ⟨v1, l1, e1, r1, r2⟩ := rels_cons_inv (evals_sound he hargs)
      obtain ⟨v2, l2, rfl, r3, r4⟩ := rels_cons_inv r2
      obtain rfl := rels_nil_inv r4
      have hty : c.argTypes = (t :: rest).toArray := by rw [← Array.toArray_toList (xs := c.argTypes), htypes]
      obtain ⟨w', q1, q2⟩ := deleteA_sound (ty := o.type) (P := P) (l := rest) hT hr r1 r3 h1
      refine ⟨μ, w', .tuple #[], .inl ?_, q2, by unfold rel; exact ⟨[], rfl, rels_nil⟩⟩
      rw [hexec, arr_map, e1, hty]
      simp only [builtin, Sem.run_bind]
      rw [q1]
      rfl
    · rename_i b1 off len cap t rest hargs htypes
      split at ha
      case h_2 => cases ha
      rename_i e hu
      simp only [Option.some.injEq, Prod.mk.injEq] at ha
      obtain ⟨rfl, rfl⟩ := ha
      obtain ⟨v1, l1, e1, r1, r2⟩ := rels_cons_inv (evals_sound he hargs)
      obtain rfl := rels_nil_inv r2
      obtain ⟨r, base, o', cc, _, rfl, _⟩ := rel_sl_inv r1
      have hty : c.argTypes = (t :: rest).toArray := by rw [← Array.toArray_toList (xs := c.argTypes), htypes]
      refine valOK_here hr (v' := .int .i64 len) ?_ (rel_lit rfl)
      rw [hexec, arr_map, e1, hty]
      simp [builtin, Builtin.len_, run_und hT hu, goInt]
    · rename_i b1 t rest hargs htypes
      split at ha
      case h_2 => cases ha
      rename_i kt et es clock hu hb1
      simp only [Option.some.injEq, Prod.mk.injEq] at ha
      obtain ⟨rfl, rfl⟩ := ha
      obtain ⟨v1, l1, e1, r1, r2⟩ := rels_cons_inv (evals_sound he hargs)
      obtain rfl := rels_nil_inv r2
      obtain ⟨r, res, m1, rfl, m2, m3⟩ := map_inv hr r1 hb1
      have hty : c.argTypes = (t :: rest).toArray := by rw [← Array.toArray_toList (xs := c.argTypes), htypes]
      have hgo : (getObj r).run P w = .ok (.map res clock) w := by simp [getObj, Sem.run, m2]
      have hlen := entsRel_length m3
      rw [Array.length_toList] at hlen
      refine valOK_here hr (v' := .int .i64 es.length) ?_ (rel_lit rfl)
      rw [hexec, arr_map, e1, hty]
      simp [builtin, Builtin.len_, run_und hT hu, hgo, goInt, hlen]
    · simp only [Option.some.injEq, Prod.mk.injEq] at ha
      obtain ⟨rfl, rfl⟩ := ha
      exact ⟨rfl, by rw [hexec]; rfl⟩
    · exact orLit_sound hr he ha fun hk => by cases hk
  · rename_i f hf
    split at ha
    case h_2 => cases ha
    rename_i fv ys hfv has
    simp only [Option.map_eq_some_iff, Prod.mk.injEq] at ha
    obtain ⟨an, h1, rfl, rfl⟩ := ha
    obtain ⟨d, d1, d2, d3⟩ := callA_sound (he f _ hfv) (evals_sound he has) h1
    have hexec : (execOp ev o).run P w = (invoke d.target d.args).run P w := by
      have := d1 w
      rw [← arr_map] at this
      simp [execOp, ho, resolve, hf, this]
    rw [hexec]
    cases an with
    | enter g a => obtain ⟨a', a1, a2⟩ := d3; exact ⟨rfl, a', a1, a2 w⟩
    | round l a => obtain ⟨rl, a', a0, a1, a2⟩ := d3; exact ⟨rfl, rl, a', a0, a1, a2 w⟩
    | _ => exact d3.elim
  · rename_i r name hf
    split at ha
    case h_2 => cases ha
    rename_i rv ys hrv has
    simp only [Option.map_eq_some_iff, Prod.mk.injEq] at ha
    obtain ⟨an, h1, rfl, rfl⟩ := ha
    have hrel : rel ρ μ w (.fn (.method name) [rv] []) (.func (.method name) #[ev r] #[]) := by
      unfold rel
      exact ⟨.method name, [ev r], [], rfl, rfl, rels_cons (he r _ hrv) rels_nil, rels_nil⟩
    obtain ⟨d, d1, d2, d3⟩ := callA_sound hrel (evals_sound he has) h1
    have hexec : (execOp ev o).run P w = (invoke d.target d.args).run P w := by
      have := d1 w
      rw [← arr_map, invoke_recv] at this
      simp only [Sem.run_pure, Result.ok.injEq, and_true] at this
      subst this
      simp [execOp, ho, resolve, hf]
    rw [hexec]
    cases an with
    | enter g a => obtain ⟨a', a1, a2⟩ := d3; exact ⟨rfl, a', a1, a2 w⟩
    | round l a => obtain ⟨rl, a', a0, a1, a2⟩ := d3; exact ⟨rfl, rl, a', a0, a1, a2 w⟩
    | _ => exact d3.elim

theorem op_defer {c : Call} (hr : HR P ρ fl μ h w) (he : EnvR ρ μ w tmps ev) (ho : o.op = .defer c) (ha : aDefer P tmps h c = some (n, h')) :
    OpOK P ρ fl μ h w ((execOp ev o).run P w) n h' := by
  unfold aDefer at ha
  split at ha
  case h_2 => cases ha
  rename_i f hf
  split at ha
  case h_2 => cases ha
  rename_i fv ys hfv has
  split at ha
  case h_2 => cases ha
  rename_i g a hc
  simp only [Option.some.injEq, Prod.mk.injEq] at ha
  obtain ⟨rfl, rfl⟩ := ha
  obtain ⟨d, d1, d2, a', a1, a2⟩ := callA_sound (he f _ hfv) (evals_sound he has) hc
  refine ⟨rfl, d, a', a1, ?_, d2, a2⟩
  have := d1 w
  rw [← arr_map] at this
  simp [execOp, ho, resolve, hf, this]

theorem op_range {t : TypeId} {x : Operand} (hT : TT.Sound P T) (hr : HR P ρ fl μ h w) (he : EnvR ρ μ w tmps ev) (ho : o.op = .range t x) (ha : aRange T tmps h t x = some (n, h')) :
    OpOK P ρ fl μ h w ((execOp ev o).run P w) n h' := by
  unfold aRange at ha
  split at ha
  · rename_i kt et hu hx
    simp only [Option.some.injEq, Prod.mk.injEq] at ha
    obtain ⟨rfl, rfl⟩ := ha
    have e1 := rel_lit_inv (he x _ hx)
    have ef := Eff.alloc hr (ab := .iter none 0 [] 0) (o := .mapIter none 0 #[] 0) ⟨rfl, none, rfl, rfl⟩
    refine ⟨_, _, .pointer (some ⟨w.heap.size, 0, none⟩), .inl ?_, ef, by unfold rel; exact ⟨w.heap.size, 0, up_same _ _ _, rfl⟩⟩
    simp [execOp, ho, e1, Instr.range, run_und hT hu]
  · rename_i kt et b hu hx
    split at ha
    case h_2 => cases ha
    rename_i es clock hb
    simp only [Option.some.injEq, Prod.mk.injEq] at ha
    obtain ⟨rfl, rfl⟩ := ha
    obtain ⟨r, res, m1, e1, m2, m3⟩ := map_inv hr (he x _ hx) hb
    have hgo : (getObj r).run P w = .ok (.map res clock) w := by simp [getObj, Sem.run, m2]
    have ef := Eff.alloc hr (ab := .iter (some b) clock [] clock) (o := .mapIter (some r) clock #[] clock) ⟨rfl, some r, rfl, r, m1, rfl⟩
    refine ⟨_, _, .pointer (some ⟨w.heap.size, 0, none⟩), .inl ?_, ef, by unfold rel; exact ⟨w.heap.size, 0, up_same _ _ _, rfl⟩⟩
    simp [execOp, ho, e1, Instr.range, run_und hT hu, hgo]
  · cases ha

theorem ents_all {es : List AE} {l : List MapEntry} (q : Nat → Bool) (hh : entsRel ρ μ w es l) : l.all (fun e => q e.born) = es.all (fun e => q e.born) := by
  induction es generalizing l with
  | nil => obtain rfl : l = [] := hh; rfl
  | cons a r ih =>
    obtain ⟨e, es', rfl, ⟨_, _, _, h4⟩, h5⟩ := hh
    rw [List.all_cons, List.all_cons, ih h5, h4]

theorem ents_filter {es : List AE} {l : List MapEntry} (q : Nat → Bool) (hh : entsRel ρ μ w es l) : entsRel ρ μ w (es.filter fun e => q e.born) (l.filter fun e => q e.born) := by
  induction es generalizing l with
  | nil => obtain rfl : l = [] := hh; exact rfl
  | cons a r ih =>
    obtain ⟨e, es', rfl, ⟨h1, h2, h3, h4⟩, h5⟩ := hh
    rw [List.filter_cons, List.filter_cons, h4]
    cases q a.born with
    | true => exact ⟨e, _, rfl, ⟨h1, h2, h3, h4⟩, ih h5⟩
    | false => exact ih h5

theorem nat_beq (a b : Nat) : (a == b) = Nat.beq a b := by
  cases h : Nat.beq a b with
  | true => rw [Nat.eq_of_beq_eq_true h]; simp
  | false => simp; intro e; subst e; simp at h

theorem rel_avKey {k : Value} (hk : keyV k = true) : rel ρ μ w (avKey k) k := by
  unfold keyV at hk
  unfold avKey
  split
  · rename_i cs
    unfold rel
    refine ⟨cs.toList, by simp, ?_⟩
    simp only [List.all_eq_true] at hk
    revert hk
    generalize cs.toList = l
    intro hk
    induction l with
    | nil => exact rels_nil
    | cons a r ih => exact rels_cons (rel_lit (hk a (by simp))) (ih fun x hx => hk x (by simp [hx]))
  · rename_i hn
    refine rel_lit ?_
    revert hk
    cases k <;> first | exact id | exact absurd rfl (hn _)

theorem op_entry {x : Operand} (hr : HR P ρ fl μ h w) (he : EnvR ρ μ w tmps ev) (ho : o.op = .entry x) (ha : aEntry tmps h x = some (n, h')) :
    OpOK P ρ fl μ h w ((execOp ev o).run P w) n h' := by
  unfold aEntry at ha
  split at ha
  case h_2 => cases ha
  rename_i b hx
  obtain ⟨r, base, hb, e1⟩ := rel_ptr_inv (he x _ hx)
  split at ha
  case h_2 => cases ha
  rename_i m since seen stepped hi
  obtain ⟨_, _, ob, p1, rfl, m', rfl, rm, p2, rfl⟩ := hr.obj b r base _ hb hi
  split at ha
  case h_2 => cases ha
  rename_i es clock stamp hm hst
  obtain ⟨_, _, om, p3, res, rfl, _, p4⟩ := hr.obj m rm 0 _ p2 hm
  cases hcl : Nat.beq clock stepped with
  | false => rw [hcl] at ha; cases ha
  | true =>
  rw [hcl] at ha
  obtain rfl := Nat.eq_of_beq_eq_true hcl
  simp only [cond_true] at ha
  split at ha
  case h_2 => cases ha
  rename_i ae hf
  simp only [Option.some.injEq, Prod.mk.injEq] at ha
  obtain ⟨rfl, rfl⟩ := ha
  have hgo : (getObj r).run P w = .ok (.mapIter (some rm) since seen.toArray clock) w := by simp [getObj, Sem.run, p1]
  have hgm : (getObj rm).run P w = .ok (.map res clock) w := by simp [getObj, Sem.run, p3]
  have hfind : ∀ {es : List AE} {l : List MapEntry}, entsRel ρ μ w es l → es.find? (fun e => Nat.beq e.born stamp) = some ae → ∃ e, l.find? (fun e => e.born == stamp) = some e ∧ entRel ρ μ w ae e := by
    intro es
    induction es with
    | nil => intro l _ hf; cases hf
    | cons a r ih =>
      intro l hl hf
      obtain ⟨e, es', rfl, h4, h5⟩ := hl
      rw [List.find?_cons] at hf ⊢
      rw [show (e.born == stamp) = Nat.beq a.born stamp by rw [h4.2.2.2, nat_beq]]
      cases hq : Nat.beq a.born stamp with
      | true => rw [hq] at hf; obtain rfl := Option.some.inj hf; exact ⟨e, rfl, h4⟩
      | false => rw [hq] at hf; exact ih h5 hf
  obtain ⟨e, f1, g1, g2, g3, g4⟩ := hfind p4 hf
  rw [Array.find?_toList] at f1
  refine valOK_here hr (v' := .tuple #[e.key, e.val]) ?_ (by
    unfold rel
    exact ⟨[e.key, e.val], rfl, rels_cons (by rw [g1]; exact rel_avKey g2) (rels_cons g3 rels_nil)⟩)
  have hb2 : seen.toArray.back? = some stamp := by simp [hst]
  simp [execOp, ho, e1, Instr.entry, hgo, hgm, hb2, f1]

theorem op_next {x : Operand} {s : Bool} (hr : HR P ρ fl μ h w) (he : EnvR ρ μ w tmps ev) (ho : o.op = .next x s) (ha : aNext tmps h x s = some (n, h')) :
    OpOK P ρ fl μ h w ((execOp ev o).run P w) n h' := by
  unfold aNext at ha
  split at ha
  case h_2 => cases ha
  rename_i b hx
  obtain ⟨r, base, hb, e1⟩ := rel_ptr_inv (he x _ hx)
  split at ha
  case h_3 => cases ha
  · rename_i si se la hi
    obtain ⟨_, _, ob, p1, rfl, m', rfl, rfl⟩ := hr.obj b r base _ hb hi
    simp only [Option.some.injEq, Prod.mk.injEq] at ha
    obtain ⟨rfl, rfl⟩ := ha
    have hgo : (getObj r).run P w = .ok (.mapIter none si se.toArray la) w := by simp [getObj, Sem.run, p1]
    refine valOK_here hr (v' := .tuple #[.bool false]) ?_ (by unfold rel; exact ⟨[.bool false], rfl, rels_cons (rel_lit rfl) rels_nil⟩)
    simp [execOp, ho, e1, Instr.next, hgo]
  · rename_i m since seen last hi
    obtain ⟨_, _, ob, p1, rfl, m', rfl, rm, p2, rfl⟩ := hr.obj b r base _ hb hi
    split at ha
    case h_2 => cases ha
    rename_i es clock hm
    obtain ⟨_, _, om, p3, res, rfl, _, p4⟩ := hr.obj m rm 0 _ p2 hm
    have hgo : (getObj r).run P w = .ok (.mapIter (some rm) since seen.toArray last) w := by simp [getObj, Sem.run, p1]
    have hgm : (getObj rm).run P w = .ok (.map res clock) w := by simp [getObj, Sem.run, p3]
    cases hc : (!seen.isEmpty && !es.isEmpty && es.all (fun e => decide (e.born ≥ last))) with
    | true => rw [hc] at ha; cases ha
    | false =>
    rw [hc] at ha
    simp only [cond_false] at ha
    have hlen := entsRel_length p4
    have hemp : res.isEmpty = es.isEmpty := by
      rw [Array.length_toList] at hlen
      cases es with
      | nil => simp at hlen; simp [hlen]
      | cons a r => 
        have : res.size ≠ 0 := by rw [hlen]; simp
        simp only [List.isEmpty_cons]
        exact Bool.eq_false_iff.mpr (fun hh => this (by rw [Array.isEmpty_iff] at hh; rw [hh]; rfl))
    have hall : (res.all fun e => decide (e.born ≥ last)) = es.all (fun e => decide (e.born ≥ last)) := by
      rw [← ents_all (fun k => decide (k ≥ last)) p4]
      simp [Array.all_toList]
    have hcond : (!seen.toArray.isEmpty && !res.isEmpty && res.all (fun e => decide (e.born ≥ last))) = false := by
      rw [hemp, hall, ← hc]
      simp
    obtain ⟨left, hleft⟩ : ∃ left, (res.filter fun e => !seen.toArray.contains e.born) = left := ⟨_, rfl⟩
    have hfil : entsRel ρ μ w (es.filter fun e => !seen.contains e.born) left.toList := by
      have h1 := ents_filter (fun k => !seen.contains k) p4
      have h2 : left.toList = res.toList.filter (fun e => !seen.contains e.born) := by
        rw [← hleft, Array.toList_filter]
        simp
      rw [h2]
      exact h1
    generalize hl2 : (es.filter fun e => !seen.contains e.born) = lf at ha hfil
    have hcond' : ¬ ((!seen.toArray.isEmpty && !res.isEmpty && res.all (fun e => decide (e.born ≥ last))) = true) := by rw [hcond]; simp
    split at ha
    · simp only [Option.some.injEq, Prod.mk.injEq] at ha
      obtain ⟨rfl, rfl⟩ := ha
      have h0 : left.toList = [] := hfil
      obtain rfl : left = #[] := by apply Array.ext'; rw [h0]
      refine valOK_here hr (v' := .tuple #[.bool false]) ?_ (by unfold rel; exact ⟨[.bool false], rfl, rels_cons (rel_lit rfl) rels_nil⟩)
      simp only [execOp, ho, e1, Nat.zero_add, Instr.next, Sem.run_bind, hgo, Result.andThen_ok, hgm, if_neg hcond', hleft]
      simp [Question.forced]
    · rename_i ae
      obtain ⟨e, es', h0, ⟨g1, g2, g3, g4⟩, h5⟩ := hfil
      obtain rfl : es' = [] := h5
      obtain rfl : left = #[e] := by apply Array.ext'; rw [h0]
      cases hbs : Nat.blt ae.born since with
      | false => rw [hbs] at ha; cases ha
      | true =>
      rw [hbs] at ha
      simp only [cond_true, Option.some.injEq, Prod.mk.injEq] at ha
      obtain ⟨rfl, rfl⟩ := ha
      have hlt : e.born < since := by rw [g4]; exact Nat.blt_eq.mp hbs
      have hone : One r w { w with heap := w.heap.setIfInBounds r (.mapIter (some rm) since (seen.toArray.push e.born) clock) } := by
        have hr0 : r < w.heap.size := lt_in p1
        refine ⟨by simp, fun k hk => by simp [Array.getElem?_setIfInBounds, Ne.symm hk], fun k cur e' fz hk => ?_, rfl, rfl, rfl⟩
        by_cases hkr : k = r
        · subst hkr; rw [p1] at hk; cases hk
        · exact ⟨cur, e', fz, by simp only [Array.getElem?_setIfInBounds, if_neg (Ne.symm hkr)]; exact hk, rfl⟩
      have hset : (w.heap.setIfInBounds r (.mapIter (some rm) since (seen.toArray.push e.born) clock))[r]? = some (.mapIter (some rm) since (seen.toArray.push e.born) clock) := by
        simp [Array.getElem?_setIfInBounds, lt_in p1]
      have ef := Eff.upd (ab' := .iter (some m) since (seen ++ [ae.born]) clock) hr hb hi rfl hone hset ⟨rfl, some rm, by rw [g4]; simp, rm, p2, rfl⟩
      refine ⟨_, _, .tuple #[.bool true, e.key, e.val], .inl ?_, ef, ?_⟩
      · simp only [execOp, ho, e1, Nat.zero_add, Instr.next, Sem.run_bind, hgo, Result.andThen_ok, hgm, if_neg hcond', hleft]
        have hold : (#[e].filter fun x => decide (x.born < since)) = #[e] := by simp [hlt]
        have hnew : (#[e].filter fun x => decide (x.born ≥ since)) = #[] := by simp; omega
        simp only [hold, hnew]
        simp [Question.forced, setObj, Sem.run, p1]
      · unfold rel
        refine ⟨[.bool true, e.key, e.val], rfl, rels_cons (rel_lit rfl) (rels_cons ?_ (rels_cons (rel.mono ef.more ef.grows _ _ g3) rels_nil))⟩
        rw [g1]
        exact rel_avKey g2
    · cases ha

/-- An operation of the abstract machine is one of the model's. -/
theorem aop_sound (hT : TT.Sound P T) (hr : HR P ρ fl μ h w) (he : EnvR ρ μ w tmps ev) (ha : aop P T o tmps h = some (n, h')) : OpOK P ρ fl μ h w ((execOp ev o).run P w) n h' := by
  unfold aop at ha
  split at ha
  case h_1 x ho => exact op_move hr he (.inl ho) ha
  case h_2 x ho => exact op_move hr he (.inr ho) ha
  case h_3 c a b ho => exact op_pick hr he ho ha
  case h_4 t ho => exact op_alloc hT hr ho ha
  case h_5 t x ho => exact op_box hr he ho ha
  case h_6 t ps ho => exact op_build hT hr he ho ha
  case h_7 t m ps ho => exact op_buildSlice hT hr he ho ha
  case h_8 t a ho => exact op_load hT hr he ho ha
  case h_9 t a x ho => exact op_store hT hr he ho ha
  case h_10 x ho => exact op_nilCheck hr he ho ha
  case h_11 op t x y ty ho => exact op_bin hT hr he ho ha
  case h_12 src dst x ho => exact op_convert hT hr he ho ha
  case h_13 t x ho => exact op_makeInterface hT hr he ho ha
  case h_14 f a b ho => exact op_makeFunc hr he ho ha
  case h_15 t ho =>
    simp only [Option.some.injEq, Prod.mk.injEq] at ha
    obtain ⟨rfl, rfl⟩ := ha
    exact op_makeMap hr ho
  case h_16 t l c ho => exact op_makeSlice hT hr he ho ha
  case h_17 t x lo hi mx ho => exact op_slice hT hr he ho ha
  case h_18 t x i ho => exact op_fieldAddr hT hr he ho ha
  case h_19 t x i ho => exact op_field hT hr he ho ha
  case h_20 t x ix ho => exact op_indexAddr hT hr he ho ha
  case h_21 t x ix ho => exact op_index hT hr he ho ha
  case h_22 t m k ok ho => exact op_lookup hT hr he ho ha
  case h_23 t m k x ho => exact op_update hT hr he (.inl ho) ha
  case h_24 t m k x ho => exact op_update hT hr he (.inr ho) ha
  case h_25 x i ho => exact op_extract hr he ho ha
  case h_26 t x ho => exact op_range hT hr he ho ha
  case h_27 x s ho => exact op_next hr he ho ha
  case h_28 x ho => exact op_entry hr he ho ha
  case h_29 x xt t ok ho => exact op_assert hT hr he ho ha
  case h_30 x ho => exact op_panic hr he ho ha
  case h_31 c ho => exact op_call hT hr he ho ha
  case h_32 c ho => exact op_defer hr he ho ha
  case h_33 op t x ho => exact op_un hr he ho ha
  case h_34 => cases ha

end Go.Proofs.YtfchbkmegicfoaaGreat.Ex
