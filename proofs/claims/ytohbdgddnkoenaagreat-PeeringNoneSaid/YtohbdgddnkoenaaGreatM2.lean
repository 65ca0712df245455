/- Part 2 of the proof: Exw, Exm, Exn, Exx, Exy, Exz, Exk, Exd, Exd1, Exd2, Exd3, Exd4, Exd5, Exd6, Exd7, Exd8. -/
import Derived.Defers
import Derived.Test.YtohbdgddnkoenaaGreatM1
section

set_option linter.unusedSimpArgs false
set_option linter.unusedVariables false
namespace Go.Proofs.YtohbdgddnkoenaaGreat.Ex
open Go Go.RowKit
variable {P : Program} {T : TT} {ρ : Nat → Value} {fl : Nat} {μ : Mu} {h : AH} {w : World} {tmps : TM} {ev : Operand → Value} {o : Oper} {n : AN} {h' : AH}
/-- The first k elements of what is copied. -/
theorem srcA_first {z m k : Nat} {x : AV} {v : Value} {new : List AV} (hr : HR P ρ fl μ h w) (hv : rel ρ μ w x v) (hl : lenA x = some m) (hs : srcA h z x = some new) (hn : new.length = m * z) (hk : k ≤ m) :
    ∃ vs, rels ρ μ w new vs ∧ (Builtin.lenOf v).run P w = .ok m w ∧ (Builtin.firstCells z k v).run P w = .ok (vs.take (k * z)).toArray w := by
  unfold srcA at hs
  split at hs
  · obtain rfl := Option.some.inj hs
    obtain rfl := rel_lit_inv hv
    simp only [lenA, Option.some.injEq] at hl
    subst hl
    obtain rfl : k = 0 := by omega
    exact ⟨[], rels_nil, rfl, by simpa using run_firstCells_none (P := P) w z 0 0 0⟩
  · rename_i s
    cases hz1 : Nat.beq z 1 with
    | false => rw [hz1] at hs; cases hs
    | true =>
    rw [hz1] at hs
    obtain rfl := Nat.eq_of_beq_eq_true hz1
    obtain rfl := Option.some.inj hs
    obtain rfl := rel_lit_inv hv
    simp only [lenA, Option.some.injEq] at hl
    subst hl
    refine ⟨Go.byteCells s, rels_byteCells s, rfl, ?_⟩
    simp only [Builtin.firstCells, Sem.run_pure, Nat.mul_one]
    congr 1
    apply Array.ext'
    simp [Go.byteCells, ByteArray.data_extract, List.map_take]
  · rename_i b off len cap
    split at hs
    case h_2 => cases hs
    rename_i l hg
    simp only [lenA, Option.some.injEq] at hl
    subst hl
    rcases rel_sl_inv hv with ⟨r, base, o', c, q1, rfl, q2, q3⟩ | ⟨rfl, rfl, ad, rfl⟩
    rotate_left
    · unfold cut at hs
      split at hs
      case isFalse => cases hs
      obtain rfl := Option.some.inj hs
      obtain rfl : k = 0 := by omega
      simp only [Nat.zero_mul, List.take_zero]
      exact ⟨[], rels_nil, rfl, by simpa using run_firstCells_some (P := P) w z 0 ad 0 0 [] (by simp) (fun j u hu => by simp at hu)⟩
    obtain ⟨cur, e, fz, k1, k2⟩ := getR_sound hr q1 hg
    obtain ⟨vs, k3, k4, k5, k6, k7⟩ := cut_sound k2 hs
    have hle := (capRel_le q3).1
    have hcell : ∀ j u, (vs.take (k * z))[j]? = some u → w.cell? ((⟨r, o', none⟩ : Addr).add j) = some u := fun j u hu => by
      rw [List.getElem?_take] at hu
      split at hu
      case isFalse => cases hu
      have hj := (List.getElem?_eq_some_iff.1 hu).1
      have : 0 < len := by
        rcases Nat.eq_zero_or_pos len with h0 | h0
        · subst h0; simp only [Nat.zero_mul] at k4; omega
        · exact h0
      obtain rfl : o' = base + off := q2.resolve_left (by omega)
      rw [addr_add, cell_in k1]
      exact k7 j u hu
    have hkz : k * z ≤ len * z := Nat.mul_le_mul_right _ hk
    refine ⟨vs, k3, rfl, ?_⟩
    have := run_firstCells_some (P := P) w z k (⟨r, o', none⟩ : Addr) len c (vs.take (k * z)) (by rw [List.length_take]; omega) hcell
    exact this
  · cases hs
theorem copyA_sound {t ty : TypeId} {l : List TypeId} {d x a : AV} {rd rx : Value} (hT : TT.Sound P T) (hr : HR P ρ fl μ h w) (hd : rel ρ μ w d rd) (hx : rel ρ μ w x rx) (ha : copyA T h t d x = some (a, h')) :
    valOK P ρ fl μ h w (((Builtin.copy_ (t :: l).toArray ty #[rd, rx]).run P w).andThen fun v w' => .ok (.value v) w') a h' := by
  unfold copyA at ha
  split at ha
  case h_2 => cases ha
  rename_i e hu
  split at ha
  case h_2 => cases ha
  rename_i z n m hz hn hm
  split at ha
  case h_2 => cases ha
  rename_i cs hcs
  generalize hc : (Nat.beq cs.length (m * z) && cs.all AV.one) = cb at ha
  cases cb with
  | false => cases ha
  | true =>
  simp only [Bool.and_eq_true] at hc
  have d1 := Nat.eq_of_beq_eq_true hc.1
  simp only [cond_true] at ha
  obtain ⟨vs, v1, v2, v3⟩ := srcA_first (P := P) (k := Nat.min m n) hr hx hm hcs d1 (Nat.min_le_left _ _)
  unfold copyB at ha
  split at ha
  · rename_i b off len cap
    simp only [lenA, Option.some.injEq] at hn
    subst hn
    cases hnul : isNul len cap with
    | true =>
      rw [hnul] at ha
      simp only [cond_true, Option.some.injEq, Prod.mk.injEq] at ha
      obtain ⟨rfl, rfl⟩ := ha
      have ⟨hl0, ad, hrd⟩ : len = 0 ∧ ∃ ad, rd = .slice (some ad) 0 0 := by
        cases cap with
        | un zc => cases hnul
        | kn kc =>
          simp only [isNul, Bool.and_eq_true] at hnul
          have hl0 := Nat.eq_of_beq_eq_true hnul.1
          have hc0 := Nat.eq_of_beq_eq_true hnul.2
          refine ⟨hl0, ?_⟩
          rcases rel_sl_inv hd with ⟨r, base, o', c, q1, rfl, q2, q3⟩ | ⟨_, _, ad, rfl⟩
          · obtain ⟨rfl, _, _⟩ := q3
            exact ⟨⟨r, o', none⟩, by rw [hl0, hc0]⟩
          · exact ⟨ad, rfl⟩
      subst hl0 hrd
      refine valOK_here hr (v' := .int .i64 0) ?_ (rel_lit rfl)
      have h0 : Nat.min m 0 = 0 := Nat.min_zero m
      rw [h0] at v3
      simp [Builtin.copy_, run_und hT hu, v2, run_size hT hz, v3, goInt, h0, storeCells]
    | false =>
    rw [hnul] at ha
    simp only [cond_false] at ha
    split at ha
    case h_2 => cases ha
    rename_i l0 e' hg
    simp only [Option.map_eq_some_iff, Prod.mk.injEq] at ha
    obtain ⟨l', hput, rfl, rfl⟩ := ha
    rcases rel_sl_inv hd with ⟨r, base, o', c, q1, rfl, q2, q3⟩ | ⟨rfl, rfl, _⟩
    rotate_left
    · cases hnul
    have hle := (capRel_le q3).1
    obtain ⟨f1, f2, f3⟩ := setCells_eff hr q1 hg hput (rels_take _ v1)
    have hst : (storeCells ⟨r, o', none⟩ (vs.take (Nat.min m len * z))).run P w = .ok () (w.setCells r (base + off) (vs.take (Nat.min m len * z))) := by
      rcases q2 with h0 | rfl
      · have : Nat.min m len = 0 := by
          have := Nat.min_le_right m len
          have h2 : Nat.min m len ≤ len := this
          omega
        rw [this]
        simp [storeCells, World.setCells]
      · have := run_storeCells_cells (P := P) r (base + off) (vs.take (Nat.min m len * z)) 0 w (by simpa using f2) (by simpa using f3) (fun v hv => rels_one v1 hc.2 v (List.mem_of_mem_take hv))
        simpa using this
    refine ⟨μ, _, .int .i64 (Nat.min m len : Nat), .inl ?_, f1, rel_lit rfl⟩
    simp [Builtin.copy_, run_und hT hu, v2, run_size hT hz, v3, hst, goInt]
  · simp only [lenA, Option.some.injEq] at hn
    subst hn
    simp only [Option.some.injEq, Prod.mk.injEq] at ha
    obtain ⟨rfl, rfl⟩ := ha
    obtain rfl := rel_lit_inv hd
    refine valOK_here hr (v' := .int .i64 0) ?_ (rel_lit rfl)
    have h0 : Nat.min m 0 = 0 := Nat.min_zero m
    rw [h0] at v3
    simp [Builtin.copy_, run_und hT hu, v2, run_size hT hz, v3, goInt, h0]
  · cases ha
theorem clearA_sound {t ty : TypeId} {l : List TypeId} {x : AV} {rx : Value} (hT : TT.Sound P T) (hr : HR P ρ fl μ h w) (hx : rel ρ μ w x rx) (ha : clearA T h t x = some h') :
    ∃ w', (Builtin.clear_ (t :: l).toArray ty #[rx]).run P w = .ok (.tuple #[]) w' ∧ Eff P ρ fl μ h w μ h' w' := by
  unfold clearA at ha
  split at ha
  case h_2 => cases ha
  rename_i e hu
  split at ha
  · rename_i b off len cap
    cases h0 : Nat.beq len 0 with
    | true =>
      rw [h0] at ha
      cases ha
      obtain rfl := Nat.eq_of_beq_eq_true h0
      refine ⟨w, ?_, Eff.refl hr⟩
      rcases rel_sl_inv hx with ⟨r, base, o', c, q1, rfl, q2, q3⟩ | ⟨_, _, ad, rfl⟩ <;> simp [Builtin.clear_, run_und hT hu]
    | false =>
    rw [h0] at ha
    simp only [cond_false] at ha
    split at ha
    case h_2 => cases ha
    rename_i i l0 e' hi hg
    cases ho : (rep i.zero.cells len).all AV.one with
    | false => rw [ho] at ha; cases ha
    | true =>
    rw [ho] at ha
    simp only [cond_true, Option.map_eq_some_iff] at ha
    obtain ⟨l', hput, rfl⟩ := ha
    have hl0 : len ≠ 0 := fun hh => by subst hh; cases h0
    rcases rel_sl_inv hx with ⟨r, base, o', c, q1, rfl, q2, q3⟩ | ⟨hh, _⟩
    rotate_left
    · exact absurd hh hl0
    have hle := (capRel_le q3).1
    obtain rfl : o' = base + off := q2.resolve_left (by omega)
    obtain ⟨z, hz1, hz2⟩ := run_zero (P := P) hT (t := e) (z := i.zero) (by simp [zeroT, hi]) w
    have hzr := rel_cells (ofVal1_rel (ρ := ρ) (μ := μ) (w := w) hz2)
    have hlen := rels_length hzr
    rw [Array.length_toList] at hlen
    have hrow := rep_rels hzr len
    rw [← hlen] at hrow
    obtain ⟨f1, f2, f3⟩ := setCells_eff hr q1 hg hput hrow
    have hst := run_storeCells_cells (P := P) r (base + off) _ 0 w (by simpa using f2) (by simpa using f3) (rels_one hrow ho)
    refine ⟨_, ?_, f1⟩
    obtain ⟨k, rfl⟩ : ∃ k, len = k + 1 := ⟨len - 1, by omega⟩
    simp only [Nat.add_zero] at hst
    simp only [Builtin.clear_, List.getElem?_toArray, List.getElem?_cons_zero, Sem.run_bind, run_und hT hu, hz1, Builtin.zeroCells, Result.andThen]
    rw [hst]
    rfl
  · cases ha
    obtain rfl := rel_lit_inv hx
    exact ⟨w, by simp [Builtin.clear_, run_und hT hu], Eff.refl hr⟩
  · cases ha
/-! Calls. -/
theorem method_run {t : TypeId} {name : String} {f : FuncId} (hm : methodA P t name = some f) (v : Value) (k : Nat) (w : World) : (method (k + 1) t v name).run P w = .ok (f, v) w := by
  unfold methodA at hm
  split at hm
  case h_2 => cases hm
  rename_i i hi
  split at hm
  case h_2 => cases hm
  rename_i m hfind
  cases hp : m.path.isEmpty with
  | false => rw [hp] at hm; cases hm
  | true =>
    rw [hp] at hm
    have hpath : m.path.toList = [] := by simpa [Array.isEmpty_iff] using hp
    simp only [cond_true] at hm
    split at hm
    · rename_i g d hg hd
      obtain rfl := Option.some.inj hm
      simp [method, typeInfo, hi, hfind, hpath, follow, hg, receiverAt, run_underlying hd, Place.get]
    · cases hm
    · rename_i g d hnp hg hd
      obtain rfl := Option.some.inj hm
      have hr : ∀ wr, (receiverAt t (.val v) false wr).run P w = .ok v w := fun wr => by
        unfold receiverAt
        rw [Sem.run_bind, run_underlying hd]
        simp only [Result.andThen_ok]
        cases d <;> first | rfl | (exact absurd rfl (hnp _ _ rfl))
      simp [method, typeInfo, hi, hfind, hpath, follow, hg, hr]
    · cases hm
def callOK (P : Program) (ρ : Nat → Value) (μ : Mu) (w : World) (d : Deferred) : AN → Prop
  | .enter g a => ∃ a', rels ρ μ w a a' ∧ ∀ w', (invoke d.target d.args).run P w' = (callFunc g a'.toArray).run P w'
  | .round l a => ∃ rl a', μ l = some (rl, 0) ∧ rels ρ μ w a a' ∧ ∀ w', (invoke d.target d.args).run P w' = (Instr.yield rl a'.toArray).run P w'
  | _ => False
theorem callA_sound {f : AV} {fv : Value} {ys : List AV} {args : List Value} {an : AN} (hf : rel ρ μ w f fv) (hargs : rels ρ μ w ys args) (hc : callA P f ys = some an) :
    ∃ d, (∀ w', (Deferred.ofValue fv args.toArray).run P w' = .ok d w') ∧ (∃ fn c, d.target = .fn fn c) ∧ callOK P ρ μ w d an := by
  unfold callA at hc
  split at hc
  · obtain rfl := Option.some.inj hc
    rename_i g first caps
    unfold rel at hf
    obtain ⟨f', a, b, rfl, h1, h2, h3⟩ := hf
    simp only [fnRel] at h1
    subst h1
    refine ⟨{ target := .fn (.func g) b.toArray, args := a.toArray ++ args.toArray }, fun w' => rfl, ⟨_, _, rfl⟩, a ++ args ++ b, rels_append (rels_append h2 hargs) h3, fun w' => ?_⟩
    simp [invoke]
  · obtain rfl := Option.some.inj hc
    rename_i l
    unfold rel at hf
    obtain ⟨f', a, b, rfl, ⟨rl, h0, rfl⟩, h2, h3⟩ := hf
    obtain rfl := rels_nil_inv h2
    obtain rfl := rels_nil_inv h3
    exact ⟨{ target := .fn (.yield rl) #[], args := #[] ++ args.toArray }, fun w' => rfl, ⟨_, _, rfl⟩, rl, args, h0, hargs, fun w' => by simp [invoke]⟩
  · rename_i name t v
    simp only [Option.map_eq_some_iff] at hc
    obtain ⟨g, hm, rfl⟩ := hc
    unfold rel at hf
    obtain ⟨f', a, b, rfl, h1, h2, h3⟩ := hf
    simp only [fnRel] at h1
    subst h1
    obtain ⟨x, xs, rfl, h4, h5⟩ := rels_cons_inv h2
    obtain rfl := rels_nil_inv h5
    obtain rfl := rels_nil_inv h3
    obtain ⟨u, rfl, hu⟩ := rel_ifc_inv h4
    refine ⟨{ target := .fn (.method name) #[], args := #[.iface t u] ++ args.toArray }, fun w' => rfl, ⟨_, _, rfl⟩, u :: args, rels_cons hu hargs, fun w' => ?_⟩
    obtain ⟨k, hk⟩ : ∃ k, P.types.size + Made.depth = k + 1 := ⟨P.types.size + 99, by simp [Made.depth]⟩
    simp [invoke, callMethod, hk, method_run hm]
  · cases hc
theorem invoke_recv (r : Value) (name : String) (args : Array Value) : (Deferred.ofValue (.func (.method name) #[r] #[]) args) = (pure { target := .fn (.method name) #[], args := #[r] ++ args } : Sem Deferred) := rfl
theorem op_call {c : Call} (hT : TT.Sound P T) (hr : HR P ρ fl μ h w) (he : EnvR ρ μ w tmps ev) (ho : o.op = .call c) (ha : aCall P T o tmps h c = some (n, h')) :
    OpOK P ρ fl μ h w ((execOp ev o).run P w) n h' := by
  unfold aCall at ha
  split at ha
  · rename_i b hb
    obtain ⟨cs, hexec⟩ : ∃ cs, ∀ w', (execOp ev o).run P w' = (builtin b c.argTypes o.type cs (c.args.map ev)).run P w' := ⟨_, fun w' => by
      simp only [execOp, ho, resolve, hb, invoke, Sem.run_bind, Sem.run_pure, Result.andThen_ok]
      rfl⟩
    unfold aBuiltin at ha
    split at ha
    · rename_i s x t tx hargs htypes
      simp only [Option.map_eq_some_iff, Prod.mk.injEq] at ha
      obtain ⟨⟨a, hh⟩, h1, rfl, rfl⟩ := ha
      obtain ⟨v1, l1, e1, r1, r2⟩ := rels_cons_inv (evals_sound he hargs)
      obtain ⟨v2, l2, rfl, r3, r4⟩ := rels_cons_inv r2
      obtain rfl := rels_nil_inv r4
      have hty : c.argTypes = #[t, tx] := by rw [← Array.toArray_toList (xs := c.argTypes), htypes]
      have := appendA_sound (ty := o.type) (P := P) hT hr r1 r3 h1
      rw [hexec, arr_map, e1, hty]
      simpa [builtin, OpOK] using this
    · rename_i s x t rest hargs htypes
      simp only [Option.map_eq_some_iff, Prod.mk.injEq] at ha
      obtain ⟨⟨a, hh⟩, h1, rfl, rfl⟩ := ha
      obtain ⟨v1, l1, e1, r1, r2⟩ := rels_cons_inv (evals_sound he hargs)
      obtain ⟨v2, l2, rfl, r3, r4⟩ := rels_cons_inv r2
      obtain rfl := rels_nil_inv r4
      have hty : c.argTypes = (t :: rest).toArray := by rw [← Array.toArray_toList (xs := c.argTypes), htypes]
      have := copyA_sound (ty := o.type) (P := P) (l := rest) hT hr r1 r3 h1
      rw [hexec, arr_map, e1, hty]
      simpa [builtin, OpOK] using this
    · rename_i m k t rest hargs htypes
      simp only [Option.map_eq_some_iff, Prod.mk.injEq] at ha
      obtain ⟨hh, h1, rfl, rfl⟩ := ha
      obtain ⟨v1, l1, e1, r1, r2⟩ := rels_cons_inv (evals_sound he hargs)
      obtain ⟨v2, l2, rfl, r3, r4⟩ := rels_cons_inv r2
      obtain rfl := rels_nil_inv r4
      have hty : c.argTypes = (t :: rest).toArray := by rw [← Array.toArray_toList (xs := c.argTypes), htypes]
      obtain ⟨w', q1, q2⟩ := deleteA_sound (ty := o.type) (P := P) (l := rest) hT hr r1 r3 h1
      refine ⟨μ, w', .tuple #[], .inl ?_, q2, by unfold rel; exact ⟨[], rfl, rels_nil⟩⟩
      rw [hexec, arr_map, e1, hty]
      simp only [builtin, Sem.run_bind]
      rw [q1]
      rfl
    · rename_i x t rest hargs htypes
      simp only [Option.map_eq_some_iff, Prod.mk.injEq] at ha
      obtain ⟨hh, h1, rfl, rfl⟩ := ha
      obtain ⟨v1, l1, e1, r1, r2⟩ := rels_cons_inv (evals_sound he hargs)
      obtain rfl := rels_nil_inv r2
      have hty : c.argTypes = (t :: rest).toArray := by rw [← Array.toArray_toList (xs := c.argTypes), htypes]
      obtain ⟨w', q1, q2⟩ := clearA_sound (ty := o.type) (P := P) (l := rest) hT hr r1 h1
      refine ⟨μ, w', .tuple #[], .inl ?_, q2, by unfold rel; exact ⟨[], rfl, rels_nil⟩⟩
      rw [hexec, arr_map, e1, hty]
      simp only [builtin, Sem.run_bind]
      rw [q1]
      rfl
    · rename_i b1 off len cap t rest hargs htypes
      split at ha
      case h_2 => cases ha
      rename_i e hu
      simp only [Option.some.injEq, Prod.mk.injEq] at ha
      obtain ⟨rfl, rfl⟩ := ha
      obtain ⟨v1, l1, e1, r1, r2⟩ := rels_cons_inv (evals_sound he hargs)
      obtain rfl := rels_nil_inv r2
      have hty : c.argTypes = (t :: rest).toArray := by rw [← Array.toArray_toList (xs := c.argTypes), htypes]
      refine valOK_here hr (v' := .int .i64 len) ?_ (rel_lit rfl)
      rw [hexec, arr_map, e1, hty]
      rcases rel_sl_inv r1 with ⟨r, base, o', cc, _, rfl, _⟩ | ⟨rfl, _, ad, rfl⟩ <;> simp [builtin, Builtin.len_, run_und hT hu, goInt]
    · rename_i b1 t rest hargs htypes
      split at ha
      case h_2 => cases ha
      rename_i kt et es clock hu hb1
      simp only [Option.some.injEq, Prod.mk.injEq] at ha
      obtain ⟨rfl, rfl⟩ := ha
      obtain ⟨v1, l1, e1, r1, r2⟩ := rels_cons_inv (evals_sound he hargs)
      obtain rfl := rels_nil_inv r2
      obtain ⟨r, res, m1, rfl, m2, m3⟩ := map_inv hr r1 hb1
      have hty : c.argTypes = (t :: rest).toArray := by rw [← Array.toArray_toList (xs := c.argTypes), htypes]
      have hgo : (getObj r).run P w = .ok (.map res clock) w := by simp [getObj, Sem.run, m2]
      have hlen := entsRel_length m3
      rw [Array.length_toList] at hlen
      refine valOK_here hr (v' := .int .i64 es.length) ?_ (rel_lit rfl)
      rw [hexec, arr_map, e1, hty]
      simp [builtin, Builtin.len_, run_und hT hu, hgo, goInt, hlen]
    · simp only [Option.some.injEq, Prod.mk.injEq] at ha
      obtain ⟨rfl, rfl⟩ := ha
      exact ⟨rfl, by rw [hexec]; rfl⟩
    · exact orLit_sound hr he ha fun hk => by cases hk
  · rename_i f hf
    split at ha
    case h_2 => cases ha
    rename_i fv ys hfv has
    simp only [Option.map_eq_some_iff, Prod.mk.injEq] at ha
    obtain ⟨an, h1, rfl, rfl⟩ := ha
    obtain ⟨d, d1, d2, d3⟩ := callA_sound (he f _ hfv) (evals_sound he has) h1
    have hexec : (execOp ev o).run P w = (invoke d.target d.args).run P w := by
      have := d1 w
      rw [← arr_map] at this
      simp [execOp, ho, resolve, hf, this]
    rw [hexec]
    cases an with
    | enter g a => obtain ⟨a', a1, a2⟩ := d3; exact ⟨rfl, a', a1, a2 w⟩
    | round l a => obtain ⟨rl, a', a0, a1, a2⟩ := d3; exact ⟨rfl, rl, a', a0, a1, a2 w⟩
    | _ => exact d3.elim
  · rename_i r name hf
    split at ha
    case h_2 => cases ha
    rename_i rv ys hrv has
    simp only [Option.map_eq_some_iff, Prod.mk.injEq] at ha
    obtain ⟨an, h1, rfl, rfl⟩ := ha
    have hrel : rel ρ μ w (.fn (.method name) [rv] []) (.func (.method name) #[ev r] #[]) := by
      unfold rel
      exact ⟨.method name, [ev r], [], rfl, rfl, rels_cons (he r _ hrv) rels_nil, rels_nil⟩
    obtain ⟨d, d1, d2, d3⟩ := callA_sound hrel (evals_sound he has) h1
    have hexec : (execOp ev o).run P w = (invoke d.target d.args).run P w := by
      have := d1 w
      rw [← arr_map, invoke_recv] at this
      simp only [Sem.run_pure, Result.ok.injEq, and_true] at this
      subst this
      simp [execOp, ho, resolve, hf]
    rw [hexec]
    cases an with
    | enter g a => obtain ⟨a', a1, a2⟩ := d3; exact ⟨rfl, a', a1, a2 w⟩
    | round l a => obtain ⟨rl, a', a0, a1, a2⟩ := d3; exact ⟨rfl, rl, a', a0, a1, a2 w⟩
    | _ => exact d3.elim
theorem op_defer {c : Call} (hr : HR P ρ fl μ h w) (he : EnvR ρ μ w tmps ev) (ho : o.op = .defer c) (ha : aDefer P tmps h c = some (n, h')) :
    OpOK P ρ fl μ h w ((execOp ev o).run P w) n h' := by
  unfold aDefer at ha
  split at ha
  case h_2 => cases ha
  rename_i f hf
  split at ha
  case h_2 => cases ha
  rename_i fv ys hfv has
  split at ha
  case h_2 => cases ha
  rename_i g a hc
  simp only [Option.some.injEq, Prod.mk.injEq] at ha
  obtain ⟨rfl, rfl⟩ := ha
  obtain ⟨d, d1, d2, a', a1, a2⟩ := callA_sound (he f _ hfv) (evals_sound he has) hc
  refine ⟨rfl, d, a', a1, ?_, d2, a2⟩
  have := d1 w
  rw [← arr_map] at this
  simp [execOp, ho, resolve, hf, this]
theorem op_range {t : TypeId} {x : Operand} (hT : TT.Sound P T) (hr : HR P ρ fl μ h w) (he : EnvR ρ μ w tmps ev) (ho : o.op = .range t x) (ha : aRange T tmps h t x = some (n, h')) :
    OpOK P ρ fl μ h w ((execOp ev o).run P w) n h' := by
  unfold aRange at ha
  split at ha
  · rename_i kt et hu hx
    simp only [Option.some.injEq, Prod.mk.injEq] at ha
    obtain ⟨rfl, rfl⟩ := ha
    have e1 := rel_lit_inv (he x _ hx)
    have ef := Eff.alloc hr (ab := .iter none 0 [] 0) (o := .mapIter none 0 #[] 0) ⟨rfl, none, rfl, rfl⟩
    refine ⟨_, _, .pointer (some ⟨w.heap.size, 0, none⟩), .inl ?_, ef, by unfold rel; exact ⟨w.heap.size, 0, up_same _ _ _, rfl⟩⟩
    simp [execOp, ho, e1, Instr.range, run_und hT hu]
  · rename_i kt et b hu hx
    split at ha
    case h_2 => cases ha
    rename_i es clock hb
    simp only [Option.some.injEq, Prod.mk.injEq] at ha
    obtain ⟨rfl, rfl⟩ := ha
    obtain ⟨r, res, m1, e1, m2, m3⟩ := map_inv hr (he x _ hx) hb
    have hgo : (getObj r).run P w = .ok (.map res clock) w := by simp [getObj, Sem.run, m2]
    have ef := Eff.alloc hr (ab := .iter (some b) clock [] clock) (o := .mapIter (some r) clock #[] clock) ⟨rfl, some r, rfl, r, m1, rfl⟩
    refine ⟨_, _, .pointer (some ⟨w.heap.size, 0, none⟩), .inl ?_, ef, by unfold rel; exact ⟨w.heap.size, 0, up_same _ _ _, rfl⟩⟩
    simp [execOp, ho, e1, Instr.range, run_und hT hu, hgo]
  · rename_i s hu hx
    simp only [Option.some.injEq, Prod.mk.injEq] at ha
    obtain ⟨rfl, rfl⟩ := ha
    have e1 := rel_lit_inv (he x _ hx)
    have ef := Eff.alloc hr (ab := .siter s 0) (o := .stringIter s 0) ⟨rfl, rfl⟩
    refine ⟨_, _, .pointer (some ⟨w.heap.size, 0, none⟩), .inl ?_, ef, by unfold rel; exact ⟨w.heap.size, 0, up_same _ _ _, rfl⟩⟩
    simp [execOp, ho, e1, Instr.range, run_und hT hu]
  · cases ha
theorem ents_all {es : List AE} {l : List MapEntry} (q : Nat → Bool) (hh : entsRel ρ μ w es l) : l.all (fun e => q e.born) = es.all (fun e => q e.born) := by
  induction es generalizing l with
  | nil => obtain rfl : l = [] := hh; rfl
  | cons a r ih =>
    obtain ⟨e, es', rfl, ⟨_, _, _, h4⟩, h5⟩ := hh
    rw [List.all_cons, List.all_cons, ih h5, h4]
theorem ents_filter {es : List AE} {l : List MapEntry} (q : Nat → Bool) (hh : entsRel ρ μ w es l) : entsRel ρ μ w (es.filter fun e => q e.born) (l.filter fun e => q e.born) := by
  induction es generalizing l with
  | nil => obtain rfl : l = [] := hh; exact rfl
  | cons a r ih =>
    obtain ⟨e, es', rfl, ⟨h1, h2, h3, h4⟩, h5⟩ := hh
    rw [List.filter_cons, List.filter_cons, h4]
    cases q a.born with
    | true => exact ⟨e, _, rfl, ⟨h1, h2, h3, h4⟩, ih h5⟩
    | false => exact ih h5
theorem nat_beq (a b : Nat) : (a == b) = Nat.beq a b := by
  cases h : Nat.beq a b with
  | true => rw [Nat.eq_of_beq_eq_true h]; simp
  | false => simp; intro e; subst e; simp at h
theorem rel_avKey {k : Value} (hk : keyV k = true) : rel ρ μ w (avKey k) k := by
  unfold keyV at hk
  unfold avKey
  split
  · rename_i cs
    unfold rel
    refine ⟨cs.toList, by simp, ?_⟩
    simp only [List.all_eq_true] at hk
    revert hk
    generalize cs.toList = l
    intro hk
    induction l with
    | nil => exact rels_nil
    | cons a r ih => exact rels_cons (rel_lit (hk a (by simp))) (ih fun x hx => hk x (by simp [hx]))
  · rename_i hn
    refine rel_lit ?_
    revert hk
    cases k <;> first | exact id | exact absurd rfl (hn _)
theorem op_entry {x : Operand} (hr : HR P ρ fl μ h w) (he : EnvR ρ μ w tmps ev) (ho : o.op = .entry x) (ha : aEntry tmps h x = some (n, h')) :
    OpOK P ρ fl μ h w ((execOp ev o).run P w) n h' := by
  unfold aEntry at ha
  split at ha
  case h_2 => cases ha
  rename_i b hx
  obtain ⟨r, base, hb, e1⟩ := rel_ptr_inv (he x _ hx)
  split at ha
  case h_2 => cases ha
  rename_i m since seen stepped hi
  obtain ⟨_, _, ob, p1, rfl, m', rfl, rm, p2, rfl⟩ := hr.obj b r base _ hb hi
  split at ha
  case h_2 => cases ha
  rename_i es clock stamp hm hst
  obtain ⟨_, _, om, p3, res, rfl, _, p4⟩ := hr.obj m rm 0 _ p2 hm
  cases hcl : Nat.beq clock stepped with
  | false => rw [hcl] at ha; cases ha
  | true =>
  rw [hcl] at ha
  obtain rfl := Nat.eq_of_beq_eq_true hcl
  simp only [cond_true] at ha
  split at ha
  case h_2 => cases ha
  rename_i ae hf
  simp only [Option.some.injEq, Prod.mk.injEq] at ha
  obtain ⟨rfl, rfl⟩ := ha
  have hgo : (getObj r).run P w = .ok (.mapIter (some rm) since seen.toArray clock) w := by simp [getObj, Sem.run, p1]
  have hgm : (getObj rm).run P w = .ok (.map res clock) w := by simp [getObj, Sem.run, p3]
  have hfind : ∀ {es : List AE} {l : List MapEntry}, entsRel ρ μ w es l → es.find? (fun e => Nat.beq e.born stamp) = some ae → ∃ e, l.find? (fun e => e.born == stamp) = some e ∧ entRel ρ μ w ae e := by
    intro es
    induction es with
    | nil => intro l _ hf; cases hf
    | cons a r ih =>
      intro l hl hf
      obtain ⟨e, es', rfl, h4, h5⟩ := hl
      rw [List.find?_cons] at hf ⊢
      rw [show (e.born == stamp) = Nat.beq a.born stamp by rw [h4.2.2.2, nat_beq]]
      cases hq : Nat.beq a.born stamp with
      | true => rw [hq] at hf; obtain rfl := Option.some.inj hf; exact ⟨e, rfl, h4⟩
      | false => rw [hq] at hf; exact ih h5 hf
  obtain ⟨e, f1, g1, g2, g3, g4⟩ := hfind p4 hf
  rw [Array.find?_toList] at f1
  refine valOK_here hr (v' := .tuple #[e.key, e.val]) ?_ (by
    unfold rel
    exact ⟨[e.key, e.val], rfl, rels_cons (by rw [g1]; exact rel_avKey g2) (rels_cons g3 rels_nil)⟩)
  have hb2 : seen.toArray.back? = some stamp := by simp [hst]
  simp [execOp, ho, e1, Instr.entry, hgo, hgm, hb2, f1]
theorem ents_get {es : List AE} : ∀ {l : List MapEntry} {j : Nat} {e : MapEntry}, entsRel ρ μ w es l → l[j]? = some e → ∃ ae, es[j]? = some ae ∧ entRel ρ μ w ae e := by
  induction es with
  | nil => intro l j e hl he; obtain rfl : l = [] := hl; cases he
  | cons a r ih =>
    intro l j e hl he
    obtain ⟨e0, es', rfl, h4, h5⟩ := hl
    cases j with
    | zero => cases he; exact ⟨a, rfl, h4⟩
    | succ j => exact ih h5 he
theorem choose_next {n : Nat} (hn : 2 ≤ n) : (choose (.mapNext n)).run P w = .ok (w.tape w.drawn (.mapNext n) % n) w.drew := by
  have hf : (Question.mapNext n).forced = false := by simp only [Question.forced, decide_eq_false_iff_not]; omega
  show (if (Question.mapNext n).forced then _ else _) = _
  rw [hf]
  rfl
theorem op_next {x : Operand} {s : Bool} (hr : HR P ρ fl μ h w) (he : EnvR ρ μ w tmps ev) (ho : o.op = .next x s) (ha : aNext tmps h x s = some (n, h')) :
    OpOK P ρ fl μ h w ((execOp ev o).run P w) n h' := by
  unfold aNext at ha
  split at ha
  case h_3 => cases ha
  case h_2 =>
    rename_i b hx
    obtain ⟨r, base, hb, e1⟩ := rel_ptr_inv (he x _ hx)
    split at ha
    case h_2 => cases ha
    rename_i s pos hi
    obtain ⟨_, _, ob, p1, rfl, rfl⟩ := hr.obj b r base _ hb hi
    have hgo : (getObj r).run P w = .ok (.stringIter s pos) w := by simp [getObj, Sem.run, p1]
    cases hc : Nat.blt pos s.size with
    | false =>
      rw [hc] at ha
      simp only [cond_false, Option.some.injEq, Prod.mk.injEq] at ha
      obtain ⟨rfl, rfl⟩ := ha
      have hlt : ¬ pos < s.size := fun hh => by rw [Nat.blt_eq.mpr hh] at hc; cases hc
      refine valOK_here hr (v' := .tuple #[.bool false]) ?_ (by unfold rel; exact ⟨[.bool false], rfl, rels_cons (rel_lit rfl) rels_nil⟩)
      simp [execOp, ho, e1, Instr.next, hgo, hlt]
    | true =>
      rw [hc] at ha
      simp only [cond_true, Option.some.injEq, Prod.mk.injEq] at ha
      obtain ⟨rfl, rfl⟩ := ha
      have hlt : pos < s.size := Nat.blt_eq.mp hc
      have hone : One r w { w with heap := w.heap.setIfInBounds r (.stringIter s (pos + (Utf8.decode s pos).2)) } := by
        have hr0 : r < w.heap.size := lt_in p1
        refine ⟨by simp, fun k hk => by simp [Array.getElem?_setIfInBounds, Ne.symm hk], fun k cur e' fz hk => ?_, rfl, rfl, rfl⟩
        by_cases hkr : k = r
        · subst hkr; rw [p1] at hk; cases hk
        · exact ⟨cur, e', fz, by simp only [Array.getElem?_setIfInBounds, if_neg (Ne.symm hkr)]; exact hk, rfl⟩
      have hset : (w.heap.setIfInBounds r (.stringIter s (pos + (Utf8.decode s pos).2)))[r]? = some (.stringIter s (pos + (Utf8.decode s pos).2)) := by
        simp [Array.getElem?_setIfInBounds, lt_in p1]
      have ef := Eff.upd (ab' := .siter s (pos + (Utf8.decode s pos).2)) hr hb hi rfl hone hset ⟨rfl, rfl⟩
      refine ⟨_, _, .tuple #[.bool true, .int .i64 pos, .int .i32 (Utf8.decode s pos).1], .inl ?_, ef, ?_⟩
      · simp [execOp, ho, e1, Instr.next, hgo, hlt, goInt, setObj, Sem.run, p1]
      · unfold rel
        exact ⟨[.bool true, .int .i64 pos, .int .i32 (Utf8.decode s pos).1], rfl, rels_cons (rel_lit rfl) (rels_cons (rel_lit rfl) (rels_cons (rel_lit rfl) rels_nil))⟩
  rename_i b hx
  obtain ⟨r, base, hb, e1⟩ := rel_ptr_inv (he x _ hx)
  split at ha
  case h_3 => cases ha
  · rename_i si se la hi
    obtain ⟨_, _, ob, p1, rfl, m', rfl, rfl⟩ := hr.obj b r base _ hb hi
    simp only [Option.some.injEq, Prod.mk.injEq] at ha
    obtain ⟨rfl, rfl⟩ := ha
    have hgo : (getObj r).run P w = .ok (.mapIter none si se.toArray la) w := by simp [getObj, Sem.run, p1]
    refine valOK_here hr (v' := .tuple #[.bool false]) ?_ (by unfold rel; exact ⟨[.bool false], rfl, rels_cons (rel_lit rfl) rels_nil⟩)
    simp [execOp, ho, e1, Instr.next, hgo]
  · rename_i m since seen last hi
    obtain ⟨_, _, ob, p1, rfl, m', rfl, rm, p2, rfl⟩ := hr.obj b r base _ hb hi
    split at ha
    case h_2 => cases ha
    rename_i es clock hm
    obtain ⟨_, _, om, p3, res, rfl, _, p4⟩ := hr.obj m rm 0 _ p2 hm
    have hgo : (getObj r).run P w = .ok (.mapIter (some rm) since seen.toArray last) w := by simp [getObj, Sem.run, p1]
    have hgm : (getObj rm).run P w = .ok (.map res clock) w := by simp [getObj, Sem.run, p3]
    cases hc : (!seen.isEmpty && !es.isEmpty && es.all (fun e => decide (e.born ≥ last))) with
    | true => rw [hc] at ha; cases ha
    | false =>
    rw [hc] at ha
    simp only [cond_false] at ha
    have hlen := entsRel_length p4
    have hemp : res.isEmpty = es.isEmpty := by
      rw [Array.length_toList] at hlen
      cases es with
      | nil => simp at hlen; simp [hlen]
      | cons a r => 
        have : res.size ≠ 0 := by rw [hlen]; simp
        simp only [List.isEmpty_cons]
        exact Bool.eq_false_iff.mpr (fun hh => this (by rw [Array.isEmpty_iff] at hh; rw [hh]; rfl))
    have hall : (res.all fun e => decide (e.born ≥ last)) = es.all (fun e => decide (e.born ≥ last)) := by
      rw [← ents_all (fun k => decide (k ≥ last)) p4]
      simp [Array.all_toList]
    have hcond : (!seen.toArray.isEmpty && !res.isEmpty && res.all (fun e => decide (e.born ≥ last))) = false := by
      rw [hemp, hall, ← hc]
      simp
    obtain ⟨left, hleft⟩ : ∃ left, (res.filter fun e => !seen.toArray.contains e.born) = left := ⟨_, rfl⟩
    have hfil : entsRel ρ μ w (es.filter fun e => !seen.contains e.born) left.toList := by
      have h1 := ents_filter (fun k => !seen.contains k) p4
      have h2 : left.toList = res.toList.filter (fun e => !seen.contains e.born) := by
        rw [← hleft, Array.toList_filter]
        simp
      rw [h2]
      exact h1
    generalize hl2 : (es.filter fun e => !seen.contains e.born) = lf at ha hfil
    have hcond' : ¬ ((!seen.toArray.isEmpty && !res.isEmpty && res.all (fun e => decide (e.born ≥ last))) = true) := by rw [hcond]; simp
    split at ha
    · simp only [Option.some.injEq, Prod.mk.injEq] at ha
      obtain ⟨rfl, rfl⟩ := ha
      have h0 : left.toList = [] := hfil
      obtain rfl : left = #[] := by apply Array.ext'; rw [h0]
      refine valOK_here hr (v' := .tuple #[.bool false]) ?_ (by unfold rel; exact ⟨[.bool false], rfl, rels_cons (rel_lit rfl) rels_nil⟩)
      simp only [execOp, ho, e1, Nat.zero_add, Instr.next, Sem.run_bind, hgo, Result.andThen_ok, hgm, if_neg hcond', hleft]
      simp [Question.forced]
    · rename_i ae
      obtain ⟨e, es', h0, ⟨g1, g2, g3, g4⟩, h5⟩ := hfil
      obtain rfl : es' = [] := h5
      obtain rfl : left = #[e] := by apply Array.ext'; rw [h0]
      cases hbs : Nat.blt ae.born since with
      | false => rw [hbs] at ha; cases ha
      | true =>
      rw [hbs] at ha
      simp only [cond_true, Option.some.injEq, Prod.mk.injEq] at ha
      obtain ⟨rfl, rfl⟩ := ha
      have hlt : e.born < since := by rw [g4]; exact Nat.blt_eq.mp hbs
      have hone : One r w { w with heap := w.heap.setIfInBounds r (.mapIter (some rm) since (seen.toArray.push e.born) clock) } := by
        have hr0 : r < w.heap.size := lt_in p1
        refine ⟨by simp, fun k hk => by simp [Array.getElem?_setIfInBounds, Ne.symm hk], fun k cur e' fz hk => ?_, rfl, rfl, rfl⟩
        by_cases hkr : k = r
        · subst hkr; rw [p1] at hk; cases hk
        · exact ⟨cur, e', fz, by simp only [Array.getElem?_setIfInBounds, if_neg (Ne.symm hkr)]; exact hk, rfl⟩
      have hset : (w.heap.setIfInBounds r (.mapIter (some rm) since (seen.toArray.push e.born) clock))[r]? = some (.mapIter (some rm) since (seen.toArray.push e.born) clock) := by
        simp [Array.getElem?_setIfInBounds, lt_in p1]
      have ef := Eff.upd (ab' := .iter (some m) since (seen ++ [ae.born]) clock) hr hb hi rfl hone hset ⟨rfl, some rm, by rw [g4]; simp, rm, p2, rfl⟩
      refine ⟨_, _, .tuple #[.bool true, e.key, e.val], .inl ?_, ef, ?_⟩
      · simp only [execOp, ho, e1, Nat.zero_add, Instr.next, Sem.run_bind, hgo, Result.andThen_ok, hgm, if_neg hcond', hleft]
        have hold : (#[e].filter fun x => decide (x.born < since)) = #[e] := by simp [hlt]
        have hnew : (#[e].filter fun x => decide (x.born ≥ since)) = #[] := by simp; omega
        simp only [hold, hnew]
        simp [Question.forced, setObj, Sem.run, p1]
      · unfold rel
        refine ⟨[.bool true, e.key, e.val], rfl, rels_cons (rel_lit rfl) (rels_cons ?_ (rels_cons (rel.mono ef.more ef.grows _ _ g3) rels_nil))⟩
        rw [g1]
        exact rel_avKey g2
    · -- several entries are left: the tape picks one
      rename_i hne0 hne1
      cases hall : (lf.all fun e => Nat.blt e.born since) with
      | false => rw [hall] at ha; cases ha
      | true =>
      rw [hall] at ha
      simp only [cond_true, Option.some.injEq, Prod.mk.injEq] at ha
      obtain ⟨rfl, rfl⟩ := ha
      have hlen2 : left.size = lf.length := by have := entsRel_length hfil; rw [Array.length_toList] at this; exact this
      have h2 : 2 ≤ left.size := by
        rw [hlen2]
        match lf, hne0, hne1 with
        | [], q, _ => exact absurd rfl q
        | [a], _, q => exact absurd rfl (q a)
        | a :: b :: r, _, _ => simp
      obtain ⟨j, hj⟩ : ∃ j, w.tape w.drawn (.mapNext left.size) % left.size = j := ⟨_, rfl⟩
      have hjlt : j < left.size := hj ▸ Nat.mod_lt _ (by omega)
      have hej : left.toList[j]? = some left[j] := by rw [List.getElem?_eq_getElem (by rw [Array.length_toList]; exact hjlt)]; simp
      generalize left[j] = e at hej
      obtain ⟨ae, hae, g1, g2, g3, g4⟩ := ents_get hfil hej
      have hmem : ae ∈ lf := List.mem_of_getElem? hae
      have hallE : ∀ x ∈ left.toList, x.born < since := fun x hx => by
        have h3 := ents_all (fun k => Nat.blt k since) hfil
        rw [hall] at h3
        exact Nat.blt_eq.mp (List.all_eq_true.1 h3 x hx)
      have hd : Eff P ρ fl μ h w μ h w.drew := Eff.drew hr 1
      have hch := choose_next (P := P) (w := w) h2
      rw [hj] at hch
      obtain ⟨wd, hwd⟩ : ∃ wd, wd = w.drew := ⟨_, rfl⟩
      rw [← hwd] at hd hch
      have hheap : wd.heap = w.heap := by rw [hwd]; rfl
      have p1' : wd.heap[r]? = some (.mapIter (some rm) since seen.toArray last) := by rw [hheap]; exact p1
      have hone : One r wd { wd with heap := wd.heap.setIfInBounds r (.mapIter (some rm) since (seen.toArray.push e.born) clock) } := by
        refine ⟨by simp, fun k hk => by simp [Array.getElem?_setIfInBounds, Ne.symm hk], fun k cur e' fz hk => ?_, rfl, rfl, rfl⟩
        by_cases hkr : k = r
        · subst hkr; rw [p1'] at hk; cases hk
        · exact ⟨cur, e', fz, by simp only [Array.getElem?_setIfInBounds, if_neg (Ne.symm hkr)]; exact hk, rfl⟩
      have hset : (wd.heap.setIfInBounds r (.mapIter (some rm) since (seen.toArray.push e.born) clock))[r]? = some (.mapIter (some rm) since (seen.toArray.push e.born) clock) := by
        simp [Array.getElem?_setIfInBounds, lt_in p1']
      have ef := Eff.upd (ab' := .iter (some m) since (seen ++ [ae.born]) clock) hd.hr hb hi rfl hone hset ⟨rfl, some rm, by rw [g4]; simp, rm, p2, rfl⟩
      have ef2 := hd.trans hr ef
      refine ⟨_, List.mem_map.2 ⟨ae, hmem, rfl⟩, _, _, .tuple #[.bool true, e.key, e.val], .inl ?_, ef2, ?_⟩
      · simp only [execOp, ho, e1, Nat.zero_add, Instr.next, Sem.run_bind, hgo, Result.andThen_ok, hgm, if_neg hcond', hleft]
        have hold : (left.filter fun x => decide (x.born < since)) = left := by
          refine Array.filter_eq_self.2 fun x hx => ?_
          simpa using hallE x (by simpa using hx)
        have hnew : (left.filter fun x => decide (x.born ≥ since)) = #[] := by
          refine Array.filter_eq_empty_iff.2 fun x hx => ?_
          have := hallE x (by simpa using hx)
          simp
          omega
        have hne : left.isEmpty = false := by
          rw [Array.isEmpty_eq_false_iff]
          intro hh
          rw [hh] at h2
          simp at h2
        have hcand : ((if left.isEmpty then #[none] else #[]) ++ (left ++ #[]).map some) = left.map some := by rw [hne]; simp
        simp only [hold, hnew, hcand, Array.size_map, hch, Sem.run_bind, Result.andThen_ok]
        have hget : (left.map some)[j]? = some (some e) := by
          rw [Array.getElem?_map, ← Array.getElem?_toList, hej]
          rfl
        simp only [hget]
        simp [setObj, Sem.run, p1']
      · unfold rel
        refine ⟨[.bool true, e.key, e.val], rfl, rels_cons (rel_lit rfl) (rels_cons ?_ (rels_cons (rel.mono ef2.more ef2.grows _ _ g3) rels_nil))⟩
        rw [g1]
        exact rel_avKey g2
/-- An operation of the abstract machine is one of the model's. -/
theorem aop_sound (hT : TT.Sound P T) (hr : HR P ρ fl μ h w) (he : EnvR ρ μ w tmps ev) (ha : aop P T o tmps h = some (n, h')) : OpOK P ρ fl μ h w ((execOp ev o).run P w) n h' := by
  unfold aop at ha
  split at ha
  case h_1 x ho => exact op_move hr he (.inl ho) ha
  case h_2 x ho => exact op_move hr he (.inr ho) ha
  case h_3 c a b ho => exact op_pick hr he ho ha
  case h_4 t ho => exact op_alloc hT hr ho ha
  case h_5 t x ho => exact op_box hr he ho ha
  case h_6 t ps ho => exact op_build hT hr he ho ha
  case h_7 t m ps ho => exact op_buildSlice hT hr he ho ha
  case h_8 t a ho => exact op_load hT hr he ho ha
  case h_9 t a x ho => exact op_store hT hr he ho ha
  case h_10 x ho => exact op_nilCheck hr he ho ha
  case h_11 op t x y ty ho => exact op_bin hT hr he ho ha
  case h_12 src dst x ho => exact op_convert hT hr he ho ha
  case h_13 t x ho => exact op_makeInterface hT hr he ho ha
  case h_14 f a b ho => exact op_makeFunc hr he ho ha
  case h_15 t ho =>
    simp only [Option.some.injEq, Prod.mk.injEq] at ha
    obtain ⟨rfl, rfl⟩ := ha
    exact op_makeMap hr ho
  case h_16 t l c ho => exact op_makeSlice hT hr he ho ha
  case h_17 t x lo hi mx ho => exact op_slice hT hr he ho ha
  case h_18 t x i ho => exact op_fieldAddr hT hr he ho ha
  case h_19 t x i ho => exact op_field hT hr he ho ha
  case h_20 t x ix ho => exact op_indexAddr hT hr he ho ha
  case h_21 t x ix ho => exact op_index hT hr he ho ha
  case h_22 t m k ok ho => exact op_lookup hT hr he ho ha
  case h_23 t m k x ho => exact op_update hT hr he (.inl ho) ha
  case h_24 t m k x ho => exact op_update hT hr he (.inr ho) ha
  case h_25 x i ho => exact op_extract hr he ho ha
  case h_26 t x ho => exact op_range hT hr he ho ha
  case h_27 x s ho => exact op_next hr he ho ha
  case h_28 x ho => exact op_entry hr he ho ha
  case h_29 x xt t ok ho => exact op_assert hT hr he ho ha
  case h_30 x ho => exact op_panic hr he ho ha
  case h_31 c ho => exact op_call hT hr he ho ha
  case h_32 c ho => exact op_defer hr he ho ha
  case h_33 op t x ho => exact op_un hr he ho ha
  case h_34 => cases ha
end Go.Proofs.YtohbdgddnkoenaaGreat.Ex
end

section

set_option linter.unusedSimpArgs false
set_option linter.unusedVariables false
namespace Go.Proofs.YtohbdgddnkoenaaGreat.Ex
open Go
/-- A read that may be done later. -/
inductive RD where
  | load (t : TypeId) (b off : Nat)
  | look (t : TypeId) (m k : AV) (ok : Bool)
  | str (b off len : Nat)
  | mlen (b : Nat)
def rdA (T : TT) (h : AH) : RD → Option AV
  | .load t b off => loadA T h t b off
  | .look t m k ok => lookupA T h t m k ok
  | .str b off len => (bytesAt h b off len).map fun bs => .lit (.string ⟨bs.toArray⟩)
  | .mlen b => match (h.at b) with
    | some (.map es _) => some (.lit (.int .i64 es.length))
    | _ => none
def scalEq : Value → Value → Bool
  | .bool a, .bool b => a == b
  | .int k a, .int k' b => k == k' && a == b
  | .string a, .string b => a.data.toList == b.data.toList
  | .pointer none, .pointer none | .slice none 0 0, .slice none 0 0 | .map none, .map none | .nilFunc, .nilFunc | .nilIface, .nilIface => true
  | _, _ => false
def capEq : Cap → Cap → Bool
  | .kn a, .kn b => a == b
  | .un a, .un b => a == b
  | _, _ => false
def fnEq : Fn → Fn → Bool
  | .func a, .func b => Nat.beq a b
  | .yield a, .yield b => Nat.beq a b
  | _, _ => false
def AV.same : Nat → AV → AV → Bool
  | _, .lit a, .lit b => scalEq a b
  | _, .ptr a i, .ptr b j => a == b && i == j
  | _, .sl a i n c, .sl b j m d => a == b && i == j && n == m && capEq c d
  | _, .mp a, .mp b => a == b
  | _, .ext a, .ext b => a == b
  | n + 1, .agg l, .agg m => l.length == m.length && (l.zip m).all fun (x, y) => AV.same n x y
  | n + 1, .tup l, .tup m => l.length == m.length && (l.zip m).all fun (x, y) => AV.same n x y
  | n + 1, .ifc t v, .ifc u w => t == u && AV.same n v w
  | n + 1, .fn f a b, .fn g c d => fnEq f g && ((a.length == c.length && (a.zip c).all fun (x, y) => AV.same n x y) && (b.length == d.length && (b.zip d).all fun (x, y) => AV.same n x y))
  | _, .rng a l h, .rng b l' h' => (a == b && l == l') && h == h'
  | _, _, _ => false
inductive AI where
  | code (c : Code)
  | blk (id : Nat)
  | lp (body : Code)
  | sc (body : Code)
  | reg (ops : Array Oper) (todo : List Nat)
  | regD (ops : Array Oper) (todo : List Nat) (reads : List (Nat × RD × AV))
  | endRF (l : Nat)
  | beginRound
inductive ADI where
  | call (f : FuncId) (args : List AV)
  | coll (b : Nat)
abbrev Chain := List (AV × Bool)
inductive Mode where
  | ret
  | pan (chain : Chain)
structure AFr where
  fn : FuncId
  tmps : TM
  todo : List AI
  defers : List ADI
  cm : Option Mode
  roundOf : Option Nat
inductive End where
  | ret (v : AV)
  | pan (chain : Chain)
inductive Task where
  | call (f : FuncId) (args : List AV) (cm : Option Mode)
  | body (fr : AFr)
  | unwind (fr : AFr) (m : Mode)
  | round (l : Nat) (args : List AV)
inductive Out where
  | ended (e : End) (cm : Option Mode)
  | left (jump : Option Code) (fr : AFr)
  | raised (chain : Chain) (fr : AFr)
def exitA (id : Nat) : List AI → Option (List AI)
  | .blk id' :: k => if id' = id then some k else exitA id k
  | _ :: k => exitA id k
  | [] => none
def gotoA (l : Nat) : List AI → Option (List AI)
  | .sc body :: k => match findLabel body l with
    | some rest => some (.code rest :: .sc body :: k)
    | none => gotoA l k
  | _ :: k => gotoA l k
  | [] => none
def settleA : Mode → Mode
  | .pan ((_, true) :: _) => .ret
  | m => m
def raisedA (m : Mode) (c : Chain) : Mode := match m with
  | .pan old => .pan (c ++ old)
  | .ret => .pan c
def recoverA : Option Mode → AV × Option Mode
  | some (.pan ((v, false) :: r)) => (v, some (.pan ((v, true) :: r)))
  | m => (.lit .nilIface, m)
def setTmp (tmps : TM) (d : Option Tmp) (v : AV) : TM := match d with
  | some t => tmps.set t v
  | none => tmps
/-- Is an operation wanted? -/
def wantedA (ops : Array Oper) (tmps : TM) (o : Oper) : Option Bool := match o.guard with
  | none => some true
  | some (j, want) => match (ops[j]?).bind (·.dst) with
    | some d => match tmps.at d with
      | some (.lit (.bool b)) => some (b == want)
      | some (.tup []) => some false
      | _ => none
    | none => none
def resultsA (T : TT) (h : AH) (tmps : TM) : List ResultVar → Option (List AV)
  | [] => some []
  | .tmp t :: r => (resultsA T h tmps r).map ((tmps.at t).getD aundef :: ·)
  | .cell a t :: r => match (tmps.at a).getD aundef, resultsA T h tmps r with
    | .ptr b off, some l => (loadA T h t b off).map (· :: l)
    | _, _ => none
def oneOf : List AV → AV
  | [v] => v
  | l => .tup l
def setParams (tmps : TM) : List Tmp → List AV → TM
  | t :: ts, v :: vs => setParams (tmps.set t v) ts vs
  | _, _ => tmps
/-- Drawn regions: the transitive ground of each operation, as a list of flags. -/
inductive Kind where
  | still   -- depends on no memory, touches none
  | alloc
  | reads
  | acts
def kindOf (T : TT) (o : Oper) : Kind := match o.op with
  | .move _ | .assign _ | .pick .. | .build .. | .nilCheck _ | .binOp .. | .unOp .. | .makeInterface .. | .makeFunc .. | .slice .. | .fieldAddr .. | .field .. | .indexAddr .. | .index .. | .typeAssert .. | .extract .. => .still
  | .alloc _ | .box .. | .buildSlice .. | .makeSlice .. | .makeMap .. => .alloc
  | .load .. | .lookup .. => .reads
  | .convert src dst _ => match und T src, und T dst with
    | some (.slice _), some .string => .reads
    | some .string, some (.slice _) | some (.slice _), some (.slice _) => .acts
    | _, _ => .still
  | .call c => match c.callee with
    | .builtin .len => match (c.argTypes[0]?).bind (und T) with
      | some (.map _ _) => .reads
      | _ => .still
    | .builtin .min | .builtin .max => .still
    | _ => .acts
  | _ => .acts
/-- For which operations does one wait, by however many steps: bits. M: the rows (of n bits each) of the operations ahead of it. -/
def rowOf (n M : Nat) : List Edge → Nat → Nat
  | [], acc => acc
  | e :: r, acc => rowOf n M r (bif Region.binds .any e then acc ||| (1 <<< e.on) ||| ((M >>> (n * e.on)) &&& (2 ^ n - 1)) else acc)
def matOf (n : Nat) : List Oper → Nat → Nat → Nat
  | [], _, M => M
  | o :: r, i, M => matOf n r (i + 1) (M ||| (rowOf n M o.after.toList 0 <<< (n * i)))
/-- The region's order: one number. -/
def mat (ops : Array Oper) : Nat := matOf ops.size ops.toList 0 0
def waits (n M i k : Nat) : Bool := Nat.beq ((M >>> (n * i + k)) % 2) 1
def isAct (T : TT) (ops : Array Oper) (i : Nat) : Bool := match ops[i]? with
  | some o => match kindOf T o with
    | .acts => true
    | _ => false
  | none => false
def actsOf (T : TT) : List Oper → Nat → List Nat
  | [], _ => []
  | o :: r, i => match kindOf T o with
    | .acts => i :: actsOf T r (i + 1)
    | _ => actsOf T r (i + 1)
def restOf (T : TT) : List Oper → Nat → List Nat
  | [], _ => []
  | o :: r, i => match kindOf T o with
    | .acts => restOf T r (i + 1)
    | _ => i :: restOf T r (i + 1)
def stageOf (n M : Nat) (i : Nat) : List Nat → Nat
  | [] => 0
  | e :: r => bif waits n M i e then stageOf n M i r + 1 else stageOf n M i r
def namesOf (ops : Array Oper) (o : Oper) : List Tmp := o.dst.toList ++ (o.op.operands.toList.filterMap fun | .tmp t => some t | _ => none) ++ (match o.guard with
  | some (j, _) => ((ops[j]?).bind (·.dst)).toList
  | none => [])
/-- Whoever writes a temporary that operation i names stands before it or behind it. -/
def tmpOk (n M i : Nat) (ts : List Tmp) : List Oper → Nat → Bool
  | [], _ => true
  | o :: r, j => (match o.dst with
    | some d => !ts.contains d || Nat.beq i j || waits n M i j || waits n M j i
    | none => true) && tmpOk n M i ts r (j + 1)
def tmpsOk (n M : Nat) (ops : Array Oper) : List Oper → Nat → Bool
  | [], _ => true
  | o :: r, i => tmpOk n M i (namesOf ops o) ops.toList 0 && tmpsOk n M ops r (i + 1)
def atStage (n M : Nat) (acts : List Nat) (j : Nat) : List Nat → List Nat
  | [] => []
  | i :: r => bif Nat.beq (stageOf n M i acts) j then i :: atStage n M acts j r else atStage n M acts j r
def canon (n M : Nat) (acts rest : List Nat) : Nat → List Nat → List Nat
  | j, [] => atStage n M acts j rest
  | j, e :: r => atStage n M acts j rest ++ e :: canon n M acts rest (j + 1) r
def orderD (T : TT) (ops : Array Oper) : List Nat := canon ops.size (mat ops) (actsOf T ops.toList 0) (restOf T ops.toList 0) 0 (actsOf T ops.toList 0)
/-- What an operation waits for at once, as a mask. -/
def predMask : List Edge → Nat → Nat
  | [], acc => acc
  | e :: r, acc => predMask r (bif Region.binds .any e then acc ||| (1 <<< e.on) else acc)
/-- Is it an order in which all operations may be done, each once, and does each wait for the act ahead of it? -/
def linOk (T : TT) (ops : Array Oper) (n M : Nat) : List Nat → Nat → Option Nat → Bool
  | [], done, _ => Nat.beq done (2 ^ n - 1)
  | i :: r, done, last => match ops[i]? with
    | some o => Nat.beq (predMask o.after.toList 0 &&& done) (predMask o.after.toList 0) && Nat.beq ((done >>> i) % 2) 0 && (match last with | some a => waits n M i a | none => true) &&
        linOk T ops n M r (done ||| (1 <<< i)) (bif isAct T ops i then some i else last)
    | none => false
def okD (T : TT) (ops : Array Oper) : Bool := linOk T ops ops.size (mat ops) (orderD T ops) 0 none && tmpsOk ops.size (mat ops) ops ops.toList 0
/-- The read that an operation is. -/
def rdOf (o : Oper) (tmps : TM) : Option RD := match o.op with
  | .load t a => match evalA tmps a with
    | some (.ptr b off) => some (.load t b off)
    | _ => none
  | .lookup t m k ok => match evalA tmps m, evalA tmps k with
    | some m, some k => some (.look t m k ok)
    | _, _ => none
  | .convert _ _ x => match evalA tmps x with
    | some (.sl b off len _) => some (.str b off len)
    | _ => none
  | .call c => match evals tmps c.args.toList with
    | some [.mp b] => some (.mlen b)
    | _ => none
  | _ => none
def hold (T : TT) (h : AH) (reads : List (Nat × RD × AV)) : Bool := reads.all fun (_, r, v) => match rdA T h r with
  | some u => AV.same 8 u v
  | none => false
abbrev Sums := FuncId → Option (List AV → AH → Option (AV × AH))
/-- The outcomes that there may be: one of them is the real one's. -/
abbrev Outs := List (Out × AH)
abbrev Rec := Task → AH → Option Outs
def collectL {α β : Type} (f : α → Option (List β)) : List α → Option (List β)
  | [] => none
  | [x] => f x
  | x :: y :: r => match f x, collectL f (y :: r) with
    | some a, some b => some (a ++ b)
    | _, _ => none
def bindL {α β : Type} (f : α → Option (List β)) : Option (List α) → Option (List β)
  | some l => collectL f l
  | none => none
theorem collectL_mem {α β : Type} {f : α → Option (List β)} : ∀ {l : List α} {L : List β}, collectL f l = some L → ∀ x ∈ l, ∃ M, f x = some M ∧ ∀ y ∈ M, y ∈ L
  | [], L, h, x, hx => by cases h
  | [a], L, h, x, hx => by
    obtain rfl := List.mem_singleton.1 hx
    exact ⟨L, h, fun y hy => hy⟩
  | a :: b :: r, L, h, x, hx => by
    unfold collectL at h
    cases ha : f a with
    | none => rw [ha] at h; cases h
    | some A =>
      cases hb : collectL f (b :: r) with
      | none => rw [ha, hb] at h; cases h
      | some B =>
        rw [ha, hb] at h
        obtain rfl := Option.some.inj h
        cases hx with
        | head => exact ⟨A, ha, fun y hy => List.mem_append.2 (.inl hy)⟩
        | tail _ hx =>
          obtain ⟨M, h1, h2⟩ := collectL_mem hb x hx
          exact ⟨M, h1, fun y hy => List.mem_append.2 (.inr (h2 y hy))⟩
theorem bindL_inv {α β : Type} {f : α → Option (List β)} {o : Option (List α)} {L : List β} (h : bindL f o = some L) : ∃ l, o = some l ∧ ∀ x ∈ l, ∃ M, f x = some M ∧ ∀ y ∈ M, y ∈ L := by
  cases o with
  | none => cases h
  | some l => exact ⟨l, rfl, collectL_mem h⟩
section
variable (P : Program) (T : TT) (S : Sums) (rec : Rec)
def goOn (fr : AFr) (k : List AI) (h : AH) : Option Outs := rec (.body { fr with todo := k }) h
def xCall1 (cm : Option Mode) : Out × AH → Option Outs
  | (.left none fr, h) | (.left (some .ret) fr, h) => rec (.unwind fr .ret) h
  | (.raised c fr, h) => rec (.unwind fr (.pan c)) h
  | _ => none
def xCall (f : FuncId) (args : List AV) (cm : Option Mode) (h : AH) : Option Outs := match P.funcs[f]? with
  | some fn => match fn.body with
    | some c => match S f, cm with
      | some g, none => (g args h).map fun (v, h') => [(.ended (.ret v) none, h')]
      | some _, some _ => none
      | none, _ => bindL (xCall1 rec cm) (rec (.body { fn := f, tmps := TM.ofL args (fn.ntmps - args.length), todo := [.code c], defers := [], cm, roundOf := none }) h)
    | none => none
  | none => none
def xUnwind1 (fr : AFr) (ds : List ADI) : Out × AH → Option Outs
  | (.ended (.ret _) (some m), h) => rec (.unwind { fr with defers := ds } (settleA m)) h
  | (.ended (.pan c) (some m), h) => rec (.unwind { fr with defers := ds } (raisedA m c)) h
  | _ => none
def xResults (fr : AFr) (h : AH) : Option Outs := match P.funcs[fr.fn]? with
  | some fn => (resultsA T h fr.tmps fn.results.toList).map fun l => [(.ended (.ret (oneOf l)) fr.cm, h)]
  | none => none
def xUnwind (fr : AFr) (m : Mode) (h : AH) : Option Outs := match fr.defers with
  | [] => match m with
    | .ret => xResults P T fr h
    | .pan c => match P.funcs[fr.fn]? with
      | some _ => some [(.ended (.pan c) fr.cm, h)]
      | none => none
  | .coll b :: ds => match (h.at b) with
    | some .defd => rec (.unwind { fr with defers := ds } m) (h.put b .gone)
    | _ => none
  | .call f args :: ds => bindL (xUnwind1 rec fr ds) (rec (.call f args (some m)) h)
def xRound1 (l : Nat) : Out × AH → Option Outs
  | (.left jump _, h) => match (h.at l) with
    | some (.loop lo) => some [(.ended (.ret (.lit (.bool jump.isNone))) none, h.put l (.loop { lo with state := if jump.isNone then .ready else .done, pending := jump }))]
    | _ => none
  | (.raised c fr, h) => if fr.defers.isEmpty && (P.funcs[fr.fn]?).isSome then some [(.ended (.pan c) none, h)] else none
  | _ => none
def xRound (l : Nat) (args : List AV) (h : AH) : Option Outs := match (h.at l) with
  | some (.loop lo) => if args.length = lo.params.length then
      bindL (xRound1 P l) (rec (.body { fn := lo.fn, tmps := setParams lo.tmps lo.params args, todo := [.code lo.assign, .beginRound, .code lo.body], defers := [], cm := none, roundOf := some l }) h)
    else none
  | _ => none
def xRange1 (fr : AFr) (k : List AI) (d l : Nat) : Out × AH → Option Outs
  | (.ended (.ret _) _, h) => rec (.body { fr with todo := .endRF l :: k, defers := .coll d :: fr.defers }) h
  | (.ended (.pan c) _, h) => some [(.raised c { fr with defers := .coll d :: fr.defers }, h)]
  | _ => none
def xRange (fr : AFr) (k : List AI) (h : AH) (f : Operand) (params : Array Tmp) (assign body : Code) : Option Outs := match fr.roundOf, evalA fr.tmps f with
  | none, some fv => match callA P fv [.fn (.yield (h.n + 1)) [] []] with
    | some (.enter g args) => bindL (xRange1 rec fr k h.n (h.n + 1)) (rec (.call g args none) ((h.push .defd).push (.loop { state := .ready, pending := none, fn := fr.fn, tmps := fr.tmps, params := params.toList, assign, body })))
    | _ => none
  | _, _ => none
def xBegin (fr : AFr) (k : List AI) (h : AH) : Option Outs := match fr.roundOf with
  | some l => match (h.at l) with
    | some (.loop lo) => match lo.state with
      | .ready => goOn rec fr k (h.put l (.loop { lo with state := .busy }))
      | _ => none
    | _ => none
  | none => none
def xEnd (fr : AFr) (l : Nat) (k : List AI) (h : AH) : Option Outs := match (h.at l) with
  | some (.loop lo) => match lo.state with
    | .busy => none
    | _ => goOn rec fr ((lo.pending.map AI.code).toList ++ k) (h.put l (.loop { lo with state := .exhausted }))
  | _ => none
/-- An operation is done: its value is laid, and the frame goes on with the item 'it'. -/
def fin (fr : AFr) (o : Oper) (it : AI) (k : List AI) (v : AV) (h : AH) : Option Outs :=
  rec (.body { fr with tmps := setTmp fr.tmps o.dst v, todo := it :: k }) h
def xCalled (fr : AFr) (o : Oper) (it : AI) (k : List AI) : Out × AH → Option Outs
  | (.ended (.ret v) _, h) => fin rec fr o it k v h
  | (.ended (.pan c) _, h) => some [(.raised c fr, h)]
  | _ => none
def xOp (fr : AFr) (o : Oper) (it : AI) (k : List AI) : AR → Option Outs
  | some (.val v, h) => fin rec fr o it k v h
  | some (.enter f args, h) => bindL (xCalled rec fr o it k) (rec (.call f args none) h)
  | some (.round l args, h) => bindL (xCalled rec fr o it k) (rec (.round l args) h)
  | some (.defer f args, h) => if fr.roundOf.isSome then none else fin rec { fr with defers := .call f args :: fr.defers } o it k aundef h
  | some (.recover, h) => if fr.roundOf.isSome then none else fin rec { fr with cm := (recoverA fr.cm).2 } o it k (recoverA fr.cm).1 h
  | some (.pan v, h) => some [(.raised [(v, false)] fr, h)]
  | some (.alts l, _) => collectL (fun x => fin rec fr o it k x.1 x.2) l
  | none => none
def xReg (fr : AFr) (ops : Array Oper) (i : Nat) (r : List Nat) (k : List AI) (h : AH) : Option Outs := match ops[i]? with
  | some o => match wantedA ops fr.tmps o with
    | some true => xOp rec fr o (.reg ops r) k (aop P T o fr.tmps h)
    | some false => fin rec fr o (.reg ops r) k aundef h
    | none => none
  | none => none
/-- (In a region that draws its order one outcome alone is taken.) -/
def xCalledD (fr : AFr) (o : Oper) (it : AI) (k : List AI) : Option Outs → Option Outs
  | some [(.ended (.ret v) _, h)] => fin rec fr o it k v h
  | _ => none
def xOpD (fr : AFr) (ops : Array Oper) (i : Nat) (o : Oper) (r : List Nat) (reads : List (Nat × RD × AV)) (k : List AI) (x : AR) : Option Outs := match kindOf T o with
  | .acts => match x with
    | some (.val v, h) => fin rec fr o (.regD ops r reads) k v h
    | some (.enter f args, h) => xCalledD rec fr o (.regD ops r reads) k (rec (.call f args none) h)
    | some (.round l args, h) => xCalledD rec fr o (.regD ops r reads) k (rec (.round l args) h)
    | _ => none
  | .reads => match x with
    | some (.val v, h) => match rdOf o fr.tmps with
      | some rd => fin rec fr o (.regD ops r ((i, rd, v) :: reads)) k v h
      | none => bif (litOp P o fr.tmps).isSome then fin rec fr o (.regD ops r reads) k v h else none
    | _ => none
  | _ => match x with
    | some (.val v, h) => fin rec fr o (.regD ops r reads) k v h
    | _ => none
def xRegD1 (fr : AFr) (ops : Array Oper) (i : Nat) (o : Oper) (r : List Nat) (reads : List (Nat × RD × AV)) (k : List AI) (h : AH) : Option Outs :=
  match wantedA ops fr.tmps o with
  | some true => xOpD P T rec fr ops i o r reads k (aop P T o fr.tmps h)
  | some false => fin rec fr o (.regD ops r reads) k aundef h
  | none => none
def xRegD (fr : AFr) (ops : Array Oper) (i : Nat) (r : List Nat) (reads : List (Nat × RD × AV)) (k : List AI) (h : AH) : Option Outs := match ops[i]? with
  | some o => if isAct T ops i then (if hold T h reads then xRegD1 P T rec fr ops i o r (reads.filter fun (j, _, _) => !waits ops.size (mat ops) i j) k h else none) else xRegD1 P T rec fr ops i o r reads k h
  | none => none
def xCond (fr : AFr) (c : Operand) (t e : Code) (k : List AI) (h : AH) : Option Outs := match evalA fr.tmps c with
  | some (.lit (.bool b)) => goOn rec fr (.code (bif b then t else e) :: k) h
  | _ => none
def xExit (fr : AFr) (id : Nat) (k : List AI) (h : AH) : Option Outs := match exitA id k with
  | some k' => goOn rec fr k' h
  | none => some [(.left (some (.exit id)) fr, h)]
def xGoto (fr : AFr) (l : Nat) (k : List AI) (h : AH) : Option Outs := match gotoA l k with
  | some k' => goOn rec fr k' h
  | none => none
def xRegion (fr : AFr) (ops : Array Oper) (draw : Bool) (k : List AI) (h : AH) : Option Outs :=
  bif draw then (bif okD T ops then goOn rec fr (.regD ops (orderD T ops) [] :: k) h else none) else goOn rec fr (.reg ops (List.range ops.size) :: k) h
def xCode (fr : AFr) (k : List AI) (h : AH) : Code → Option Outs
  | .ret => some [(.left (some .ret) fr, h)]
  | .skip | .label _ => goOn rec fr k h
  | .seq a b => goOn rec fr (.code a :: .code b :: k) h
  | .cond c t e => xCond rec fr c t e k h
  | .block id c => goOn rec fr (.code c :: .blk id :: k) h
  | .loop c => goOn rec fr (.code c :: .lp c :: k) h
  | .scope c => goOn rec fr (.code c :: .sc c :: k) h
  | .exit id => xExit rec fr id k h
  | .rangeFunc f params assign body => xRange P rec fr k h f params assign body
  | .region _ ops draw => xRegion T rec fr ops draw k h
  | .goto l => xGoto rec fr l k h
  | .refuse _ => none
def xItem (fr : AFr) (k : List AI) (h : AH) : AI → Option Outs
  | .code c => xCode P T rec fr k h c
  | .blk _ | .sc _ => goOn rec fr k h
  | .lp c => goOn rec fr (.code c :: .lp c :: k) h
  | .reg _ [] => goOn rec fr k h
  | .reg ops (i :: r) => xReg P T rec fr ops i r k h
  | .regD _ [] reads => if hold T h reads then goOn rec fr k h else none
  | .regD ops (i :: r) reads => xRegD P T rec fr ops i r reads k h
  | .beginRound => xBegin rec fr k h
  | .endRF l => xEnd rec fr l k h
def xBody (fr : AFr) (h : AH) : Option Outs := match fr.todo with
  | [] => some [(.left none fr, h)]
  | it :: k => xItem P T rec fr k h it
def xStep : Rec
  | .call f args cm, h => xCall P S rec f args cm h
  | .body fr, h => xBody P T rec fr h
  | .unwind fr m, h => xUnwind P T rec fr m h
  | .round l args, h => xRound P rec l args h
end
def ex (P : Program) (T : TT) (S : Sums) (n : Nat) : Rec := Nat.rec (motive := fun _ => Rec) (fun _ _ => none) (fun _ r => xStep P T S r) n
end Go.Proofs.YtohbdgddnkoenaaGreat.Ex
end

section

set_option linter.unusedSimpArgs false
set_option linter.unusedVariables false
namespace Go.Proofs.YtohbdgddnkoenaaGreat.Ex
open Go Go.RowKit
variable {P : Program} {T : TT} {S : Sums} {ρ : Nat → Value} {fl : Nat} {μ μ' : Mu} {h : AH} {w w' : World}
def chainR (ρ : Nat → Value) (μ : Mu) (w : World) : Chain → List PanicEntry → Prop
  | [], l => l = []
  | (a, b) :: r, l => ∃ v l', l = { v, recovered := b, goexit := false } :: l' ∧ rel ρ μ w a v ∧ chainR ρ μ w r l'
def modeR (ρ : Nat → Value) (μ : Mu) (w : World) : Mode → FrameMode → Prop
  | .ret, m => m = .returning
  | .pan c, m => ∃ c', m = .panicking c' ∧ chainR ρ μ w c c'
def itemR (μ : Mu) : AI → Item → Prop
  | .code c, i => i = .code c
  | .blk id, i => i = .inBlock id
  | .lp c, i => i = .inLoop c
  | .sc c, i => i = .inScope c
  | .reg ops l, i => i = .inRegion ops l
  | .regD .., _ => False
  | .endRF l, i => ∃ r, μ l = some (r, 0) ∧ i = .endRangeFunc r
  | .beginRound, i => i = .beginRound
def itemsR (μ : Mu) : List AI → List Item → Prop
  | [], l => l = []
  | a :: r, l => ∃ i l', l = i :: l' ∧ itemR μ a i ∧ itemsR μ r l'
def defR (P : Program) (ρ : Nat → Value) (μ : Mu) (w : World) : ADI → Deferred → Prop
  | .call f args, d => (∃ fn c, d.target = .fn fn c) ∧ ∃ args', rels ρ μ w args args' ∧ ∀ w', (invoke d.target d.args).run P w' = (callFunc f args'.toArray).run P w'
  | .coll b, d => ∃ r, μ b = some (r, 0) ∧ d = { target := .collected r, args := #[] }
def defsR (P : Program) (ρ : Nat → Value) (μ : Mu) (w : World) : List ADI → List Deferred → Prop
  | [], l => l = []
  | a :: r, l => ∃ d l', l = d :: l' ∧ defR P ρ μ w a d ∧ defsR P ρ μ w r l'
def roundR (μ : Mu) : Option Nat → Option Nat → Prop
  | none, r => r = none
  | some l, r => ∃ k, μ l = some (k, 0) ∧ r = some k
def kindC : Option Mode → CallKind
  | none => .normal
  | some _ => .deferred
structure FrU (P : Program) (ρ : Nat → Value) (μ : Mu) (w : World) (fr : AFr) (f : Frame) : Prop where
  fn : f.fn = fr.fn
  tmps : rels ρ μ w fr.tmps.L f.tmps.toList
  defers : defsR P ρ μ w fr.defers f.defers
  kind : f.kind = kindC fr.cm
  round : roundR μ fr.roundOf f.roundOf
  rc : fr.roundOf.isSome = true → fr.cm = none
structure FrB (P : Program) (ρ : Nat → Value) (μ : Mu) (w : World) (fr : AFr) (f : Frame) : Prop where
  u : FrU P ρ μ w fr f
  todo : itemsR μ fr.todo f.todo
  mode : f.mode = .run
def cmR (ρ : Nat → Value) (μ : Mu) (w : World) : Option Mode → List Frame → Prop
  | none, _ => True
  | some m, cs => ∃ c r, cs = c :: r ∧ modeR ρ μ w m c.mode
def csTo (ρ : Nat → Value) (μ : Mu) (w : World) : Option Mode → List Frame → List Frame → Prop
  | none, cs, cs' => cs' = cs
  | some m, cs, cs' => ∃ c r mo, cs = c :: r ∧ cs' = { c with mode := mo } :: r ∧ modeR ρ μ w m mo
/-! More is known later. -/
theorem chainR.mono (hm : More μ μ') (hg : Grows w w') : ∀ {c : Chain} {l : List PanicEntry}, chainR ρ μ w c l → chainR ρ μ' w' c l
  | [], l, hh => hh
  | (a, b) :: r, l, hh => by
    obtain ⟨v, l', h1, h2, h3⟩ := hh
    exact ⟨v, l', h1, rel.mono hm hg _ _ h2, h3.mono hm hg⟩
theorem modeR.mono (hm : More μ μ') (hg : Grows w w') {m : Mode} {x : FrameMode} (hh : modeR ρ μ w m x) : modeR ρ μ' w' m x := by
  cases m with
  | ret => exact hh
  | pan c => obtain ⟨c', h1, h2⟩ := hh; exact ⟨c', h1, h2.mono hm hg⟩
theorem itemR.mono (hm : More μ μ') {a : AI} {i : Item} (hh : itemR μ a i) : itemR μ' a i := by
  cases a <;> first | exact hh | (obtain ⟨r, h1, h2⟩ := hh; exact ⟨r, hm _ _ h1, h2⟩)
theorem itemsR.mono (hm : More μ μ') : ∀ {l : List AI} {l' : List Item}, itemsR μ l l' → itemsR μ' l l'
  | [], l', hh => hh
  | a :: r, l', hh => by
    obtain ⟨i, l2, h1, h2, h3⟩ := hh
    exact ⟨i, l2, h1, h2.mono hm, h3.mono hm⟩
theorem defR.mono (hm : More μ μ') (hg : Grows w w') {a : ADI} {d : Deferred} (hh : defR P ρ μ w a d) : defR P ρ μ' w' a d := by
  cases a with
  | call f args => obtain ⟨h1, args', h2, h3⟩ := hh; exact ⟨h1, args', rels.mono hm hg _ _ h2, h3⟩
  | coll b => obtain ⟨r, h1, h2⟩ := hh; exact ⟨r, hm _ _ h1, h2⟩
theorem defsR.mono (hm : More μ μ') (hg : Grows w w') : ∀ {l : List ADI} {l' : List Deferred}, defsR P ρ μ w l l' → defsR P ρ μ' w' l l'
  | [], l', hh => hh
  | a :: r, l', hh => by
    obtain ⟨d, l2, h1, h2, h3⟩ := hh
    exact ⟨d, l2, h1, h2.mono hm hg, h3.mono hm hg⟩
theorem roundR.mono (hm : More μ μ') {a r : Option Nat} (hh : roundR μ a r) : roundR μ' a r := by
  cases a with
  | none => exact hh
  | some l => obtain ⟨k, h1, h2⟩ := hh; exact ⟨k, hm _ _ h1, h2⟩
theorem FrU.mono (hm : More μ μ') (hg : Grows w w') {fr : AFr} {f : Frame} (hh : FrU P ρ μ w fr f) : FrU P ρ μ' w' fr f :=
  ⟨hh.fn, rels.mono hm hg _ _ hh.tmps, hh.defers.mono hm hg, hh.kind, hh.round.mono hm, hh.rc⟩
theorem FrB.mono (hm : More μ μ') (hg : Grows w w') {fr : AFr} {f : Frame} (hh : FrB P ρ μ w fr f) : FrB P ρ μ' w' fr f :=
  ⟨hh.u.mono hm hg, hh.todo.mono hm, hh.mode⟩
theorem cmR.mono (hm : More μ μ') (hg : Grows w w') {cm : Option Mode} {cs : List Frame} (hh : cmR ρ μ w cm cs) : cmR ρ μ' w' cm cs := by
  cases cm with
  | none => trivial
  | some m => obtain ⟨c, r, h1, h2⟩ := hh; exact ⟨c, r, h1, h2.mono hm hg⟩
theorem csTo.mono (hm : More μ μ') (hg : Grows w w') {cm : Option Mode} {cs cs' : List Frame} (hh : csTo ρ μ w cm cs cs') : csTo ρ μ' w' cm cs cs' := by
  cases cm with
  | none => exact hh
  | some m => obtain ⟨c, r, mo, h1, h2, h3⟩ := hh; exact ⟨c, r, mo, h1, h2, h3.mono hm hg⟩
theorem csTo.refl {cm : Option Mode} {cs : List Frame} (hh : cmR ρ μ w cm cs) : csTo ρ μ w cm cs cs := by
  cases cm with
  | none => rfl
  | some m => obtain ⟨c, r, h1, h2⟩ := hh; exact ⟨c, r, c.mode, h1, h1, h2⟩
theorem csTo.cmR {cm : Option Mode} {cs cs' : List Frame} (hh : csTo ρ μ w cm cs cs') : cmR ρ μ w cm cs' := by
  cases cm with
  | none => trivial
  | some m => obtain ⟨c, r, mo, h1, h2, h3⟩ := hh; exact ⟨_, r, h2, h3⟩
theorem csTo.trans {cm cm' : Option Mode} {cs cs1 cs2 : List Frame} (ha : csTo ρ μ w cm cs cs1) (hb : csTo ρ μ' w' cm' cs1 cs2) (hs : cm'.isSome = cm.isSome) : csTo ρ μ' w' cm' cs cs2 := by
  cases cm with
  | none =>
    cases cm' with
    | none =>
      have h1 : cs1 = cs := ha
      rw [← h1]
      exact hb
    | some m => cases hs
  | some m0 =>
    cases cm' with
    | none => cases hs
    | some m =>
      obtain ⟨c, r, mo, rfl, rfl, h3⟩ := ha
      obtain ⟨c', r', mo', h4, rfl, h6⟩ := hb
      obtain ⟨rfl, rfl⟩ := List.cons.inj h4
      exact ⟨c, r, mo', rfl, rfl, h6⟩
/-! What a task's outcome says of the real machine. -/
def Same (fr fr' : AFr) : Prop := fr'.fn = fr.fn ∧ fr'.roundOf = fr.roundOf ∧ fr'.cm.isSome = fr.cm.isSome
theorem Same.refl (fr : AFr) : Same fr fr := ⟨rfl, rfl, rfl⟩
theorem Same.trans {a b c : AFr} (h1 : Same a b) (h2 : Same b c) : Same a c := ⟨h2.1.trans h1.1, h2.2.1.trans h1.2.1, h2.2.2.trans h1.2.2⟩
def leftAt : Option Code → List Item → Prop
  | none, l => l = []
  | some .ret, l => ∃ k, l = .code .ret :: k
  | some (.exit id), l => ∃ k, l = .code (.exit id) :: k ∧ exitTo id k = none
  | _, _ => False
def endR (P : Program) (ρ : Nat → Value) (μ : Mu) (w : World) (g : FuncId) (kind : CallKind) (f : Frame) : End → Prop
  | .ret v => f.fn = g ∧ f.defers = [] ∧ f.kind = kind ∧ f.mode = .returning ∧ ∃ fn v', P.funcs[g]? = some fn ∧ (results fn f.tmps).run P w = .ok v' w ∧ rel ρ μ w v v'
  | .pan c => f.fn = g ∧ f.defers = [] ∧ f.kind = kind ∧ ∃ c' fn, f.mode = .panicking c' ∧ P.funcs[g]? = some fn ∧ chainR ρ μ w c c'
def roundEnd (P : Program) (ρ : Nat → Value) (μ : Mu) (w : World) (m : Machine) (c : Frame) (cs : List Frame) : End → Prop
  | .ret v => ∃ v', rel ρ μ w v v' ∧ Steps P m (lone (c.finish v') cs w)
  | .pan ch => ∃ ch', chainR ρ μ w ch ch' ∧ Steps P m (lone (c.raise ch') cs w)
def outR (P : Program) (ρ : Nat → Value) (fl : Nat) (fr : AFr) (h : AH) (L : Outs) : Prop := ∀ μ w f cs, HR P ρ fl μ h w → FrB P ρ μ w fr f → cmR ρ μ w fr.cm cs → ∃ out h', (out, h') ∈ L ∧ match out with
  | .left j fr' => Same fr fr' ∧ ∃ μ' w' f' cs', Eff P ρ fl μ h w μ' h' w' ∧ Steps P (lone f cs w) (lone f' cs' w') ∧ FrU P ρ μ' w' fr' f' ∧ f'.mode = .run ∧ leftAt j f'.todo ∧ csTo ρ μ' w' fr'.cm cs cs'
  | .raised c fr' => Same fr fr' ∧ ∃ μ' w' f' cs' c', Eff P ρ fl μ h w μ' h' w' ∧ Steps P (lone f cs w) (lone f' cs' w') ∧ FrU P ρ μ' w' fr' f' ∧ f'.mode = .panicking c' ∧ chainR ρ μ' w' c c' ∧ csTo ρ μ' w' fr'.cm cs cs'
  | .ended .. => False
/-- One of the outcomes is the real machine's. -/
def TaskOK (P : Program) (ρ : Nat → Value) (fl : Nat) : Task → AH → Outs → Prop
  | .body fr, h, L => outR P ρ fl fr h L
  | .call g args cm, h, L => (∃ fn c, P.funcs[g]? = some fn ∧ fn.body = some c) ∧ ∀ μ w cs args', HR P ρ fl μ h w → rels ρ μ w args args' → cmR ρ μ w cm cs → ∃ e cm' h', (.ended e cm', h') ∈ L ∧ cm'.isSome = cm.isSome ∧
      ∃ μ' w' f' cs', Eff P ρ fl μ h w μ' h' w' ∧ Steps P (lone (Frame.enter P g args'.toArray (kindC cm)) cs w) (lone f' cs' w') ∧ endR P ρ μ' w' g (kindC cm) f' e ∧ csTo ρ μ' w' cm' cs cs'
  | .unwind fr m, h, L => fr.roundOf = none → ∀ μ w f cs, HR P ρ fl μ h w → FrU P ρ μ w fr f → modeR ρ μ w m f.mode → cmR ρ μ w fr.cm cs → ∃ e cm' h', (.ended e cm', h') ∈ L ∧ cm'.isSome = fr.cm.isSome ∧
      ∃ μ' w' f' cs', Eff P ρ fl μ h w μ' h' w' ∧ Steps P (lone f cs w) (lone f' cs' w') ∧ endR P ρ μ' w' fr.fn (kindC fr.cm) f' e ∧ csTo ρ μ' w' cm' cs cs'
  | .round l args, h, L => ∀ μ w c cs args' rl, HR P ρ fl μ h w → μ l = some (rl, 0) → rels ρ μ w args args' →
      ∃ g tmps asg body, (Instr.yield rl args'.toArray).run P w = .ok (.round rl g tmps asg body) w ∧
      ∃ e h', (.ended e none, h') ∈ L ∧ ∃ μ' w', Eff P ρ fl μ h w μ' h' w' ∧ roundEnd P ρ μ' w' (lone (Frame.round rl g tmps asg body .normal) (c :: cs) w) c cs e
def RecOK (P : Program) (ρ : Nat → Value) (fl : Nat) (rec : Rec) : Prop := ∀ t h L, rec t h = some L → TaskOK P ρ fl t h L
theorem outR.weaken {fr : AFr} {M L : Outs} (hs : ∀ y ∈ M, y ∈ L) (ho : outR P ρ fl fr h M) : outR P ρ fl fr h L := fun μ w f cs a b c => by
  obtain ⟨o, h', hm, hh⟩ := ho μ w f cs a b c
  exact ⟨o, h', hs _ hm, hh⟩
/-! One step of a body. -/
/-- A step of the real machine, whatever it comes to. -/
theorem outR.pre1 {fr fr1 : AFr} {h1 : AH} {L : Outs} {μ : Mu} {w : World} {f : Frame} {cs : List Frame} (hs : Same fr fr1) (hr : HR P ρ fl μ h w)
    (hstep : ∃ μ1 w1 f1 cs1, Eff P ρ fl μ h w μ1 h1 w1 ∧ Steps P (lone f cs w) (lone f1 cs1 w1) ∧ FrB P ρ μ1 w1 fr1 f1 ∧ csTo ρ μ1 w1 fr1.cm cs cs1)
    (ho : outR P ρ fl fr1 h1 L) : ∃ out h', (out, h') ∈ L ∧ match out with
      | .left j fr' => Same fr fr' ∧ ∃ μ' w' f' cs', Eff P ρ fl μ h w μ' h' w' ∧ Steps P (lone f cs w) (lone f' cs' w') ∧ FrU P ρ μ' w' fr' f' ∧ f'.mode = .run ∧ leftAt j f'.todo ∧ csTo ρ μ' w' fr'.cm cs cs'
      | .raised c fr' => Same fr fr' ∧ ∃ μ' w' f' cs' c', Eff P ρ fl μ h w μ' h' w' ∧ Steps P (lone f cs w) (lone f' cs' w') ∧ FrU P ρ μ' w' fr' f' ∧ f'.mode = .panicking c' ∧ chainR ρ μ' w' c c' ∧ csTo ρ μ' w' fr'.cm cs cs'
      | .ended .. => False := by
  obtain ⟨μ1, w1, f1, cs1, e1, st1, b1, c1⟩ := hstep
  obtain ⟨out, h', hm, ho⟩ := ho μ1 w1 f1 cs1 e1.hr b1 c1.cmR
  refine ⟨out, h', hm, ?_⟩
  cases out with
  | ended e cm => exact ho
  | left j fr' =>
    obtain ⟨s1, μ2, w2, f2, cs2, e2, st2, b2, m2, l2, c2⟩ := ho
    exact ⟨hs.trans s1, μ2, w2, f2, cs2, e1.trans hr e2, st1.trans st2, b2, m2, l2, c1.trans c2 s1.2.2⟩
  | raised c fr' =>
    obtain ⟨s1, μ2, w2, f2, cs2, c', e2, st2, b2, m2, l2, c2⟩ := ho
    exact ⟨hs.trans s1, μ2, w2, f2, cs2, c', e1.trans hr e2, st1.trans st2, b2, m2, l2, c1.trans c2 s1.2.2⟩
theorem outR.pre {fr fr1 : AFr} {h1 : AH} {L : Outs} (hs : Same fr fr1)
    (hstep : ∀ μ w f cs, HR P ρ fl μ h w → FrB P ρ μ w fr f → cmR ρ μ w fr.cm cs → ∃ μ1 w1 f1 cs1, Eff P ρ fl μ h w μ1 h1 w1 ∧ Steps P (lone f cs w) (lone f1 cs1 w1) ∧ FrB P ρ μ1 w1 fr1 f1 ∧ csTo ρ μ1 w1 fr1.cm cs cs1)
    (ho : outR P ρ fl fr1 h1 L) : outR P ρ fl fr h L :=
  fun μ w f cs hr hf hc => outR.pre1 hs hr (hstep μ w f cs hr hf hc) ho
theorem FrU.todo {fr : AFr} {f : Frame} (hu : FrU P ρ μ w fr f) (a : List AI) (b : List Item) : FrU P ρ μ w { fr with todo := a } { f with todo := b } :=
  ⟨hu.fn, hu.tmps, hu.defers, hu.kind, hu.round, hu.rc⟩
/-- A step that changes the list alone. -/
theorem outR.go {fr : AFr} {k : List AI} {L : Outs}
    (hstep : ∀ μ w f cs, HR P ρ fl μ h w → FrB P ρ μ w fr f → ∃ b, itemsR μ k b ∧ step P (lone f cs w) = .next (lone { f with todo := b } cs w))
    (ho : outR P ρ fl { fr with todo := k } h L) : outR P ρ fl fr h L :=
  outR.pre (fr1 := { fr with todo := k }) ⟨rfl, rfl, rfl⟩ (fun μ w f cs hr hf hc => by
    obtain ⟨b, h1, h2⟩ := hstep μ w f cs hr hf
    exact ⟨μ, w, _, cs, Eff.refl hr, .one h2, ⟨hf.u.todo k b, h1, hf.mode⟩, csTo.refl hc⟩) ho
theorem exitA_some {id : Nat} : ∀ {k k' : List AI} {l : List Item}, itemsR μ k l → exitA id k = some k' → ∃ l', exitTo id l = some l' ∧ itemsR μ k' l'
  | [], k', l, hl, he => by cases he
  | a :: r, k', l, hl, he => by
    obtain ⟨i, l', rfl, h1, h2⟩ := hl
    cases a <;> simp only [itemR] at h1 <;> first
      | (subst h1; simp only [exitA] at he; simp only [exitTo]; first
          | (split at he
             · rename_i hid; obtain rfl := Option.some.inj he; exact ⟨l', by simp [hid], h2⟩
             · rename_i hid; obtain ⟨l2, e1, e2⟩ := exitA_some h2 he; exact ⟨l2, by simp [hid, e1], e2⟩)
          | exact exitA_some h2 he)
      | exact h1.elim
      | (obtain ⟨r', _, rfl⟩ := h1; simp only [exitA] at he; simp only [exitTo]; exact exitA_some h2 he)
theorem gotoA_some {n : Nat} : ∀ {k k' : List AI} {l : List Item}, itemsR μ k l → gotoA n k = some k' → ∃ l', gotoIn n l = some l' ∧ itemsR μ k' l'
  | [], k', l, hl, he => by cases he
  | a :: r, k', l, hl, he => by
    obtain ⟨i, l', rfl, h1, h2⟩ := hl
    cases a <;> simp only [itemR] at h1 <;> first
      | (subst h1; simp only [gotoA] at he; simp only [gotoIn]; first
          | (split at he
             · rename_i rest hid; obtain rfl := Option.some.inj he; rw [hid]; exact ⟨_, rfl, _, _, rfl, rfl, _, _, rfl, rfl, h2⟩
             · rename_i hid; obtain ⟨l2, e1, e2⟩ := gotoA_some h2 he; exact ⟨l2, by simp [hid, e1], e2⟩)
          | exact gotoA_some h2 he)
      | exact h1.elim
      | (obtain ⟨r', _, rfl⟩ := h1; simp only [gotoA] at he; simp only [gotoIn]; exact gotoA_some h2 he)
theorem exitA_none {id : Nat} : ∀ {k : List AI} {l : List Item}, itemsR μ k l → exitA id k = none → exitTo id l = none
  | [], l, hl, he => by obtain rfl : l = [] := hl; rfl
  | a :: r, l, hl, he => by
    obtain ⟨i, l', rfl, h1, h2⟩ := hl
    cases a <;> simp only [itemR] at h1 <;> first
      | (subst h1; simp only [exitA] at he; simp only [exitTo]; first
          | (split at he
             · cases he
             · rename_i hid; simp [hid, exitA_none h2 he])
          | exact exitA_none h2 he)
      | exact h1.elim
      | (obtain ⟨r', _, rfl⟩ := h1; simp only [exitA] at he; simp only [exitTo]; exact exitA_none h2 he)
end Go.Proofs.YtohbdgddnkoenaaGreat.Ex
end

section

set_option linter.unusedSimpArgs false
set_option linter.unusedVariables false
namespace Go.Proofs.YtohbdgddnkoenaaGreat.Ex
open Go Go.RowKit
variable {P : Program} {T : TT} {S : Sums} {ρ : Nat → Value} {fl : Nat} {μ μ' : Mu} {h : AH} {w w' : World}
theorem frame_env {fr : AFr} {f : Frame} (hu : FrU P ρ μ w fr f) : EnvR ρ μ w fr.tmps f.eval :=
  envR_of hu.tmps (fun t => by simp [Frame.eval]) (fun _ => rfl) (fun _ => rfl)
theorem wantedA_sound {ops : Array Oper} {tmps : TM} {rt : Array Value} {o : Oper} {b : Bool} (ht : rels ρ μ w tmps.L rt.toList) (hw : wantedA ops tmps o = some b) : Region.wanted o (yielded ops rt) = b := by
  unfold wantedA at hw
  unfold Region.wanted
  cases hg : o.guard with
  | none => rw [hg] at hw; exact Option.some.inj hw
  | some p =>
    obtain ⟨j, want⟩ := p
    rw [hg] at hw
    simp only at hw ⊢
    split at hw
    case h_2 => cases hw
    rename_i d hd
    split at hw
    · rename_i c hc
      obtain rfl := Option.some.inj hw
      obtain ⟨v, h1, h2⟩ := rels_get ht ((TL_at _ _).trans hc)
      obtain rfl := rel_bool_inv h2
      rw [Array.getElem?_toList] at h1
      simp [yielded, hd, h1]
    · rename_i hc
      obtain rfl := Option.some.inj hw
      obtain ⟨v, h1, h2⟩ := rels_get ht ((TL_at _ _).trans hc)
      obtain ⟨l', rfl, _⟩ := rel_tup_inv h2
      rw [Array.getElem?_toList] at h1
      simp [yielded, hd, h1]
    · cases hw
section steps
variable {f : Frame} {cs : List Frame} {ops : Array Oper} {i : Nat} {r : List Nat} {l : List Item} {o : Oper}
theorem stepG_oper (hm : f.mode = .run) (ht : f.todo = .inRegion ops (i :: r) :: l) (ho : ops[i]? = some o) (hw : Region.wanted o (yielded ops f.tmps) = true) (hd : f.roundOf = none ∨ ∀ c, o.op ≠ .defer c) :
    stepG P true { frame := f, callers := cs, status := .running, dying := none } w = stepG.apply P true f cs none (execOp f.eval o) w := by
  rcases hd with hd | hd
  · simp [stepG, stepG.exec, stepG.oper, Frame.oper?, hm, ht, ho, hw, hd]
  · cases hro : f.roundOf with
    | none => simp [stepG, stepG.exec, stepG.oper, Frame.oper?, hm, ht, ho, hw, hro]
    | some rl =>
      simp only [stepG, hm, stepG.exec, ht, ho, Option.map_some, hw, Option.getD_some, if_true, stepG.oper, Frame.oper?, hro]
      split <;> first | rfl | (rename_i heq1 heq2; exact absurd heq2 (hd _)) | (rename_i heq; exact absurd heq (hd _))
variable (hm : f.mode = .run) (ht : f.todo = .inRegion ops (i :: r) :: l) (ho : ops[i]? = some o) (hw : Region.wanted o (yielded ops f.tmps) = true) (hd : f.roundOf = none ∨ ∀ c, o.op ≠ .defer c)
include hm ht ho hw hd
theorem step_value {v : Value} (hr : (execOp f.eval o).run P w = .ok (.value v) w' ∨ ((execOp f.eval o).run P w = .ok .skip w' ∧ v = undef)) : step P (lone f cs w) = .next (lone (f.finish v) cs w') := by
  rcases hr with hr | ⟨hr, rfl⟩ <;> exact step_lone_go (by rw [stepG_oper hm ht ho hw hd]; simp [stepG.apply, hr])
theorem step_enter {g : FuncId} {args : Array Value} (hr : (execOp f.eval o).run P w = .ok (.enter g args) w') : step P (lone f cs w) = .next (lone (Frame.enter P g args .normal) (f :: cs) w') :=
  step_lone_go (by rw [stepG_oper hm ht ho hw hd]; simp [stepG.apply, hr, ht])
theorem step_round {rl : Nat} {g : FuncId} {tmps : Array Value} {a b : Code} (hr : (execOp f.eval o).run P w = .ok (.round rl g tmps a b) w') : step P (lone f cs w) = .next (lone (Frame.round rl g tmps a b .normal) (f :: cs) w') :=
  step_lone_go (by rw [stepG_oper hm ht ho hw hd]; simp [stepG.apply, hr, ht])
theorem step_deferred {d : Deferred} (hr : (execOp f.eval o).run P w = .ok (.defer d) w') : step P (lone f cs w) = .next (lone ({ f with defers := d :: f.defers }.finish undef) cs w') :=
  step_lone_go (by rw [stepG_oper hm ht ho hw hd]; simp [stepG.apply, hr])
theorem step_panic {v : Value} (hr : (execOp f.eval o).run P w = .halt (.panic v) w') : step P (lone f cs w) = .next (lone (f.raise [{ v, recovered := false }]) cs w') :=
  step_lone_go (by rw [stepG_oper hm ht ho hw hd]; simp [stepG.apply, hr])
theorem step_recover_some {v : Value} {cs' : List Frame} (hro : f.roundOf = none) (hr : (execOp f.eval o).run P w = .ok .recover w') (htr : tryRecover f cs = some (v, cs')) : step P (lone f cs w) = .next (lone (f.finish v) cs' w') :=
  step_lone_go (by rw [stepG_oper hm ht ho hw hd]; simp [stepG.apply, hr, hro, htr])
theorem step_recover_none (hro : f.roundOf = none) (hr : (execOp f.eval o).run P w = .ok .recover w') (htr : tryRecover f cs = none) : step P (lone f cs w) = .next (lone (f.finish .nilIface) cs w') :=
  step_lone_go (by rw [stepG_oper hm ht ho hw hd]; simp [stepG.apply, hr, hro, htr])
end steps
theorem step_unwanted {f : Frame} {cs : List Frame} {ops : Array Oper} {i : Nat} {r : List Nat} {l : List Item} {o : Oper} (hm : f.mode = .run) (ht : f.todo = .inRegion ops (i :: r) :: l) (ho : ops[i]? = some o) (hw : Region.wanted o (yielded ops f.tmps) = false) :
    step P (lone f cs w) = .next (lone (f.finish undef) cs w) :=
  step_lone_go (by simp [stepG, stepG.exec, hm, ht, ho, hw])
theorem finish_region {f : Frame} {ops : Array Oper} {i : Nat} {r : List Nat} {l : List Item} {o : Oper} (ht : f.todo = .inRegion ops (i :: r) :: l) (ho : ops[i]? = some o) (v : Value) :
    f.finish v = { f with tmps := (match o.dst with | some d => f.tmps.setIfInBounds d v | none => f.tmps), todo := .inRegion ops r :: l } := by
  simp only [Frame.finish, ht, ho, Option.bind_some]
  cases o.dst <;> rfl
theorem setTmp_rels {tmps : TM} {rt : Array Value} {d : Option Tmp} {a : AV} {v : Value} (ht : rels ρ μ w tmps.L rt.toList) (hv : rel ρ μ w a v) : rels ρ μ w (setTmp tmps d a).L (match d with | some d => rt.setIfInBounds d v | none => rt).toList := by
  cases d with
  | none => exact ht
  | some d => simp only [setTmp, Array.toList_setIfInBounds, TL_set]; exact rels_set d ht hv
/-- A frame in which an operation is done. -/
theorem FrU.fin {fr : AFr} {f : Frame} {ops : Array Oper} {i : Nat} {r : List Nat} {l : List Item} {o : Oper} {a : AV} {v : Value} (hu : FrU P ρ μ w fr f) (ht : f.todo = .inRegion ops (i :: r) :: l) (ho : ops[i]? = some o) (hv : rel ρ μ w a v) (k : List AI) :
    FrU P ρ μ w { fr with tmps := setTmp fr.tmps o.dst a, todo := k } (f.finish v) := by
  rw [finish_region ht ho]
  exact ⟨hu.fn, setTmp_rels hu.tmps hv, hu.defers, hu.kind, hu.round, hu.rc⟩
theorem FrB.fin {fr : AFr} {f : Frame} {ops : Array Oper} {i : Nat} {r : List Nat} {l : List Item} {k : List AI} {o : Oper} {a : AV} {v : Value} (hu : FrU P ρ μ w fr f) (hm : f.mode = .run) (ht : f.todo = .inRegion ops (i :: r) :: l) (hk : itemsR μ k l) (ho : ops[i]? = some o) (hv : rel ρ μ w a v) :
    FrB P ρ μ w { fr with tmps := setTmp fr.tmps o.dst a, todo := .reg ops r :: k } (f.finish v) := by
  refine ⟨hu.fin ht ho hv _, ?_, ?_⟩
  · rw [finish_region ht ho]
    exact ⟨_, l, rfl, rfl, hk⟩
  · rw [finish_region ht ho]
    exact hm
/-! A frame is left. -/
theorem leave_ret_n {g : FuncId} {f c : Frame} {cs : List Frame} {v : AV} (he : endR P ρ μ w g .normal f (.ret v)) : ∃ v', rel ρ μ w v v' ∧ step P (lone f (c :: cs) w) = .next (lone (c.finish v') cs w) := by
  obtain ⟨h1, h2, h3, h4, fn, v', h5, h6, h7⟩ := he
  subst h1
  exact ⟨v', h7, step_lone_go (by simp [stepG, unwind, doReturn, h2, h3, h4, h5, h6])⟩
theorem chain_noexit : ∀ {c : Chain} {l : List PanicEntry}, chainR ρ μ w c l → l.dropWhile (!·.goexit) = []
  | [], l, hh => by obtain rfl : l = [] := hh; rfl
  | (a, b) :: r, l, hh => by
    obtain ⟨v, l', rfl, _, h3⟩ := hh
    rw [List.dropWhile_cons_of_pos (by simp)]
    exact chain_noexit h3
theorem leave_ret_d {g : FuncId} {f c : Frame} {cs : List Frame} {v : AV} {m : Mode} (he : endR P ρ μ w g .deferred f (.ret v)) (hm : modeR ρ μ w m c.mode) :
    ∃ mo, modeR ρ μ w (settleA m) mo ∧ step P (lone f (c :: cs) w) = .next (lone { c with mode := mo } cs w) := by
  obtain ⟨h1, h2, h3, h4, fn, v', h5, h6, h7⟩ := he
  subst h1
  obtain ⟨cfn, ctmps, ctodo, cdefers, cmode, ckind, cround⟩ := c
  simp only at hm
  cases m with
  | ret =>
    have hm : cmode = .returning := hm
    subst hm
    exact ⟨.returning, rfl, step_lone_go (by simp [stepG, unwind, doReturn, h2, h3, h4, h5, h6])⟩
  | pan ch =>
    obtain ⟨c', e1, e2⟩ := hm
    subst e1
    cases ch with
    | nil =>
      obtain rfl : c' = [] := e2
      exact ⟨.panicking [], ⟨[], rfl, rfl⟩, step_lone_go (by simp [stepG, unwind, doReturn, h2, h3, h4, h5, h6])⟩
    | cons p r =>
      obtain ⟨a, b⟩ := p
      obtain ⟨u, l', rfl, e3, e4⟩ := e2
      cases b with
      | true =>
        have := chain_noexit e4
        exact ⟨.returning, rfl, step_lone_go (by simp [stepG, unwind, doReturn, h2, h3, h4, h5, h6, this])⟩
      | false =>
        exact ⟨_, ⟨_, rfl, u, l', rfl, e3, e4⟩, step_lone_go (by simp [stepG, unwind, doReturn, h2, h3, h4, h5, h6])⟩
theorem leave_pan {g : FuncId} {k : CallKind} {f c : Frame} {cs : List Frame} {ch : Chain} (he : endR P ρ μ w g k f (.pan ch)) : ∃ ch', chainR ρ μ w ch ch' ∧ step P (lone f (c :: cs) w) = .next (lone (c.raise ch') cs w) := by
  obtain ⟨h1, h2, h3, c', fn, h4, h5, h6⟩ := he
  subst h1
  exact ⟨c', h6, step_lone_go (by simp [stepG, unwind, Frame.catches, h2, h4, h5])⟩
theorem chainR_append {a b : Chain} {l m : List PanicEntry} (h1 : chainR ρ μ w a l) (h2 : chainR ρ μ w b m) : chainR ρ μ w (a ++ b) (l ++ m) := by
  induction a generalizing l with
  | nil => obtain rfl : l = [] := h1; exact h2
  | cons p r ih =>
    obtain ⟨x, y⟩ := p
    obtain ⟨v, l', rfl, h3, h4⟩ := h1
    exact ⟨v, l' ++ m, rfl, h3, ih h4⟩
theorem raise_mode {m : Mode} {c : Frame} {ch : Chain} {ch' : List PanicEntry} (hm : modeR ρ μ w m c.mode) (hc : chainR ρ μ w ch ch') : ∃ mo, c.raise ch' = { c with mode := mo } ∧ modeR ρ μ w (raisedA m ch) mo := by
  cases m with
  | ret =>
    have hm : c.mode = .returning := hm
    exact ⟨.panicking ch', by simp [Frame.raise, hm], ch', rfl, hc⟩
  | pan old =>
    obtain ⟨c', e1, e2⟩ := hm
    exact ⟨.panicking (ch' ++ c'), by simp [Frame.raise, e1], _, rfl, chainR_append hc e2⟩
theorem raise_run {c : Frame} {ch' : List PanicEntry} (hm : c.mode = .run) : c.raise ch' = { c with mode := .panicking ch' } := by simp [Frame.raise, hm]
def NoNG (P : Program) : Prop := ∀ (f : FuncId) (fn : Func), P.funcs[f]? = some fn → (fn.name == "runtime.NumGoroutine") = false
theorem callFunc_run (hNG : NoNG P) {g : FuncId} {fn : Func} {c : Code} (hf : P.funcs[g]? = some fn) (hb : fn.body = some c) (args : Array Value) (w : World) : (callFunc g args).run P w = .ok (.enter g args) w := by
  have : ¬ fn.name = "runtime.NumGoroutine" := by simpa using hNG g fn hf
  simp [callFunc, hf, hb, this]
end Go.Proofs.YtohbdgddnkoenaaGreat.Ex
end

section

set_option linter.unusedSimpArgs false
set_option linter.unusedVariables false
namespace Go.Proofs.YtohbdgddnkoenaaGreat.Ex
open Go Go.RowKit
variable {P : Program} {T : TT} {S : Sums} {ρ : Nat → Value} {fl : Nat} {μ μ' : Mu} {h : AH} {w w' : World} {rec : Rec}
theorem roundEnd.of_steps {m m1 : Machine} {c : Frame} {cs : List Frame} {e : End} (hs : Steps P m m1) (hh : roundEnd P ρ μ w m1 c cs e) : roundEnd P ρ μ w m c cs e := by
  cases e with
  | ret v => obtain ⟨v', h1, h2⟩ := hh; exact ⟨v', h1, hs.trans h2⟩
  | pan ch => obtain ⟨ch', h1, h2⟩ := hh; exact ⟨ch', h1, hs.trans h2⟩
/-- A call by an operation: the callee has come back. -/
theorem call_back (hNG : NoNG P) (hrec : RecOK P ρ fl rec) {g : FuncId} {args : List AV} {L : Outs} (hc : rec (.call g args none) h = some L)
    {μ : Mu} {w : World} (hr : HR P ρ fl μ h w) {args' : List Value} (ha : rels ρ μ w args args') (c : Frame) (cs : List Frame) :
    (callFunc g args'.toArray).run P w = .ok (.enter g args'.toArray) w ∧ ∃ e h1, (.ended e none, h1) ∈ L ∧ ∃ μ1 w1, Eff P ρ fl μ h w μ1 h1 w1 ∧ roundEnd P ρ μ1 w1 (lone (Frame.enter P g args'.toArray .normal) (c :: cs) w) c cs e := by
  obtain ⟨⟨fn, b, h3, h4⟩, h5⟩ := hrec _ _ _ hc
  refine ⟨callFunc_run hNG h3 h4 _ w, ?_⟩
  obtain ⟨e, cm, h1, hm, h2, μ1, w1, f1, cs1, q1, q2, q3, q4⟩ := h5 μ w (c :: cs) args' hr ha trivial
  cases cm with
  | some m => cases h2
  | none =>
    have q4 : cs1 = c :: cs := q4
    subst q4
    refine ⟨e, h1, hm, μ1, w1, q1, ?_⟩
    cases e with
    | ret v =>
      obtain ⟨v', s1, s2⟩ := leave_ret_n q3 (c := c) (cs := cs)
      exact ⟨v', s1, q2.trans (.one s2)⟩
    | pan ch =>
      obtain ⟨ch', s1, s2⟩ := leave_pan q3 (c := c) (cs := cs)
      exact ⟨ch', s1, q2.trans (.one s2)⟩
section op
variable {fr : AFr} {ops : Array Oper} {i : Nat} {r : List Nat} {k : List AI} {o : Oper} {L : Outs} {h' : AH}
theorem todo_reg (hfr : fr.todo = .reg ops (i :: r) :: k) {f : Frame} (hf : FrB P ρ μ w fr f) : ∃ l, f.todo = .inRegion ops (i :: r) :: l ∧ itemsR μ k l := by
  have := hf.todo
  rw [hfr] at this
  obtain ⟨it, l, h1, h2, h3⟩ := this
  simp only [itemR] at h2
  subst h2
  exact ⟨l, h1, h3⟩
/-- Behind a call by an operation. -/
theorem called_ok (hrec : RecOK P ρ fl rec) (hfr : fr.todo = .reg ops (i :: r) :: k) (ho : ops[i]? = some o) {L1 : Outs} (hx : collectL (xCalled rec fr o (.reg ops r) k) L1 = some L)
    (hgo : ∀ μ w f cs, HR P ρ fl μ h w → FrB P ρ μ w fr f → ∃ e h2, (.ended e none, h2) ∈ L1 ∧ ∃ μ1 w1, Eff P ρ fl μ h w μ1 h2 w1 ∧ roundEnd P ρ μ1 w1 (lone f cs w) f cs e) : outR P ρ fl fr h L := by
  intro μ w f cs hr hf hc
  obtain ⟨e, h2, hm, μ1, w1, q1, q2⟩ := hgo μ w f cs hr hf
  obtain ⟨M, hM, hsub⟩ := collectL_mem hx _ hm
  cases e with
  | ret v =>
    simp only [xCalled, fin] at hM
    obtain ⟨v', q2, q3⟩ := q2
    obtain ⟨l, t1, t2⟩ := todo_reg hfr hf
    exact outR.pre1 (fr1 := { fr with tmps := setTmp fr.tmps o.dst v, todo := .reg ops r :: k }) ⟨rfl, rfl, rfl⟩ hr
      ⟨μ1, w1, _, cs, q1, q3, FrB.fin (hf.u.mono q1.more q1.grows) hf.mode t1 (t2.mono q1.more) ho q2, csTo.refl (hc.mono q1.more q1.grows)⟩ (outR.weaken hsub (hrec _ _ _ hM))
  | pan c =>
    simp only [xCalled, Option.some.injEq] at hM
    subst hM
    obtain ⟨ch', q2, q3⟩ := q2
    rw [raise_run hf.mode] at q3
    have hu := hf.u.mono q1.more q1.grows
    exact ⟨_, _, hsub _ (List.mem_singleton.2 rfl), Same.refl fr, μ1, w1, _, cs, ch', q1, q3, ⟨hu.fn, hu.tmps, hu.defers, hu.kind, hu.round, hu.rc⟩, rfl, q2, csTo.refl (hc.mono q1.more q1.grows)⟩
theorem aop_defer {tmps : TM} {n : AN} {c : Call} (ho : o.op = .defer c) (ha : aop P T o tmps h = some (n, h')) : ∃ g a, n = .defer g a := by
  unfold aop at ha
  rw [ho] at ha
  simp only at ha
  unfold aDefer at ha
  split at ha
  case h_2 => cases ha
  split at ha
  case h_2 => cases ha
  split at ha
  case h_2 => cases ha
  simp only [Option.some.injEq, Prod.mk.injEq] at ha
  exact ⟨_, _, ha.1.symm⟩
theorem not_defer {tmps : TM} {n : AN} (ha : aop P T o tmps h = some (n, h')) (hn : ∀ g a, n ≠ .defer g a) : ∀ c, o.op ≠ .defer c := fun c hc => by
  obtain ⟨g, a, rfl⟩ := aop_defer hc ha
  exact hn g a rfl
theorem tryRecover_ok {cm : Option Mode} {f : Frame} {cs : List Frame} (hk : f.kind = kindC cm) (hc : cmR ρ μ w cm cs) :
    (tryRecover f cs = none ∧ recoverA cm = (.lit .nilIface, cm)) ∨ ∃ v cs', tryRecover f cs = some (v, cs') ∧ rel ρ μ w (recoverA cm).1 v ∧ csTo ρ μ w (recoverA cm).2 cs cs' := by
  cases cm with
  | none => exact .inl ⟨by simp only [kindC] at hk; simp [tryRecover, hk], rfl⟩
  | some m =>
    obtain ⟨c, r, rfl, hm⟩ := hc
    simp only [kindC] at hk
    cases m with
    | ret =>
      have hm : c.mode = .returning := hm
      exact .inl ⟨by simp [tryRecover, hk, hm], rfl⟩
    | pan ch =>
      obtain ⟨c', e1, e2⟩ := hm
      cases ch with
      | nil =>
        obtain rfl : c' = [] := e2
        exact .inl ⟨by simp [tryRecover, hk, e1], rfl⟩
      | cons p rest =>
        obtain ⟨a, b⟩ := p
        obtain ⟨u, l', rfl, e3, e4⟩ := e2
        cases b with
        | true => exact .inl ⟨by simp [tryRecover, hk, e1], rfl⟩
        | false => exact .inr ⟨u, _, by simp [tryRecover, hk, e1], e3, c, r, _, rfl, rfl, _, rfl, u, l', rfl, e3, e4⟩
theorem recoverA_some (cm : Option Mode) : (recoverA cm).2.isSome = cm.isSome := by
  unfold recoverA
  split <;> rfl
theorem xOp_ok (hT : TT.Sound P T) (hNG : NoNG P) (hrec : RecOK P ρ fl rec) (hfr : fr.todo = .reg ops (i :: r) :: k) (ho : ops[i]? = some o) (hwant : wantedA ops fr.tmps o = some true)
    (hx : xOp rec fr o (.reg ops r) k (aop P T o fr.tmps h) = some L) : outR P ρ fl fr h L := by
  have hopsound : ∀ {n : AN} {h1 : AH}, aop P T o fr.tmps h = some (n, h1) → ∀ {μ w f}, HR P ρ fl μ h w → FrB P ρ μ w fr f → OpOK P ρ fl μ h w ((execOp f.eval o).run P w) n h1 := by
    intro n h1 ha μ w f hr hf
    exact aop_sound hT hr (frame_env hf.u) ha
  have hwt : ∀ {μ w f}, FrB P ρ μ w fr f → Region.wanted o (yielded ops f.tmps) = true := by
    intro μ w f hf
    exact wantedA_sound hf.u.tmps hwant
  cases har : aop P T o fr.tmps h with
  | none => rw [har] at hx; cases hx
  | some p =>
    obtain ⟨n, h1⟩ := p
    rw [har] at hx
    cases n with
    | val a =>
      simp only [xOp, fin] at hx
      refine outR.pre (fr1 := { fr with tmps := setTmp fr.tmps o.dst a, todo := .reg ops r :: k }) ⟨rfl, rfl, rfl⟩ (fun μ w f cs hr hf hc => ?_) (hrec _ _ _ hx)
      obtain ⟨l, t1, t2⟩ := todo_reg hfr hf
      obtain ⟨μ1, w1, v', q1, q2, q3⟩ := hopsound har hr hf
      exact ⟨μ1, w1, _, cs, q2, .one (step_value hf.mode t1 ho (hwt hf) (.inr (not_defer har (fun _ _ => by simp))) q1), FrB.fin (hf.u.mono q2.more q2.grows) hf.mode t1 (t2.mono q2.more) ho q3, csTo.refl (hc.mono q2.more q2.grows)⟩
    | enter g args =>
      simp only [xOp] at hx
      cases hcall : rec (.call g args none) h1 with
      | none => rw [hcall] at hx; cases hx
      | some L1 =>
        rw [hcall] at hx
        refine called_ok hrec hfr ho hx (fun μ w f cs hr hf => ?_)
        obtain ⟨l, t1, t2⟩ := todo_reg hfr hf
        obtain ⟨rfl, args', q1, q2⟩ := hopsound har hr hf
        obtain ⟨s1, e, h2, hm, μ1, w1, s2, s3⟩ := call_back hNG hrec hcall hr q1 f cs
        rw [s1] at q2
        exact ⟨e, h2, hm, μ1, w1, s2, s3.of_steps (.one (step_enter hf.mode t1 ho (hwt hf) (.inr (not_defer har (fun _ _ => by simp))) q2))⟩
    | round l0 args =>
      simp only [xOp] at hx
      cases hcall : rec (.round l0 args) h1 with
      | none => rw [hcall] at hx; cases hx
      | some L1 =>
        rw [hcall] at hx
        refine called_ok hrec hfr ho hx (fun μ w f cs hr hf => ?_)
        obtain ⟨l, t1, t2⟩ := todo_reg hfr hf
        obtain ⟨rfl, rl, args', q0, q1, q2⟩ := hopsound har hr hf
        have s0 := hrec _ _ _ hcall
        obtain ⟨g, tm, asg, body, s1, e, h2, hm, μ1, w1, s2, s3⟩ := s0 μ w f cs args' rl hr q0 q1
        rw [s1] at q2
        exact ⟨e, h2, hm, μ1, w1, s2, s3.of_steps (.one (step_round hf.mode t1 ho (hwt hf) (.inr (not_defer har (fun _ _ => by simp))) q2))⟩
    | alts l =>
      simp only [xOp] at hx
      intro μ w f cs hr hf hc
      obtain ⟨l0, t1, t2⟩ := todo_reg hfr hf
      obtain ⟨x, hm, μ1, w1, v', q1, q2, q3⟩ := hopsound har hr hf
      obtain ⟨M, hM, hsub⟩ := collectL_mem hx _ hm
      simp only [fin] at hM
      exact outR.pre1 (fr1 := { fr with tmps := setTmp fr.tmps o.dst x.1, todo := .reg ops r :: k }) ⟨rfl, rfl, rfl⟩ hr
        ⟨μ1, w1, _, cs, q2, .one (step_value hf.mode t1 ho (hwt hf) (.inr (not_defer har (fun _ _ => by simp))) q1), FrB.fin (hf.u.mono q2.more q2.grows) hf.mode t1 (t2.mono q2.more) ho q3, csTo.refl (hc.mono q2.more q2.grows)⟩ (outR.weaken hsub (hrec _ _ _ hM))
    | defer g args =>
      simp only [xOp, fin] at hx
      split at hx
      · cases hx
      · rename_i hro
        refine outR.pre (fr1 := { fr with defers := .call g args :: fr.defers, tmps := setTmp fr.tmps o.dst aundef, todo := .reg ops r :: k }) ⟨rfl, rfl, rfl⟩ (fun μ w f cs hr hf hc => ?_) (hrec _ _ _ hx)
        obtain ⟨l, t1, t2⟩ := todo_reg hfr hf
        obtain ⟨rfl, d, args', q1, q2, q3, q4⟩ := hopsound har hr hf
        have hron : f.roundOf = none := by
          have := hf.u.round
          cases hq : fr.roundOf with
          | none => rw [hq] at this; exact this
          | some x => rw [hq] at hro; exact absurd rfl hro
        refine ⟨μ, w, _, cs, Eff.refl hr, .one (step_deferred hf.mode t1 ho (hwt hf) (.inl hron) q2), ?_, csTo.refl hc⟩
        exact FrB.fin (fr := { fr with defers := .call g args :: fr.defers }) (f := { f with defers := d :: f.defers }) ⟨hf.u.fn, hf.u.tmps, ⟨d, _, rfl, ⟨q3, args', q1, q4⟩, hf.u.defers⟩, hf.u.kind, hf.u.round, hf.u.rc⟩ hf.mode t1 t2 ho rel_undef
    | recover =>
      simp only [xOp, fin] at hx
      split at hx
      · cases hx
      · rename_i hro
        refine outR.pre (fr1 := { fr with cm := (recoverA fr.cm).2, tmps := setTmp fr.tmps o.dst (recoverA fr.cm).1, todo := .reg ops r :: k }) ⟨rfl, rfl, recoverA_some fr.cm⟩ (fun μ w f cs hr hf hc => ?_) (hrec _ _ _ hx)
        obtain ⟨l, t1, t2⟩ := todo_reg hfr hf
        obtain ⟨rfl, q2⟩ := hopsound har hr hf
        have hrn : fr.roundOf = none := by
          cases hq : fr.roundOf with
          | none => rfl
          | some x => rw [hq] at hro; exact absurd rfl hro
        have hron : f.roundOf = none := by
          have := hf.u.round
          rw [hrn] at this
          exact this
        have hkind : f.kind = kindC (recoverA fr.cm).2 := by
          have h1 := recoverA_some fr.cm
          rw [hf.u.kind]
          cases hq : fr.cm <;> cases hq2 : (recoverA fr.cm).2 <;> simp_all [kindC]
        have fin2 : ∀ v, rel ρ μ w (recoverA fr.cm).1 v → FrB P ρ μ w { fr with cm := (recoverA fr.cm).2, tmps := setTmp fr.tmps o.dst (recoverA fr.cm).1, todo := .reg ops r :: k } (f.finish v) := fun v hv =>
          FrB.fin (fr := { fr with cm := (recoverA fr.cm).2 }) ⟨hf.u.fn, hf.u.tmps, hf.u.defers, hkind, hf.u.round, fun hh => by
            have hh : fr.roundOf.isSome = true := hh
            rw [hrn] at hh
            cases hh⟩ hf.mode t1 t2 ho hv
        rcases tryRecover_ok hf.u.kind hc with ⟨e1, e2⟩ | ⟨v, cs', e1, e2, e3⟩
        · have e3 : (recoverA fr.cm).1 = .lit .nilIface := by rw [e2]
          have e4 : (recoverA fr.cm).2 = fr.cm := by rw [e2]
          refine ⟨μ, w, _, cs, Eff.refl hr, .one (step_recover_none hf.mode t1 ho (hwt hf) (.inl hron) hron q2 e1), fin2 .nilIface (by rw [e3]; exact rel_lit rfl), ?_⟩
          show csTo ρ μ w (recoverA fr.cm).2 cs cs
          rw [e4]
          exact csTo.refl hc
        · exact ⟨μ, w, _, cs', Eff.refl hr, .one (step_recover_some hf.mode t1 ho (hwt hf) (.inl hron) hron q2 e1), fin2 v e2, e3⟩
    | pan v =>
      simp only [xOp, Option.some.injEq] at hx
      subst hx
      refine fun μ w f cs hr hf hc => ⟨_, _, List.mem_singleton.2 rfl, Same.refl fr, ?_⟩
      obtain ⟨l, t1, t2⟩ := todo_reg hfr hf
      obtain ⟨rfl, v', q1, q2⟩ := hopsound har hr hf
      have hst := step_panic (cs := cs) hf.mode t1 ho (hwt hf) (.inr (not_defer har (fun _ _ => by simp))) q1
      rw [raise_run hf.mode] at hst
      have hu := hf.u
      exact ⟨μ, w, _, cs, [{ v := v', recovered := false }], Eff.refl hr, .one hst, ⟨hu.fn, hu.tmps, hu.defers, hu.kind, hu.round, hu.rc⟩, rfl, ⟨v', [], rfl, q2, rfl⟩, csTo.refl hc⟩
theorem xReg_ok (hT : TT.Sound P T) (hNG : NoNG P) (hrec : RecOK P ρ fl rec) (hfr : fr.todo = .reg ops (i :: r) :: k) (hx : xReg P T rec fr ops i r k h = some L) : outR P ρ fl fr h L := by
  unfold xReg at hx
  split at hx
  case h_2 => cases hx
  rename_i o ho
  split at hx
  · rename_i hwant
    exact xOp_ok hT hNG hrec hfr ho hwant hx
  · rename_i hwant
    simp only [fin] at hx
    refine outR.pre (fr1 := { fr with tmps := setTmp fr.tmps o.dst aundef, todo := .reg ops r :: k }) ⟨rfl, rfl, rfl⟩ (fun μ w f cs hr hf hc => ?_) (hrec _ _ _ hx)
    obtain ⟨l, t1, t2⟩ := todo_reg hfr hf
    exact ⟨μ, w, _, cs, Eff.refl hr, .one (step_unwanted hf.mode t1 ho (wantedA_sound hf.u.tmps hwant)), FrB.fin hf.u hf.mode t1 t2 ho rel_undef, csTo.refl hc⟩
  · cases hx
end op
end Go.Proofs.YtohbdgddnkoenaaGreat.Ex
end

section

set_option linter.unusedSimpArgs false
set_option linter.unusedVariables false
namespace Go.Proofs.YtohbdgddnkoenaaGreat.Ex
open Go Go.RowKit
variable {P : Program} {T : TT} {S : Sums} {ρ : Nat → Value} {fl : Nat} {μ μ' : Mu} {h : AH} {w w' : World} {rec : Rec}
theorem eval_with (f : Frame) (a : List Item) (b : List Deferred) : Frame.eval { f with todo := a, defers := b } = f.eval := by
  funext x
  cases x <;> rfl
theorem eval_const (f : Frame) (v : Value) : f.eval (.const v) = v := rfl
theorem apply_enter {F : Frame} {cs : List Frame} {s : Sem Next} {W W' : World} {g : FuncId} {args : Array Value} (hr : s.run P W = .ok (.enter g args) W') (hk : ∀ d b c e k, F.todo ≠ .call d b c e :: k) :
    (stepG.apply P true F cs none s W).bare = .go { frame := Frame.enter P g args .normal, callers := F :: cs, status := .running, dying := none } W' := by
  simp [stepG.apply, hr]
  split
  · rename_i heq; exact absurd heq (hk _ _ _ _ _)
  · rfl
section code
variable {fr : AFr} {k : List AI} {L : Outs}
theorem todo_code {c : Code} (hfr : fr.todo = .code c :: k) {f : Frame} (hf : FrB P ρ μ w fr f) : ∃ l, f.todo = .code c :: l ∧ itemsR μ k l := by
  have := hf.todo
  rw [hfr] at this
  obtain ⟨it, l, h1, h2, h3⟩ := this
  simp only [itemR] at h2
  subst h2
  exact ⟨l, h1, h3⟩
/-- A step to other items, the frame else as it was. -/
theorem goOn_ok (hrec : RecOK P ρ fl rec) {k1 : List AI} (hx : goOn rec fr k1 h = some L)
    (hstep : ∀ μ w f cs, HR P ρ fl μ h w → FrB P ρ μ w fr f → ∃ b, itemsR μ k1 b ∧ step P (lone f cs w) = .next (lone { f with todo := b } cs w)) : outR P ρ fl fr h L :=
  outR.go hstep (hrec _ _ _ hx)
theorem left_ok {j : Option Code} (hl : ∀ μ w f, HR P ρ fl μ h w → FrB P ρ μ w fr f → leftAt j f.todo) : outR P ρ fl fr h [(.left j fr, h)] :=
  fun μ w f cs hr hf hc => ⟨_, _, List.mem_singleton.2 rfl, Same.refl fr, μ, w, f, cs, Eff.refl hr, .refl P _, hf.u, hf.mode, hl μ w f hr hf, csTo.refl hc⟩
/-! Loops over functions. -/
theorem xRange_ok (hT : TT.Sound P T) (hNG : NoNG P) (hrec : RecOK P ρ fl rec) {f0 : Operand} {params : Array Tmp} {asg body : Code} (hfr : fr.todo = .code (.rangeFunc f0 params asg body) :: k)
    (hx : xRange P rec fr k h f0 params asg body = some L) : outR P ρ fl fr h L := by
  unfold xRange at hx
  split at hx
  case h_2 => cases hx
  rename_i fv hro hfv
  split at hx
  case h_2 => cases hx
  rename_i g args hca
  generalize hA : (h.push AB.defd).push (AB.loop { state := .ready, pending := none, fn := fr.fn, tmps := fr.tmps, params := params.toList, assign := asg, body }) = hh at hx
  cases hcall : rec (.call g args none) hh with
  | none => rw [hcall] at hx; cases hx
  | some L1 =>
      rw [hcall] at hx
      replace hx : collectL (xRange1 rec fr k h.n (h.n + 1)) L1 = some L := hx
      -- the real machine, up to the callee's end
      have key : ∀ μ w f cs, HR P ρ fl μ h w → FrB P ρ μ w fr f → ∃ (e : End) (h2 : AH) (μ1 : Mu) (w1 : World) (l : List Item) (rl : Nat) (rd : Deferred), (.ended e none, h2) ∈ L1 ∧ Eff P ρ fl μ h w μ1 h2 w1 ∧ itemsR μ1 k l ∧ μ1 (h.n + 1) = some (rl, 0) ∧ defR P ρ μ1 w1 (.coll h.n) rd ∧
          roundEnd P ρ μ1 w1 (lone f cs w) { f with todo := .inRangeFunc rl :: l, defers := rd :: f.defers } cs e := fun μ w f cs hr hf => by
        obtain ⟨l, t1, t2⟩ := todo_code hfr hf
        have e1 := Eff.alloc hr (ab := .defd) (o := .deferred (some [])) ⟨rfl, rfl⟩
        have e2 := Eff.alloc e1.hr (ab := .loop { state := .ready, pending := none, fn := fr.fn, tmps := fr.tmps, params := params.toList, assign := asg, body }) (o := .loop { state := .ready, pending := none, fn := f.fn, tmps := f.tmps, params, assign := asg, body, defers := w.heap.size })
          ⟨_, rfl, rfl, rfl, rfl, hf.u.fn, rels.mono e1.more e1.grows _ _ hf.u.tmps, rfl, rfl, rfl⟩
        have e3 := e1.trans hr e2
        have hlen : (h.push AB.defd).n = h.n + 1 := rfl
        rw [hA] at e3
        have hsz : (w.alloc (.deferred (some []))).heap.size = w.heap.size + 1 := by simp
        rw [hlen, hsz] at e3
        have hl0 := (Eff.alloc hr (ab := .defd) (o := .deferred (some [])) ⟨rfl, rfl⟩).more
        have hml : (up (up μ h.n (w.heap.size, 0)) (h.n + 1) (w.heap.size + 1, 0)) (h.n + 1) = some (w.heap.size + 1, 0) := up_same _ _ _
        have hmd : (up (up μ h.n (w.heap.size, 0)) (h.n + 1) (w.heap.size + 1, 0)) h.n = some (w.heap.size, 0) := by rw [up_ne (by omega), up_same]
        obtain ⟨d, d1, d2, args', d3, d4⟩ := callA_sound (rel.mono e3.more e3.grows _ _ (frame_env hf.u f0 _ hfv))
          (rels_cons (show rel ρ (up (up μ h.n (w.heap.size, 0)) (h.n + 1) (w.heap.size + 1, 0)) _ (.fn (.yield (h.n + 1)) [] []) (.func (.yield (w.heap.size + 1)) #[] #[]) by
            unfold rel
            exact ⟨.yield (w.heap.size + 1), [], [], rfl, ⟨_, hml, rfl⟩, rels_nil, rels_nil⟩) rels_nil) hca
        obtain ⟨s1, e, h2, hm, μ1, w1, s2, s3⟩ := call_back hNG hrec hcall e3.hr d3 { f with todo := .inRangeFunc (w.heap.size + 1) :: l, defers := { target := .collected w.heap.size, args := #[] } :: f.defers } cs
        refine ⟨e, h2, μ1, w1, l, w.heap.size + 1, { target := .collected w.heap.size, args := #[] }, hm, e3.trans hr s2, t2.mono (e3.more.trans s2.more), s2.more _ _ hml, ⟨w.heap.size, s2.more _ _ hmd, rfl⟩, s3.of_steps (.one (step_lone_go ?_))⟩
        have hron : f.roundOf = none := by
          have := hf.u.round
          rw [hro] at this
          exact this
        have hin := d4 ((w.alloc (.deferred (some []))).alloc (.loop { state := .ready, pending := none, fn := f.fn, tmps := f.tmps, params, assign := asg, body, defers := w.heap.size }))
        rw [s1] at hin
        have hof := d1 ((w.alloc (.deferred (some []))).alloc (.loop { state := .ready, pending := none, fn := f.fn, tmps := f.tmps, params, assign := asg, body, defers := w.heap.size }))
        have hst : (stepG P true { frame := f, callers := cs, status := .running, dying := none } w).bare = (stepG.apply P true { f with todo := .inRangeFunc (w.heap.size + 1) :: l, defers := { target := .collected w.heap.size, args := #[] } :: f.defers } cs none
            (do let d ← resolve (Frame.eval { f with todo := .inRangeFunc (w.heap.size + 1) :: l, defers := { target := .collected w.heap.size, args := #[] } :: f.defers }) { callee := .value f0, args := #[.const (.func (.yield (w.heap.size + 1)) #[] #[])], argTypes := #[] } 0; invoke d.target d.args)
            ((w.alloc (.deferred (some []))).alloc (.loop { state := .ready, pending := none, fn := f.fn, tmps := f.tmps, params, assign := asg, body, defers := w.heap.size }))).bare := by
          simp [stepG, stepG.exec, hf.mode, t1, Instr.enterLoop, hron]
        rw [hst]
        refine apply_enter ?_ (by simp)
        rw [eval_with]
        simp [resolve, eval_const, hof, hin]
      intro μ w f cs hr hf hc
      obtain ⟨e, h2, μ1, w1, l, rl, rd, hm, q1, q2, q3, q4, q5⟩ := key μ w f cs hr hf
      obtain ⟨M, hM, hsub⟩ := collectL_mem hx _ hm
      cases e with
      | ret v =>
        simp only [xRange1] at hM
        obtain ⟨v', q5, q6⟩ := q5
        have hu := hf.u.mono q1.more q1.grows
        exact outR.pre1 (fr1 := { fr with todo := .endRF (h.n + 1) :: k, defers := .coll h.n :: fr.defers }) ⟨rfl, rfl, rfl⟩ hr
          ⟨μ1, w1, _, cs, q1, q6, ⟨⟨hu.fn, hu.tmps, ⟨rd, _, rfl, q4, hu.defers⟩, hu.kind, hu.round, hu.rc⟩, ⟨_, l, rfl, ⟨rl, q3, rfl⟩, q2⟩, hf.mode⟩, csTo.refl (hc.mono q1.more q1.grows)⟩ (outR.weaken hsub (hrec _ _ _ hM))
      | pan c =>
        simp only [xRange1, Option.some.injEq] at hM
        subst hM
        obtain ⟨ch', q5, q6⟩ := q5
        have q7 := raise_run (c := { f with todo := .inRangeFunc rl :: l, defers := rd :: f.defers }) (ch' := ch') hf.mode
        rw [q7] at q6
        have hu := hf.u.mono q1.more q1.grows
        exact ⟨_, _, hsub _ (List.mem_singleton.2 rfl), ⟨rfl, rfl, rfl⟩, μ1, w1, _, cs, ch', q1, q6, ⟨hu.fn, hu.tmps, ⟨rd, _, rfl, q4, hu.defers⟩, hu.kind, hu.round, hu.rc⟩, rfl, q5, csTo.refl (hc.mono q1.more q1.grows)⟩
theorem todo_cons {a : AI} (hfr : fr.todo = a :: k) {f : Frame} (hf : FrB P ρ μ w fr f) : ∃ i l, f.todo = i :: l ∧ itemR μ a i ∧ itemsR μ k l := by
  have := hf.todo
  rw [hfr] at this
  exact this
theorem loop_inv {l rl : Nat} {lo : ALoop} (hr : HR P ρ fl μ h w) (hm : μ l = some (rl, 0)) (hl : h.at l = some (.loop lo)) : ∃ x, w.heap[rl]? = some (.loop x) ∧ loopRel ρ μ w lo x := by
  obtain ⟨_, _, o, h1, h2⟩ := hr.obj l rl 0 _ hm hl
  obtain ⟨x, rfl, _, h3⟩ := h2
  exact ⟨x, h1, h3⟩
theorem setObj_loop {rl : Nat} {x : Loop} (hg : w.heap[rl]? = some (.loop x)) (o' : Obj) : One rl w { w with heap := w.heap.setIfInBounds rl o' } ∧ (w.heap.setIfInBounds rl o')[rl]? = some o' ∧ (setObj rl o').run P w = .ok () { w with heap := w.heap.setIfInBounds rl o' } := by
  have hlt := lt_in hg
  refine ⟨⟨by simp, fun k hk => ?_, fun k cur e fz hk => ?_, ⟨rfl, rfl, rfl⟩⟩, by simp [hlt], by simp [setObj, Sem.run, hg]⟩
  · show (w.heap.setIfInBounds rl o')[k]? = _
    rw [Array.getElem?_setIfInBounds, if_neg (Ne.symm hk)]
  · have hne : rl ≠ k := fun e' => by subst e'; rw [hg] at hk; cases hk
    exact ⟨cur, e, fz, by show (w.heap.setIfInBounds rl o')[k]? = _; rw [Array.getElem?_setIfInBounds, if_neg hne]; exact hk, rfl⟩
theorem loop_get {rl : Nat} {x : Loop} (hg : w.heap[rl]? = some (.loop x)) : (Instr.getLoop rl).run P w = .ok x w := by simp [Instr.getLoop, getObj, Sem.run, hg]
/-- A loop's object becomes another one. -/
theorem loop_eff {l rl : Nat} {lo lo' : ALoop} {x x' : Loop} (hr : HR P ρ fl μ h w) (hm : μ l = some (rl, 0)) (hl : h.at l = some (.loop lo)) (hg : w.heap[rl]? = some (.loop x)) (hx : loopRel ρ μ w lo' x') :
    Eff P ρ fl μ h w μ (h.put l (.loop lo')) { w with heap := w.heap.setIfInBounds rl (.loop x') } := by
  obtain ⟨h1, h2, _⟩ := setObj_loop (P := default) hg (.loop x')
  obtain ⟨g1, g2, g3, g4, g5, g6, g7⟩ := hx
  exact Eff.upd hr hm hl rfl h1 h2 ⟨x', rfl, rfl, g1, g2, g3, rels.mono (More.refl μ) h1.grows _ _ g4, g5, g6, g7⟩
theorem xBegin_ok (hrec : RecOK P ρ fl rec) (hfr : fr.todo = .beginRound :: k) (hx : xBegin rec fr k h = some L) : outR P ρ fl fr h L := by
  unfold xBegin at hx
  split at hx
  case h_2 => cases hx
  rename_i l hro
  split at hx
  case h_2 => cases hx
  rename_i lo hl
  split at hx
  case h_2 => cases hx
  rename_i hst
  refine outR.pre (fr1 := { fr with todo := k }) ⟨rfl, rfl, rfl⟩ (fun μ w f cs hr hf hc => ?_) (hrec _ _ _ hx)
  obtain ⟨i, l2, t1, t2, t3⟩ := todo_cons hfr hf
  simp only [itemR] at t2
  subst t2
  have hrd := hf.u.round
  rw [hro] at hrd
  obtain ⟨rl, hm, hron⟩ := hrd
  obtain ⟨x, g1, g2⟩ := loop_inv hr hm hl
  obtain ⟨g3, g4, g5, g6, g7, g8, g9⟩ := g2
  have he := loop_eff (lo' := { lo with state := .busy }) (x' := { x with state := .busy }) hr hm hl g1 ⟨rfl, g4, g5, g6, g7, g8, g9⟩
  have hu := hf.u.mono he.more he.grows
  have hxs : x.state = .ready := g3.trans hst
  refine ⟨μ, _, { f with todo := l2 }, cs, he, .one (step_lone_go ?_), ⟨⟨hu.fn, hu.tmps, hu.defers, hu.kind, hu.round, hu.rc⟩, t3, hf.mode⟩, csTo.refl (hc.mono he.more he.grows)⟩
  simp [stepG, stepG.exec, hf.mode, t1, hron, stepG.apply, Instr.beginRound, loop_get g1, (setObj_loop (P := P) g1 _).2.2, hxs, Frame.finish]
theorem xEnd_ok (hrec : RecOK P ρ fl rec) {l : Nat} (hfr : fr.todo = .endRF l :: k) (hx : xEnd rec fr l k h = some L) : outR P ρ fl fr h L := by
  unfold xEnd at hx
  split at hx
  case h_2 => cases hx
  rename_i lo hl
  split at hx
  case h_1 => cases hx
  rename_i hst
  refine outR.pre (fr1 := { fr with todo := (lo.pending.map AI.code).toList ++ k }) ⟨rfl, rfl, rfl⟩ (fun μ w f cs hr hf hc => ?_) (hrec _ _ _ hx)
  obtain ⟨i, l2, t1, ⟨rl, hm, t2⟩, t3⟩ := todo_cons hfr hf
  subst t2
  obtain ⟨x, g1, g2⟩ := loop_inv hr hm hl
  obtain ⟨g3, g4, g5, g6, g7, g8, g9⟩ := g2
  have he := loop_eff (lo' := { lo with state := .exhausted }) (x' := { x with state := .exhausted }) hr hm hl g1 ⟨rfl, g4, g5, g6, g7, g8, g9⟩
  have hu := hf.u.mono he.more he.grows
  have hxs : (x.state == LoopState.busy) = false := by
    rw [g3]
    cases hq : lo.state <;> first | rfl | (exact absurd hq (by intro hh; exact hst (by first | exact hh | rfl)))
  refine ⟨μ, _, { f with todo := (x.pending.map Item.code).toList ++ l2 }, cs, he, .one (step_lone_go ?_), ⟨⟨hu.fn, hu.tmps, hu.defers, hu.kind, hu.round, hu.rc⟩, ?_, hf.mode⟩, csTo.refl (hc.mono he.more he.grows)⟩
  · have hend : (Instr.endLoop rl).run P w = .ok x.pending { w with heap := w.heap.setIfInBounds rl (.loop { x with state := .exhausted }) } := by
      unfold Instr.endLoop
      rw [Sem.run_bind, loop_get g1]
      simp only [Result.andThen_ok, hxs]
      rw [if_neg (by simp), Sem.run_bind]
      simp [(setObj_loop (P := P) g1 _).2.2]
    simp [stepG, stepG.exec, hf.mode, t1, hend]
  · show itemsR μ ((lo.pending.map AI.code).toList ++ k) _
    rw [g4]
    cases lo.pending with
    | none => exact t3
    | some c => exact ⟨_, l2, rfl, rfl, t3⟩
end code
end Go.Proofs.YtohbdgddnkoenaaGreat.Ex
end

section

set_option linter.unusedSimpArgs false
set_option linter.unusedVariables false
namespace Go.Proofs.YtohbdgddnkoenaaGreat.Ex
open Go Go.RowKit
variable {P : Program} {T : TT} {S : Sums} {ρ : Nat → Value} {fl : Nat} {μ μ' : Mu} {h : AH} {w w' : World} {rec : Rec}
section code
variable {fr : AFr} {k : List AI} {L : Outs}
/-- What the proof of the drawn regions gives. -/
def DrawOK (P : Program) (T : TT) (ρ : Nat → Value) (fl : Nat) (rec : Rec) : Prop :=
  ∀ (fr : AFr) (id : Nat) (ops : Array Oper) (k : List AI) (h : AH) (L : Outs), fr.todo = .code (.region id ops true) :: k → okD T ops = true → goOn rec fr (.regD ops (orderD T ops) [] :: k) h = some L → outR P ρ fl fr h L
theorem xCode_ok (hT : TT.Sound P T) (hNG : NoNG P) (hrec : RecOK P ρ fl rec) (hdraw : DrawOK P T ρ fl rec) {c : Code} (hfr : fr.todo = .code c :: k) (hx : xCode P T rec fr k h c = some L) : outR P ρ fl fr h L := by
  cases c with
  | ret =>
    simp only [xCode, Option.some.injEq] at hx
    subst hx
    exact left_ok fun μ w f hr hf => by obtain ⟨l, t1, _⟩ := todo_code hfr hf; exact ⟨l, t1⟩
  | skip =>
    refine goOn_ok hrec hx fun μ w f cs hr hf => ?_
    obtain ⟨l, t1, t2⟩ := todo_code hfr hf
    exact ⟨l, t2, step_lone_go (by simp [stepG, stepG.exec, hf.mode, t1])⟩
  | label n =>
    refine goOn_ok hrec hx fun μ w f cs hr hf => ?_
    obtain ⟨l, t1, t2⟩ := todo_code hfr hf
    exact ⟨l, t2, step_lone_go (by simp [stepG, stepG.exec, hf.mode, t1])⟩
  | seq a b =>
    refine goOn_ok hrec hx fun μ w f cs hr hf => ?_
    obtain ⟨l, t1, t2⟩ := todo_code hfr hf
    exact ⟨.code a :: .code b :: l, ⟨_, _, rfl, rfl, _, _, rfl, rfl, t2⟩, step_lone_go (by simp [stepG, stepG.exec, hf.mode, t1])⟩
  | block id c =>
    refine goOn_ok hrec hx fun μ w f cs hr hf => ?_
    obtain ⟨l, t1, t2⟩ := todo_code hfr hf
    exact ⟨.code c :: .inBlock id :: l, ⟨_, _, rfl, rfl, _, _, rfl, rfl, t2⟩, step_lone_go (by simp [stepG, stepG.exec, hf.mode, t1])⟩
  | loop c =>
    refine goOn_ok hrec hx fun μ w f cs hr hf => ?_
    obtain ⟨l, t1, t2⟩ := todo_code hfr hf
    exact ⟨.code c :: .inLoop c :: l, ⟨_, _, rfl, rfl, _, _, rfl, rfl, t2⟩, step_lone_go (by simp [stepG, stepG.exec, hf.mode, t1])⟩
  | scope c =>
    refine goOn_ok hrec hx fun μ w f cs hr hf => ?_
    obtain ⟨l, t1, t2⟩ := todo_code hfr hf
    exact ⟨.code c :: .inScope c :: l, ⟨_, _, rfl, rfl, _, _, rfl, rfl, t2⟩, step_lone_go (by simp [stepG, stepG.exec, hf.mode, t1])⟩
  | cond c a b =>
    simp only [xCode, xCond] at hx
    split at hx
    case h_2 => cases hx
    rename_i t hc
    refine goOn_ok hrec hx fun μ w f cs hr hf => ?_
    obtain ⟨l, t1, t2⟩ := todo_code hfr hf
    have hv := rel_bool_inv (frame_env hf.u c _ hc)
    refine ⟨.code (if t then a else b) :: l, ⟨_, _, rfl, by cases t <;> rfl, t2⟩, step_lone_go (by simp [stepG, stepG.exec, hf.mode, t1, hv])⟩
  | exit id =>
    simp only [xCode, xExit] at hx
    split at hx
    · rename_i k' hk
      refine goOn_ok hrec hx fun μ w f cs hr hf => ?_
      obtain ⟨l, t1, t2⟩ := todo_code hfr hf
      obtain ⟨l', e1, e2⟩ := exitA_some t2 hk
      exact ⟨l', e2, step_lone_go (by simp [stepG, stepG.exec, hf.mode, t1, e1])⟩
    · rename_i hk
      simp only [Option.some.injEq] at hx
      subst hx
      exact left_ok fun μ w f hr hf => by obtain ⟨l, t1, t2⟩ := todo_code hfr hf; exact ⟨l, t1, exitA_none t2 hk⟩
  | goto n =>
    simp only [xCode, xGoto] at hx
    split at hx
    · rename_i k' hk
      refine goOn_ok hrec hx fun μ w f cs hr hf => ?_
      obtain ⟨l, t1, t2⟩ := todo_code hfr hf
      obtain ⟨l', e1, e2⟩ := gotoA_some t2 hk
      exact ⟨l', e2, step_lone_go (by simp [stepG, stepG.exec, hf.mode, t1, e1])⟩
    · cases hx
  | rangeFunc f0 params asg body => exact xRange_ok hT hNG hrec hfr hx
  | region id ops draw =>
    simp only [xCode, xRegion] at hx
    cases draw with
    | true =>
      simp only [cond_true] at hx
      cases hok : okD T ops with
      | false => rw [hok] at hx; cases hx
      | true => rw [hok] at hx; exact hdraw fr id ops k h L hfr hok hx
    | false =>
      simp only [cond_false] at hx
      refine goOn_ok hrec hx fun μ w f cs hr hf => ?_
      obtain ⟨l, t1, t2⟩ := todo_code hfr hf
      exact ⟨.inRegion ops (List.range ops.size) :: l, ⟨_, _, rfl, rfl, t2⟩, step_lone_go (by simp [stepG, stepG.exec, hf.mode, t1])⟩
  | refuse why => cases hx
theorem xBody_ok (hT : TT.Sound P T) (hNG : NoNG P) (hrec : RecOK P ρ fl rec) (hdraw : DrawOK P T ρ fl rec) (hx : xBody P T rec fr h = some L) : outR P ρ fl fr h L := by
  unfold xBody at hx
  split at hx
  · rename_i hfr
    simp only [Option.some.injEq] at hx
    subst hx
    exact left_ok fun μ w f hr hf => by
      have := hf.todo
      rw [hfr] at this
      exact this
  · rename_i it k hfr
    cases it with
    | code c => exact xCode_ok hT hNG hrec hdraw hfr hx
    | blk id =>
      refine goOn_ok hrec hx fun μ w f cs hr hf => ?_
      obtain ⟨i, l, t1, t2, t3⟩ := todo_cons hfr hf
      simp only [itemR] at t2
      subst t2
      exact ⟨l, t3, step_lone_go (by simp [stepG, stepG.exec, hf.mode, t1])⟩
    | sc c =>
      refine goOn_ok hrec hx fun μ w f cs hr hf => ?_
      obtain ⟨i, l, t1, t2, t3⟩ := todo_cons hfr hf
      simp only [itemR] at t2
      subst t2
      exact ⟨l, t3, step_lone_go (by simp [stepG, stepG.exec, hf.mode, t1])⟩
    | lp c =>
      refine goOn_ok hrec hx fun μ w f cs hr hf => ?_
      obtain ⟨i, l, t1, t2, t3⟩ := todo_cons hfr hf
      simp only [itemR] at t2
      subst t2
      exact ⟨.code c :: .inLoop c :: l, ⟨_, _, rfl, rfl, _, _, rfl, rfl, t3⟩, step_lone_go (by simp [stepG, stepG.exec, hf.mode, t1])⟩
    | reg ops todo =>
      cases todo with
      | nil =>
        refine goOn_ok hrec hx fun μ w f cs hr hf => ?_
        obtain ⟨i, l, t1, t2, t3⟩ := todo_cons hfr hf
        simp only [itemR] at t2
        subst t2
        exact ⟨l, t3, step_lone_go (by simp [stepG, stepG.exec, hf.mode, t1])⟩
      | cons i r => exact xReg_ok hT hNG hrec hfr hx
    | regD ops todo reads =>
      have nofr : ∀ {μ w f}, FrB P ρ μ w fr f → False := by
        intro μ w f hf
        obtain ⟨i, l, _, t2, _⟩ := todo_cons hfr hf
        exact t2
      exact fun μ w f cs hr hf hc => (nofr hf).elim
    | endRF l => exact xEnd_ok hrec hfr hx
    | beginRound => exact xBegin_ok hrec hfr hx
end code
/-! Calls and endings. -/
def resGet (rt : Array Value) : ResultVar → Sem Value
  | .tmp t => pure (rt.getD t undef)
  | .cell a t => do loadVar t (← asAddr (rt.getD a undef))
theorem results_eq (fn : Func) (rt : Array Value) : results fn rt = (do let vs ← fn.results.mapM (resGet rt); pure (if h : vs.size = 1 then vs[0] else .tuple vs)) := by
  have : (fun x : ResultVar => match x with
    | .tmp t => (pure (rt.getD t undef) : Sem Value)
    | .cell a t => do loadVar t (← asAddr (rt.getD a undef))) = resGet rt := by funext x; cases x <;> rfl
  rw [← this]
  rfl
theorem xResults_ok (hT : TT.Sound P T) {tmps : TM} {rt : Array Value} (hr : HR P ρ fl μ h w) (ht : rels ρ μ w tmps.L rt.toList) : ∀ {l : List ResultVar} {xs : List AV}, resultsA T h tmps l = some xs →
    ∃ vs, (l.mapM (resGet rt)).run P w = .ok vs w ∧ rels ρ μ w xs vs
  | [], xs, hh => by simp only [resultsA, Option.some.injEq] at hh; subst hh; exact ⟨[], rfl, rels_nil⟩
  | .tmp t :: r, xs, hh => by
    simp only [resultsA, Option.map_eq_some_iff] at hh
    obtain ⟨l, h1, rfl⟩ := hh
    obtain ⟨vs, h2, h3⟩ := xResults_ok hT hr ht h1
    refine ⟨rt.getD t undef :: vs, ?_, rels_cons ?_ h3⟩
    · simp [List.mapM_cons, resGet, h2]
    · have := rels_getD t ht
      rw [List.getD_eq_getElem?_getD, TL_at] at this
      simpa using this
  | .cell a t :: r, xs, hh => by
    unfold resultsA at hh
    split at hh
    case h_2 => cases hh
    rename_i b off l hb hl
    simp only [Option.map_eq_some_iff] at hh
    obtain ⟨x, h1, rfl⟩ := hh
    obtain ⟨vs, h2, h3⟩ := xResults_ok hT hr ht hl
    have hv := rels_getD a ht
    rw [List.getD_eq_getElem?_getD, TL_at, hb] at hv
    obtain ⟨r1, base, m1, m2⟩ := rel_ptr_inv hv
    obtain ⟨v', h4, h5⟩ := loadA_sound hT hr m1 h1
    refine ⟨v' :: vs, ?_, rels_cons h5 h3⟩
    have m3 : rt.getD a undef = .pointer (some ⟨r1, base + off, none⟩) := by simpa using m2
    have m4 : (resGet rt (.cell a t)).run P w = .ok v' w := by
      simp only [resGet, Sem.run_bind, m3, asAddr, Sem.run_pure, Result.andThen_ok]
      exact h4
    rw [List.mapM_cons]
    simp [m4, h2]
theorem oneOf_rel {l : List AV} {vs : List Value} (hl : rels ρ μ w l vs) : rel ρ μ w (oneOf l) (if h : vs.toArray.size = 1 then vs.toArray[0] else .tuple vs.toArray) := by
  unfold oneOf
  split
  · obtain ⟨v, vs', rfl, h1, h2⟩ := rels_cons_inv hl
    obtain rfl := rels_nil_inv h2
    exact h1
  · rename_i hne
    have : vs.toArray.size ≠ 1 := fun hh => by
      have hlen := rels_length hl
      simp only [List.size_toArray] at hh
      rw [hh] at hlen
      match l, hlen with
      | [x], _ => exact hne x rfl
    rw [dif_neg this]
    unfold rel
    exact ⟨vs, rfl, hl⟩
theorem stepG_unwind {f : Frame} {cs : List Frame} (hm : f.mode ≠ .run) : stepG P true { frame := f, callers := cs, status := .running, dying := none } w = unwind P true f cs none w := by
  unfold stepG
  cases hq : f.mode with
  | run => exact absurd hq hm
  | returning => simp
  | panicking c => simp
theorem modeR_ne {m : Mode} {x : FrameMode} (hh : modeR ρ μ w m x) : x ≠ .run := by
  cases m with
  | ret => obtain rfl : x = .returning := hh; simp
  | pan c => obtain ⟨c', rfl, _⟩ := hh; simp
theorem step_coll {f : Frame} {cs : List Frame} {r : Nat} {ds : List Deferred} (hm : f.mode ≠ .run) (hd : f.defers = { target := .collected r, args := #[] } :: ds) (hg : w.heap[r]? = some (.deferred (some []))) :
    step P (lone f cs w) = .next (lone { f with defers := ds } cs { w with heap := w.heap.setIfInBounds r (.deferred none) }) := by
  refine step_lone_go ?_
  rw [stepG_unwind hm]
  have ht : (Instr.takeDeferred r).run P w = .ok [] { w with heap := w.heap.setIfInBounds r (.deferred none) } := by
    simp [Instr.takeDeferred, getObj, setObj, Sem.run, hg]
  simp [unwind, hd, ht]
theorem step_dcall {f : Frame} {cs : List Frame} {d : Deferred} {ds : List Deferred} {g : FuncId} {args : Array Value} (hm : f.mode ≠ .run) (hd : f.defers = d :: ds) (ht : ∃ fn c, d.target = .fn fn c) (hr : (invoke d.target d.args).run P w = .ok (.enter g args) w) :
    step P (lone f cs w) = .next (lone (Frame.enter P g args .deferred) ({ f with defers := ds } :: cs) w) := by
  refine step_lone_go ?_
  rw [stepG_unwind hm]
  obtain ⟨fn, c, ht⟩ := ht
  obtain ⟨dt, da⟩ := d
  simp only at ht
  subst ht
  simp [unwind, hd, callDeferred, hr]
/-- The mode of a frame behind a deferred call. -/
def doneA (m : Mode) : End → Mode
  | .ret _ => settleA m
  | .pan c => raisedA m c
theorem xUnwind_ok (hT : TT.Sound P T) (hNG : NoNG P) (hrec : RecOK P ρ fl rec) {fr : AFr} {m : Mode} {L : Outs} (hx : xUnwind P T rec fr m h = some L) : TaskOK P ρ fl (.unwind fr m) h L := by
  unfold xUnwind at hx
  split at hx
  · rename_i hds
    cases m with
    | ret =>
      simp only [xResults] at hx
      split at hx
      case h_2 => cases hx
      rename_i fn hfn
      simp only [Option.map_eq_some_iff] at hx
      obtain ⟨l, h1, rfl⟩ := hx
      refine fun hro μ w f cs hr hu hm hc => ⟨_, _, _, List.mem_singleton.2 rfl, rfl, μ, w, f, cs, Eff.refl hr, .refl P _, ⟨hu.fn, ?_, hu.kind, hm, ?_⟩, csTo.refl hc⟩
      · have := hu.defers
        rw [hds] at this
        exact this
      · obtain ⟨vs, q1, q2⟩ := xResults_ok hT hr hu.tmps h1
        refine ⟨fn, _, hfn, ?_, oneOf_rel q2⟩
        rw [results_eq, Sem.run_bind, Array.mapM_eq_mapM_toList]
        simp [q1]
    | pan c =>
      simp only at hx
      split at hx
      case h_2 => cases hx
      rename_i fn hfn
      simp only [Option.some.injEq] at hx
      subst hx
      refine fun hro μ w f cs hr hu hm hc => ⟨_, _, _, List.mem_singleton.2 rfl, rfl, μ, w, f, cs, Eff.refl hr, .refl P _, ⟨hu.fn, ?_, hu.kind, ?_⟩, csTo.refl hc⟩
      · have := hu.defers
        rw [hds] at this
        exact this
      · obtain ⟨c', e1, e2⟩ := hm
        exact ⟨c', fn, e1, hfn, e2⟩
  · rename_i b ds hds
    split at hx
    case h_2 => cases hx
    rename_i hb
    have ih := hrec _ _ _ hx
    · intro hro μ w f cs hr hu hm hc
      have hd := hu.defers
      rw [hds] at hd
      obtain ⟨d, ds', d1, ⟨r, d2, rfl⟩, d3⟩ := hd
      obtain ⟨_, hlt, o, o1, o2⟩ := hr.obj b r 0 _ d2 hb
      obtain ⟨rfl, _⟩ := o2
      have hst := step_coll (P := P) (cs := cs) (modeR_ne hm) d1 o1
      have hone : One r w { w with heap := w.heap.setIfInBounds r (.deferred none) } := by
        refine ⟨by simp, fun k hk => ?_, fun k cur e fz hk => ?_, ⟨rfl, rfl, rfl⟩⟩
        · show (w.heap.setIfInBounds r (.deferred none))[k]? = _
          rw [Array.getElem?_setIfInBounds, if_neg (Ne.symm hk)]
        · have hne : r ≠ k := fun e' => by subst e'; rw [o1] at hk; cases hk
          exact ⟨cur, e, fz, by show (w.heap.setIfInBounds r (.deferred none))[k]? = _; rw [Array.getElem?_setIfInBounds, if_neg hne]; exact hk, rfl⟩
      have heff : Eff P ρ fl μ h w μ (h.put b .gone) { w with heap := w.heap.setIfInBounds r (.deferred none) } := Eff.upd hr d2 hb rfl hone (o' := .deferred none) (by simp [hlt]) trivial
      have hu2 := hu.mono heff.more heff.grows
      obtain ⟨e, cm2, h2, hm2, q0, μ2, w2, f2, cs2, q1, q2, q3, q4⟩ := ih hro μ _ { f with defers := ds' } cs heff.hr ⟨hu2.fn, hu2.tmps, d3.mono heff.more heff.grows, hu2.kind, hu2.round, hu2.rc⟩ (hm.mono heff.more heff.grows) (hc.mono heff.more heff.grows)
      exact ⟨e, cm2, h2, hm2, q0, μ2, w2, f2, cs2, heff.trans hr q1, .head hst q2, q3, q4⟩
  · rename_i g args ds hds
    cases hcall : rec (.call g args (some m)) h with
    | none => rw [hcall] at hx; cases hx
    | some L1 =>
      obtain ⟨⟨fn, b, i2, i3⟩, i4⟩ := hrec _ _ _ hcall
      rw [hcall] at hx
      replace hx : collectL (xUnwind1 rec fr ds) L1 = some L := hx
      intro hro μ w f cs hr hu hm hc
      -- the machine behind the deferred call
      have key : ∃ (e : End) (m' : Mode) (h2 : AH) (μ1 : Mu) (w1 : World) (ds' : List Deferred) (mo : FrameMode), (.ended e (some m'), h2) ∈ L1 ∧ Eff P ρ fl μ h w μ1 h2 w1 ∧ defsR P ρ μ1 w1 ds ds' ∧
          modeR ρ μ1 w1 (doneA m' e) mo ∧ Steps P (lone f cs w) (lone { f with defers := ds', mode := mo } cs w1) := by
        have hd := hu.defers
        rw [hds] at hd
        obtain ⟨d, ds', d1, ⟨d2, args', d3, d4⟩, d5⟩ := hd
        have hin := d4 w
        rw [callFunc_run hNG i2 i3] at hin
        have hst := step_dcall (cs := cs) (modeR_ne hm) d1 d2 hin
        obtain ⟨e, cm, h2, hmem, hcs, μ1, w1, f1, cs1, q1, q2, q3, q4⟩ := i4 μ w ({ f with defers := ds' } :: cs) args' hr d3 ⟨_, _, rfl, hm⟩
        cases cm with
        | none => cases hcs
        | some m' =>
          obtain ⟨c, r, mo, q4, q5, q6⟩ := q4
          obtain ⟨rfl, rfl⟩ := List.cons.inj q4
          subst q5
          cases e with
          | ret v =>
            obtain ⟨mo2, r1, r2⟩ := leave_ret_d (c := { f with defers := ds', mode := mo }) (cs := cs) q3 q6
            exact ⟨_, m', h2, μ1, w1, ds', mo2, hmem, q1, d5.mono q1.more q1.grows, r1, .head hst (q2.trans (.one r2))⟩
          | pan ch =>
            obtain ⟨ch', r1, r2⟩ := leave_pan (c := { f with defers := ds', mode := mo }) (cs := cs) q3
            obtain ⟨mo2, r3, r4⟩ := raise_mode (c := { f with defers := ds', mode := mo }) q6 r1
            rw [r3] at r2
            exact ⟨_, m', h2, μ1, w1, ds', mo2, hmem, q1, d5.mono q1.more q1.grows, r4, .head hst (q2.trans (.one r2))⟩
      obtain ⟨e, m', h2, μ1, w1, ds', mo, hmem, q1, q2, q3, q4⟩ := key
      obtain ⟨M, hM, hsub⟩ := collectL_mem hx _ hmem
      have hM2 : rec (.unwind { fr with defers := ds } (doneA m' e)) h2 = some M := by cases e <;> exact hM
      have hu2 := hu.mono q1.more q1.grows
      obtain ⟨e2, cm2, h3, hm3, r0, μ2, w2, f2, cs2, r1, r2, r3, r4⟩ := hrec _ _ _ hM2 hro μ1 w1 { f with defers := ds', mode := mo } cs q1.hr ⟨hu2.fn, hu2.tmps, q2, hu2.kind, hu2.round, hu2.rc⟩ q3 (hc.mono q1.more q1.grows)
      exact ⟨e2, cm2, h3, hsub _ hm3, r0, μ2, w2, f2, cs2, q1.trans hr r1, q4.trans r2, r3, r4⟩
/-- A function's frame at its beginning. -/
theorem enter_frame {g : FuncId} {fn : Func} {c : Code} (hf : P.funcs[g]? = some fn) (hb : fn.body = some c) {args : List AV} {args' : List Value} (ha : rels ρ μ w args args') (cm : Option Mode) :
    FrB P ρ μ w { fn := g, tmps := TM.ofL args (fn.ntmps - args.length), todo := [.code c], defers := [], cm, roundOf := none } (Frame.enter P g args'.toArray (kindC cm)) := by
  refine ⟨⟨rfl, ?_, rfl, rfl, rfl, fun hh => by cases hh⟩, ?_, rfl⟩
  · have hlen := rels_length ha
    simp only [Frame.enter, hf, Option.map_some, Option.getD_some, Array.toList_append, Array.toList_replicate, List.size_toArray, hlen, ofL_L]
    exact rels_append ha (rels_replicate _ rel_undef)
  · simp only [Frame.enter, hf, Option.bind_some, hb, Option.getD_some]
    exact ⟨_, _, rfl, rfl, rfl⟩
/-- What is known of the functions that are summed up. -/
def SumsOK (P : Program) (ρ : Nat → Value) (fl : Nat) (S : Sums) : Prop := ∀ f g args h v h', S f = some g → g args h = some (v, h') → ∀ μ w args', HR P ρ fl μ h w → rels ρ μ w args args' →
  Calls P f args'.toArray w fun e w' => ∃ μ' v', e = .returned v' ∧ Eff P ρ fl μ h w μ' h' w' ∧ rel ρ μ' w' v v'
theorem xCall_ok (hS : SumsOK P ρ fl S) (hrec : RecOK P ρ fl rec) {g : FuncId} {args : List AV} {cm : Option Mode} {L : Outs} (hx : xCall P S rec g args cm h = some L) : TaskOK P ρ fl (.call g args cm) h L := by
  unfold xCall at hx
  split at hx
  case h_2 => cases hx
  rename_i fn hfn
  split at hx
  case h_2 => cases hx
  rename_i c hb
  cases hs : S g with
  | some s =>
    rw [hs] at hx
    cases cm with
    | some m => cases hx
    | none =>
      simp only [Option.map_eq_some_iff] at hx
      obtain ⟨⟨v, h2⟩, h1, rfl⟩ := hx
      refine ⟨⟨fn, c, hfn, hb⟩, fun μ w cs args' hr ha hc => ⟨_, _, _, List.mem_singleton.2 rfl, rfl, ?_⟩⟩
      obtain ⟨e, w', f', ⟨μ', v', rfl, r1, r2⟩, q2, q3, q4⟩ := hS g s args h v h2 hs h1 μ w args' hr ha cs
      obtain ⟨s1, s2, s3, fn2, s4, s5⟩ := q4
      subst q3
      exact ⟨μ', w', f', cs, r1, q2, ⟨rfl, s2, s3, s1, fn2, v', s4, s5, r2⟩, rfl⟩
  | none =>
    rw [hs] at hx
    change bindL (xCall1 rec cm) (rec (.body { fn := g, tmps := TM.ofL args (fn.ntmps - args.length), todo := [.code c], defers := [], cm, roundOf := none }) h) = some L at hx
    obtain ⟨L1, hbody, hx⟩ := bindL_inv hx
    have ih : outR P ρ fl _ h L1 := hrec _ _ _ hbody
    refine ⟨⟨fn, c, hfn, hb⟩, fun μ w cs args' hr ha hc => ?_⟩
    obtain ⟨out1, h2, hm1, ih⟩ := ih μ w _ cs hr (enter_frame hfn hb ha cm) hc
    obtain ⟨M, hM, hsub⟩ := hx _ hm1
    -- the body's end
    have fin2 : ∀ (fr2 : AFr) (m : Mode), (fr2.fn = g ∧ fr2.roundOf = none ∧ fr2.cm.isSome = cm.isSome ∧ ∃ μ1 w1 f1 cs1, Eff P ρ fl μ h w μ1 h2 w1 ∧ Steps P (lone (Frame.enter P g args'.toArray (kindC cm)) cs w) (lone f1 cs1 w1) ∧ FrU P ρ μ1 w1 fr2 f1 ∧ modeR ρ μ1 w1 m f1.mode ∧ csTo ρ μ1 w1 fr2.cm cs cs1) →
        rec (.unwind fr2 m) h2 = some M → ∃ e cm' h', (.ended e cm', h') ∈ L ∧ cm'.isSome = cm.isSome ∧
          ∃ μ' w' f' cs', Eff P ρ fl μ h w μ' h' w' ∧ Steps P (lone (Frame.enter P g args'.toArray (kindC cm)) cs w) (lone f' cs' w') ∧ endR P ρ μ' w' g (kindC cm) f' e ∧ csTo ρ μ' w' cm' cs cs' := fun fr2 m hgo hx2 => by
      obtain ⟨g1, g2, g3, μ1, w1, f1, cs1, q1, q2, q3, q4, q5⟩ := hgo
      obtain ⟨e2, cm2, h3, hm3, r0, μ2, w2, f2, cs2, r1, r2, r3, r4⟩ := hrec _ _ _ hx2 g2 μ1 w1 f1 cs1 q1.hr q3 q4 q5.cmR
      have hk : kindC fr2.cm = kindC cm := by cases hq : fr2.cm <;> cases cm <;> simp_all [kindC]
      rw [g1, hk] at r3
      exact ⟨e2, cm2, h3, hsub _ hm3, r0.trans g3, μ2, w2, f2, cs2, q1.trans hr r1, q2.trans r2, r3, q5.trans r4 r0⟩
    cases out1 with
    | ended e cm1 => exact ih.elim
    | left j fr2 =>
      have hj : (j = none ∨ j = some .ret) ∧ rec (.unwind fr2 .ret) h2 = some M := by
        cases j with
        | none => exact ⟨.inl rfl, hM⟩
        | some c => cases c <;> first | exact ⟨.inr rfl, hM⟩ | cases hM
      refine fin2 fr2 .ret ?_ hj.2
      obtain ⟨⟨s1, s2, s3⟩, μ1, w1, f1, cs1, q1, q2, q3, q4, q5, q6⟩ := ih
      have hron : f1.roundOf = none := by
        have := q3.round
        rw [s2] at this
        exact this
      refine ⟨s1, s2, s3, μ1, w1, { f1 with mode := .returning }, cs1, q1, q2.trans (.one (step_lone_go ?_)), ⟨q3.fn, q3.tmps, q3.defers, q3.kind, q3.round, q3.rc⟩, rfl, q6⟩
      rcases hj.1 with rfl | rfl
      · have q5 : f1.todo = [] := q5
        simp [stepG, stepG.exec, q4, q5, hron]
      · obtain ⟨k, q5⟩ := q5
        simp [stepG, stepG.exec, q4, q5, hron]
    | raised c2 fr2 =>
      refine fin2 fr2 (.pan c2) ?_ hM
      obtain ⟨⟨s1, s2, s3⟩, μ1, w1, f1, cs1, c', q1, q2, q3, q4, q5, q6⟩ := ih
      exact ⟨s1, s2, s3, μ1, w1, f1, cs1, q1, q2, q3, ⟨c', q4, q5⟩, q6⟩
theorem setParams_rels : ∀ {ps : List Tmp} {args : List AV} {args' : List Value} {tmps : TM} {rt : Array Value}, rels ρ μ w tmps.L rt.toList → rels ρ μ w args args' →
    rels ρ μ w (setParams tmps ps args).L ((ps.zip args').foldl (fun (t : Array Value) (p : Tmp × Value) => t.setIfInBounds p.1 p.2) rt).toList
  | [], args, args', tmps, rt, ht, ha => by simpa [setParams] using ht
  | t :: ts, [], args', tmps, rt, ht, ha => by
    rw [rels_nil_inv ha]
    simpa [setParams] using ht
  | t :: ts, a :: as', args', tmps, rt, ht, ha => by
    obtain ⟨v, vs, rfl, h1, h2⟩ := rels_cons_inv ha
    simp only [setParams, List.zip_cons_cons, List.foldl_cons]
    exact setParams_rels (by rw [Array.toList_setIfInBounds, TL_set]; exact rels_set t ht h1) h2
theorem yield_run {rl : Nat} {x : Loop} (hg : w.heap[rl]? = some (.loop x)) {args : List Value} (hl : args.length = x.params.size) :
    (Instr.yield rl args.toArray).run P w = .ok (.round rl x.fn ((x.params.toList.zip args).foldl (fun (t : Array Value) (p : Tmp × Value) => t.setIfInBounds p.1 p.2) x.tmps) x.assign x.body) w := by
  have e1 : (x.params.zip args.toArray).foldl (fun (t : Array Value) (p : Tmp × Value) => t.setIfInBounds p.1 p.2) x.tmps = (x.params.toList.zip args).foldl (fun (t : Array Value) (p : Tmp × Value) => t.setIfInBounds p.1 p.2) x.tmps := by
    rw [← Array.foldl_toList, Array.toList_zip]
  rw [← e1]
  simp [Instr.yield, loop_get hg, hl]
theorem xRound_ok (hrec : RecOK P ρ fl rec) {l : Nat} {args : List AV} {L : Outs} (hx : xRound P rec l args h = some L) : TaskOK P ρ fl (.round l args) h L := by
  unfold xRound at hx
  split at hx
  case h_2 => cases hx
  rename_i lo hl
  split at hx
  case isFalse => cases hx
  rename_i hlen
  obtain ⟨L1, hbody, hx⟩ := bindL_inv hx
  · have ih : outR P ρ fl _ h L1 := hrec _ _ _ hbody
    -- the round's beginning
    have key : ∀ μ w (c : Frame) (cs : List Frame) args' rl, HR P ρ fl μ h w → μ l = some (rl, 0) → rels ρ μ w args args' → ∃ g tmps asg body, (Instr.yield rl args'.toArray).run P w = .ok (.round rl g tmps asg body) w ∧
        FrB P ρ μ w { fn := lo.fn, tmps := setParams lo.tmps lo.params args, todo := [.code lo.assign, .beginRound, .code lo.body], defers := [], cm := none, roundOf := some l } (Frame.round rl g tmps asg body .normal) := fun μ w c cs args' rl hr hm ha => by
      obtain ⟨x, g1, g3, g4, g5, g6, g7, g8, g9⟩ := loop_inv hr hm hl
      have hpl : x.params.size = lo.params.length := by rw [← g7, Array.length_toList]
      refine ⟨x.fn, _, x.assign, x.body, yield_run g1 (by rw [rels_length ha, hlen, hpl]), ⟨⟨g5, ?_, rfl, rfl, ⟨rl, hm, rfl⟩, fun _ => rfl⟩, ?_, rfl⟩⟩
      · have := setParams_rels (ps := lo.params) g6 ha
        rw [← g7] at this ⊢
        exact this
      · exact ⟨_, _, by rw [← g8, ← g9]; rfl, rfl, _, _, rfl, rfl, _, _, rfl, rfl, rfl⟩
    intro μ w c cs args' rl hr hm ha
    obtain ⟨g, tmps, asg, body, k1, k2⟩ := key μ w c cs args' rl hr hm ha
    obtain ⟨out1, h2, hm1, ih⟩ := ih μ w _ (c :: cs) hr k2 trivial
    obtain ⟨M, hx, hsub⟩ := hx _ hm1
    cases out1 with
    | ended e cm1 => exact ih.elim
    | left j fr2 =>
      simp only [xRound1] at hx
      split at hx
      case h_2 => cases hx
      rename_i lo2 hl2
      simp only [Option.some.injEq] at hx
      subst hx
      obtain ⟨⟨s1, s2, s3⟩, μ1, w1, f1, cs1, q1, q2, q3, q4, q5, q6⟩ := ih
      have hcm : fr2.cm = none := by cases hq : fr2.cm with | none => rfl | some x => rw [hq] at s3; cases s3
      rw [hcm] at q6
      have q6 : cs1 = c :: cs := q6
      subst q6
      have hm1 := q1.more _ _ hm
      have hron : f1.roundOf = some rl := by
        have := q3.round
        rw [s2] at this
        obtain ⟨k, m1, m2⟩ := this
        rw [hm1] at m1
        rw [m2]
        exact congrArg some (Prod.mk.inj (Option.some.inj m1)).1.symm
      have hkind : f1.kind = .normal := by rw [q3.kind, hcm]; rfl
      obtain ⟨x, g1, g3, g4, g5, g6, g7, g8, g9⟩ := loop_inv q1.hr hm1 hl2
      have heff := loop_eff (lo' := { lo2 with state := if j.isNone then .ready else .done, pending := j }) (x' := { x with state := if j.isNone then .ready else .done, pending := j }) q1.hr hm1 hl2 g1 ⟨rfl, rfl, g5, g6, g7, g8, g9⟩
      have hend : (Instr.endRound rl j).run P w1 = .ok (.bool j.isNone) { w1 with heap := w1.heap.setIfInBounds rl (.loop { x with state := if j.isNone then .ready else .done, pending := j }) } := by
        simp [Instr.endRound, loop_get g1, (setObj_loop (P := P) g1 _).2.2]
      refine ⟨g, tmps, asg, body, k1, _, _, hsub _ (List.mem_singleton.2 rfl), μ1, _, q1.trans hr heff, .bool j.isNone, rel_lit rfl, q2.trans (.one (step_lone_go ?_))⟩
      cases j with
      | none =>
        have q5 : f1.todo = [] := q5
        simp [stepG, stepG.exec, q4, q5, hron, hend, doReturn, hkind]
      | some code =>
        cases code with
        | ret =>
          obtain ⟨k, q5⟩ := q5
          simp [stepG, stepG.exec, q4, q5, hron, hend, doReturn, hkind]
        | exit id =>
          obtain ⟨k, q5, q7⟩ := q5
          simp [stepG, stepG.exec, q4, q5, q7, hron, hend, doReturn, hkind]
        | _ => exact q5.elim
    | raised ch fr2 =>
      simp only [xRound1] at hx
      split at hx
      case isFalse => cases hx
      rename_i hde
      simp only [Option.some.injEq] at hx
      subst hx
      simp only [Bool.and_eq_true] at hde
      obtain ⟨⟨s1, s2, s3⟩, μ1, w1, f1, cs1, c', q1, q2, q3, q4, q5, q6⟩ := ih
      have hcm : fr2.cm = none := by cases hq : fr2.cm with | none => rfl | some x => rw [hq] at s3; cases s3
      rw [hcm] at q6
      have q6 : cs1 = c :: cs := q6
      subst q6
      have hdf : f1.defers = [] := by
        have := q3.defers
        have he : fr2.defers = [] := by simpa using hde.1
        rw [he] at this
        exact this
      obtain ⟨fn, hfn⟩ := Option.isSome_iff_exists.1 hde.2
      have hfn2 : P.funcs[f1.fn]? = some fn := by rw [q3.fn]; exact hfn
      exact ⟨g, tmps, asg, body, k1, _, _, hsub _ (List.mem_singleton.2 rfl), μ1, w1, q1, c', q5, q2.trans (.one (step_lone_go (by simp [stepG, unwind, Frame.catches, q4, hdf, hfn2])))⟩
theorem xStep_ok (hT : TT.Sound P T) (hNG : NoNG P) (hS : SumsOK P ρ fl S) (hrec : RecOK P ρ fl rec) (hdraw : DrawOK P T ρ fl rec) : RecOK P ρ fl (xStep P T S rec) := by
  intro t h L hx
  cases t with
  | call g args cm => exact xCall_ok hS hrec hx
  | body fr => exact xBody_ok hT hNG hrec hdraw hx
  | unwind fr m => exact xUnwind_ok hT hNG hrec hx
  | round l args => exact xRound_ok hrec hx
end Go.Proofs.YtohbdgddnkoenaaGreat.Ex
end

section

set_option linter.unusedSimpArgs false
set_option linter.unusedVariables false
namespace Go.Proofs.YtohbdgddnkoenaaGreat.Ex
open Go Go.RowKit
variable {P : Program} {T : TT} {ρ : Nat → Value} {fl : Nat} {μ μ' : Mu} {h : AH} {w w' : World} {t1 t2 : TM} {o : Oper}
theorem evals_congr : ∀ {l : List Operand}, (∀ x ∈ l, evalA t1 x = evalA t2 x) → evals t1 l = evals t2 l
  | [], _ => rfl
  | x :: r, hh => by
    simp only [evals]
    rw [hh x (by simp), evals_congr (fun y hy => hh y (by simp [hy]))]
theorem evalParts_congr : ∀ {l : List (Nat × Operand)}, (∀ x ∈ l.map (·.2), evalA t1 x = evalA t2 x) → evalParts t1 l = evalParts t2 l
  | [], _ => rfl
  | (i, x) :: r, hh => by
    simp only [evalParts]
    rw [hh x (by simp), evalParts_congr (fun y hy => hh y (by simp at hy ⊢; exact .inr hy))]
theorem litAll_congr : ∀ {l : List Operand}, (∀ x ∈ l, evalA t1 x = evalA t2 x) → litAll t1 l = litAll t2 l
  | [], _ => rfl
  | x :: r, hh => by
    simp only [litAll]
    rw [hh x (by simp), litAll_congr (fun y hy => hh y (by simp [hy]))]
theorem litOp_congr (hh : ∀ x ∈ o.op.operands, evalA t1 x = evalA t2 x) : litOp P o t1 = litOp P o t2 := by
  unfold litOp
  rw [litAll_congr (fun x hx => hh x (by simpa using hx))]
  cases hs : notSelect o.op with
  | false => rfl
  | true =>
    rw [execOp_congr (ρ := litEnv t1) (ρ' := litEnv t2) o (fun cs b hcs => by rw [hcs] at hs; cases hs) (fun x hx => by simp only [litEnv]; rw [hh x hx])]
theorem orLit_congr {k1 k2 : Unit → AR} (hh : ∀ x ∈ o.op.operands, evalA t1 x = evalA t2 x) (hk : k1 () = k2 ()) : orLit P o t1 h k1 = orLit P o t2 h k2 := by
  unfold orLit
  rw [litOp_congr hh]
  split
  · rfl
  · exact hk
theorem optNat_congr {x : Option Operand} (hh : ∀ y ∈ x.toArray, evalA t1 y = evalA t2 y) : optNat t1 x = optNat t2 x := by
  cases x with
  | none => rfl
  | some y =>
    have := hh y (by simp)
    simp only [optNat]
    rw [this]
/-- An operation looks at its operands alone. -/
theorem aop_congr (hh : ∀ x ∈ o.op.operands, evalA t1 x = evalA t2 x) : aop P T o t1 h = aop P T o t2 h := by
  obtain ⟨dst, op, ty, pos, after, guard⟩ := o
  cases op <;> simp only [aop]
  case move x => rw [hh x (by simp [Op.operands])]
  case assign x => rw [hh x (by simp [Op.operands])]
  case pick c a b =>
    simp only [aPick]
    rw [hh c (by simp [Op.operands]), hh a (by simp [Op.operands]), hh b (by simp [Op.operands])]
  case box t x => simp only [aBox]; rw [hh x (by simp [Op.operands])]
  case build t ps =>
    simp only [aBuild]
    rw [evalParts_congr (fun x hx => hh x (by simpa [Op.operands] using hx))]
  case buildSlice t m ps =>
    simp only [aBuildSlice]
    rw [evalParts_congr (fun x hx => hh x (by simpa [Op.operands] using hx))]
  case load t a => simp only [aLoad]; rw [hh a (by simp [Op.operands])]
  case store t a x =>
    simp only [aStore]
    rw [hh a (by simp [Op.operands]), hh x (by simp [Op.operands])]
  case nilCheck x =>
    simp only [aNilCheck]
    rw [hh x (by simp [Op.operands]), orLit_congr hh rfl]
  case binOp op t x y yt =>
    have e1 := hh x (by simp [Op.operands])
    have e2 := hh y (by simp [Op.operands])
    simp only [aBin, aSame]
    rw [e1, e2, orLit_congr hh rfl]
  case unOp op t x => simp only [aUn]; rw [hh x (by simp [Op.operands])]
  case convert src dst x =>
    simp only [aConvert]
    rw [hh x (by simp [Op.operands])]
    split
    · split
      · rfl
      · exact orLit_congr hh rfl
    · exact orLit_congr hh rfl
    · rfl
  case makeInterface t x => simp only [aMakeInterface]; rw [hh x (by simp [Op.operands])]
  case makeFunc f a b =>
    simp only [aMakeFunc]
    rw [evals_congr (fun x hx => hh x (by simp [Op.operands]; left; simpa using hx)), evals_congr (fun x hx => hh x (by simp [Op.operands]; right; simpa using hx))]
  case makeSlice t l c =>
    simp only [aMakeSlice]
    rw [hh l (by simp [Op.operands]), hh c (by simp [Op.operands])]
  case slice t x lo hi mx =>
    simp only [aSlice]
    have e1 := hh x (by simp [Op.operands])
    have e2 : optNat t1 lo = optNat t2 lo := optNat_congr (fun y hy => hh y (by simp [Op.operands] at hy ⊢; simp [hy]))
    have e3 : optNat t1 hi = optNat t2 hi := optNat_congr (fun y hy => hh y (by simp [Op.operands] at hy ⊢; simp [hy]))
    have e4 : optNat t1 mx = optNat t2 mx := optNat_congr (fun y hy => hh y (by simp [Op.operands] at hy ⊢; simp [hy]))
    refine orLit_congr hh ?_
    rw [e1, e2, e3, e4]
  case fieldAddr t x i => simp only [aFieldAddr]; rw [hh x (by simp [Op.operands])]
  case field t x i => simp only [aField]; rw [hh x (by simp [Op.operands])]
  case indexAddr t x ix =>
    simp only [aIndexAddr]
    rw [hh x (by simp [Op.operands]), hh ix (by simp [Op.operands])]
  case index t x ix =>
    simp only [aIndex]
    have e1 := hh x (by simp [Op.operands])
    have e2 := hh ix (by simp [Op.operands])
    refine orLit_congr hh ?_
    rw [e1, e2]
  case lookup t m k ok =>
    simp only [aLookup]
    rw [hh m (by simp [Op.operands]), hh k (by simp [Op.operands])]
  case mapUpdate t m k x =>
    simp only [aUpdate]
    rw [hh m (by simp [Op.operands]), hh k (by simp [Op.operands]), hh x (by simp [Op.operands])]
  case insert t m k x =>
    simp only [aUpdate]
    rw [hh m (by simp [Op.operands]), hh k (by simp [Op.operands]), hh x (by simp [Op.operands])]
  case extract x i => simp only [aExtract]; rw [hh x (by simp [Op.operands])]
  case range t x => simp only [aRange]; rw [hh x (by simp [Op.operands])]
  case entry x => simp only [aEntry]; rw [hh x (by simp [Op.operands])]
  case next x s => simp only [aNext]; rw [hh x (by simp [Op.operands])]
  case typeAssert x xt t ok => simp only [aAssert]; rw [hh x (by simp [Op.operands])]
  case panic x => simp only [aPanic]; rw [hh x (by simp [Op.operands])]
  case call c =>
    obtain ⟨callee, args, at'⟩ := c
    have e1 : evals t1 args.toList = evals t2 args.toList := evals_congr (fun x hx => hh x (by simp [Op.operands, Call.operands]; right; simpa using hx))
    cases callee with
    | builtin b =>
      simp only [aCall, aBuiltin]
      rw [e1, orLit_congr hh rfl]
    | value f =>
      simp only [aCall]
      rw [e1, hh f (by simp [Op.operands, Call.operands])]
    | invoke r name =>
      simp only [aCall]
      rw [e1, hh r (by simp [Op.operands, Call.operands])]
  case defer c =>
    obtain ⟨callee, args, at'⟩ := c
    have e1 : evals t1 args.toList = evals t2 args.toList := evals_congr (fun x hx => hh x (by simp [Op.operands, Call.operands]; right; simpa using hx))
    cases callee with
    | builtin b => rfl
    | value f =>
      simp only [aDefer]
      rw [e1, hh f (by simp [Op.operands, Call.operands])]
    | invoke r name => rfl
  case makeMap t r => cases r <;> rfl
theorem wantedA_congr {ops : Array Oper} (hh : ∀ j want d, o.guard = some (j, want) → (ops[j]?).bind (·.dst) = some d → t1.at d = t2.at d) : wantedA ops t1 o = wantedA ops t2 o := by
  unfold wantedA
  split
  · rfl
  · rename_i j want hg
    split
    · rename_i d hd
      rw [hh j want d hg hd]
    · rfl
end Go.Proofs.YtohbdgddnkoenaaGreat.Ex
end

section

set_option linter.unusedSimpArgs false
set_option linter.unusedVariables false
namespace Go.Proofs.YtohbdgddnkoenaaGreat.Ex
open Go Go.RowKit
variable {P : Program} {T : TT} {ρ : Nat → Value} {fl : Nat} {μ μ' : Mu} {h : AH} {w w' : World} {tmps : TM} {o : Oper} {n : AN} {h1 : AH}
def ind (x : AR) (h : AH) : AR := x.map fun p => (p.1, h)
theorem ind_orLit {k1 k2 : Unit → AR} (hk : k1 () = ind (k2 ()) h) : orLit P o tmps h k1 = ind (orLit P o tmps .nil k2) h := by
  unfold orLit
  split
  · rfl
  · exact hk
theorem ind_val (x : Option AV) : val h x = ind (val .nil x) h := by cases x <;> rfl
theorem ind_same {op : BinOp} {t : TypeId} {x y : Operand} : aSame T tmps h op t x y = ind (aSame T tmps .nil op t x y) h := by
  unfold aSame
  split
  · split <;> rfl
  · rfl
theorem ind_slice1 {t : TypeId} {x : AV} {lo hi mx : Option Nat} : aSlice1 T h t x lo hi mx = ind (aSlice1 T .nil t x lo hi mx) h := by
  unfold aSlice1
  split
  · split
    · cases capFits _ _ <;> rfl
    · rfl
  · split
    · cases Nat.ble _ _ <;> rfl
    · rfl
  · rfl
theorem conv1_still {src dst : TypeId} {x : AV} (hk : (match und T src, und T dst with
    | some (.slice _), some .string => Kind.reads
    | some .string, some (.slice _) | some (.slice _), some (.slice _) => .acts
    | _, _ => .still) = .still) : aConv1 T h src dst x = none := by
  unfold aConv1
  split
  · rename_i hs hd; rw [hs, hd] at hk; cases hk
  · rename_i hs hd; rw [hs, hd] at hk; cases hk
  · rename_i hs hd; rw [hs, hd] at hk; cases hk
  · rfl
/-- What is still hangs on no memory. -/
theorem still_ind (hk : kindOf T o = .still) : aop P T o tmps h = ind (aop P T o tmps .nil) h := by
  obtain ⟨dst, op, ty, pos, after, guard⟩ := o
  cases op <;> simp only [kindOf, reduceCtorEq] at hk <;> simp only [aop]
  case move x => exact ind_val _
  case assign x => exact ind_val _
  case pick c a b =>
    simp only [aPick]
    split
    · exact ind_val _
    · rfl
  case build t ps =>
    simp only [aBuild]
    split
    · exact ind_val _
    · rfl
  case nilCheck x =>
    simp only [aNilCheck]
    split <;> first | rfl | exact ind_orLit rfl
  case binOp op t x y yt =>
    simp only [aBin]
    split
    · exact ind_orLit ind_same
    · unfold ofPV
      split
      · cases ofScal _ <;> rfl
      · cases ofVal _ <;> rfl
      · rfl
    · exact ind_val _
    · exact ind_orLit ind_same
  case unOp op t x =>
    simp only [aUn]
    split
    · unfold ofPV
      split
      · cases ofScal _ <;> rfl
      · cases ofVal _ <;> rfl
      · rfl
    · rfl
  case convert src dst x =>
    simp only [aConvert]
    split
    · split
      · rfl
      · exact ind_orLit rfl
    · exact ind_orLit (by rw [conv1_still hk, conv1_still hk]; rfl)
    · rfl
  case makeInterface t x =>
    simp only [aMakeInterface]
    split <;> rfl
  case makeFunc f a b =>
    simp only [aMakeFunc]
    split
    · cases notYield f <;> rfl
    · rfl
  case slice t x lo hi mx =>
    simp only [aSlice]
    refine ind_orLit ?_
    split
    · exact ind_slice1
    · rfl
  case fieldAddr t x i =>
    simp only [aFieldAddr]
    split
    · split
      · split <;> rfl
      · rfl
    · rfl
  case field t x i =>
    simp only [aField]
    split
    · split
      · exact ind_val _
      · rfl
    · rfl
  case indexAddr t x ix =>
    simp only [aIndexAddr]
    split
    · split
      · split <;> rfl
      · rfl
    · split
      · split <;> rfl
      · rfl
    · rfl
  case index t x ix =>
    simp only [aIndex]
    refine ind_orLit ?_
    split
    · split
      · split
        · exact ind_val _
        · rfl
      · rfl
    · rfl
  case typeAssert x xt t ok =>
    simp only [aAssert]
    split
    · split
      · split
        · split <;> rfl
        · rfl
      · cases Nat.beq _ _
        · cases ok <;> rfl
        · rfl
    · cases ok <;> rfl
    · rfl
  case extract x i =>
    simp only [aExtract]
    split
    · exact ind_val _
    · rfl
  case call c =>
    obtain ⟨callee, args, at'⟩ := c
    cases callee with
    | value f => cases hk
    | invoke r name => cases hk
    | builtin b =>
      have key : b = .len ∨ b = .min ∨ b = .max := by cases b <;> simp at hk ⊢
      rcases key with rfl | rfl | rfl
      · simp only [aCall, aBuiltin]
        split
        case h_5 => split <;> rfl
        case h_6 =>
          rename_i b1 t1 r1 hb1 ha1 ht1
          split
          · rename_i hu hb
            exfalso
            have h3 : at'[0]? = some t1 := by rw [← Array.getElem?_toList, ht1]; rfl
            simp only [h3, Option.bind_some, hu] at hk
            cases hk
          · split
            · rename_i hu hb
              exfalso
              have h3 : at'[0]? = some t1 := by rw [← Array.getElem?_toList, ht1]; rfl
              simp only [h3, Option.bind_some, hu] at hk
              cases hk
            · rfl
        all_goals first | rfl | exact ind_orLit rfl | (rename_i hb _ _; cases hb) | (rename_i hb; cases hb)
      · simp only [aCall, aBuiltin]
        exact ind_orLit rfl
      · simp only [aCall, aBuiltin]
        exact ind_orLit rfl
theorem still_any (hk : kindOf T o = .still) (ha : aop P T o tmps h = some (n, h1)) : h1 = h ∧ ∀ h2, aop P T o tmps h2 = some (n, h2) := by
  rw [still_ind hk] at ha
  cases hq : aop P T o tmps .nil with
  | none => rw [hq] at ha; cases ha
  | some p =>
    rw [hq] at ha
    simp only [ind, Option.map_some, Option.some.injEq, Prod.mk.injEq] at ha
    obtain ⟨rfl, rfl⟩ := ha
    exact ⟨rfl, fun h2 => by rw [still_ind hk, hq]; rfl⟩
/-! Reads. -/
theorem orLit_lit {k : Unit → AR} (hl : litOp P o tmps = some n) : orLit P o tmps h k = some (n, h) := by
  unfold orLit
  rw [hl]
theorem litOp_none {x : Operand} {a : AV} (hx : x ∈ o.op.operands) (ha : evalA tmps x = some a) (hn : toVal a = none) : litOp P o tmps = none := by
  have : litAll tmps o.op.operands.toList = false := by
    have hx' : x ∈ o.op.operands.toList := by simpa using hx
    generalize o.op.operands.toList = l at hx'
    induction l with
    | nil => cases hx'
    | cons y r ih =>
      simp only [litAll]
      cases hx' with
      | head => rw [ha]; simp [hn]
      | tail _ hm =>
        split
        · rw [ih hm, Bool.and_false]
        · rfl
  unfold litOp
  rw [this, Bool.and_false]
  rfl
/-- A read's kind. -/
theorem reads_cases (hk : kindOf T o = .reads) : (∃ t a, o.op = .load t a) ∨ (∃ t m k ok, o.op = .lookup t m k ok) ∨ (∃ src dst x e, o.op = .convert src dst x ∧ und T src = some (.slice e) ∧ und T dst = some .string) ∨
    ∃ c t k e, o.op = .call c ∧ c.callee = .builtin .len ∧ c.argTypes[0]? = some t ∧ und T t = some (.map k e) := by
  unfold kindOf at hk
  split at hk <;> try cases hk
  case h_22 t a ho => exact .inl ⟨t, a, ho⟩
  case h_23 t m k ok ho => exact .inr (.inl ⟨t, m, k, ok, ho⟩)
  case h_24 src dst x ho =>
    split at hk <;> try cases hk
    rename_i e h1 h2
    exact .inr (.inr (.inl ⟨src, dst, x, e, ho, h1, h2⟩))
  case h_25 c ho =>
    split at hk <;> try cases hk
    rename_i hc
    split at hk <;> try cases hk
    rename_i k e hm
    obtain ⟨t, h1, h2⟩ := Option.bind_eq_some_iff.1 hm
    exact .inr (.inr (.inr ⟨c, t, k, e, ho, hc, h1, h2⟩))
/-- A read done later. -/
theorem read_late {rd : RD} {u : AV} (hk : kindOf T o = .reads) (ha : aop P T o tmps h = some (n, h1)) (hr : rdOf o tmps = some rd) {h2 : AH} (hu : rdA T h2 rd = some u) : h1 = h ∧ aop P T o tmps h2 = some (.val u, h2) := by
  obtain ⟨ds, op, ty, pos, after, guard⟩ := o
  rcases reads_cases hk with ⟨t, a, ho⟩ | ⟨t, m, k, ok, ho⟩ | ⟨src, dst, x, e, ho, e1, e2⟩ | ⟨c, t, k, e, ho, hc, e1, e2⟩
  · simp only at ho
    subst ho
    simp only [rdOf] at hr
    split at hr
    case h_2 => cases hr
    rename_i b off hx
    obtain rfl := Option.some.inj hr
    simp only [rdA] at hu
    simp only [aop, aLoad, hx] at ha ⊢
    obtain ⟨_, _, _, rfl⟩ := val_some ha
    exact ⟨rfl, by simp [hu, val]⟩
  · simp only at ho
    subst ho
    simp only [rdOf] at hr
    split at hr
    case h_2 => cases hr
    rename_i m' k' hm hk'
    obtain rfl := Option.some.inj hr
    simp only [rdA] at hu
    simp only [aop, aLookup, hm, hk'] at ha ⊢
    obtain ⟨_, _, _, rfl⟩ := val_some ha
    exact ⟨rfl, by simp [hu, val]⟩
  · simp only at ho
    subst ho
    simp only [rdOf] at hr
    split at hr
    case h_2 => cases hr
    rename_i b off len cap hx
    obtain rfl := Option.some.inj hr
    simp only [rdA] at hu
    have hl : litOp P ⟨ds, .convert src dst x, ty, pos, after, guard⟩ tmps = none := litOp_none (x := x) (by simp [Op.operands]) hx rfl
    simp only [aop, aConvert, hx, orLit, hl, aConv1, e1, e2] at ha ⊢
    split at ha
    case h_2 => cases ha
    rename_i he
    obtain ⟨_, _, _, rfl⟩ := val_some ha
    exact ⟨rfl, by simp [he, hu, val]⟩
  · simp only at ho
    subst ho
    simp only [rdOf] at hr
    split at hr
    case h_2 => cases hr
    rename_i b hx
    obtain rfl := Option.some.inj hr
    simp only [rdA] at hu
    split at hu
    case h_2 => cases hu
    rename_i es cl hb
    obtain rfl := Option.some.inj hu
    obtain ⟨rest, ht⟩ : ∃ rest, c.argTypes.toList = t :: rest := by
      rw [← Array.getElem?_toList] at e1
      cases hq : c.argTypes.toList with
      | nil => rw [hq] at e1; cases e1
      | cons y r => rw [hq] at e1; exact ⟨r, by simp only [List.getElem?_cons_zero, Option.some.injEq] at e1; rw [e1]⟩
    simp only [aop, aCall, hc, aBuiltin, hx, ht, e2] at ha ⊢
    rw [hb]
    refine ⟨?_, rfl⟩
    split at ha
    · simp only [Option.some.injEq, Prod.mk.injEq] at ha
      exact ha.2.symm
    · cases ha
theorem conv1_same {src dst e : TypeId} {v : AV} {y : AN × AH} (e1 : und T src = some (.slice e)) (e2 : und T dst = some .string) (hy : aConv1 T h src dst v = some y) : y.2 = h := by
  unfold aConv1 at hy
  rw [e1, e2] at hy
  cases v with
  | sl b off len cap =>
    simp only at hy
    split at hy
    · obtain ⟨n', h'⟩ := y
      obtain ⟨_, _, _, rfl⟩ := val_some hy
      rfl
    · cases hy
  | _ => cases hy
/-- A read changes no heap. -/
theorem read_same (hk : kindOf T o = .reads) (ha : aop P T o tmps h = some (n, h1)) : h1 = h := by
  obtain ⟨ds, op, ty, pos, after, guard⟩ := o
  rcases reads_cases hk with ⟨t, a, ho⟩ | ⟨t, m, k, ok, ho⟩ | ⟨src, dst, x, e, ho, e1, e2⟩ | ⟨c, t, k, e, ho, hc, e1, e2⟩
  · simp only at ho
    subst ho
    simp only [aop, aLoad] at ha
    split at ha
    · obtain ⟨_, _, _, rfl⟩ := val_some ha
      rfl
    · cases ha
  · simp only at ho
    subst ho
    simp only [aop, aLookup] at ha
    split at ha
    · obtain ⟨_, _, _, rfl⟩ := val_some ha
      rfl
    · cases ha
  · simp only at ho
    subst ho
    simp only [aop, aConvert] at ha
    have key : ∀ {kk : Unit → AR}, (∀ x, kk () = some x → x.2 = h) → orLit P ⟨ds, .convert src dst x, ty, pos, after, guard⟩ tmps h kk = some (n, h1) → h1 = h := fun {kk} hkk hor => by
      unfold orLit at hor
      split at hor
      · simp only [Option.some.injEq, Prod.mk.injEq] at hor
        exact hor.2.symm
      · exact hkk _ hor
    split at ha
    · simp only [e1, e2] at ha
      exact key (fun x hx => by cases hx) ha
    · exact key (fun y hy => conv1_same e1 e2 hy) ha
    · cases ha
  · simp only at ho
    subst ho
    obtain ⟨rest, ht⟩ : ∃ rest, c.argTypes.toList = t :: rest := by
      rw [← Array.getElem?_toList] at e1
      cases hq : c.argTypes.toList with
      | nil => rw [hq] at e1; cases e1
      | cons y r => rw [hq] at e1; exact ⟨r, by simp only [List.getElem?_cons_zero, Option.some.injEq] at e1; rw [e1]⟩
    simp only [aop, aCall, hc, aBuiltin, ht] at ha
    split at ha
    case h_5 => simp_all
    case h_6 =>
      split at ha
      · simp only [Option.some.injEq, Prod.mk.injEq] at ha
        exact ha.2.symm
      · cases ha
    all_goals first
      | (unfold orLit at ha
         split at ha
         · simp only [Option.some.injEq, Prod.mk.injEq] at ha
           exact ha.2.symm
         · cases ha)
      | simp_all
/-- A read of plain operands. -/
theorem read_lit (hk : kindOf T o = .reads) (ha : aop P T o tmps h = some (n, h1)) (hr : rdOf o tmps = none) (hl : (litOp P o tmps).isSome = true) : h1 = h ∧ ∀ h2, aop P T o tmps h2 = some (n, h2) := by
  obtain ⟨ds, op, ty, pos, after, guard⟩ := o
  obtain ⟨m, hm⟩ := Option.isSome_iff_exists.1 hl
  rcases reads_cases hk with ⟨t, a, ho⟩ | ⟨t, m, k, ok, ho⟩ | ⟨src, dst, x, e, ho, e1, e2⟩ | ⟨c, t, k, e, ho, hc, e1, e2⟩
  · simp only at ho
    subst ho
    simp only [rdOf] at hr
    simp only [aop, aLoad] at ha
    split at hr
    · cases hr
    · rename_i hno
      split at ha
      · rename_i b off hx
        exact absurd hx (hno b off)
      · cases ha
  · simp only at ho
    subst ho
    simp only [rdOf] at hr
    simp only [aop, aLookup] at ha
    split at hr
    · cases hr
    · rename_i hno
      split at ha
      · rename_i m' k' h1 h2
        exact absurd h2 (hno m' k' h1)
      · cases ha
  · simp only at ho
    subst ho
    have key : ∀ h2, aConvert P T ⟨ds, .convert src dst x, ty, pos, after, guard⟩ tmps h2 src dst x = some (m, h2) := fun h2 => by
      simp only [aop, aConvert] at ha ⊢
      split
      · simp only [e1, e2]
        exact orLit_lit hm
      · exact orLit_lit hm
      · rename_i hx
        rw [hx] at ha
        cases ha
    simp only [aop] at ha ⊢
    rw [key] at ha
    simp only [Option.some.injEq, Prod.mk.injEq] at ha
    obtain ⟨rfl, rfl⟩ := ha
    exact ⟨rfl, key⟩
  · simp only at ho
    subst ho
    obtain ⟨rest, ht⟩ : ∃ rest, c.argTypes.toList = t :: rest := by
      rw [← Array.getElem?_toList] at e1
      cases hq : c.argTypes.toList with
      | nil => rw [hq] at e1; cases e1
      | cons y r => rw [hq] at e1; exact ⟨r, by simp only [List.getElem?_cons_zero, Option.some.injEq] at e1; rw [e1]⟩
    simp only [rdOf] at hr
    have key : ∀ h2, aCall P T ⟨ds, .call c, ty, pos, after, guard⟩ tmps h2 c = some (m, h2) := fun h2 => by
      simp only [aop, aCall, hc, aBuiltin, ht] at ha ⊢
      split
      case h_5 => simp_all
      case h_6 => simp_all
      all_goals first | exact orLit_lit hm | simp_all
    simp only [aop] at ha ⊢
    rw [key] at ha
    simp only [Option.some.injEq, Prod.mk.injEq] at ha
    obtain ⟨rfl, rfl⟩ := ha
    exact ⟨rfl, key⟩
end Go.Proofs.YtohbdgddnkoenaaGreat.Ex
end

section

set_option linter.unusedSimpArgs false
set_option linter.unusedVariables false
namespace Go.Proofs.YtohbdgddnkoenaaGreat.Ex
open Go Go.RowKit
variable {P : Program} {T : TT} {ρ : Nat → Value} {fl : Nat} {μ μ' : Mu} {h : AH} {w w' : World} {tmps : TM} {o : Oper} {n : AN} {h1 : AH}
theorem alloc_cases (hk : kindOf T o = .alloc) : (∃ t, o.op = .alloc t) ∨ (∃ t x, o.op = .box t x) ∨ (∃ t m ps, o.op = .buildSlice t m ps) ∨ (∃ t l c, o.op = .makeSlice t l c) ∨ ∃ t r, o.op = .makeMap t r := by
  unfold kindOf at hk
  split at hk <;> try cases hk
  case h_17 t ho => exact .inl ⟨t, ho⟩
  case h_18 t x ho => exact .inr (.inl ⟨t, x, ho⟩)
  case h_19 t m ps ho => exact .inr (.inr (.inl ⟨t, m, ps, ho⟩))
  case h_20 t l c ho => exact .inr (.inr (.inr (.inl ⟨t, l, c, ho⟩)))
  case h_21 t r ho => exact .inr (.inr (.inr (.inr ⟨t, r, ho⟩)))
  case h_24 => split at hk <;> cases hk
  case h_25 => split at hk <;> try cases hk
               split at hk <;> cases hk
def AllocOK (P : Program) (T : TT) (o : Oper) (tmps : TM) (mk : Nat → AV) (ab : AB) : Prop :=
  (∀ h2, aop P T o tmps h2 = some (.val (mk h2.n), h2.push ab)) ∧ live ab = true ∧
  ∀ (ρ : Nat → Value) (μ : Mu) (w : World) (ev : Operand → Value), EnvR ρ μ w tmps ev → ∃ ob v', (execOp ev o).run P w = .ok (.value v') (w.alloc ob) ∧ objRel P ρ μ w 0 ab ob ∧ ∀ (μ1 : Mu) (w1 : World) (b : Nat), μ1 b = some (w.heap.size, 0) → rel ρ μ1 w1 (mk b) v'
theorem rel_ptr_at {b r : Nat} (hb : μ b = some (r, 0)) : rel ρ μ w (.ptr b 0) (.pointer (some ⟨r, 0, none⟩)) := by unfold rel; exact ⟨r, 0, hb, rfl⟩
theorem rel_sl_at {b r len k : Nat} (hb : μ b = some (r, 0)) (hk : len ≤ k) (hm : k ≤ maxLen) : rel ρ μ w (.sl b 0 len (.kn k)) (.slice (some ⟨r, 0, none⟩) len k) := by
  unfold rel
  exact .inl ⟨r, 0, 0, k, hb, rfl, .inr rfl, rfl, hk, hm⟩
theorem rel_mp_at {b r : Nat} (hb : μ b = some (r, 0)) : rel ρ μ w (.mp b) (.map (some r)) := by unfold rel; exact ⟨r, hb, rfl⟩
theorem alloc_any (hT : TT.Sound P T) (hk : kindOf T o = .alloc) (ha : aop P T o tmps h = some (n, h1)) : ∃ mk ab, n = .val (mk h.n) ∧ h1 = h.push ab ∧ AllocOK P T o tmps mk ab := by
  obtain ⟨ds, op, ty, pos, after, guard⟩ := o
  rcases alloc_cases hk with ⟨t, ho⟩ | ⟨t, x, ho⟩ | ⟨t, m, ps, ho⟩ | ⟨t, l, c, ho⟩ | ⟨t, r, ho⟩ <;> (simp only at ho; subst ho)
  · simp only [aop, aAlloc, Option.map_eq_some_iff, Prod.mk.injEq] at ha
    obtain ⟨z, z1, rfl, rfl⟩ := ha
    refine ⟨fun b => .ptr b 0, .cells z.cells t, rfl, rfl, fun h2 => by simp [aop, aAlloc, z1], rfl, fun ρ μ w ev he => ?_⟩
    obtain ⟨v, h2, h3⟩ := run_zero hT z1 w
    exact ⟨.cells v.cells t, .pointer (some ⟨w.heap.size, 0, none⟩), by simp [execOp, Instr.alloc, h2, newVar, newRow], ⟨v.cells, rfl, whole_of (rel_cells (ofVal1_rel h3))⟩, fun μ1 w1 b hb => rel_ptr_at hb⟩
  · simp only [aop, aBox] at ha
    split at ha
    case h_2 => cases ha
    rename_i z hz
    split at ha
    case isFalse => cases ha
    rename_i hone
    simp only [Option.some.injEq, Prod.mk.injEq] at ha
    obtain ⟨rfl, rfl⟩ := ha
    refine ⟨fun b => .ptr b 0, .cells z.cells t, rfl, rfl, fun h2 => by simp [aop, aBox, hz, hone], rfl, fun ρ μ w ev he => ?_⟩
    exact ⟨.cells (ev x).cells t, .pointer (some ⟨w.heap.size, 0, none⟩), by simp [execOp, Instr.box, newVar, newRow], ⟨_, rfl, whole_of (rel_cells (he x z hz))⟩, fun μ1 w1 b hb => rel_ptr_at hb⟩
  · have ha0 := ha
    simp only [aop, aBuildSlice] at ha
    split at ha
    case h_2 => cases ha
    rename_i e ps' hu hps
    split at ha
    case h_2 => cases ha
    rename_i i hi
    split at ha
    case isFalse => cases ha
    rename_i hc
    simp only [Option.map_eq_some_iff, Prod.mk.injEq] at ha
    obtain ⟨l, hf, rfl, rfl⟩ := ha
    have hc0 := hc
    simp only [Bool.and_eq_true, decide_eq_true_eq] at hc
    refine ⟨fun b => .sl b 0 m (.kn m), .cells l e, rfl, rfl, fun h2 => by simp [aop, aBuildSlice, hu, hps, hi, hc, hf], rfl, fun ρ μ w ev he => ?_⟩
    obtain ⟨z, hz, hz2⟩ := run_zero hT (show zeroT T e = some i.zero by simp [zeroT, hi]) w
    have hzr := rel_cells (ofVal1_rel (ρ := ρ) (μ := μ) (w := w) hz2)
    have hs := run_size hT (show sizeT T e = some i.size by simp [sizeT, hi]) w
    have hrow : rels ρ μ w (rep i.zero.cells m) ((Array.range (m * i.size)).map (fun k => (if m * i.size = 0 then (#[] : Array Value) else z.cells)[k % (if m * i.size = 0 then (#[] : Array Value) else z.cells).size]!)).toList := by
      by_cases h0 : m * i.size = 0
      · have : rep i.zero.cells m = [] := List.eq_nil_of_length_eq_zero (by rw [rep_length, hc.1.1]; exact h0)
        rw [this, h0]
        simp [rels_nil]
      · simp only [h0, if_false]
        have := rep_rels hzr m
        rw [hc.1.1] at this
        exact this
    obtain ⟨rres, q1, q2⟩ := fillA_sound (evalParts_sound he hps) hrow hf
    have hmm : m ≤ maxLen := by simp only [maxLen]; omega
    refine ⟨.cells rres e, .slice (some ⟨w.heap.size, 0, none⟩) m m, ?_, ⟨rres, rfl, whole_of q2⟩, fun μ1 w1 b hb => rel_sl_at hb (Nat.le_refl _) hmm⟩
    have h24 : ¬ (m * i.size > 2 ^ 24) := by omega
    by_cases h0 : m * i.size = 0
    · simp only [h0, if_true] at q1
      have e0 : Array.range 0 = #[] := rfl
      simp only [e0, List.map_toArray, List.map_nil] at q1
      simp [execOp, Instr.buildSlice, run_und hT hu, hs, h0, e0, q1, newRow]
    · simp only [h0, if_false] at q1
      simp [execOp, Instr.buildSlice, run_und hT hu, hs, h0, h24, hz, q1, newRow]
  · simp only [aop, aMakeSlice] at ha
    split at ha
    case h_2 => cases ha
    rename_i e k m hu hl hc
    split at ha
    case h_2 => cases ha
    rename_i i hi
    split at ha
    case isFalse => cases ha
    rename_i hcond
    have hcond0 := hcond
    simp only [Bool.and_eq_true, decide_eq_true_eq] at hcond
    obtain ⟨⟨⟨c1, c2⟩, c3⟩, c4⟩ := hcond
    simp only [Option.some.injEq, Prod.mk.injEq] at ha
    obtain ⟨rfl, rfl⟩ := ha
    refine ⟨fun b => .sl b 0 k (.kn m), .cells (rep i.zero.cells m) e, rfl, rfl, fun h2 => by simp [aop, aMakeSlice, hu, hl, hc, hi, c1, c2, c3, c4], rfl, fun ρ μ w ev he => ?_⟩
    obtain ⟨al, al1, al2⟩ := Option.bind_eq_some_iff.1 hl
    obtain ⟨ac, ac1, ac2⟩ := Option.bind_eq_some_iff.1 hc
    obtain ⟨kl, il, e1, e2, rfl⟩ := natA_inv al2 (he l _ al1)
    obtain ⟨kc, ic, f1, f2, rfl⟩ := natA_inv ac2 (he c _ ac1)
    obtain ⟨info, z, g1, g2, g3, g4, g5⟩ := hT.info e i hi
    have hzr := rel_cells (ofVal1_rel (ρ := ρ) (μ := μ) (w := w) g5)
    have hb : (info.bytes : Int) * ic ≤ 281474976710656 := by
      have h1 : ((i.bytes * ic.toNat : Nat) : Int) ≤ 281474976710656 := by omega
      have h2 : ((info.bytes * ic.toNat : Nat) : Int) ≤ 281474976710656 := by have := Nat.mul_le_mul_right ic.toNat g3.1; omega
      rw [Int.natCast_mul, Int.toNat_of_nonneg f2] at h2
      exact h2
    have hrun := run_make (P := P) w t e info z (und_P hT hu) g1 g4 kl kc il ic e2 (by omega) hb (by omega)
    have hrow := rep_rels hzr ic.toNat
    rw [c4] at hrow
    exact ⟨.cells (madeCells z.cells (ic.toNat * info.size)) e, .slice (some ⟨w.heap.size, 0, none⟩) il.toNat ic.toNat, by simp [execOp, e1, f1, hrun], ⟨_, rfl, whole_of (by rw [g2]; exact hrow)⟩, fun μ1 w1 b hb => rel_sl_at hb c1 (by simp only [maxLen]; omega)⟩
  · cases r with
    | some r => cases ha
    | none =>
      simp only [aop, Option.some.injEq, Prod.mk.injEq] at ha
      obtain ⟨rfl, rfl⟩ := ha
      exact ⟨.mp, .map [] 0, rfl, rfl, fun h2 => rfl, rfl, fun ρ μ w ev he => ⟨.map #[] 0, .map (some w.heap.size), by simp [execOp, Instr.makeMap], ⟨#[], rfl, rfl, rfl⟩, fun μ1 w1 b hb => rel_mp_at hb⟩⟩
/-! Sameness. -/
theorem scalEq_sound {a b : Value} (hs : scalEq a b = true) : a = b := by
  unfold scalEq at hs
  split at hs <;> first | rfl | cases hs | skip
  · simpa using hs
  · simp only [Bool.and_eq_true, beq_iff_eq] at hs
    rw [hs.1, hs.2]
  · rename_i x y
    have : x.data.toList = y.data.toList := by simpa using hs
    have : x.data = y.data := Array.ext' this
    obtain ⟨x⟩ := x
    obtain ⟨y⟩ := y
    simp only at this
    rw [this]
theorem capEq_sound {a b : Cap} (hs : capEq a b = true) : a = b := by
  cases a <;> cases b <;> simp [capEq] at hs <;> rw [hs]
theorem fnEq_sound {f g : Fn} (h : fnEq f g = true) : f = g := by
  unfold fnEq at h
  split at h
  · rw [Nat.eq_of_beq_eq_true h]
  · rw [Nat.eq_of_beq_eq_true h]
  · cases h
theorem same_sound : ∀ (n : Nat) (a b : AV), AV.same n a b = true → a = b := fun n => by
  induction n with
  | zero =>
    intro a b hs
    cases a <;> cases b <;> simp only [AV.same, Bool.false_eq_true, Bool.and_eq_true, beq_iff_eq] at hs
    · rw [scalEq_sound hs]
    · rw [hs.1, hs.2]
    · rw [hs.1.1.1, hs.1.1.2, hs.1.2, capEq_sound hs.2]
    · rw [hs]
    · rw [hs]
    · rw [hs.1.1, hs.1.2, hs.2]
  | succ n ih =>
    have lst : ∀ (l m : List AV), l.length = m.length → ((l.zip m).all fun (x, y) => AV.same n x y) = true → l = m := fun l => by
      induction l with
      | nil => intro m hl _; exact (List.eq_nil_of_length_eq_zero hl.symm).symm
      | cons x xs ihl =>
        intro m hl ha
        cases m with
        | nil => cases hl
        | cons y ys =>
          simp only [List.zip_cons_cons, List.all_cons, Bool.and_eq_true] at ha
          rw [ih x y ha.1, ihl ys (by simpa using hl) ha.2]
    intro a b hs
    cases a <;> cases b <;> simp only [AV.same, Bool.false_eq_true, Bool.and_eq_true, beq_iff_eq] at hs
    · rw [scalEq_sound hs]
    · rw [hs.1, hs.2]
    · rw [hs.1.1.1, hs.1.1.2, hs.1.2, capEq_sound hs.2]
    · rw [hs]
    · rw [lst _ _ hs.1 hs.2]
    · rw [lst _ _ hs.1 hs.2]
    · rw [hs.1, ih _ _ hs.2]
    · rw [fnEq_sound hs.1, lst _ _ hs.2.1.1 hs.2.1.2, lst _ _ hs.2.2.1 hs.2.2.2]
    · rw [hs]
    · rw [hs.1.1, hs.1.2, hs.2]
end Go.Proofs.YtohbdgddnkoenaaGreat.Ex
end

section

set_option linter.unusedSimpArgs false
set_option linter.unusedVariables false
namespace Go.Proofs.YtohbdgddnkoenaaGreat.Ex
open Go Go.RowKit
variable {T : TT} {ops : Array Oper}
def Direct (ops : Array Oper) (j i : Nat) : Prop := ∃ o e, ops[i]? = some o ∧ e ∈ o.after.toList ∧ Region.binds .any e = true ∧ e.on = j
inductive Before (ops : Array Oper) : Nat → Nat → Prop where
  | one {j i : Nat} : Direct ops j i → Before ops j i
  | step {j k i : Nat} : Before ops j k → Direct ops k i → Before ops j i
theorem waits_bit (n M i k : Nat) : waits n M i k = M.testBit (n * i + k) := by
  unfold waits
  rw [Nat.testBit_eq_decide_div_mod_eq, Nat.shiftRight_eq_div_pow, Bool.eq_iff_iff, Nat.beq_eq]
  simp
theorem predMask_bits : ∀ (l : List Edge) (acc j : Nat), (acc.testBit j = true ∨ ∃ e ∈ l, Region.binds .any e = true ∧ e.on = j) → (predMask l acc).testBit j = true
  | [], acc, j, hh => by
    rcases hh with hh | ⟨e, he, _⟩
    · exact hh
    · cases he
  | e :: r, acc, j, hh => by
    simp only [predMask]
    refine predMask_bits r _ j ?_
    cases hb : Region.binds .any e with
    | true =>
      simp only [cond_true, Nat.testBit_or, Bool.or_eq_true]
      rcases hh with hh | ⟨x, hx, h1, h2⟩
      · exact .inl (.inl hh)
      · cases hx with
        | head => exact .inl (.inr (by rw [h2, Nat.one_shiftLeft, Nat.testBit_two_pow_self]))
        | tail _ hm => exact .inr ⟨x, hm, h1, h2⟩
    | false =>
      simp only [cond_false]
      rcases hh with hh | ⟨x, hx, h1, h2⟩
      · exact .inl hh
      · cases hx with
        | head => rw [hb] at h1; cases h1
        | tail _ hm => exact .inr ⟨x, hm, h1, h2⟩
theorem linOk_cons {n M i : Nat} {r : List Nat} {done : Nat} {last : Option Nat} (hl : linOk T ops n M (i :: r) done last = true) : ∃ o, ops[i]? = some o ∧ (∀ j, (predMask o.after.toList 0).testBit j = true → done.testBit j = true) ∧ done.testBit i = false ∧
    (∀ a, last = some a → waits n M i a = true) ∧ linOk T ops n M r (done ||| (1 <<< i)) (bif isAct T ops i then some i else last) = true := by
  simp only [linOk] at hl
  split at hl
  case h_2 => cases hl
  rename_i o ho
  simp only [Bool.and_eq_true] at hl
  obtain ⟨⟨⟨h1, h2⟩, h3⟩, h4⟩ := hl
  refine ⟨o, ho, fun j hj => ?_, ?_, fun a ha => by rw [ha] at h3; exact h3, h4⟩
  · have h1 := Nat.eq_of_beq_eq_true h1
    rw [← h1, Nat.testBit_and, Bool.and_eq_true] at hj
    exact hj.2
  · have h2 := Nat.eq_of_beq_eq_true h2
    rw [Nat.testBit_eq_decide_div_mod_eq, ← Nat.shiftRight_eq_div_pow, h2]
    rfl
theorem bits_or {done i : Nat} {pre : List Nat} (hd : ∀ j, done.testBit j = true ↔ j ∈ pre) (j : Nat) : (done ||| (1 <<< i)).testBit j = true ↔ j ∈ pre ++ [i] := by
  rw [Nat.testBit_or, Bool.or_eq_true, hd, List.mem_append, List.mem_singleton, Nat.one_shiftLeft, Nat.testBit_two_pow]
  constructor
  · rintro (h1 | h1)
    · exact .inl h1
    · exact .inr (by simpa [eq_comm] using h1)
  · rintro (h1 | h1)
    · exact .inl h1
    · exact .inr (by simp [h1])
theorem linOk_lin {n M : Nat} : ∀ (l : List Nat) (done : Nat) (last : Option Nat) (pre : List Nat), linOk T ops n M l done last = true → (∀ j, done.testBit j = true ↔ j ∈ pre) →
    (∀ pre' i post, l = pre' ++ i :: post → (∃ o, ops[i]? = some o) ∧ i ∉ pre ++ pre' ∧ ∀ j, Direct ops j i → j ∈ pre ++ pre') ∧ ∀ j, j < n → j ∈ pre ++ l
  | [], done, last, pre, hl, hd => by
    refine ⟨fun pre' i post he => absurd he (by cases pre' <;> simp), fun j hj => ?_⟩
    have := Nat.eq_of_beq_eq_true hl
    rw [List.append_nil]
    rw [← hd, this, Nat.testBit_two_pow_sub_one]
    simpa using hj
  | i0 :: r, done, last, pre, hl, hd => by
    obtain ⟨o, ho, h1, h2, h3, h4⟩ := linOk_cons hl
    obtain ⟨k1, k2⟩ := linOk_lin r _ _ (pre ++ [i0]) h4 (fun j => bits_or hd j)
    refine ⟨fun pre' i post he => ?_, fun j hj => by have := k2 j hj; simpa using this⟩
    cases pre' with
    | nil =>
      obtain ⟨rfl, rfl⟩ := List.cons.inj he
      refine ⟨⟨o, ho⟩, ?_, fun j hj => ?_⟩
      · rw [List.append_nil, ← hd, h2]
        simp
      · obtain ⟨o', e, g1, g2, g3, g4⟩ := hj
        rw [ho] at g1
        obtain rfl := Option.some.inj g1
        rw [List.append_nil, ← hd]
        exact h1 j (predMask_bits _ _ _ (.inr ⟨e, g2, g3, g4⟩))
    | cons x xs =>
      obtain ⟨rfl, rfl⟩ := List.cons.inj he
      have := k1 xs i post rfl
      simpa using this
/-- All bits stand for operations that come first. -/
def GoodM (ops : Array Oper) (n M : Nat) : Prop := ∀ p, M.testBit p = true → ∃ a b, p = n * a + b ∧ b < n ∧ Before ops b a
theorem GoodM.waits {n M i k : Nat} (hM : GoodM ops n M) (hk : k < n) (hw : waits n M i k = true) : Before ops k i := by
  rw [waits_bit] at hw
  obtain ⟨a, b, h1, h2, h3⟩ := hM _ hw
  have e1 : (n * i + k) / n = i := by rw [Nat.mul_add_div (by omega), Nat.div_eq_of_lt hk, Nat.add_zero]
  have e2 : (n * a + b) / n = a := by rw [Nat.mul_add_div (by omega), Nat.div_eq_of_lt h2, Nat.add_zero]
  have ea : i = a := by rw [← e1, h1, e2]
  subst ea
  have : k = b := by omega
  subst this
  exact h3
theorem rowOf_good {n M i : Nat} (hM : GoodM ops n M) (hin : ∀ j i, Direct ops j i → j < n) : ∀ (l : List Edge) (acc : Nat), (∀ e ∈ l, Region.binds .any e = true → Direct ops e.on i) → (∀ b, acc.testBit b = true → b < n ∧ Before ops b i) → ∀ b, (rowOf n M l acc).testBit b = true → b < n ∧ Before ops b i
  | [], acc, _, hacc, b, hb => hacc b hb
  | e :: r, acc, hl, hacc, b, hb => by
    simp only [rowOf] at hb
    refine rowOf_good hM hin r _ (fun x hx => hl x (by simp [hx])) (fun c hc => ?_) b hb
    cases hbd : Region.binds .any e with
    | false =>
      rw [hbd] at hc
      exact hacc c hc
    | true =>
      have hd := hl e (by simp) hbd
      rw [hbd] at hc
      simp only [cond_true, Nat.testBit_or, Bool.or_eq_true, Nat.testBit_and, Bool.and_eq_true] at hc
      rcases hc with (hc | hc) | hc
      · exact hacc c hc
      · rw [Nat.one_shiftLeft, Nat.testBit_two_pow] at hc
        have : e.on = c := by simpa using hc
        subst this
        exact ⟨hin _ _ hd, .one hd⟩
      · obtain ⟨c1, c2⟩ := hc
        rw [Nat.testBit_two_pow_sub_one] at c2
        have hcn : c < n := by simpa using c2
        rw [Nat.testBit_shiftRight] at c1
        have : Before ops c e.on := hM.waits hcn (by rw [waits_bit]; exact c1)
        exact ⟨hcn, .step this hd⟩
theorem matOf_good {n : Nat} (hin : ∀ j i, Direct ops j i → j < n) : ∀ (l : List Oper) (i M : Nat), (∀ k, l[k]? = ops[i + k]?) → GoodM ops n M → GoodM ops n (matOf n l i M)
  | [], i, M, _, hM => hM
  | o :: r, i, M, hl, hM => by
    simp only [matOf]
    have ho : ops[i]? = some o := by have := hl 0; simpa using this.symm
    refine matOf_good hin r (i + 1) _ (fun k => by have := hl (k + 1); rw [List.getElem?_cons_succ] at this; rw [this]; congr 1; omega) (fun p hp => ?_)
    rw [Nat.testBit_or, Bool.or_eq_true] at hp
    rcases hp with hp | hp
    · exact hM p hp
    · rw [Nat.testBit_shiftLeft] at hp
      simp only [Bool.and_eq_true, decide_eq_true_eq] at hp
      obtain ⟨p1, p2⟩ := hp
      obtain ⟨b1, b2⟩ := rowOf_good (i := i) hM hin o.after.toList 0 (fun e he hb => ⟨o, e, ho, he, hb, rfl⟩) (fun b hb => by simp at hb) _ p2
      exact ⟨i, p - n * i, by omega, b1, b2⟩
theorem linOk_acts {n M : Nat} (hM : GoodM ops n M) : ∀ (l : List Nat) (done : Nat) (last : Option Nat) (pre : List Nat), linOk T ops n M l done last = true → (∀ i ∈ l, i < n) → (∀ a ∈ pre, isAct T ops a = true → ∃ b, last = some b ∧ b < n ∧ (a = b ∨ Before ops a b)) →
    (∀ {a b c : Nat}, Before ops a b → Before ops b c → Before ops a c) → ∀ pre' i post, l = pre' ++ i :: post → ∀ a ∈ pre ++ pre', isAct T ops a = true → Before ops a i
  | [], done, last, pre, hl, _, _, _, pre', i, post, he => absurd he (by cases pre' <;> simp)
  | i0 :: r, done, last, pre, hl, hlt, hp, htr, pre', i, post, he => by
    obtain ⟨o, ho, h1, h2, h3, h4⟩ := linOk_cons hl
    have hbef : ∀ a ∈ pre, isAct T ops a = true → Before ops a i0 := fun a ha hact => by
      obtain ⟨b, hb, hbn, hab⟩ := hp a ha hact
      have := hM.waits hbn (h3 b hb)
      rcases hab with rfl | hab
      · exact this
      · exact htr hab this
    cases pre' with
    | nil =>
      obtain ⟨rfl, rfl⟩ := List.cons.inj he
      intro a ha hact
      rw [List.append_nil] at ha
      exact hbef a ha hact
    | cons x xs =>
      obtain ⟨rfl, rfl⟩ := List.cons.inj he
      have := linOk_acts hM (xs ++ i :: post) _ _ (pre ++ [i0]) h4 (fun j hj => hlt j (by simp [hj])) (fun a ha hact => by
        rw [List.mem_append, List.mem_singleton] at ha
        cases hi0 : isAct T ops i0 with
        | true =>
          rcases ha with ha | rfl
          · exact ⟨i0, rfl, hlt i0 (by simp), .inr (hbef a ha hact)⟩
          · exact ⟨a, rfl, hlt a (by simp), .inl rfl⟩
        | false =>
          rcases ha with ha | rfl
          · exact hp a ha hact
          · rw [hi0] at hact; cases hact) htr xs i post rfl
      simpa using this
theorem Before.trans {a b c : Nat} (h1 : Before ops a b) (h2 : Before ops b c) : Before ops a c := by
  induction h2 with
  | one hd => exact .step h1 hd
  | step _ hd ih => exact .step ih hd
theorem tmpOk_spec {n M i : Nat} {ts : List Tmp} : ∀ (l : List Oper) (j : Nat), tmpOk n M i ts l j = true → ∀ k o d, l[k]? = some o → o.dst = some d → d ∈ ts → i = j + k ∨ waits n M i (j + k) = true ∨ waits n M (j + k) i = true
  | [], j, _, k, o, d, hk, _, _ => by simp at hk
  | x :: r, j, hh, k, o, d, hk, hd, hm => by
    simp only [tmpOk, Bool.and_eq_true] at hh
    cases k with
    | zero =>
      simp only [List.getElem?_cons_zero, Option.some.injEq] at hk
      subst hk
      rw [hd] at hh
      simp only [Bool.or_eq_true, Bool.not_eq_true'] at hh
      rcases hh.1 with ((h1 | h1) | h1) | h1
      · have : ts.contains d = true := by simpa using hm
        rw [this] at h1
        cases h1
      · exact .inl (Nat.eq_of_beq_eq_true h1)
      · exact .inr (.inl h1)
      · exact .inr (.inr h1)
    | succ k =>
      rw [List.getElem?_cons_succ] at hk
      have := tmpOk_spec r (j + 1) hh.2 k o d hk hd hm
      rwa [show j + 1 + k = j + (k + 1) by omega] at this
theorem tmpsOk_spec {n M : Nat} : ∀ (l : List Oper) (i : Nat), tmpsOk n M ops l i = true → ∀ k o, l[k]? = some o → tmpOk n M (i + k) (namesOf ops o) ops.toList 0 = true
  | [], i, _, k, o, hk => by simp at hk
  | x :: r, i, hh, k, o, hk => by
    simp only [tmpsOk, Bool.and_eq_true] at hh
    cases k with
    | zero =>
      simp only [List.getElem?_cons_zero, Option.some.injEq] at hk
      subst hk
      exact hh.1
    | succ k =>
      rw [List.getElem?_cons_succ] at hk
      have := tmpsOk_spec r (i + 1) hh.2 k o hk
      rwa [show i + 1 + k = i + (k + 1) by omega] at this
structure Ord (T : TT) (ops : Array Oper) (l : List Nat) : Prop where
  all : ∀ j, j < ops.size → j ∈ l
  oper : ∀ j ∈ l, ∃ o, ops[j]? = some o
  nodup : ∀ pre i post, l = pre ++ i :: post → i ∉ pre
  lin : ∀ pre i post, l = pre ++ i :: post → ∀ j, Direct ops j i → j ∈ pre
  acts : ∀ pre i post, l = pre ++ i :: post → ∀ a ∈ pre, isAct T ops a = true → Before ops a i
  tmps : ∀ i j oi oj d, ops[i]? = some oi → ops[j]? = some oj → oj.dst = some d → d ∈ namesOf ops oi → i = j ∨ Before ops j i ∨ Before ops i j
  waits : ∀ i k, k < ops.size → waits ops.size (mat ops) i k = true → Before ops k i
theorem okD_ord (hok : okD T ops = true) : Ord T ops (orderD T ops) := by
  simp only [okD, Bool.and_eq_true] at hok
  obtain ⟨h1, h2⟩ := hok
  obtain ⟨k1, k2⟩ := linOk_lin _ 0 none [] h1 (fun j => by simp)
  simp only [List.nil_append] at k1 k2
  have hmem : ∀ j ∈ orderD T ops, ∃ pre post, orderD T ops = pre ++ j :: post := fun j hj => by
    obtain ⟨a, b, h⟩ := List.append_of_mem hj
    exact ⟨a, b, h⟩
  have hoper : ∀ j ∈ orderD T ops, ∃ o, ops[j]? = some o := fun j hj => by
    obtain ⟨a, b, h⟩ := hmem j hj
    exact (k1 a j b h).1
  have hlt : ∀ j ∈ orderD T ops, j < ops.size := fun j hj => by
    obtain ⟨o, ho⟩ := hoper j hj
    exact (Array.getElem?_eq_some_iff.1 ho).1
  have hin : ∀ j i, Direct ops j i → j < ops.size := fun j i hd => by
    obtain ⟨o, e, g1, _⟩ := id hd
    have hi := (Array.getElem?_eq_some_iff.1 g1).1
    obtain ⟨a, b, h⟩ := hmem i (k2 i hi)
    have := (k1 a i b h).2.2 j hd
    exact hlt j (by rw [h]; simp [this])
  have hM : GoodM ops ops.size (mat ops) := matOf_good hin ops.toList 0 0 (fun k => by rw [Nat.zero_add, Array.getElem?_toList]) (fun p hp => by simp at hp)
  refine ⟨k2, hoper, fun pre i post h => (k1 pre i post h).2.1, fun pre i post h => (k1 pre i post h).2.2, fun pre i post h a ha hact => ?_, fun i j oi oj d hi hj hd hm => ?_, fun i k hk hw => hM.waits hk hw⟩
  · exact linOk_acts hM _ 0 none [] h1 hlt (fun a ha => by cases ha) (fun x y => x.trans y) pre i post h a (by simpa using ha) hact
  · have e1 := tmpsOk_spec _ 0 h2 i oi (by rw [Array.getElem?_toList]; exact hi)
    have e2 := tmpOk_spec _ 0 e1 j oj d (by rw [Array.getElem?_toList]; exact hj) hd hm
    simp only [Nat.zero_add] at e2
    have hil := (Array.getElem?_eq_some_iff.1 hi).1
    have hjl := (Array.getElem?_eq_some_iff.1 hj).1
    rcases e2 with e2 | e2 | e2
    · exact .inl e2
    · exact .inr (.inl (hM.waits hjl e2))
    · exact .inr (.inr (hM.waits hil e2))
end Go.Proofs.YtohbdgddnkoenaaGreat.Ex
end

section

set_option linter.unusedSimpArgs false
set_option linter.unusedVariables false
namespace Go.Proofs.YtohbdgddnkoenaaGreat.Ex
open Go Go.RowKit
variable {T : TT} {ops : Array Oper} {L : List Nat}
def on (listed : Array Bool) (i : Nat) : Prop := listed.getD i false = true
/-- What has come up is closed. -/
def ClosedX (ops : Array Oper) (listed : Array Bool) : Prop := ∀ j i, Direct ops j i → on listed i → on listed j
theorem ClosedX.before {listed : Array Bool} (hc : ClosedX ops listed) {j i : Nat} (hb : Before ops j i) (hi : on listed i) : on listed j := by
  induction hb with
  | one hd => exact hc _ _ hd hi
  | step _ hd ih => exact ih (hc _ _ hd hi)
def ReadyX (ops : Array Oper) (listed : Array Bool) (i : Nat) : Prop := i < listed.size ∧ ¬ on listed i ∧ i < ops.size ∧ ∀ j, Direct ops j i → on listed j
theorem ready_X {listed : Array Bool} {i : Nat} (hr : i ∈ Region.ready .any ops listed) : ReadyX ops listed i := by
  obtain ⟨h1, o, ho, h2⟩ := mem_ready.1 hr
  have hlt : i < listed.size := by
    rcases Nat.lt_or_ge i listed.size with h' | h'
    · exact h'
    · simp [Array.getElem?_eq_none h'] at h1
  refine ⟨hlt, fun hh => ?_, (Array.getElem?_eq_some_iff.1 ho).1, fun j hd => ?_⟩
  · simp only [on] at hh
    simp [hlt] at h1 hh
    rw [h1] at hh
    cases hh
  · obtain ⟨o', e, g1, g2, g3, g4⟩ := hd
    rw [ho] at g1
    obtain rfl := Option.some.inj g1
    subst g4
    exact h2 e (by simpa using g2) g3
theorem X_ready {listed : Array Bool} {i : Nat} (hr : ReadyX ops listed i) : i ∈ Region.ready .any ops listed := by
  obtain ⟨h1, h2, h3, h4⟩ := hr
  refine mem_ready.2 ⟨?_, ops[i], Array.getElem?_eq_getElem h3, fun e he hb => h4 e.on ⟨ops[i], e, Array.getElem?_eq_getElem h3, by simpa using he, hb, rfl⟩⟩
  simp only [on] at h2
  simp [h1] at h2 ⊢
  exact h2
theorem ReadyX.before {listed : Array Bool} {i j : Nat} (hc : ClosedX ops listed) (hr : ReadyX ops listed i) (hb : Before ops j i) : on listed j := by
  cases hb with
  | one hd => exact hr.2.2.2 _ hd
  | step hb hd => exact hc.before hb (hr.2.2.2 _ hd)
theorem on_set {listed : Array Bool} {i j : Nat} (hi : i < listed.size) : on (listed.setIfInBounds i true) j ↔ on listed j ∨ j = i := by
  simp only [on]
  by_cases hij : i = j
  · subst hij
    simp [hi]
  · rw [getD_set_ne false hij]
    constructor
    · exact .inl
    · rintro (h | h)
      · exact h
      · exact absurd h.symm hij
theorem ClosedX.set {listed : Array Bool} {i : Nat} (hc : ClosedX ops listed) (hr : ReadyX ops listed i) : ClosedX ops (listed.setIfInBounds i true) := by
  intro j k hd hk
  rw [on_set hr.1] at hk ⊢
  rcases hk with hk | rfl
  · exact .inl (hc j k hd hk)
  · exact .inl (hr.2.2.2 j hd)
theorem Ord.before (ho : Ord T ops L) {a b : Nat} (hb : Before ops a b) : ∀ {pre post : List Nat}, L = pre ++ b :: post → a ∈ pre := by
  induction hb with
  | one hd => intro pre post h; exact ho.lin pre _ post h _ hd
  | step hb hd ih =>
    rename_i k i
    intro pre post h
    have h1 := ho.lin pre _ post h _ hd
    obtain ⟨p, q, rfl⟩ := List.append_of_mem h1
    have := ih (pre := p) (post := q ++ i :: post) (by rw [h]; simp)
    simp [this]
/-- As long as not all has come up, something may. -/
theorem Ord.some_ready (ho : Ord T ops L) {listed : Array Bool} (hs : listed.size = ops.size) {j : Nat} (hj : j < ops.size) (hn : ¬ on listed j) : ∃ i, ReadyX ops listed i := by
  have key : ∀ (post pre : List Nat), L = pre ++ post → (∀ x ∈ pre, on listed x) → (∀ x ∈ L, on listed x) ∨ ∃ i, ReadyX ops listed i := by
    intro post
    induction post with
    | nil => intro pre h hp; exact .inl (by rw [h, List.append_nil]; exact hp)
    | cons x r ih =>
      intro pre h hp
      by_cases hx : on listed x
      · exact ih (pre ++ [x]) (by rw [h]; simp) (fun y hy => by
          rw [List.mem_append, List.mem_singleton] at hy
          rcases hy with hy | rfl
          · exact hp y hy
          · exact hx)
      · obtain ⟨o, hox⟩ := ho.oper x (by rw [h]; simp)
        have hlt := (Array.getElem?_eq_some_iff.1 hox).1
        exact .inr ⟨x, by omega, hx, hlt, fun k hd => hp k (ho.lin pre x r h k hd)⟩
  rcases key L [] rfl (fun x hx => by cases hx) with h | h
  · exact absurd (h j (ho.all j hj)) hn
  · exact h
/-- An order that may be drawn. -/
def LinR (ops : Array Oper) : List Nat → Array Bool → Prop
  | [], listed => ∀ j, j < ops.size → on listed j
  | i :: r, listed => ReadyX ops listed i ∧ LinR ops r (listed.setIfInBounds i true)
def left (listed : Array Bool) : Nat → Nat
  | 0 => 0
  | n + 1 => left listed n + (if listed.getD n false = true then 0 else 1)
theorem left_zero {listed : Array Bool} : ∀ {n : Nat}, left listed n = 0 → ∀ j, j < n → on listed j
  | 0, _, j, hj => by omega
  | n + 1, hl, j, hj => by
    simp only [left] at hl
    by_cases hjn : j = n
    · subst hjn
      simp only [on]
      split at hl
      · assumption
      · omega
    · exact left_zero (n := n) (by omega) j (by omega)
theorem left_set_ge {listed : Array Bool} {i : Nat} : ∀ {n : Nat}, n ≤ i → left (listed.setIfInBounds i true) n = left listed n
  | 0, _ => rfl
  | n + 1, h => by
    simp only [left]
    rw [left_set_ge (by omega), getD_set_ne false (by omega)]
theorem left_set {listed : Array Bool} {i : Nat} (hi : i < listed.size) (hn : ¬ on listed i) : ∀ {n : Nat}, i < n → left (listed.setIfInBounds i true) n + 1 = left listed n
  | n + 1, h => by
    simp only [left]
    by_cases hin : i = n
    · subst hin
      rw [left_set_ge (Nat.le_refl _)]
      simp only [on] at hn
      have : (listed.setIfInBounds i true).getD i false = true := by simp [hi]
      rw [if_pos this, if_neg hn]
    · have := left_set hi hn (n := n) (by omega)
      rw [getD_set_ne false hin]
      omega
theorem go_LinR (ho : Ord T ops L) : ∀ (fuel t : Nat) (listed : Array Bool), listed.size = ops.size → left listed ops.size = fuel → LinR ops (Region.linearise.go .any ops fuel t listed []) listed := by
  intro fuel
  induction fuel with
  | zero => intro t listed hs hl; exact left_zero hl
  | succ fuel ih =>
    intro t listed hs hl
    simp only [Region.linearise.go]
    change LinR ops (match (Region.ready .any ops listed)[t % (Region.ready .any ops listed).length]? with
      | some i => Region.linearise.go .any ops fuel (t / (Region.ready .any ops listed).length) (listed.setIfInBounds i true) [i]
      | none => [].reverse) listed
    cases hi : (Region.ready .any ops listed)[t % (Region.ready .any ops listed).length]? with
    | none =>
      have hnil : Region.ready .any ops listed = [] := by
        cases hr : Region.ready .any ops listed with
        | nil => rfl
        | cons x xs =>
          rw [hr] at hi
          have hlt : t % (x :: xs).length < (x :: xs).length := Nat.mod_lt _ (by simp)
          simp at hi
          simp at hlt
          omega
      intro j hj
      by_cases hon : on listed j
      · exact hon
      · obtain ⟨i, hr⟩ := ho.some_ready hs hj hon
        have := X_ready hr
        rw [hnil] at this
        cases this
    | some i =>
      simp only []
      rw [linearise_go_acc, List.reverse_singleton, List.singleton_append]
      have hr := ready_X (List.mem_of_getElem? hi)
      exact ⟨hr, ih _ _ (by simpa using hs) (by have := left_set hr.1 hr.2.1 hr.2.2.1; omega)⟩
theorem left_false : ∀ (n m : Nat), left (Array.replicate m false) n = n
  | 0, _ => rfl
  | n + 1, m => by
    simp only [left]
    rw [left_false n m, if_neg]
    simp only [Array.getD_eq_getD_getElem?, Array.getElem?_replicate]
    split <;> simp
theorem linearise_LinR (ho : Ord T ops L) (t : Nat) : LinR ops (Region.linearise .any ops t) (Array.replicate ops.size false) :=
  go_LinR ho ops.size t _ (by simp) (left_false _ _)
theorem closed_false : ClosedX ops (Array.replicate ops.size false) := by
  intro j i _ hi
  simp only [on, Array.getD_eq_getD_getElem?, Array.getElem?_replicate] at hi
  split at hi <;> simp at hi
end Go.Proofs.YtohbdgddnkoenaaGreat.Ex
end

section

set_option linter.unusedSimpArgs false
set_option linter.unusedVariables false
namespace Go.Proofs.YtohbdgddnkoenaaGreat.Ex
open Go Go.RowKit
variable {P : Program} {T : TT} {S : Sums} {ρ : Nat → Value} {fl : Nat} {ops : Array Oper} {h : AH}
def actK : Kind → Bool
  | .acts => true
  | _ => false
theorem isAct_eq {T : TT} {ops : Array Oper} {i : Nat} {o : Oper} (ho : ops[i]? = some o) : isAct T ops i = actK (kindOf T o) := by
  unfold isAct
  rw [ho]
  dsimp only
  cases kindOf T o <;> rfl
abbrev Reads := List (Nat × RD × AV)
structure Ent where
  i : Nat
  o : Oper
  tmps : TM
  h : AH
  v : AV
  h1 : AH
/-- Does one see the same operands? -/
def Agree (o : Oper) (t1 t2 : TM) : Prop := ∀ x ∈ o.op.operands, evalA t1 x = evalA t2 x
/-- The real machine does the operation so. -/
def RunOK (P : Program) (ρ : Nat → Value) (fl : Nat) (o : Oper) (t : TM) (h : AH) (v : AV) (h1 : AH) : Prop :=
  ∀ (μ : Mu) (w : World) (f : Frame) (cs : List Frame) (ops : Array Oper) (i : Nat) (r : List Nat) (l : List Item), HR P ρ fl μ h w → EnvR ρ μ w t f.eval → f.mode = .run → f.todo = .inRegion ops (i :: r) :: l → ops[i]? = some o → Region.wanted o (yielded ops f.tmps) = true →
    ∃ μ' w' v', Eff P ρ fl μ h w μ' h1 w' ∧ rel ρ μ' w' v v' ∧ Steps P (lone f cs w) (lone (f.finish v') cs w')
theorem runOK_val {o : Oper} {t : TM} {v : AV} {h1 : AH} (hT : TT.Sound P T) (ha : aop P T o t h = some (.val v, h1)) : RunOK P ρ fl o t h v h1 := by
  intro μ w f cs ops i r l hr he hm ht ho hw
  obtain ⟨μ', w', v', q1, q2, q3⟩ := aop_sound hT hr he ha
  exact ⟨μ', w', v', q2, q3, .one (step_value hm ht ho hw (.inr (not_defer ha (fun _ _ => by simp))) q1)⟩
def keep (ops : Array Oper) (i : Nat) (rs : Reads) : Reads := rs.filter fun (j, _, _) => !waits ops.size (mat ops) i j
/-- One operation, as the abstract machine did it. -/
def StepR (P : Program) (T : TT) (ρ : Nat → Value) (fl : Nat) (ops : Array Oper) (e : Ent) (rs rs1 : Reads) : Prop :=
  ops[e.i]? = some e.o ∧ ((wantedA ops e.tmps e.o = some false ∧ e.v = aundef ∧ e.h1 = e.h ∧ (match kindOf T e.o with | .acts => hold T e.h rs = true ∧ rs1 = keep ops e.i rs | _ => rs1 = rs)) ∨
    (wantedA ops e.tmps e.o = some true ∧ (match kindOf T e.o with
      | .acts => hold T e.h rs = true ∧ rs1 = keep ops e.i rs ∧ ∀ t2, Agree e.o e.tmps t2 → RunOK P ρ fl e.o t2 e.h e.v e.h1
      | .reads => aop P T e.o e.tmps e.h = some (.val e.v, e.h1) ∧ ((∃ rd, rdOf e.o e.tmps = some rd ∧ rs1 = (e.i, rd, e.v) :: rs) ∨ (rdOf e.o e.tmps = none ∧ (litOp P e.o e.tmps).isSome = true ∧ rs1 = rs))
      | _ => aop P T e.o e.tmps e.h = some (.val e.v, e.h1) ∧ rs1 = rs)))
def Tr (P : Program) (T : TT) (ρ : Nat → Value) (fl : Nat) (ops : Array Oper) : List Ent → TM → AH → Reads → TM → AH → Reads → Prop
  | [], t, h, rs, t', h', rs' => t' = t ∧ h' = h ∧ rs' = rs
  | e :: r, t, h, rs, t', h', rs' => e.tmps = t ∧ e.h = h ∧ ∃ rs1, StepR P T ρ fl ops e rs rs1 ∧ Tr P T ρ fl ops r (setTmp t e.o.dst e.v) e.h1 rs1 t' h' rs'
theorem calledD_ok {rec : Rec} {fr : AFr} {o : Oper} {it : AI} {k : List AI} {x : Option Outs} {L : Outs} (hx : xCalledD rec fr o it k x = some L) :
    ∃ v cm h2, x = some [(.ended (.ret v) cm, h2)] ∧ fin rec fr o it k v h2 = some L := by
  unfold xCalledD at hx
  split at hx
  · exact ⟨_, _, _, rfl, hx⟩
  · cases hx
theorem trace_of (hT : TT.Sound P T) (hNG : NoNG P) : ∀ (l : List Nat) (n : Nat) (fr : AFr) (rs : Reads) (k : List AI) (h : AH) (L : Outs), (∀ m, m < n → RecOK P ρ fl (ex P T S m)) →
    ex P T S n (.body { fr with todo := .regD ops l rs :: k }) h = some L →
    ∃ es tf hf rsf m, es.map (·.i) = l ∧ Tr P T ρ fl ops es fr.tmps h rs tf hf rsf ∧ hold T hf rsf = true ∧ m < n ∧ ex P T S m (.body { fr with tmps := tf, todo := k }) hf = some L
  | [], n, fr, rs, k, h, L, _, hx => by
    cases n with
    | zero => cases hx
    | succ n =>
      simp only [ex, xStep, xBody, xItem] at hx
      split at hx
      · rename_i hh
        exact ⟨[], fr.tmps, h, rs, n, rfl, ⟨rfl, rfl, rfl⟩, hh, Nat.lt_succ_self n, hx⟩
      · cases hx
  | i :: r, n, fr, rs, k, h, L, hrec, hx => by
    cases n with
    | zero => cases hx
    | succ n =>
      simp only [ex, xStep, xBody, xItem, xRegD] at hx
      split at hx
      case h_2 => cases hx
      rename_i o ho
      -- what is left behind the head
      have go : ∀ (v : AV) (h2 : AH) (rs1 : Reads), fin (ex P T S n) { fr with todo := .regD ops (i :: r) rs :: k } o (.regD ops r rs1) k v h2 = some L → StepR P T ρ fl ops { i, o, tmps := fr.tmps, h, v, h1 := h2 } rs rs1 →
          ∃ es tf hf rsf m, es.map (·.i) = i :: r ∧ Tr P T ρ fl ops es fr.tmps h rs tf hf rsf ∧ hold T hf rsf = true ∧ m < n + 1 ∧ ex P T S m (.body { fr with tmps := tf, todo := k }) hf = some L := fun v h2 rs1 hfin hstep => by
        obtain ⟨es, tf, hf, rsf, m, q1, q2, q3, q4, q5⟩ := trace_of hT hNG r n { fr with tmps := setTmp fr.tmps o.dst v } rs1 k h2 L (fun m hm => hrec m (by omega)) hfin
        exact ⟨{ i, o, tmps := fr.tmps, h, v, h1 := h2 } :: es, tf, hf, rsf, m, by simp [q1], ⟨rfl, rfl, rs1, hstep, q2⟩, q3, by omega, q5⟩
      have hact : isAct T ops i = actK (kindOf T o) := isAct_eq ho
      -- the operation done
      have one : ∀ (rs0 : Reads), (match kindOf T o with | .acts => hold T h rs = true ∧ rs0 = keep ops i rs | _ => rs0 = rs) → xRegD1 P T (ex P T S n) { fr with todo := .regD ops (i :: r) rs :: k } ops i o r rs0 k h = some L →
          ∃ es tf hf rsf m, es.map (·.i) = i :: r ∧ Tr P T ρ fl ops es fr.tmps h rs tf hf rsf ∧ hold T hf rsf = true ∧ m < n + 1 ∧ ex P T S m (.body { fr with tmps := tf, todo := k }) hf = some L := fun rs0 hrs0 hx => by
        unfold xRegD1 at hx
        split at hx
        · rename_i hwant
          have hwant : wantedA ops fr.tmps o = some true := hwant
          unfold xOpD at hx
          cases hk : kindOf T o with
          | acts =>
            rw [hk] at hx hrs0
            simp only at hx hrs0
            have build : ∀ v h2, (∀ t2, Agree o fr.tmps t2 → RunOK P ρ fl o t2 h v h2) → StepR P T ρ fl ops { i, o, tmps := fr.tmps, h, v, h1 := h2 } rs rs0 := fun v h2 hrun =>
              ⟨ho, .inr ⟨hwant, by simp only [hk]; exact ⟨hrs0.1, hrs0.2, hrun⟩⟩⟩
            split at hx
            · rename_i v h2 ha
              exact go v h2 rs0 hx (build v h2 fun t2 hag => runOK_val hT (by rw [← aop_congr hag]; exact ha))
            · rename_i g args h2 ha
              obtain ⟨v, cm, h3, hc, hfin⟩ := calledD_ok hx
              refine go v h3 rs0 hfin (build v h3 fun t2 hag => ?_)
              intro μ w f cs ops' i' r' l hr he hm ht ho' hw
              obtain ⟨rfl, args', q1, q2⟩ := aop_sound hT hr he (show aop P T o t2 h = some (.enter g args, h2) by rw [← aop_congr hag]; exact ha)
              obtain ⟨s1, e5, h5, hm5, μ1, w1, s2, s5⟩ := call_back hNG (hrec n (by omega)) hc hr q1 f cs
              cases List.mem_singleton.1 hm5
              obtain ⟨v', s3, s4⟩ := s5
              rw [s1] at q2
              exact ⟨μ1, w1, v', s2, s3, .head (step_enter hm ht ho' hw (.inr (not_defer ha (fun _ _ => by simp))) q2) s4⟩
            · rename_i l0 args h2 ha
              obtain ⟨v, cm, h3, hc, hfin⟩ := calledD_ok hx
              refine go v h3 rs0 hfin (build v h3 fun t2 hag => ?_)
              intro μ w f cs ops' i' r' l hr he hm ht ho' hw
              obtain ⟨rfl, rl, args', q0, q1, q2⟩ := aop_sound hT hr he (show aop P T o t2 h = some (.round l0 args, h2) by rw [← aop_congr hag]; exact ha)
              have s0 := hrec n (by omega) _ _ _ hc
              obtain ⟨g, tm, asg, body, s1, e5, h5, hm5, μ1, w1, s2, s5⟩ := s0 μ w f cs args' rl hr q0 q1
              cases List.mem_singleton.1 hm5
              obtain ⟨v', s3, s4⟩ := s5
              rw [s1] at q2
              exact ⟨μ1, w1, v', s2, s3, .head (step_round hm ht ho' hw (.inr (not_defer ha (fun _ _ => by simp))) q2) s4⟩
            · cases hx
          | reads =>
            rw [hk] at hx hrs0
            simp only at hx hrs0
            subst hrs0
            split at hx
            case h_2 => cases hx
            rename_i v h2 ha
            cases hrd : rdOf o fr.tmps with
            | some rd =>
              rw [hrd] at hx
              exact go v h2 _ hx ⟨ho, .inr ⟨hwant, by simp only [hk]; exact ⟨ha, .inl ⟨rd, hrd, rfl⟩⟩⟩⟩
            | none =>
              rw [hrd] at hx
              simp only at hx
              cases hl : (litOp P o fr.tmps).isSome with
              | false => rw [hl] at hx; cases hx
              | true =>
                rw [hl] at hx
                exact go v h2 _ hx ⟨ho, .inr ⟨hwant, by simp only [hk]; exact ⟨ha, .inr ⟨hrd, hl, trivial⟩⟩⟩⟩
          | still =>
            rw [hk] at hx hrs0
            simp only at hx hrs0
            subst hrs0
            split at hx
            case h_2 => cases hx
            rename_i v h2 ha
            exact go v h2 _ hx ⟨ho, .inr ⟨hwant, by simp only [hk]; exact ⟨ha, trivial⟩⟩⟩
          | alloc =>
            rw [hk] at hx hrs0
            simp only at hx hrs0
            subst hrs0
            split at hx
            case h_2 => cases hx
            rename_i v h2 ha
            exact go v h2 _ hx ⟨ho, .inr ⟨hwant, by simp only [hk]; exact ⟨ha, trivial⟩⟩⟩
        · rename_i hwant
          exact go aundef h rs0 hx ⟨ho, .inl ⟨hwant, rfl, rfl, hrs0⟩⟩
        · cases hx
      split at hx
      · rename_i hia
        rw [hact] at hia
        split at hx
        · rename_i hh
          refine one _ ?_ hx
          cases hk : kindOf T o <;> rw [hk] at hia <;> first | exact ⟨hh, rfl⟩ | cases hia
        · cases hx
      · rename_i hia
        rw [hact] at hia
        refine one _ ?_ hx
        cases hk : kindOf T o <;> rw [hk] at hia <;> first | rfl | exact absurd rfl hia
end Go.Proofs.YtohbdgddnkoenaaGreat.Ex
end

section

set_option linter.unusedSimpArgs false
set_option linter.unusedVariables false
namespace Go.Proofs.YtohbdgddnkoenaaGreat.Ex
open Go Go.RowKit
variable {P : Program} {T : TT} {S : Sums} {ρ : Nat → Value} {fl : Nat} {ops : Array Oper} {h : AH}
def setTmpL (t : List AV) (d : Option Tmp) (v : AV) : List AV := match d with
  | some k => t.set k v
  | none => t
theorem setTmp_L (t : TM) (d : Option Tmp) (v : AV) : (setTmp t d v).L = setTmpL t.L d v := by
  cases d with
  | none => rfl
  | some k => exact TL_set _ _ _
theorem setTmpL_rels {μ : Mu} {w : World} {tmps : List AV} {rt : Array Value} {d : Option Tmp} {a : AV} {v : Value} (ht : rels ρ μ w tmps rt.toList) (hv : rel ρ μ w a v) : rels ρ μ w (setTmpL tmps d a) (match d with | some d => rt.setIfInBounds d v | none => rt).toList := by
  cases d with
  | none => exact ht
  | some d => simp only [setTmpL, Array.toList_setIfInBounds]; exact rels_set d ht hv
theorem setTmpL_length (t : List AV) (d : Option Tmp) (v : AV) : (setTmpL t d v).length = t.length := by cases d <;> simp [setTmpL]
theorem setTmpL_ne {t : List AV} {d : Option Tmp} {v : AV} {k : Nat} (hd : d ≠ some k) : (setTmpL t d v)[k]? = t[k]? := by
  cases d with
  | none => rfl
  | some j => exact List.getElem?_set_ne (fun e => hd (by rw [e]))
theorem setTmpL_get {t1 t2 : List AV} {d : Option Tmp} {v : AV} {k : Nat} (hl : t1.length = t2.length) (hk : t1[k]? = t2[k]?) : (setTmpL t1 d v)[k]? = (setTmpL t2 d v)[k]? := by
  cases d with
  | none => exact hk
  | some j =>
    simp only [setTmpL, List.getElem?_set, hl, hk]
theorem setTmpL_comm {t : List AV} {d1 d2 : Option Tmp} {v1 v2 : AV} (hd : ∀ d, d1 = some d → d2 ≠ some d) : setTmpL (setTmpL t d1 v1) d2 v2 = setTmpL (setTmpL t d2 v2) d1 v1 := by
  cases d1 with
  | none => rfl
  | some i =>
    cases d2 with
    | none => rfl
    | some j => exact List.set_comm _ _ (fun e => hd i rfl (by rw [e]))
def foldX (listed : Array Bool) : List Ent → List AV → List AV
  | [], t => t
  | e :: r, t => foldX listed r (if listed.getD e.i false = true then setTmpL t e.o.dst e.v else t)
def foldA : List Ent → List AV → List AV
  | [], t => t
  | e :: r, t => foldA r (setTmpL t e.o.dst e.v)
theorem foldX_append (listed : Array Bool) : ∀ (a b : List Ent) (t : List AV), foldX listed (a ++ b) t = foldX listed b (foldX listed a t)
  | [], _, _ => rfl
  | e :: r, b, t => foldX_append listed r b _
theorem fold_get {listed : Array Bool} {k : Nat} : ∀ (es : List Ent) (t1 t2 : List AV), t1.length = t2.length → t1[k]? = t2[k]? → (∀ x ∈ es, x.o.dst = some k → on listed x.i) → (foldX listed es t1)[k]? = (foldA es t2)[k]?
  | [], _, _, _, hk, _ => hk
  | e :: r, t1, t2, hl, hk, hx => by
    simp only [foldX, foldA]
    split
    · exact fold_get r _ _ (by rw [setTmpL_length, setTmpL_length, hl]) (setTmpL_get hl hk) (fun x hm => hx x (by simp [hm]))
    · rename_i hn
      have : e.o.dst ≠ some k := fun hd => hn (hx e (by simp) hd)
      exact fold_get r _ _ (by rw [setTmpL_length, hl]) (by rw [setTmpL_ne this, hk]) (fun x hm => hx x (by simp [hm]))
theorem foldX_none {listed : Array Bool} {k : Nat} : ∀ (es : List Ent) (t : List AV), (∀ x ∈ es, x.o.dst = some k → ¬ on listed x.i) → (foldX listed es t)[k]? = t[k]?
  | [], _, _ => rfl
  | e :: r, t, hx => by
    simp only [foldX]
    rw [foldX_none r _ (fun x hm => hx x (by simp [hm]))]
    split
    · rename_i hon
      exact setTmpL_ne (fun hd => hx e (by simp) hd hon)
    · rfl
theorem foldX_same {l1 l2 : Array Bool} : ∀ (es : List Ent) (t : List AV), (∀ x ∈ es, l1.getD x.i false = l2.getD x.i false) → foldX l1 es t = foldX l2 es t
  | [], _, _ => rfl
  | e :: r, t, hx => by
    simp only [foldX]
    rw [hx e (by simp)]
    exact foldX_same r _ (fun x hm => hx x (by simp [hm]))
theorem foldX_put {listed : Array Bool} {d : Option Tmp} {v : AV} : ∀ (es : List Ent) (t : List AV), (∀ x ∈ es, on listed x.i → ∀ k, d = some k → x.o.dst ≠ some k) → foldX listed es (setTmpL t d v) = setTmpL (foldX listed es t) d v
  | [], _, _ => rfl
  | e :: r, t, hx => by
    simp only [foldX]
    rw [← foldX_put r _ (fun x hm => hx x (by simp [hm]))]
    congr 1
    split
    · rename_i hon
      exact setTmpL_comm (fun k hk => hx e (by simp) hon k hk)
    · rfl
theorem foldX_set {listed : Array Bool} {e : Ent} {pre post : List Ent} {t : List AV} (hi : e.i < listed.size) (hn : ¬ on listed e.i) (h1 : ∀ x ∈ pre, x.i ≠ e.i) (h2 : ∀ x ∈ post, x.i ≠ e.i)
    (h3 : ∀ x ∈ post, on listed x.i → ∀ k, e.o.dst = some k → x.o.dst ≠ some k) : foldX (listed.setIfInBounds e.i true) (pre ++ e :: post) t = setTmpL (foldX listed (pre ++ e :: post) t) e.o.dst e.v := by
  rw [foldX_append, foldX_append]
  simp only [foldX]
  have e1 : (listed.setIfInBounds e.i true).getD e.i false = true := by simp [hi]
  have hn' : ¬ listed.getD e.i false = true := hn
  rw [if_pos e1, if_neg hn']
  rw [foldX_same (l1 := listed.setIfInBounds e.i true) (l2 := listed) pre t (fun x hx => getD_set_ne false (Ne.symm (h1 x hx)))]
  rw [foldX_same (l1 := listed.setIfInBounds e.i true) (l2 := listed) post _ (fun x hx => getD_set_ne false (Ne.symm (h2 x hx)))]
  exact foldX_put post _ h3
theorem foldX_false {n : Nat} : ∀ (es : List Ent) (t : List AV), foldX (Array.replicate n false) es t = t
  | [], _ => rfl
  | e :: r, t => by
    simp only [foldX]
    rw [if_neg, foldX_false r t]
    simp only [Array.getD_eq_getD_getElem?, Array.getElem?_replicate]
    split <;> simp
theorem foldX_all {listed : Array Bool} : ∀ (es : List Ent) (t : List AV), (∀ x ∈ es, on listed x.i) → foldX listed es t = foldA es t
  | [], _, _ => rfl
  | e :: r, t, hx => by
    simp only [foldX, foldA]
    have hn' : listed.getD e.i false = true := hx e (by simp)
    rw [if_pos hn']
    exact foldX_all r _ (fun x hm => hx x (by simp [hm]))
theorem Tr.tmps : ∀ {es : List Ent} {t t' : TM} {h h' : AH} {rs rs' : Reads}, Tr P T ρ fl ops es t h rs t' h' rs' → t'.L = foldA es t.L
  | [], _, _, _, _, _, _, tr => by rw [tr.1]; rfl
  | e :: r, _, _, _, _, _, _, tr => by
    obtain ⟨_, _, _, _, h4⟩ := tr
    rw [Tr.tmps (es := r) h4, setTmp_L]
    rfl
theorem Tr.split : ∀ {a b : List Ent} {t t' : TM} {h h' : AH} {rs rs' : Reads}, Tr P T ρ fl ops (a ++ b) t h rs t' h' rs' → ∃ tm hm rm, Tr P T ρ fl ops a t h rs tm hm rm ∧ Tr P T ρ fl ops b tm hm rm t' h' rs'
  | [], b, t, t', h, h', rs, rs', tr => ⟨t, h, rs, ⟨rfl, rfl, rfl⟩, tr⟩
  | e :: r, b, t, t', h, h', rs, rs', tr => by
    obtain ⟨h1, h2, rs1, h3, h4⟩ := tr
    obtain ⟨tm, hm, rm, q1, q2⟩ := Tr.split h4
    exact ⟨tm, hm, rm, ⟨h1, h2, rs1, h3, q1⟩, q2⟩
theorem Tr.join : ∀ {a b : List Ent} {t tm t' : TM} {h hm h' : AH} {rs rm rs' : Reads}, Tr P T ρ fl ops a t h rs tm hm rm → Tr P T ρ fl ops b tm hm rm t' h' rs' → Tr P T ρ fl ops (a ++ b) t h rs t' h' rs'
  | [], b, _, _, _, _, _, _, _, _, _, ha, hb => by
    obtain ⟨rfl, rfl, rfl⟩ := ha
    exact hb
  | e :: r, b, _, _, _, _, _, _, _, _, _, ha, hb => by
    obtain ⟨h1, h2, rs1, h3, h4⟩ := ha
    exact ⟨h1, h2, rs1, h3, Tr.join h4 hb⟩
/-! Between two acts. -/
def Pend (T : TT) (ops : Array Oper) (e : Ent) : Prop := kindOf T e.o = .alloc ∧ wantedA ops e.tmps e.o = some true
theorem rest_step (hT : TT.Sound P T) {e : Ent} {rs rs1 : Reads} (hs : StepR P T ρ fl ops e rs rs1) (hna : actK (kindOf T e.o) = false) :
    ((Pend T ops e ∧ ∃ ab, e.h1 = e.h.push ab) ∨ (¬ Pend T ops e ∧ e.h1 = e.h)) ∧ (∀ x ∈ rs, x ∈ rs1) ∧ (∀ rd, kindOf T e.o = .reads → wantedA ops e.tmps e.o = some true → rdOf e.o e.tmps = some rd → (e.i, rd, e.v) ∈ rs1) := by
  obtain ⟨ho, ⟨hw, hv, hh, hr⟩ | ⟨hw, hr⟩⟩ := hs
  · have hnp : ¬ Pend T ops e := fun hp => by rw [hp.2] at hw; cases hw
    refine ⟨.inr ⟨hnp, hh⟩, ?_, fun rd _ hw2 _ => by rw [hw2] at hw; cases hw⟩
    cases hk : kindOf T e.o with
    | acts => rw [hk] at hna; cases hna
    | _ => rw [hk] at hr; subst hr; exact fun x hx => hx
  · cases hk : kindOf T e.o with
    | acts => rw [hk] at hna; cases hna
    | still =>
      rw [hk] at hr
      obtain ⟨ha, rfl⟩ := hr
      exact ⟨.inr ⟨fun hp => (by have := hp.1; rw [hk] at this; cases this), (still_any hk ha).1⟩, fun x hx => hx, fun rd hh => by cases hh⟩
    | alloc =>
      rw [hk] at hr
      obtain ⟨ha, rfl⟩ := hr
      obtain ⟨mk, ab, _, h2, _⟩ := alloc_any hT hk ha
      exact ⟨.inl ⟨⟨hk, hw⟩, ab, h2⟩, fun x hx => hx, fun rd hh => by cases hh⟩
    | reads =>
      rw [hk] at hr
      obtain ⟨ha, hr⟩ := hr
      have hnp : ¬ Pend T ops e := fun hp => by have := hp.1; rw [hk] at this; cases this
      rcases hr with ⟨rd, h1, rfl⟩ | ⟨h1, h2, rfl⟩
      · refine ⟨.inr ⟨hnp, ?_⟩, fun x hx => by simp [hx], fun rd' _ _ h2 => ?_⟩
        · obtain ⟨ds, op, ty, pos, after, guard⟩ := id e.o
          exact read_same hk ha
        · rw [h1] at h2
          obtain rfl := Option.some.inj h2
          simp
      · exact ⟨.inr ⟨hnp, (read_lit hk ha h1 h2).1⟩, fun x hx => hx, fun rd' _ _ h3 => by rw [h1] at h3; cases h3⟩
end Go.Proofs.YtohbdgddnkoenaaGreat.Ex
end

section

set_option linter.unusedSimpArgs false
set_option linter.unusedVariables false
namespace Go.Proofs.YtohbdgddnkoenaaGreat.Ex
open Go Go.RowKit
variable {P : Program} {T : TT} {S : Sums} {ρ : Nat → Value} {fl : Nat} {ops : Array Oper} {h : AH}
theorem HRL.extend {h : List AB} {μ : Mu} {w : World} (hr : HRL P ρ fl μ h w) (ex : List AB) : HRL P ρ fl μ (h ++ ex) w := by
  have key : ∀ (b : Nat) (x : Nat × Nat) (ab : AB), μ b = some x → (h ++ ex)[b]? = some ab → h[b]? = some ab := fun b x ab hb hx => by
    rwa [List.getElem?_append_left (hr.dom b x hb)] at hx
  refine ⟨hr.floor, fun b x hb => by have := hr.dom b x hb; simp; omega, fun b r base ab hb hx => hr.obj b r base ab hb (key b _ ab hb hx), fun b b' r base base' ab ab' h1 h2 h3 h4 h5 h6 => hr.inj b b' r base base' ab ab' h1 h2 (key b _ ab h1 h3) (key b' _ ab' h2 h4) h5 h6, hr.pin⟩
theorem EffL.extend {μ μ' : Mu} {w w' : World} {h h' : List AB} (e : EffL P ρ fl μ h w μ' h' w') (ex : List AB) : EffL P ρ fl μ h w μ' (h' ++ ex) w' := by
  refine ⟨e.more, by have := e.len; simp; omega, e.new, fun b hb hn => ?_, fun b hb => ?_, fun b l t hb => ?_, e.grows, e.size, e.own, e.rest, e.same, e.hr.extend ex⟩
  · rw [List.getElem?_append_left (Nat.lt_of_lt_of_le hb e.len)]
    exact e.keep b hb hn
  · have := e.gone b hb
    rw [List.getElem?_append_left (List.getElem?_eq_some_iff.1 this).1]
    exact this
  · have := e.frz b l t hb
    rw [List.getElem?_append_left (List.getElem?_eq_some_iff.1 this).1]
    exact this
/-- A block that stands in the abstract heap is made in the real one. -/
theorem EffL.late {μ μ' : Mu} {w w' : World} {h h' : List AB} {b : Nat} {ab : AB} {ob : Obj} (hr : HRL P ρ fl μ h w) (e : EffL P ρ fl μ h w μ' h' w') (hb : h.length ≤ b) (hn : μ' b = none) (hx : h'[b]? = some ab) (ho : objRel P ρ μ' w' 0 ab ob) :
    EffL P ρ fl μ h w (up μ' b (w'.heap.size, 0)) h' (w'.alloc ob) := by
  have hm : More μ' (up μ' b (w'.heap.size, 0)) := more_up hn
  have hg := grows_alloc w' ob
  have hs : (w'.alloc ob).heap.size = w'.heap.size + 1 := by simp
  have hblt := (List.getElem?_eq_some_iff.1 hx).1
  refine ⟨e.more.trans hm, e.len, fun c x h1 h2 => ?_, e.keep, e.gone, e.frz, e.grows.trans hg, by have := e.size; omega, fun c r base h1 h2 => ?_, fun r h1 h2 => ?_, e.same, ?_⟩
  · by_cases hc : c = b
    · omega
    · rw [up_ne hc] at h2
      exact e.new c x h1 h2
  · by_cases hc : c = b
    · subst hc
      rw [up_same] at h2
      simp only [Option.some.injEq, Prod.mk.injEq] at h2
      have := e.size
      exact .inl (by omega)
    · rw [up_ne hc] at h2
      exact e.own c r base h1 h2
  · rw [Below.heap_alloc w' ob r (Nat.lt_of_lt_of_le h1 e.size)]
    exact e.rest r h1 h2
  · refine ⟨by have := e.hr.floor; omega, fun c x hc => ?_, fun c r base ac hc hac => ?_, fun c c' r base base' a1 a2 h1 h2 h3 h4 h5 h6 => ?_, e.hr.pin.more hm hg⟩
    · by_cases hcb : c = b
      · omega
      · rw [up_ne hcb] at hc
        exact e.hr.dom c x hc
    · by_cases hcb : c = b
      · subst hcb
        rw [up_same] at hc
        simp only [Option.some.injEq, Prod.mk.injEq] at hc
        obtain ⟨rfl, rfl⟩ := hc
        rw [hx] at hac
        obtain rfl := Option.some.inj hac
        exact ⟨fun _ => e.hr.floor, by omega, ob, heap_alloc_new' w' ob, ho.mono hm hg⟩
      · rw [up_ne hcb] at hc
        obtain ⟨h3, h4, o', h5, h6⟩ := e.hr.obj c r base ac hc hac
        exact ⟨h3, by omega, o', by rw [Below.heap_alloc w' ob r h4]; exact h5, h6.mono hm hg⟩
    · by_cases hc1 : c = b
      · by_cases hc2 : c' = b
        · omega
        · rw [up_ne hc2] at h2
          rw [hc1, up_same] at h1
          simp only [Option.some.injEq, Prod.mk.injEq] at h1
          have := (e.hr.obj c' r base' a2 h2 h4).2.1
          omega
      · rw [up_ne hc1] at h1
        by_cases hc2 : c' = b
        · rw [hc2, up_same] at h2
          simp only [Option.some.injEq, Prod.mk.injEq] at h2
          have := (e.hr.obj c r base a1 h1 h3).2.1
          omega
        · rw [up_ne hc2] at h2
          exact e.hr.inj c c' r base base' a1 a2 h1 h2 h3 h4 h5 h6
theorem Eff.extend {μ μ' : Mu} {w w' : World} {h' h1 : AH} {ex : List AB} (e : Eff P ρ fl μ h w μ' h' w') (hh : h1.L = h'.L ++ ex) : Eff P ρ fl μ h w μ' h1 w' := by
  unfold Eff
  rw [hh]
  exact EffL.extend e ex
theorem Eff.late {μ μ' : Mu} {w w' : World} {h' : AH} {b : Nat} {ab : AB} {ob : Obj} (hr : HR P ρ fl μ h w) (e : Eff P ρ fl μ h w μ' h' w') (hb : h.n ≤ b) (hn : μ' b = none) (hx : h'.at b = some ab) (ho : objRel P ρ μ' w' 0 ab ob) :
    Eff P ρ fl μ h w (up μ' b (w'.heap.size, 0)) h' (w'.alloc ob) :=
  EffL.late hr e (by rw [L_n]; exact hb) hn (by rw [L_at]; exact hx) ho
def IsRead (T : TT) (ops : Array Oper) (e : Ent) (rd : RD) : Prop := kindOf T e.o = .reads ∧ wantedA ops e.tmps e.o = some true ∧ rdOf e.o e.tmps = some rd
/-- The operations up to the next act. -/
theorem seg (hT : TT.Sound P T) {tf : TM} {hf : AH} {rsf : Reads} : ∀ (B0 : List Ent) (tA : TM) (HA : AH) (RA : Reads), Tr P T ρ fl ops B0 tA HA RA tf hf rsf →
    ∃ Sg B tS HS RS exs, B0 = Sg ++ B ∧ Tr P T ρ fl ops Sg tA HA RA tS HS RS ∧ Tr P T ρ fl ops B tS HS RS tf hf rsf ∧ (∀ e ∈ Sg, actK (kindOf T e.o) = false) ∧ (∀ a B', B = a :: B' → actK (kindOf T a.o) = true) ∧ HS.L = HA.L ++ exs ∧
      (∀ e ∈ Sg, Pend T ops e → HA.n ≤ e.h.n ∧ e.h.n < HS.n ∧ ∃ ab, e.h1 = e.h.push ab ∧ HS.at e.h.n = some ab) ∧
      (∀ e ∈ Sg, ∀ e2 ∈ Sg, Pend T ops e → Pend T ops e2 → e.h.n = e2.h.n → e.i = e2.i) ∧ (∀ x ∈ RA, x ∈ RS) ∧ (∀ e ∈ Sg, ∀ rd, IsRead T ops e rd → (e.i, rd, e.v) ∈ RS)
  | [], tA, HA, RA, tr => ⟨[], [], tA, HA, RA, [], rfl, ⟨rfl, rfl, rfl⟩, tr, fun e he => (by cases he), fun a B' h => (by cases h), by simp, fun e he => (by cases he), fun e he => (by cases he), fun x hx => hx, fun e he => (by cases he)⟩
  | e :: r, tA, HA, RA, tr => by
    cases hk : actK (kindOf T e.o) with
    | true => exact ⟨[], e :: r, tA, HA, RA, [], rfl, ⟨rfl, rfl, rfl⟩, tr, fun e he => (by cases he), fun a B' h => (by obtain ⟨rfl, _⟩ := List.cons.inj h; exact hk), by simp, fun e he => (by cases he), fun e he => (by cases he), fun x hx => hx, fun e he => (by cases he)⟩
    | false =>
      obtain ⟨q1, q2, rs1, q3, q4⟩ := tr
      obtain ⟨p1, p2, p3⟩ := rest_step hT q3 hk
      obtain ⟨Sg, B, tS, HS, RS, exs, s1, s2, s3, s4, s5, s6, s7, s8, s9, s10⟩ := seg hT r _ e.h1 rs1 q4
      have hex : ∃ ex1, e.h1.L = HA.L ++ ex1 := by
        rcases p1 with ⟨_, ab, h⟩ | ⟨_, h⟩
        · exact ⟨[ab], by rw [h, q2, L_push]⟩
        · exact ⟨[], by rw [h, q2]; simp⟩
      obtain ⟨ex1, hex⟩ := hex
      have hlen : HA.n ≤ e.h1.n := by rw [← L_n, ← L_n, hex]; simp
      have hS : HS.L = HA.L ++ (ex1 ++ exs) := by rw [s6, hex]; simp
      have hself : Pend T ops e → HA.n = e.h.n ∧ e.h1.n = HA.n + 1 ∧ ∃ ab, e.h1 = e.h.push ab ∧ HS.at e.h.n = some ab := fun hp => by
        rcases p1 with ⟨_, ab, h⟩ | ⟨hn, _⟩
        · refine ⟨by rw [q2], by rw [h, q2]; rfl, ab, h, ?_⟩
          rw [← L_at, s6, h, L_push, List.getElem?_append_left (by simp [L_n]), List.getElem?_append_right (by rw [L_n]; exact Nat.le_refl _), L_n, Nat.sub_self]
          rfl
        · exact absurd hp hn
      refine ⟨e :: Sg, B, tS, HS, RS, ex1 ++ exs, by rw [s1]; rfl, ⟨q1, q2, rs1, q3, s2⟩, s3, ?_, s5, hS, ?_, ?_, fun x hx => s9 x (p2 x hx), ?_⟩
      · intro x hx
        cases hx with
        | head => exact hk
        | tail _ hm => exact s4 x hm
      · intro x hx hp
        cases hx with
        | head =>
          obtain ⟨h1, h2, ab, h3, h4⟩ := hself hp
          exact ⟨by omega, at_lt h4, ab, h3, h4⟩
        | tail _ hm =>
          obtain ⟨h1, h2⟩ := s7 x hm hp
          exact ⟨by omega, h2⟩
      · intro x hx y hy hpx hpy hl
        cases hx with
        | head =>
          cases hy with
          | head => rfl
          | tail _ hm =>
            obtain ⟨h1, h2, _⟩ := hself hpx
            have := (s7 y hm hpy).1
            omega
        | tail _ hm =>
          cases hy with
          | head =>
            obtain ⟨h1, h2, _⟩ := hself hpy
            have := (s7 x hm hpx).1
            omega
          | tail _ hm2 => exact s8 x hm y hm2 hpx hpy hl
      · intro x hx rd hrd
        cases hx with
        | head => exact s9 _ (p3 rd hrd.1 hrd.2.1 hrd.2.2)
        | tail _ hm => exact s10 x hm rd hrd
/-- What holds at each point of any order. -/
structure Inv (P : Program) (T : TT) (ρ : Nat → Value) (fl : Nat) (ops : Array Oper) (es : List Ent) (t0 : TM) (h0 : AH) (tf : TM) (hf : AH) (rsf : Reads) (μ0 : Mu) (w0 : World)
    (listed : Array Bool) (f : Frame) (w : World) (A B : List Ent) (tA : TM) (HA : AH) (RA : Reads) (μ : Mu) : Prop where
  cut : es = A ++ B
  trA : Tr P T ρ fl ops A t0 h0 [] tA HA RA
  trB : Tr P T ρ fl ops B tA HA RA tf hf rsf
  actsA : ∀ e ∈ A, actK (kindOf T e.o) = true → on listed e.i
  actsB : ∀ e ∈ B, actK (kindOf T e.o) = true → ¬ on listed e.i
  head : ∀ a B', B = a :: B' → actK (kindOf T a.o) = true
  eff : Eff P ρ fl μ0 h0 w0 μ HA w
  tmps : rels ρ μ w (foldX listed es t0.L) f.tmps.toList
  pend : ∀ e ∈ A, Pend T ops e → h0.n ≤ e.h.n ∧ e.h.n < HA.n ∧ (¬ on listed e.i → μ e.h.n = none ∧ ∃ ab, e.h1 = e.h.push ab ∧ HA.at e.h.n = some ab)
  dist : ∀ e ∈ A, ∀ e2 ∈ A, Pend T ops e → Pend T ops e2 → e.h.n = e2.h.n → e.i = e2.i
  reads : ∀ e ∈ A, ∀ rd, IsRead T ops e rd → ¬ on listed e.i → (e.i, rd, e.v) ∈ RA
end Go.Proofs.YtohbdgddnkoenaaGreat.Ex
end

section

set_option linter.unusedSimpArgs false
set_option linter.unusedVariables false
namespace Go.Proofs.YtohbdgddnkoenaaGreat.Ex
open Go Go.RowKit
variable {P : Program} {T : TT} {S : Sums} {ρ : Nat → Value} {fl : Nat} {ops : Array Oper}
theorem Tr.oper : ∀ {es : List Ent} {t t' : TM} {h h' : AH} {rs rs' : Reads}, Tr P T ρ fl ops es t h rs t' h' rs' → ∀ e ∈ es, ops[e.i]? = some e.o
  | [], _, _, _, _, _, _, _, e, he => by cases he
  | x :: r, _, _, _, _, _, _, tr, e, he => by
    obtain ⟨_, _, _, h3, h4⟩ := tr
    cases he with
    | head => exact h3.1
    | tail _ hm => exact Tr.oper (es := r) h4 e hm
theorem hold_mem {h : AH} {rs : Reads} (hh : hold T h rs = true) {i : Nat} {rd : RD} {v : AV} (hm : (i, rd, v) ∈ rs) : rdA T h rd = some v := by
  unfold hold at hh
  have := List.all_eq_true.1 hh _ hm
  simp only at this
  split at this
  · rename_i u hu
    rw [hu, same_sound 8 u v this]
  · cases this
section pick
variable {L : List Nat} {es : List Ent} {t0 : TM} {h0 : AH} {tf : TM} {hf : AH} {rsf : Reads} {μ0 : Mu} {w0 : World} {listed : Array Bool} {f : Frame} {w : World} {A B : List Ent} {tA : TM} {HA : AH} {RA : Reads} {μ : Mu}
theorem Inv.hold (iv : Inv P T ρ fl ops es t0 h0 tf hf rsf μ0 w0 listed f w A B tA HA RA μ) (hh : hold T hf rsf = true) : Ex.hold T HA RA = true := by
  cases B with
  | nil =>
    obtain ⟨_, h1, h2⟩ := iv.trB
    rw [← h1, ← h2]
    exact hh
  | cons a B' =>
    obtain ⟨q1, q2, rs1, q3, q4⟩ := iv.trB
    have hk := iv.head a B' rfl
    obtain ⟨_, ⟨_, _, _, hr⟩ | ⟨_, hr⟩⟩ := q3
    · cases hq : kindOf T a.o <;> rw [hq] at hk hr <;> first | cases hk | skip
      rw [← q2]
      exact hr.1
    · cases hq : kindOf T a.o <;> rw [hq] at hk hr <;> first | cases hk | skip
      rw [← q2]
      exact hr.1
/-- What the picked operation sees. -/
theorem sees (ho : Ord T ops L) (hes : es.map (·.i) = L) (tr : Tr P T ρ fl ops es t0 h0 [] tf hf rsf) {e : Ent} {pre post : List Ent} (hsp : es = pre ++ e :: post) (hcl : ClosedX ops listed) (hrd : ReadyX ops listed e.i) :
    (∀ k ∈ namesOf ops e.o, (foldX listed es t0.L)[k]? = e.tmps.at k) ∧ foldX (listed.setIfInBounds e.i true) es t0.L = setTmpL (foldX listed es t0.L) e.o.dst e.v := by
  have hL : L = pre.map (·.i) ++ e.i :: post.map (·.i) := by rw [← hes, hsp]; simp
  have hoper := tr.oper
  have hpre : ∀ x ∈ pre, x.i ≠ e.i := fun x hx hxe => ho.nodup _ _ _ hL (by rw [← hxe]; exact List.mem_map_of_mem hx)
  have hpostL : ∀ x ∈ post, ∃ p q, L = (pre.map (·.i) ++ e.i :: p) ++ x.i :: q := fun x hx => by
    obtain ⟨p, q, rfl⟩ := List.append_of_mem hx
    exact ⟨p.map (·.i), q.map (·.i), by rw [hL]; simp⟩
  have hpost : ∀ x ∈ post, x.i ≠ e.i := fun x hx hxe => by
    obtain ⟨p, q, h⟩ := hpostL x hx
    exact ho.nodup _ _ _ h (by rw [hxe]; simp)
  have heo : ops[e.i]? = some e.o := hoper e (by rw [hsp]; simp)
  have cpre : ∀ k ∈ namesOf ops e.o, ∀ x ∈ pre, x.o.dst = some k → on listed x.i := fun k hk x hx hd => by
    have hxo := hoper x (by rw [hsp]; simp [hx])
    rcases ho.tmps e.i x.i e.o x.o k heo hxo hd hk with h | h | h
    · exact absurd h.symm (hpre x hx)
    · exact hrd.before hcl h
    · exfalso
      obtain ⟨p, q, rfl⟩ := List.append_of_mem hx
      have h2 : L = p.map (·.i) ++ x.i :: (q.map (·.i) ++ e.i :: post.map (·.i)) := by rw [hL]; simp
      have := ho.before h h2
      exact ho.nodup _ _ _ hL (by simp; left; simpa using this)
  have cpost : ∀ k ∈ namesOf ops e.o, ∀ x ∈ post, x.o.dst = some k → ¬ on listed x.i := fun k hk x hx hd hon => by
    have hxo := hoper x (by rw [hsp]; simp [hx])
    rcases ho.tmps e.i x.i e.o x.o k heo hxo hd hk with h | h | h
    · exact hpost x hx h.symm
    · obtain ⟨p, q, h2⟩ := hpostL x hx
      have := ho.before h hL
      exact ho.nodup _ _ _ h2 (by simp only [List.mem_append]; exact .inl this)
    · exact hrd.2.1 (hcl.before h hon)
  have het : e.tmps.L = foldA pre t0.L := by
    have tr2 := tr
    rw [hsp] at tr2
    obtain ⟨tm, hm, rm, q1, q2⟩ := tr2.split
    rw [← q1.tmps, q2.1]
  refine ⟨fun k hk => ?_, ?_⟩
  · rw [hsp, foldX_append, ← TL_at, het]
    simp only [foldX]
    have hn : ¬ listed.getD e.i false = true := hrd.2.1
    rw [if_neg hn, foldX_none post _ (cpost k hk)]
    exact fold_get pre t0.L t0.L rfl rfl (cpre k hk)
  · rw [hsp]
    exact foldX_set hrd.1 hrd.2.1 hpre hpost (fun x hx hon k hk hd => cpost k (by simp [namesOf, hk]) x hx hd hon)
theorem mem_operands {o : Oper} {t : Tmp} (hx : Operand.tmp t ∈ o.op.operands) : t ∈ namesOf ops o := by
  unfold namesOf
  simp only [List.mem_append, List.mem_filterMap]
  exact .inl (.inr ⟨.tmp t, by simpa using hx, rfl⟩)
theorem agree_of {o : Oper} {t1 t2 : TM} (hk : ∀ k ∈ namesOf ops o, t1.at k = t2.at k) : Agree o t1 t2 ∧ wantedA ops t1 o = wantedA ops t2 o := by
  refine ⟨fun x hx => ?_, wantedA_congr fun j want d hg hd => hk d ?_⟩
  · cases x with
    | tmp t =>
      have := hk t (mem_operands hx)
      simp only [evalA, List.getD_eq_getElem?_getD, this]
    | _ => rfl
  · unfold namesOf
    simp only [List.mem_append]
    right
    rw [hg]
    simp [hd]
/-- One operation more. -/
theorem one_pick (hT : TT.Sound P T) (ho : Ord T ops L) (hes : es.map (·.i) = L) (tr : Tr P T ρ fl ops es t0 h0 [] tf hf rsf) (hh : Ex.hold T hf rsf = true) (hr0 : HR P ρ fl μ0 h0 w0) {i : Nat} {r : List Nat} {l : List Item} {cs : List Frame}
    (iv : Inv P T ρ fl ops es t0 h0 tf hf rsf μ0 w0 listed f w A B tA HA RA μ) (hcl : ClosedX ops listed) (hrd : ReadyX ops listed i) (hm : f.mode = .run) (ht : f.todo = .inRegion ops (i :: r) :: l) :
    ∃ v' w' A' B' tA' HA' RA' μ', Steps P (lone f cs w) (lone (f.finish v') cs w') ∧ Inv P T ρ fl ops es t0 h0 tf hf rsf μ0 w0 (listed.setIfInBounds i true) (f.finish v') w' A' B' tA' HA' RA' μ' := by
  have hiL : i ∈ L := ho.all i hrd.2.2.1
  rw [← hes, List.mem_map] at hiL
  obtain ⟨e, he, rfl⟩ := hiL
  obtain ⟨pre, post, hsp⟩ := List.append_of_mem he
  obtain ⟨hsee, hfold⟩ := sees ho hes tr hsp hcl hrd
  obtain ⟨hag, hwt⟩ := agree_of (t1 := tmOf (foldX listed es t0.L)) (t2 := e.tmps) (fun k hk => by rw [tmOf_at]; exact hsee k hk)
  have hXL : rels ρ μ w (tmOf (foldX listed es t0.L)).L f.tmps.toList := by rw [tmOf_L]; exact iv.tmps
  have heo : ops[e.i]? = some e.o := tr.oper e he
  have henv : EnvR ρ μ w (tmOf (foldX listed es t0.L)) f.eval := envR_of hXL (fun t => by simp [Frame.eval]) (fun _ => rfl) (fun _ => rfl)
  have hwant : ∀ b, wantedA ops e.tmps e.o = some b → Region.wanted e.o (yielded ops f.tmps) = b := fun b hb => wantedA_sound hXL (by rw [hwt]; exact hb)
  have hL : L = pre.map (·.i) ++ e.i :: post.map (·.i) := by rw [← hes, hsp]; simp
  have uniq : ∀ x ∈ es, x.i = e.i → x = e := fun x hx hxe => by
    rw [hsp] at hx
    simp only [List.mem_append, List.mem_cons] at hx
    rcases hx with hx | rfl | hx
    · exact absurd (show e.i ∈ pre.map (·.i) by rw [← hxe]; exact List.mem_map_of_mem hx) (ho.nodup _ _ _ hL)
    · rfl
    · obtain ⟨p, q, rfl⟩ := List.append_of_mem hx
      exact absurd (show x.i ∈ pre.map (·.i) ++ e.i :: p.map (·.i) by rw [hxe]; simp) (ho.nodup (pre.map (·.i) ++ e.i :: p.map (·.i)) x.i (q.map (·.i)) (by rw [hL]; simp))
  have hons : ∀ j, on (listed.setIfInBounds e.i true) j ↔ on listed j ∨ j = e.i := fun j => on_set hrd.1
  -- the temporaries behind the operation
  have fin : ∀ {μ1 : Mu} {w1 : World} {v' : Value}, More μ μ1 → Grows w w1 → rel ρ μ1 w1 e.v v' → rels ρ μ1 w1 (foldX (listed.setIfInBounds e.i true) es t0.L) (f.finish v').tmps.toList := by
    intro μ1 w1 v' h1 h2 h3
    rw [hfold, finish_region ht heo]
    exact setTmpL_rels (rels.mono h1 h2 _ _ iv.tmps) h3
  cases hact : actK (kindOf T e.o) with
  | true =>
    -- an act: the first one of B
    have heB : e ∈ B := by
      have : e ∈ A ++ B := by rw [← iv.cut]; exact he
      rcases List.mem_append.1 this with h | h
      · exact absurd (iv.actsA e h hact) hrd.2.1
      · exact h
    cases hB : B with
    | nil => rw [hB] at heB; cases heB
    | cons a B' =>
      have hha := iv.head a B' hB
      have hae : a = e := by
        rw [hB] at heB
        cases heB with
        | head => rfl
        | tail _ hmem =>
          exfalso
          obtain ⟨p, q, rfl⟩ := List.append_of_mem hmem
          have h2 : L = (A.map (·.i) ++ a.i :: p.map (·.i)) ++ e.i :: q.map (·.i) := by rw [← hes, iv.cut, hB]; simp
          have hao : ops[a.i]? = some a.o := tr.oper a (by rw [iv.cut, hB]; simp)
          have := ho.acts _ _ _ h2 a.i (by simp) (by rw [isAct_eq hao]; exact hha)
          exact iv.actsB a (by rw [hB]; simp) hha (hrd.before hcl this)
      subst hae
      have trB := iv.trB
      rw [hB] at trB
      obtain ⟨q1, q2, rs1, q3, q4⟩ := trB
      -- the step itself
      have step : ∃ μ1 w1 v', Eff P ρ fl μ HA w μ1 a.h1 w1 ∧ rel ρ μ1 w1 a.v v' ∧ Steps P (lone f cs w) (lone (f.finish v') cs w1) ∧ rs1 = keep ops a.i RA := by
        obtain ⟨_, ⟨hw, hv, hh1, hr⟩ | ⟨hw, hr⟩⟩ := q3
        · cases hq : kindOf T a.o <;> rw [hq] at hact hr <;> first | cases hact | skip
          refine ⟨μ, w, undef, by rw [hh1, q2]; exact Eff.refl iv.eff.hr, by rw [hv]; exact rel_undef, .one (step_unwanted hm ht heo (hwant false hw)), hr.2⟩
        · cases hq : kindOf T a.o <;> rw [hq] at hact hr <;> first | cases hact | skip
          obtain ⟨_, hr2, hrun⟩ := hr
          obtain ⟨μ1, w1, v', r1, r2, r3⟩ := hrun (tmOf (foldX listed es t0.L)) (fun x hx => (hag x hx).symm) μ w f cs ops a.i r l (by rw [q2]; exact iv.eff.hr) henv hm ht heo (hwant true hw)
          exact ⟨μ1, w1, v', by rw [← q2]; exact r1, r2, r3, hr2⟩
      obtain ⟨μ1, w1, v', r1, r2, r3, r4⟩ := step
      subst r4
      obtain ⟨Sg, B2, tS, HS, RS, exs, s1, s2, s3, s4, s5, s6, s7, s8, s9, s10⟩ := seg hT B' _ _ _ q4
      have hlen := r1.len
      have hSn : HS.n = a.h1.n + exs.length := by rw [← L_n, s6, List.length_append, L_n]
      have hSat : ∀ b, b < a.h1.n → HS.at b = a.h1.at b := fun b hb => by rw [← L_at, s6, List.getElem?_append_left (by rw [L_n]; exact hb), L_at]
      refine ⟨v', w1, A ++ a :: Sg, B2, tS, HS, RS, μ1, r3, ?_, ?_, s3, ?_, ?_, s5, ?_, fin r1.more r1.grows r2, ?_, ?_, ?_⟩
      · rw [iv.cut, hB, s1]; simp
      · exact iv.trA.join ⟨q1, q2, _, q3, s2⟩
      · intro x hx hk
        rw [hons]
        simp only [List.mem_append, List.mem_cons] at hx
        rcases hx with hx | rfl | hx
        · exact .inl (iv.actsA x hx hk)
        · exact .inr rfl
        · rw [s4 x hx] at hk; cases hk
      · intro x hx hk hon
        rw [hons] at hon
        have hxB : x ∈ B' := by rw [s1]; simp [hx]
        rcases hon with hon | hon
        · exact iv.actsB x (by rw [hB]; simp [hxB]) hk hon
        · have hxa := uniq x (by rw [iv.cut, hB]; simp [hxB]) hon
          subst hxa
          obtain ⟨p, q, hpq⟩ := List.append_of_mem hxB
          refine ho.nodup (A.map (·.i) ++ x.i :: p.map (·.i)) x.i (q.map (·.i)) (by rw [← hes, iv.cut, hB, hpq]; simp) (by simp)
      · exact (iv.eff.trans hr0 r1).extend s6
      · intro x hx hp
        simp only [List.mem_append, List.mem_cons] at hx
        rcases hx with hx | rfl | hx
        · obtain ⟨p1, p2, p3⟩ := iv.pend x hx hp
          refine ⟨p1, by omega, fun hn => ?_⟩
          have hn0 : ¬ on listed x.i := fun hon => hn ((hons _).2 (.inl hon))
          obtain ⟨p4, ab, p5, p6⟩ := p3 hn0
          refine ⟨?_, ab, p5, ?_⟩
          · cases hq : μ1 x.h.n with
            | none => rfl
            | some y => exact absurd (r1.new _ _ p4 hq) (by omega)
          · rw [hSat _ (by omega), r1.keep _ p2 p4]
            exact p6
        · exfalso
          have := hp.1
          rw [this] at hact
          cases hact
        · obtain ⟨p1, p2, ab, p3, p4⟩ := s7 x hx hp
          have := iv.eff.len
          refine ⟨by omega, p2, fun _ => ⟨?_, ab, p3, p4⟩⟩
          cases hq : μ1 x.h.n with
          | none => rfl
          | some y => exact absurd (r1.hr.dom _ _ hq) (by omega)
      · intro x hx y hy hpx hpy hl
        simp only [List.mem_append, List.mem_cons] at hx hy
        have notact : ∀ z : Ent, Pend T ops z → z ≠ a := fun z hz hza => by
          subst hza
          rw [hz.1] at hact
          cases hact
        rcases hx with hx | hx | hx
        · rcases hy with hy | hy | hy
          · exact iv.dist x hx y hy hpx hpy hl
          · exact absurd hy (notact y hpy)
          · have h1 := (iv.pend x hx hpx).2.1
            have h2 := (s7 y hy hpy).1
            omega
        · exact absurd hx (notact x hpx)
        · rcases hy with hy | hy | hy
          · have h1 := (iv.pend y hy hpy).2.1
            have h2 := (s7 x hx hpx).1
            omega
          · exact absurd hy (notact y hpy)
          · exact s8 x hx y hy hpx hpy hl
      · intro x hx rd hxr hn
        simp only [List.mem_append, List.mem_cons] at hx
        have hn0 : ¬ on listed x.i := fun hon => hn ((hons _).2 (.inl hon))
        rcases hx with hx | rfl | hx
        · have h1 := iv.reads x hx rd hxr hn0
          refine s9 _ ?_
          unfold keep
          rw [List.mem_filter]
          refine ⟨h1, ?_⟩
          have hxo := tr.oper x (by rw [iv.cut]; simp [hx])
          have hxl := (Array.getElem?_eq_some_iff.1 hxo).1
          cases hq : waits ops.size (mat ops) a.i x.i with
          | false => simp [hq]
          | true => exact absurd (hrd.before hcl (ho.waits _ _ hxl hq)) hn0
        · rw [hxr.1] at hact; cases hact
        · exact s10 x hx rd hxr
  | false =>
    -- no act: it lies in A
    have heA : e ∈ A := by
      have : e ∈ A ++ B := by rw [← iv.cut]; exact he
      rcases List.mem_append.1 this with h | h
      · exact h
      · exfalso
        cases hB : B with
        | nil => rw [hB] at h; cases h
        | cons a B' =>
          have hha := iv.head a B' hB
          rw [hB] at h
          cases h with
          | head => rw [hha] at hact; cases hact
          | tail _ hmem =>
            obtain ⟨p, q, rfl⟩ := List.append_of_mem hmem
            have h2 : L = (A.map (·.i) ++ a.i :: p.map (·.i)) ++ e.i :: q.map (·.i) := by rw [← hes, iv.cut, hB]; simp
            have hao : ops[a.i]? = some a.o := tr.oper a (by rw [iv.cut, hB]; simp)
            have := ho.acts _ _ _ h2 a.i (by simp) (by rw [isAct_eq hao]; exact hha)
            exact iv.actsB a (by rw [hB]; simp) hha (hrd.before hcl this)
    -- the step that the abstract machine took
    obtain ⟨rs0, rs1, hstep⟩ : ∃ rs0 rs1, StepR P T ρ fl ops e rs0 rs1 := by
      have tr2 := tr
      rw [hsp] at tr2
      obtain ⟨tm, hm', rm, _, _, _, rs1, q, _⟩ := tr2.split
      exact ⟨rm, rs1, q⟩
    -- the invariant, the heap as it was
    have go : ∀ (μ1 : Mu) (w1 : World) (v' : Value), Eff P ρ fl μ0 h0 w0 μ1 HA w1 → More μ μ1 → Grows w w1 → rel ρ μ1 w1 e.v v' → (∀ x ∈ A, Pend T ops x → x.i ≠ e.i → ¬ on listed x.i → μ x.h.n = none → μ1 x.h.n = none) → Steps P (lone f cs w) (lone (f.finish v') cs w1) →
        ∃ v' w' A' B' tA' HA' RA' μ', Steps P (lone f cs w) (lone (f.finish v') cs w') ∧ Inv P T ρ fl ops es t0 h0 tf hf rsf μ0 w0 (listed.setIfInBounds e.i true) (f.finish v') w' A' B' tA' HA' RA' μ' := fun μ1 w1 v' h1 h2 h3 h4 h5 h6 => by
      refine ⟨v', w1, A, B, tA, HA, RA, μ1, h6, iv.cut, iv.trA, iv.trB, fun x hx hk => (hons _).2 (.inl (iv.actsA x hx hk)), fun x hx hk hon => ?_, iv.head, h1, fin h2 h3 h4, fun x hx hp => ?_, iv.dist, fun x hx rd hxr hn => iv.reads x hx rd hxr (fun hon => hn ((hons _).2 (.inl hon)))⟩
      · rw [hons] at hon
        rcases hon with hon | hon
        · exact iv.actsB x hx hk hon
        · have := uniq x (by rw [iv.cut]; simp [hx]) hon
          subst this
          rw [hact] at hk
          cases hk
      · obtain ⟨p1, p2, p3⟩ := iv.pend x hx hp
        refine ⟨p1, p2, fun hn => ?_⟩
        have hn0 : ¬ on listed x.i := fun hon => hn ((hons _).2 (.inl hon))
        obtain ⟨p4, p5⟩ := p3 hn0
        exact ⟨h5 x hx hp (fun hxe => hn ((hons _).2 (.inr hxe))) hn0 p4, p5⟩
    -- an operation that leaves the heap as it was
    have calm : ∀ (h9 : AH), aop P T e.o e.tmps HA = some (.val e.v, HA) → wantedA ops e.tmps e.o = some true →
        ∃ v' w' A' B' tA' HA' RA' μ', Steps P (lone f cs w) (lone (f.finish v') cs w') ∧ Inv P T ρ fl ops es t0 h0 tf hf rsf μ0 w0 (listed.setIfInBounds e.i true) (f.finish v') w' A' B' tA' HA' RA' μ' := fun _ ha hw => by
      have ha2 : aop P T e.o (tmOf (foldX listed es t0.L)) HA = some (.val e.v, HA) := by rw [aop_congr hag]; exact ha
      obtain ⟨μ1, w1, v', q1, q2, q3⟩ := aop_sound hT iv.eff.hr henv ha2
      refine go μ1 w1 v' (iv.eff.trans hr0 q2) q2.more q2.grows q3 (fun x hx hp _ _ hn => ?_) (.one (step_value hm ht heo (hwant true hw) (.inr (not_defer ha2 (fun _ _ => by simp))) q1))
      cases hq : μ1 x.h.n with
      | none => rfl
      | some y => exact absurd (q2.new _ _ hn hq) (by have := (iv.pend x hx hp).2.1; omega)
    obtain ⟨_, ⟨hw, hv, hh1, hr⟩ | ⟨hw, hr⟩⟩ := id hstep
    · exact go μ w undef iv.eff (More.refl μ) (Grows.refl w) (by rw [hv]; exact rel_undef) (fun _ _ _ _ _ hn => hn) (.one (step_unwanted hm ht heo (hwant false hw)))
    · cases hk : kindOf T e.o with
      | acts => rw [hk] at hact; cases hact
      | still =>
        rw [hk] at hr
        exact calm HA ((still_any hk hr.1).2 HA) hw
      | reads =>
        rw [hk] at hr
        obtain ⟨ha, hrr⟩ := hr
        rcases hrr with ⟨rd, h1, _⟩ | ⟨h1, h2, _⟩
        · have hmem := iv.reads e heA rd ⟨hk, hw, h1⟩ hrd.2.1
          exact calm HA (read_late hk ha h1 (hold_mem (iv.hold hh) hmem)).2 hw
        · exact calm HA ((read_lit hk ha h1 h2).2 HA) hw
      | alloc =>
        rw [hk] at hr
        obtain ⟨p1, p2, p3⟩ := iv.pend e heA ⟨hk, hw⟩
        obtain ⟨p4, ab, p5, p6⟩ := p3 hrd.2.1
        obtain ⟨mk, ab', m1, m2, m3⟩ := alloc_any hT hk (show aop P T e.o (tmOf (foldX listed es t0.L)) e.h = some (.val e.v, e.h1) by rw [aop_congr hag]; exact hr.1)
        obtain rfl : ab = ab' := by
          have := congrArg (fun h : AH => h.at e.h.n) (p5.symm.trans m2)
          simp only [at_push_n] at this
          exact Option.some.inj this
        have m1 : e.v = mk e.h.n := by simpa using m1
        obtain ⟨m4, m5, m6⟩ := m3
        obtain ⟨ob, v', n1, n2, n3⟩ := m6 ρ μ w f.eval henv
        have hlate := Eff.late hr0 iv.eff p1 p4 p6 n2
        refine go _ _ v' hlate (more_up p4) (grows_alloc w ob) (by rw [m1]; exact n3 _ _ _ (up_same _ _ _)) (fun x hx hp hne _ hn => ?_) (.one (step_value hm ht heo (hwant true hw) (.inr (not_defer (m4 HA) (fun _ _ => by simp))) (.inl n1)))
        rw [up_ne (fun hl => hne (iv.dist x hx e heA hp ⟨hk, hw⟩ hl))]
        exact hn
end pick
end Go.Proofs.YtohbdgddnkoenaaGreat.Ex
end
