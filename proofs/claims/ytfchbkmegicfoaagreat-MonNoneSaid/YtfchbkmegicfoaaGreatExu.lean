/- The abstract machine's operations, held against the model's: parts, maps, append, calls. -/
import Derived.Test.YtfchbkmegicfoaaGreatExt
set_option linter.unusedSimpArgs false
set_option linter.unusedVariables false
namespace Go.Proofs.YtfchbkmegicfoaaGreat.Ex
open Go Go.RowKit

variable {P : Program} {T : TT} {ρ : Nat → Value} {fl : Nat} {μ : Mu} {h : AH} {w : World} {tmps : TM} {ev : Operand → Value} {o : Oper} {n : AN} {h' : AH}

theorem op_fieldAddr {t : TypeId} {x : Operand} {i : Nat} (hT : TT.Sound P T) (hr : HR P ρ fl μ h w) (he : EnvR ρ μ w tmps ev) (ho : o.op = .fieldAddr t x i) (ha : aFieldAddr T tmps h t x i = some (n, h')) :
    OpOK P ρ fl μ h w ((execOp ev o).run P w) n h' := by
  unfold aFieldAddr at ha
  split at ha
  case h_2 => cases ha
  rename_i fs b off hu hx
  split at ha
  case h_2 => cases ha
  rename_i f hf
  split at ha
  case h_2 => cases ha
  rename_i k hk
  simp only [Option.some.injEq, Prod.mk.injEq] at ha
  obtain ⟨rfl, rfl⟩ := ha
  obtain ⟨r, base, hb, hv⟩ := rel_ptr_inv (he x _ hx)
  refine valOK_here hr (v' := .pointer (some ⟨r, base + (off + f.offset), none⟩)) ?_ (by unfold rel; exact ⟨r, base, hb, rfl⟩)
  simp [execOp, ho, hv, Instr.fieldAt, Instr.sureAddr, run_und hT hu, hf, fieldPlace, run_size hT hk, addr_add, Nat.add_assoc]

theorem partA_sound {t : TypeId} {l : List AV} {l' : List Value} {off : Nat} {a : AV} (hT : TT.Sound P T) (hl : rels ρ μ w l l') (hp : partA T t l off = some a) (w' : World) :
    ∃ v, (part t l'.toArray off).run P w' = .ok v w' ∧ rel ρ μ w a v := by
  unfold partA at hp
  split at hp
  case h_2 => cases hp
  rename_i i hi
  have hA := run_isAgg hT (show isAggT T t = some (isAggD i.desc) by simp [isAggT, hi]) w'
  have hS := run_size hT (show sizeT T t = some i.size by simp [sizeT, hi]) w'
  cases hd : isAggD i.desc with
  | true =>
    rw [hd] at hp hA
    simp only [cond_true, Option.map_eq_some_iff] at hp
    obtain ⟨cs, hc, rfl⟩ := hp
    obtain ⟨c1, rfl⟩ := cut_some hc
    refine ⟨.agg (l'.toArray.extract off (off + i.size)), by simp [part, hA, hS], ?_⟩
    unfold rel
    refine ⟨(l'.drop off).take i.size, ?_, rels_take _ (rels_drop _ hl)⟩
    simp [List.extract_eq_take_drop]
  | false =>
    rw [hd] at hp hA
    simp only [cond_false] at hp
    obtain ⟨v, h1, h2⟩ := rels_get hl hp
    exact ⟨v, by simp [part, hA, h1], h2⟩

theorem rel_agg_inv {l : List AV} {v : Value} (hh : rel ρ μ w (.agg l) v) : ∃ l', v = .agg l'.toArray ∧ rels ρ μ w l l' := by unfold rel at hh; exact hh
theorem rel_tup_inv {l : List AV} {v : Value} (hh : rel ρ μ w (.tup l) v) : ∃ l', v = .tuple l'.toArray ∧ rels ρ μ w l l' := by unfold rel at hh; exact hh

theorem op_field {t : TypeId} {x : Operand} {i : Nat} (hT : TT.Sound P T) (hr : HR P ρ fl μ h w) (he : EnvR ρ μ w tmps ev) (ho : o.op = .field t x i) (ha : aField T tmps h t x i = some (n, h')) :
    OpOK P ρ fl μ h w ((execOp ev o).run P w) n h' := by
  unfold aField at ha
  split at ha
  case h_2 => cases ha
  rename_i fs l hu hx
  split at ha
  case h_2 => cases ha
  rename_i f hf
  obtain ⟨a, h1, rfl, rfl⟩ := val_some ha
  obtain ⟨l', hv, hl⟩ := rel_agg_inv (he x _ hx)
  obtain ⟨v, h2, h3⟩ := partA_sound hT hl h1 w
  exact valOK_here hr (by simp [execOp, ho, hv, Instr.field, run_und hT hu, hf, asAgg, h2]) h3

theorem op_indexAddr {t : TypeId} {x ix : Operand} (hT : TT.Sound P T) (hr : HR P ρ fl μ h w) (he : EnvR ρ μ w tmps ev) (ho : o.op = .indexAddr t x ix) (ha : aIndexAddr T tmps h t x ix = some (n, h')) :
    OpOK P ρ fl μ h w ((execOp ev o).run P w) n h' := by
  unfold aIndexAddr at ha
  split at ha
  · rename_i e b off len cap i hu hx hix
    split at ha
    case h_2 => cases ha
    rename_i z hz
    split at ha
    case isFalse => cases ha
    rename_i hlt
    simp only [Option.some.injEq, Prod.mk.injEq] at ha
    obtain ⟨rfl, rfl⟩ := ha
    obtain ⟨ai, ai1, ai2⟩ := Option.bind_eq_some_iff.1 hix
    obtain ⟨kd, iv, e1, e2, rfl⟩ := natA_inv ai2 (he ix _ ai1)
    obtain ⟨r, base, o', c, h1, h2, h3, h4⟩ := rel_sl_inv (he x _ hx)
    have h5 := (capRel_le h4).1
    obtain rfl : o' = base + off := h3.resolve_left (by omega)
    have hi2 : iv < (len : Int) := by omega
    refine valOK_here hr (v' := .pointer (some ⟨r, base + (off + iv.toNat * z), none⟩)) ?_ (by unfold rel; exact ⟨r, base, h1, rfl⟩)
    by_cases hl1 : len ≤ 1
    · simp [execOp, ho, h2, e1, Instr.indexAt, asIntOf, run_und hT hu, hl1, e2, hi2, run_size hT hz, addr_add, Nat.add_assoc]
    · simp [execOp, ho, h2, e1, Instr.indexAt, asIntOf, run_und hT hu, hl1, e2, hi2, run_size hT hz, addr_add, Nat.add_assoc]
  · rename_i m e b off i hu hx hix
    split at ha
    case h_2 => cases ha
    rename_i z hz
    split at ha
    case isFalse => cases ha
    rename_i hlt
    simp only [Option.some.injEq, Prod.mk.injEq] at ha
    obtain ⟨rfl, rfl⟩ := ha
    obtain ⟨ai, ai1, ai2⟩ := Option.bind_eq_some_iff.1 hix
    obtain ⟨kd, iv, e1, e2, rfl⟩ := natA_inv ai2 (he ix _ ai1)
    obtain ⟨r, base, h1, h2⟩ := rel_ptr_inv (he x _ hx)
    have hi2 : iv < (m : Int) := by omega
    refine valOK_here hr (v' := .pointer (some ⟨r, base + (off + iv.toNat * z), none⟩)) ?_ (by unfold rel; exact ⟨r, base, h1, rfl⟩)
    by_cases hl1 : m ≤ 1
    · simp [execOp, ho, h2, e1, Instr.indexAt, Instr.sureAddr, asIntOf, run_und hT hu, hl1, e2, hi2, run_size hT hz, addr_add, Nat.add_assoc]
    · simp [execOp, ho, h2, e1, Instr.indexAt, Instr.sureAddr, asIntOf, run_und hT hu, hl1, e2, hi2, run_size hT hz, addr_add, Nat.add_assoc]
  · cases ha

theorem op_index {t : TypeId} {x ix : Operand} (hT : TT.Sound P T) (hr : HR P ρ fl μ h w) (he : EnvR ρ μ w tmps ev) (ho : o.op = .index t x ix) (ha : aIndex P T o tmps h t x ix = some (n, h')) :
    OpOK P ρ fl μ h w ((execOp ev o).run P w) n h' := by
  unfold aIndex at ha
  refine orLit_sound hr he ha fun hk => ?_
  split at hk
  case h_2 => cases hk
  rename_i m e l i hu hx hix
  split at hk
  case h_2 => cases hk
  rename_i z hz
  split at hk
  case isFalse => cases hk
  rename_i hlt
  obtain ⟨a, h1, rfl, rfl⟩ := val_some hk
  obtain ⟨ai, ai1, ai2⟩ := Option.bind_eq_some_iff.1 hix
  obtain ⟨kd, iv, e1, e2, rfl⟩ := natA_inv ai2 (he ix _ ai1)
  obtain ⟨l', hv, hl⟩ := rel_agg_inv (he x _ hx)
  obtain ⟨v, h2, h3⟩ := partA_sound hT hl h1 w
  have hi2 : iv < (m : Int) := by omega
  exact valOK_here hr (by simp [execOp, ho, hv, e1, Instr.index, asIntOf, run_und hT hu, e2, hi2, run_size hT hz, h2]) h3

theorem op_extract {x : Operand} {i : Nat} (hr : HR P ρ fl μ h w) (he : EnvR ρ μ w tmps ev) (ho : o.op = .extract x i) (ha : aExtract tmps h x i = some (n, h')) :
    OpOK P ρ fl μ h w ((execOp ev o).run P w) n h' := by
  unfold aExtract at ha
  split at ha
  case h_2 => cases ha
  rename_i l hx
  obtain ⟨a, h1, rfl, rfl⟩ := val_some ha
  obtain ⟨l', hv, hl⟩ := rel_tup_inv (he x _ hx)
  obtain ⟨v, h2, h3⟩ := rels_get hl h1
  exact valOK_here hr (by simp [execOp, ho, hv, Instr.extract, h2]) h3

theorem rel_pair {a : AV} {v : Value} (hh : rel ρ μ w a v) (b : Bool) : rel ρ μ w (.tup [a, .lit (.bool b)]) (.tuple #[v, .bool b]) := by
  unfold rel
  exact ⟨[v, .bool b], rfl, rels_cons hh (rels_cons (rel_lit rfl) rels_nil)⟩

theorem rel_okPair {a : AV} {v : Value} (hh : rel ρ μ w a v) (ok b : Bool) : rel ρ μ w (okPair ok a b) (if ok then .tuple #[v, .bool b] else v) := by
  cases ok
  · exact hh
  · exact rel_pair hh b

theorem op_assert {x : Operand} {xt t : TypeId} {ok : Bool} (hT : TT.Sound P T) (hr : HR P ρ fl μ h w) (he : EnvR ρ μ w tmps ev) (ho : o.op = .typeAssert x xt t ok) (ha : aAssert P T tmps h x t ok = some (n, h')) :
    OpOK P ρ fl μ h w ((execOp ev o).run P w) n h' := by
  unfold aAssert at ha
  split at ha
  · rename_i d y i hx hi
    have hu := run_und hT (show und T t = some i.desc by simp [und, hi]) w
    obtain ⟨u, hv, hu2⟩ := rel_ifc_inv (he x _ hx)
    obtain ⟨z, hz, hz2⟩ := run_zero hT (show zeroT T t = some i.zero by simp [zeroT, hi]) w
    split at ha
    · rename_i want hd
      split at ha
      case h_2 => cases ha
      rename_i j hj
      split at ha
      case isFalse => cases ha
      rename_i hmiss
      simp only [Option.some.injEq, Prod.mk.injEq] at ha
      obtain ⟨rfl, rfl⟩ := ha
      refine valOK_here hr ?_ (rel_okPair (hv ▸ he x _ hx) ok true)
      rw [hd] at hu
      have hm2 : Instr.missingMethod want j.methods = none := by simpa using hmiss
      simp [execOp, ho, hv, Instr.typeAssert, hu, typeInfo, hj, hm2]
    · rename_i hni
      cases hdt : Nat.beq d t with
      | true =>
        rw [hdt] at ha
        simp only [cond_true, Option.some.injEq, Prod.mk.injEq] at ha
        obtain ⟨rfl, rfl⟩ := ha
        obtain rfl := Nat.eq_of_beq_eq_true hdt
        refine valOK_here hr ?_ (rel_okPair hu2 ok true)
        have : (Instr.typeAssert (.iface d u) xt d ok).run P w = .ok (if ok then .tuple #[u, .bool true] else u) w := by
          simp only [Instr.typeAssert, Sem.run_bind, hu, Result.andThen_ok]
          cases hd : i.desc <;> first | (exact absurd hd (hni _)) | (simp; done) | simp
        simp [execOp, ho, hv, this]
      | false =>
        rw [hdt] at ha
        simp only [cond_false] at ha
        cases ok with
        | false => cases ha
        | true =>
          simp only [cond_true, Option.some.injEq, Prod.mk.injEq] at ha
          obtain ⟨rfl, rfl⟩ := ha
          have hne : t ≠ d := fun hh => by subst hh; simp at hdt
          refine valOK_here hr (v' := .tuple #[z, .bool false]) ?_ (rel_pair (ofVal1_rel hz2) false)
          have : (Instr.typeAssert (.iface d u) xt t true).run P w = .ok (.tuple #[z, .bool false]) w := by
            simp only [Instr.typeAssert, Sem.run_bind, hu, Result.andThen_ok]
            cases hd : i.desc <;> first | (exact absurd hd (hni _)) | (simp [Ne.symm hne, hz]; done) | simp [Ne.symm hne, hz]
          simp [execOp, ho, hv, this]
  · rename_i i hx hi
    have hu := run_und hT (show und T t = some i.desc by simp [und, hi]) w
    have hv := rel_lit_inv (he x _ hx)
    obtain ⟨z, hz, hz2⟩ := run_zero hT (show zeroT T t = some i.zero by simp [zeroT, hi]) w
    cases ok with
    | false => cases ha
    | true =>
      simp only [cond_true, Option.some.injEq, Prod.mk.injEq] at ha
      obtain ⟨rfl, rfl⟩ := ha
      refine valOK_here hr (v' := .tuple #[z, .bool false]) ?_ (rel_pair (ofVal1_rel hz2) false)
      have : (Instr.typeAssert .nilIface xt t true).run P w = .ok (.tuple #[z, .bool false]) w := by
        simp only [Instr.typeAssert, Sem.run_bind, hu, Result.andThen_ok]
        cases hd : i.desc <;> simp [hz]
      simp [execOp, ho, hv, this]
  · cases ha

theorem op_panic {x : Operand} (hr : HR P ρ fl μ h w) (he : EnvR ρ μ w tmps ev) (ho : o.op = .panic x) (ha : aPanic tmps h x = some (n, h')) :
    OpOK P ρ fl μ h w ((execOp ev o).run P w) n h' := by
  unfold aPanic at ha
  split at ha
  · rename_i t y hx
    simp only [Option.some.injEq, Prod.mk.injEq] at ha
    obtain ⟨rfl, rfl⟩ := ha
    have h1 := he x _ hx
    obtain ⟨u, hv, _⟩ := rel_ifc_inv h1
    exact ⟨rfl, ev x, by simp [execOp, ho, hv, Instr.panic], h1⟩
  · cases ha

/-! Maps. -/

theorem findA_sound {kind : TypeDesc} {k : Value} : ∀ {es : List AE} {res : List MapEntry} {i : Nat} {f : Option (Nat × AV)}, entsRel ρ μ w es res → findA kind k es i = some f →
    ∃ g, Instr.findNow kind k res i = some g ∧ (match f with | none => g = none | some (j, a) => ∃ v, g = some (j, v) ∧ rel ρ μ w a v ∧ i ≤ j ∧ ∃ e, res[j - i]? = some e ∧ Instr.sameNow kind k e.key = some true)
  | [], res, i, f, hr, hf => by
    simp only [entsRel] at hr
    subst hr
    simp only [findA, Option.some.injEq] at hf
    subst hf
    exact ⟨none, rfl, rfl⟩
  | a :: r, res, i, f, hr, hf => by
    simp only [entsRel] at hr
    obtain ⟨e, es, rfl, h1, h2⟩ := hr
    obtain ⟨k1, k2, k3, k4⟩ := h1
    unfold findA at hf
    rw [← k1] at hf
    split at hf
    · rename_i hs
      obtain rfl := Option.some.inj hf
      exact ⟨some (i, e.val), by simp [Instr.findNow, hs], e.val, rfl, k3, Nat.le_refl _, e, by simp, hs⟩
    · rename_i hs
      obtain ⟨g, g1, g2⟩ := findA_sound h2 hf
      refine ⟨g, by simp [Instr.findNow, hs, g1], ?_⟩
      cases f with
      | none => exact g2
      | some p =>
        obtain ⟨j, b⟩ := p
        obtain ⟨v, v1, v2, v3, e', v4, v5⟩ := g2
        exact ⟨v, v1, v2, by omega, e', by rw [show j - i = (j - (i + 1)) + 1 by omega, List.getElem?_cons_succ]; exact v4, v5⟩
    · cases hf

theorem run_checkKey' (hT : TT.Sound P T) {k : TypeId} {d : TypeDesc} (hd : und T k = some d) (hk : keyKind d = true) (b : Bool) (v : Value) (w : World) : (Instr.checkKey b 10000 k v).run P w = .ok () w := by
  rw [show (10000 : Nat) = 9999 + 1 from rfl]
  generalize 9999 = m
  unfold Instr.checkKey
  rw [Sem.run_bind, run_und hT hd]
  simp only [Result.andThen_ok]
  cases d <;> first | rfl | cases hk

theorem findE_sound {eq : Value → Value → Option Bool} {kt : TypeId} {k : Value} (heq : ∀ b r, eq k b = some r → ∀ w, (Op.equal kt k b).run P w = .ok r w) : ∀ {es : List AE} {res : List MapEntry} {i : Nat} {f : Option (Nat × AV)}, entsRel ρ μ w es res → findE eq k es i = some f →
    ∃ g, (∀ w', (Instr.findAsking kt k res i).run P w' = .ok g w') ∧ (match f with | none => g = none | some (j, a) => ∃ v, g = some (j, v) ∧ rel ρ μ w a v ∧ i ≤ j ∧ ∃ e, res[j - i]? = some e ∧ Instr.sameBits 10000 e.key k = true)
  | [], res, i, f, hr, hf => by
    simp only [entsRel] at hr
    subst hr
    simp only [findE, Option.some.injEq] at hf
    subst hf
    exact ⟨none, fun _ => rfl, rfl⟩
  | a :: r, res, i, f, hr, hf => by
    simp only [entsRel] at hr
    obtain ⟨e, es, rfl, h1, h2⟩ := hr
    obtain ⟨k1, k2, k3, k4⟩ := h1
    unfold findE at hf
    rw [← k1] at hf
    split at hf
    · rename_i hs
      cases hb : Instr.sameBits 10000 e.key k with
      | false => rw [hb] at hf; cases hf
      | true =>
      rw [hb] at hf
      obtain rfl := Option.some.inj hf
      exact ⟨some (i, e.val), fun w' => by simp [Instr.findAsking, heq _ _ hs w'], e.val, rfl, k3, Nat.le_refl _, e, by simp, hb⟩
    · rename_i hs
      obtain ⟨g, g1, g2⟩ := findE_sound heq h2 hf
      refine ⟨g, fun w' => by simp [Instr.findAsking, heq _ _ hs w', g1 w'], ?_⟩
      cases f with
      | none => exact g2
      | some p =>
        obtain ⟨j, b⟩ := p
        obtain ⟨v, v1, v2, v3, e', v4, v5⟩ := g2
        exact ⟨v, v1, v2, by omega, e', by rw [show j - i = (j - (i + 1)) + 1 by omega, List.getElem?_cons_succ]; exact v4, v5⟩
    · cases hf

theorem ba_eq {a b : ByteArray} (hh : (a == b) = true) : a = b := by
  obtain ⟨x⟩ := a
  obtain ⟨y⟩ := b
  have e : x = y := by simpa using (show (x == y) = true from hh)
  rw [e]

theorem sameNow_bits {d : TypeDesc} {a b : Value} (hs : Instr.sameNow d a b = some true) (m : Nat) : Instr.sameBits m b a = true := by
  unfold Instr.sameNow at hs
  split at hs
  · rename_i k a k' b
    split at hs
    · rename_i hk
      subst hk
      simp only [Option.some.injEq, beq_iff_eq] at hs
      subst hs
      simp [Instr.sameBits]
    · cases hs
  · simp only [Option.some.injEq] at hs
    have := ba_eq hs
    subst this
    simp only [Instr.sameBits]
    exact hs
  · simp only [Option.some.injEq, beq_iff_eq] at hs
    subst hs
    simp [Instr.sameBits]
  · cases hs

/-- A key is found in a map. -/
theorem findT_sound (hT : TT.Sound P T) {t : TypeId} {k : Value} {es : List AE} {res : List MapEntry} {f : Option (Nat × AV)} (hr : entsRel ρ μ w es res) (hf : findT T t k es = some f) :
    ∃ kt e, und T t = some (.map kt e) ∧ (∀ b w', ∃ a, (Instr.checkKey b 10000 kt k).run P w' = .ok a w') ∧ ∃ g, (∀ w', (Instr.findKey kt k res).run P w' = .ok g w') ∧
      (match f with | none => g = none | some (j, a) => ∃ v, g = some (j, v) ∧ rel ρ μ w a v ∧ ∃ e, res[j]? = some e ∧ Instr.sameBits 10000 e.key k = true) := by
  unfold findT at hf
  split at hf
  case h_2 => cases hf
  rename_i kt e hu
  split at hf
  case h_2 => cases hf
  rename_i i hi
  have hd : und T kt = some i.desc := by simp [und, hi]
  cases hk : keyKind i.desc with
  | true =>
    rw [hk] at hf
    simp only [cond_true] at hf
    obtain ⟨g, g1, g2⟩ := findA_sound hr hf
    refine ⟨kt, e, hu, fun b w' => ⟨(), run_checkKey' hT hd hk b k w'⟩, g, fun w' => by simp [Instr.findKey, run_und hT hd, g1], ?_⟩
    cases f with
    | none => exact g2
    | some p =>
      obtain ⟨j, a⟩ := p
      obtain ⟨v, v1, v2, _, e', v4, v5⟩ := g2
      exact ⟨v, v1, v2, e', v4, sameNow_bits v5 10000⟩
  | false =>
    rw [hk] at hf
    simp only [cond_false] at hf
    cases hc : (isStructD i.desc && i.ck k) with
    | false => rw [hc] at hf; cases hf
    | true =>
    rw [hc] at hf
    simp only [cond_true] at hf
    simp only [Bool.and_eq_true] at hc
    obtain ⟨g, g1, g2⟩ := findE_sound (P := P) (kt := kt) (fun b r hb w' => by
      have := pur_run _ _ (hT.eq kt i k b r hi hb) w'
      simpa using this) hr hf
    refine ⟨kt, e, hu, fun b w' => ?_, g, fun w' => ?_, ?_⟩
    · obtain ⟨a, ha⟩ := hT.ck kt i k hi hc.2 b
      exact ⟨a, by simpa using pur_run _ _ ha w'⟩
    · unfold Instr.findKey
      rw [Sem.run_bind, run_und hT hd]
      simp only [Result.andThen_ok]
      have hno : Instr.findNow i.desc k res 0 = none ∨ (Instr.findNow i.desc k res 0 = some none ∧ res = []) := by
        cases res with
        | nil => exact .inr ⟨rfl, rfl⟩
        | cons x xs =>
          left
          unfold Instr.findNow
          have : Instr.sameNow i.desc k x.key = none := by
            cases hq : i.desc <;> rw [hq] at hc <;> first | (cases hc.1; done) | skip
            unfold Instr.sameNow
            rfl
          rw [this]
      rcases hno with h1 | ⟨h1, h2⟩
      · rw [h1]
        exact g1 w'
      · rw [h1]
        subst h2
        have := g1 w'
        simp only [Instr.findAsking, Sem.run_pure, Result.ok.injEq, and_true] at this
        rw [← this]
        rfl
    · cases f with
      | none => exact g2
      | some p =>
        obtain ⟨j, a⟩ := p
        obtain ⟨v, v1, v2, _, e', v4, v5⟩ := g2
        exact ⟨v, v1, v2, e', v4, v5⟩

theorem keyOf_rel {a : AV} {k v : Value} (hk : keyOf a = some k) (hv : rel ρ μ w a v) : v = k ∧ keyV k = true := by
  unfold keyOf at hk
  split at hk
  · obtain rfl := Option.some.inj hk
    unfold rel at hv
    refine ⟨hv.1, ?_⟩
    unfold keyV
    split
    · simp [scal] at hv
    · exact hv.2
  · rename_i l
    simp only [Option.map_eq_some_iff] at hk
    obtain ⟨m, hm, rfl⟩ := hk
    unfold rel at hv
    obtain ⟨l', rfl, h2⟩ := hv
    obtain rfl := toScals_rel hm h2
    refine ⟨rfl, ?_⟩
    simp only [keyV, List.all_eq_true]
    intro x hx
    exact toScals_scal hm h2 x (by simpa using hx)
  · cases hk

theorem elemT_inv {t e : TypeId} (he : elemT T t = some e) : ∃ k, und T t = some (.map k e) := by
  unfold elemT at he
  split at he
  · obtain rfl := Option.some.inj he
    exact ⟨_, by assumption⟩
  · cases he

theorem op_lookup {t : TypeId} {m k : Operand} {ok : Bool} (hT : TT.Sound P T) (hr : HR P ρ fl μ h w) (he : EnvR ρ μ w tmps ev) (ho : o.op = .lookup t m k ok) (ha : aLookup T tmps h t m k ok = some (n, h')) :
    OpOK P ρ fl μ h w ((execOp ev o).run P w) n h' := by
  unfold aLookup at ha
  split at ha
  case h_2 => cases ha
  rename_i am ak hm hk
  obtain ⟨a, h1, rfl, rfl⟩ := val_some ha
  unfold lookupA at h1
  split at h1
  case h_2 => cases h1
  rename_i key es e hkey hes hel
  obtain ⟨hkv, _⟩ := keyOf_rel hkey (he k _ hk)
  obtain ⟨_, hu0⟩ := elemT_inv hel
  have key2 : ∀ (res : Array MapEntry), entsRel ρ μ w es res.toList → (∀ (kt : TypeId) (g : Option (Nat × Value)) (z : Value), und T t = some (.map kt e) → (∀ b w', ∃ a, (Instr.checkKey b 10000 kt key).run P w' = .ok a w') → (∀ w', (Instr.findKey kt key res.toList).run P w' = .ok g w') → (g = none → (zeroValue e).run P w = .ok z w) →
      (Instr.lookup t (ev m) key ok).run P w = .ok (if ok then .tuple #[(match g with | some (_, v) => v | none => z), .bool g.isSome] else (match g with | some (_, v) => v | none => z)) w) →
      OpOK P ρ fl μ h' w ((execOp ev o).run P w) (.val a) h' := fun res hres hrun => by
    split at h1
    · rename_i j v hf
      obtain rfl := Option.some.inj h1
      obtain ⟨kt, e2, hu, hck, g, g1, v', rfl, g2, _⟩ := findT_sound hT hres hf
      obtain ⟨rfl, rfl⟩ : kt = _ ∧ e2 = e := by rw [hu0] at hu; simp at hu; exact ⟨hu.1.symm, hu.2.symm⟩
      have h3 := hrun _ _ undef hu hck g1 (fun hh => by cases hh)
      refine valOK_here hr (v' := if ok then .tuple #[v', .bool true] else v') (by simp only [execOp, ho, hkv, Sem.run_bind, h3]; rfl) ?_
      cases ok
      · exact g2
      · exact rel_pair g2 true
    · rename_i z hf hz
      obtain rfl := Option.some.inj h1
      obtain ⟨kt, e2, hu, hck, g, g1, rfl⟩ := findT_sound hT hres hf
      obtain ⟨rfl, rfl⟩ : kt = _ ∧ e2 = e := by rw [hu0] at hu; simp at hu; exact ⟨hu.1.symm, hu.2.symm⟩
      obtain ⟨zv, z1, z2⟩ := run_zero hT hz w
      have h3 := hrun _ _ zv hu hck g1 (fun _ => z1)
      refine valOK_here hr (v' := if ok then .tuple #[zv, .bool false] else zv) (by simp only [execOp, ho, hkv, Sem.run_bind, h3]; rfl) ?_
      cases ok
      · exact ofVal1_rel z2
      · exact rel_pair (ofVal1_rel z2) false
    · cases h1
  unfold entsA at hes
  split at hes
  · obtain rfl := Option.some.inj hes
    have hv := rel_lit_inv (he m _ hm)
    refine key2 #[] rfl fun kt g z hu hck hg hz => ?_
    obtain ⟨a0, hck⟩ := hck true w
    have hg := hg w
    simp only [Instr.lookup, hv, Sem.run_bind, run_und hT hu, Result.andThen_ok, Sem.run_pure]
    rw [show (#[] : Array MapEntry).isEmpty = true from rfl, hck]
    simp only [Result.andThen_ok, hg]
    cases g with
    | none => cases ok <;> simp [hz rfl]
    | some p => cases ok <;> simp
  · rename_i b
    split at hes
    case h_2 => cases hes
    rename_i es' clock hb
    obtain rfl := Option.some.inj hes
    have hv := he m _ hm
    unfold rel at hv
    obtain ⟨r, hr1, hv⟩ := hv
    obtain ⟨_, _, ob, o1, o2⟩ := hr.obj b r 0 _ hr1 hb
    obtain ⟨res, rfl, _, o3⟩ := o2
    refine key2 res o3 fun kt g z hu hck hg hz => ?_
    obtain ⟨a0, hck⟩ := hck res.isEmpty w
    have hgo : (getObj r).run P w = .ok (.map res clock) w := by simp [getObj, Sem.run, o1]
    simp only [Instr.lookup, hv, Sem.run_bind, run_und hT hu, Result.andThen_ok, hgo, Sem.run_pure, hck, hg w]
    cases g with
    | none => cases ok <;> simp [hz rfl]
    | some p => cases ok <;> simp
  · cases hes

theorem entsRel_length {l : List AE} {l' : List MapEntry} (hh : entsRel ρ μ w l l') : l'.length = l.length := by
  induction l generalizing l' with
  | nil => simp only [entsRel] at hh; rw [hh]; rfl
  | cons a r ih =>
    simp only [entsRel] at hh
    obtain ⟨e, es, rfl, _, h2⟩ := hh
    rw [List.length_cons, List.length_cons, ih h2]

theorem entsRel_append {l m : List AE} {l' m' : List MapEntry} (hh : entsRel ρ μ w l l') (hk : entsRel ρ μ w m m') : entsRel ρ μ w (l ++ m) (l' ++ m') := by
  induction l generalizing l' with
  | nil => simp only [entsRel] at hh; rw [hh]; exact hk
  | cons a r ih =>
    simp only [entsRel] at hh
    obtain ⟨e, es, rfl, h1, h2⟩ := hh
    exact ⟨e, es ++ m', rfl, h1, ih h2⟩

theorem entsRel_modify {f : AE → AE} {g : MapEntry → MapEntry} {l : List AE} {l' : List MapEntry} (i : Nat) (hh : entsRel ρ μ w l l') (hfg : ∀ a e, entRel ρ μ w a e → entRel ρ μ w (f a) (g e)) : entsRel ρ μ w (l.modify i f) (l'.modify i g) := by
  induction l generalizing l' i with
  | nil => simp only [entsRel] at hh; subst hh; simp [entsRel]
  | cons a r ih =>
    simp only [entsRel] at hh
    obtain ⟨e, es, rfl, h1, h2⟩ := hh
    cases i with
    | zero => exact ⟨_, _, rfl, hfg _ _ h1, h2⟩
    | succ i => exact ⟨_, _, by simp [List.modify_succ_cons], h1, ih i h2⟩

theorem entsRel_erase {l : List AE} {l' : List MapEntry} (i : Nat) (hh : entsRel ρ μ w l l') : entsRel ρ μ w (l.eraseIdx i) (l'.eraseIdx i) := by
  induction l generalizing l' i with
  | nil => simp only [entsRel] at hh; subst hh; simp [entsRel]
  | cons a r ih =>
    simp only [entsRel] at hh
    obtain ⟨e, es, rfl, h1, h2⟩ := hh
    cases i with
    | zero => exact h2
    | succ i => exact ⟨e, _, rfl, h1, ih i h2⟩

theorem setObj_one {r : Nat} {es : Array MapEntry} {c : Nat} (hg : w.heap[r]? = some (.map es c)) (o' : Obj) (hn : True) : One r w { w with heap := w.heap.setIfInBounds r o' } ∧ (w.heap.setIfInBounds r o')[r]? = some o' := by
  have hlt := lt_in hg
  refine ⟨⟨by simp, fun k hk => ?_, fun k cur e fz hk => ?_, ⟨rfl, rfl, rfl⟩⟩, by simp [hlt]⟩
  · show (w.heap.setIfInBounds r o')[k]? = _
    rw [Array.getElem?_setIfInBounds, if_neg (Ne.symm hk)]
  · have hne : r ≠ k := fun e' => by subst e'; rw [hg] at hk; cases hk
    exact ⟨cur, e, fz, by show (w.heap.setIfInBounds r o')[k]? = _; rw [Array.getElem?_setIfInBounds, if_neg hne]; exact hk, rfl⟩

theorem run_setObj_map {r : Nat} {es : Array MapEntry} {c : Nat} (hg : w.heap[r]? = some (.map es c)) (o' : Obj) : (setObj r o').run P w = .ok () { w with heap := w.heap.setIfInBounds r o' } := by
  simp [setObj, Sem.run, hg]

end Go.Proofs.YtfchbkmegicfoaaGreat.Ex
