/- The abstract machine's operations, held against the model's: cells, comparisons, slices, fields. -/
import Derived.Test.YtfchbkmegicfoaaGreatExp
set_option linter.unusedSimpArgs false
set_option linter.unusedVariables false
namespace Go.Proofs.YtfchbkmegicfoaaGreat.Ex
open Go Go.RowKit

variable {P : Program} {T : TT} {ρ : Nat → Value} {fl : Nat} {μ : Mu} {h : AH} {w : World} {tmps : TM} {ev : Operand → Value} {o : Oper} {n : AN} {h' : AH}

theorem rel_ptr_inv {b off : Nat} {v : Value} (hh : rel ρ μ w (.ptr b off) v) : ∃ r base, μ b = some (r, base) ∧ v = .pointer (some ⟨r, base + off, none⟩) := by unfold rel at hh; exact hh
theorem rel_lit_inv {u v : Value} (hh : rel ρ μ w (.lit u) v) : v = u := by unfold rel at hh; exact hh.1
theorem rel_ptr {b off r base : Nat} (hb : μ b = some (r, base)) : rel ρ μ w (.ptr b off) (.pointer (some ⟨r, base + off, none⟩)) := by unfold rel; exact ⟨r, base, hb, rfl⟩

theorem op_load {t : TypeId} {x : Operand} (hT : TT.Sound P T) (hr : HR P ρ fl μ h w) (he : EnvR ρ μ w tmps ev) (ho : o.op = .load t x) (ha : aLoad T tmps h t x = some (n, h')) :
    OpOK P ρ fl μ h w ((execOp ev o).run P w) n h' := by
  unfold aLoad at ha
  split at ha
  · rename_i b off hx
    obtain ⟨a, h1, rfl, rfl⟩ := val_some ha
    obtain ⟨r, base, hb, hv⟩ := rel_ptr_inv (he x _ hx)
    obtain ⟨v', h2, h3⟩ := loadA_sound hT hr hb h1
    exact valOK_here hr (by simp [execOp, ho, hv, Instr.loadAt, Instr.sureAddr, h2]) h3
  · cases ha

theorem op_store {t : TypeId} {x y : Operand} (hT : TT.Sound P T) (hr : HR P ρ fl μ h w) (he : EnvR ρ μ w tmps ev) (ho : o.op = .store t x y) (ha : aStore T tmps h t x y = some (n, h')) :
    OpOK P ρ fl μ h w ((execOp ev o).run P w) n h' := by
  unfold aStore at ha
  split at ha
  · rename_i b off u hx hy
    simp only [Option.map_eq_some_iff, Prod.mk.injEq] at ha
    obtain ⟨h1, h2, rfl, rfl⟩ := ha
    obtain ⟨r, base, hb, hv⟩ := rel_ptr_inv (he x _ hx)
    obtain ⟨w', h3, h4⟩ := storeA_sound hT hr hb (he y _ hy) h2
    exact ⟨μ, w', undef, .inr ⟨by simp [execOp, ho, hv, Instr.storeAt, Instr.sureAddr, h3], rfl⟩, h4, rel_undef⟩
  · cases ha

theorem rel_fn_inv {f : FuncId} {a b : List AV} {v : Value} (hh : rel ρ μ w (.fn (.func f) a b) v) : ∃ x y, v = .func (.func f) x y := by
  unfold rel at hh
  obtain ⟨f', x, y, h1, h2, _⟩ := hh
  simp only [fnRel] at h2
  subst h2
  exact ⟨_, _, h1⟩
theorem rel_ifc_inv {t : TypeId} {a : AV} {v : Value} (hh : rel ρ μ w (.ifc t a) v) : ∃ u, v = .iface t u ∧ rel ρ μ w a u := by unfold rel at hh; exact hh

theorem op_nilCheck {x : Operand} (hr : HR P ρ fl μ h w) (he : EnvR ρ μ w tmps ev) (ho : o.op = .nilCheck x) (ha : aNilCheck P o tmps h x = some (n, h')) :
    OpOK P ρ fl μ h w ((execOp ev o).run P w) n h' := by
  unfold aNilCheck at ha
  split at ha
  · rename_i b off hx
    simp only [Option.some.injEq, Prod.mk.injEq] at ha
    obtain ⟨rfl, rfl⟩ := ha
    have h1 := he x _ hx
    obtain ⟨r, base, hb, hv⟩ := rel_ptr_inv h1
    exact valOK_here hr (by simp [execOp, ho, hv]) (hv ▸ h1)
  · rename_i g a b hx
    simp only [Option.some.injEq, Prod.mk.injEq] at ha
    obtain ⟨rfl, rfl⟩ := ha
    have h1 := he x _ hx
    obtain ⟨p, q, hv⟩ := rel_fn_inv h1
    exact valOK_here hr (by simp [execOp, ho, hv]) (hv ▸ h1)
  · rename_i t u hx
    simp only [Option.some.injEq, Prod.mk.injEq] at ha
    obtain ⟨rfl, rfl⟩ := ha
    have h1 := he x _ hx
    obtain ⟨q, hv, _⟩ := rel_ifc_inv h1
    exact valOK_here hr (by simp [execOp, ho, hv]) (hv ▸ h1)
  · exact orLit_sound hr he ha fun hk => by cases hk

/-! Comparisons. -/

theorem eqGuard_run {op : BinOp} {t : TypeId} {x y : Operand} {a b : Value} (h1 : ¬ (a = .nilIface ∧ b = .nilIface)) (h2 : ∀ cs, a ≠ .agg cs) (w : World) : (eqGuard op t x y a b).run P w = .ok () w := by
  unfold eqGuard
  cases op <;> (try rfl)
  all_goals (cases a <;> first | rfl | (exact absurd rfl (h2 _)) | (cases b <;> first | rfl | exact absurd ⟨rfl, rfl⟩ h1))

theorem equal_succ (t : TypeId) (x y : Value) : Op.equal t x y = Op.equalIn (9999 + 1) t x y := rfl

theorem getB_cells {b : Nat} (hb : (getB h b).isSome = true) : ∃ l e, h.at b = some (.cells l e) ∧ getB h b = some (l, e) := by
  obtain ⟨⟨l, e⟩, hx⟩ := Option.isSome_iff_exists.1 hb
  exact ⟨l, e, (getB_R hx).1, hx⟩

theorem sameA_sound {t : TypeId} {d : TypeDesc} {a b : AV} {x y : Value} {r : Bool} (hT : TT.Sound P T) (hr : HR P ρ fl μ h w) (hd : und T t = some d) (ha : rel ρ μ w a x) (hb : rel ρ μ w b y) (hs : sameA T d a b = some r) :
    (Op.equal t x y).run P w = .ok r w ∧ ¬ (x = .nilIface ∧ y = .nilIface) ∧ ∀ cs, x ≠ .agg cs := by
  have hu := run_und hT hd w
  rw [equal_succ]
  generalize 9999 = dep
  unfold sameA at hs
  split at hs
  case h_1 =>
    obtain rfl := Option.some.inj hs
    obtain ⟨r, base, _, rfl⟩ := rel_ptr_inv ha
    obtain rfl := rel_lit_inv hb
    exact ⟨by simp [Op.equalIn, hu], by simp, by simp⟩
  case h_2 =>
    obtain rfl := Option.some.inj hs
    obtain ⟨r, base, _, rfl⟩ := rel_ptr_inv hb
    obtain rfl := rel_lit_inv ha
    exact ⟨by simp [Op.equalIn, hu], by simp, by simp⟩
  case h_3 =>
    obtain rfl := Option.some.inj hs
    unfold rel at ha
    obtain ⟨r, base, o, c, _, rfl, _⟩ := ha
    obtain rfl := rel_lit_inv hb
    exact ⟨by simp [Op.equalIn, hu], by simp, by simp⟩
  case h_4 =>
    obtain rfl := Option.some.inj hs
    unfold rel at hb
    obtain ⟨r, base, o, c, _, rfl, _⟩ := hb
    obtain rfl := rel_lit_inv ha
    exact ⟨by simp [Op.equalIn, hu], by simp, by simp⟩
  case h_5 =>
    obtain rfl := Option.some.inj hs
    unfold rel at ha
    obtain ⟨r, _, rfl⟩ := ha
    obtain rfl := rel_lit_inv hb
    exact ⟨by simp [Op.equalIn, hu], by simp, by simp⟩
  case h_6 =>
    obtain rfl := Option.some.inj hs
    unfold rel at hb
    obtain ⟨r, _, rfl⟩ := hb
    obtain rfl := rel_lit_inv ha
    exact ⟨by simp [Op.equalIn, hu], by simp, by simp⟩
  case h_7 =>
    obtain rfl := Option.some.inj hs
    unfold rel at ha
    obtain ⟨f', p, q, rfl, _⟩ := ha
    obtain rfl := rel_lit_inv hb
    exact ⟨by simp [Op.equalIn, hu], by simp, by simp⟩
  case h_8 =>
    obtain rfl := Option.some.inj hs
    unfold rel at hb
    obtain ⟨f', p, q, rfl, _⟩ := hb
    obtain rfl := rel_lit_inv ha
    exact ⟨by simp [Op.equalIn, hu], by simp, by simp⟩
  case h_9 =>
    obtain rfl := Option.some.inj hs
    obtain ⟨u, rfl, _⟩ := rel_ifc_inv ha
    obtain rfl := rel_lit_inv hb
    exact ⟨by simp [Op.equalIn, hu], by simp, by simp⟩
  case h_10 =>
    obtain rfl := Option.some.inj hs
    obtain ⟨u, rfl, _⟩ := rel_ifc_inv hb
    obtain rfl := rel_lit_inv ha
    exact ⟨by simp [Op.equalIn, hu], by simp, by simp⟩
  case h_11 e b1 i b2 j =>
    obtain ⟨r1, base1, m1, rfl⟩ := rel_ptr_inv ha
    obtain ⟨r2, base2, m2, rfl⟩ := rel_ptr_inv hb
    split at hs
    case h_2 => cases hs
    rename_i k hk
    have hsz := run_size hT hk w
    refine ⟨?_, by simp, by simp⟩
    cases hbb : Nat.beq b1 b2 with
    | true =>
      rw [hbb] at hs
      obtain rfl := Option.some.inj hs
      obtain rfl := Nat.eq_of_beq_eq_true hbb
      rw [m1] at m2
      obtain ⟨rfl, rfl⟩ := Prod.mk.inj (Option.some.inj m2)
      have e1 : ((⟨r1, base1 + i, none⟩ : Addr) == ⟨r1, base1 + j, none⟩) = Nat.beq i j := by
        rw [Bool.eq_iff_iff]
        simp
      simp [Op.equalIn, hu, hsz, sameAddr, e1]
    | false => rw [hbb] at hs; cases hs
  case h_12 => cases hs

/-- Neither is a plain pair. -/
def loose : Value → Value → Bool
  | .pointer _, .pointer _ | .slice .., .slice .. | .map _, .map _ | .func .., .nilFunc | .nilFunc, .func .. | .iface .., .nilIface | .nilIface, .iface .. => true
  | _, _ => false

theorem bin_loose {t : TypeId} {x y : Value} (hl : loose x y = true) : binOp .eql t x y = (do pure (.bool (← Op.equal t x y))) ∧ binOp .neq t x y = (do pure (.bool (!(← Op.equal t x y)))) := by
  unfold loose at hl
  split at hl <;> first | exact ⟨rfl, rfl⟩ | cases hl

theorem sameA_bin {t : TypeId} {d : TypeDesc} {a b : AV} {x y : Value} {r : Bool} (hd : und T t = some d) (ha : rel ρ μ w a x) (hb : rel ρ μ w b y) (hs : sameA T d a b = some r) :
    binOp .eql t x y = (do pure (.bool (← Op.equal t x y))) ∧ binOp .neq t x y = (do pure (.bool (!(← Op.equal t x y)))) := by
  refine bin_loose ?_
  unfold sameA at hs
  split at hs
  case h_12 => cases hs
  all_goals
    unfold rel at ha hb
    first
      | (obtain ⟨_, _, _, rfl⟩ := ha; obtain ⟨_, _, _, rfl⟩ := hb; rfl)
      | (obtain ⟨_, _, _, rfl⟩ := ha; obtain ⟨rfl, _⟩ := hb; rfl)
      | (obtain ⟨_, _, _, rfl⟩ := hb; obtain ⟨rfl, _⟩ := ha; rfl)
      | (obtain ⟨_, _, _, _, _, rfl, _⟩ := ha; obtain ⟨rfl, _⟩ := hb; rfl)
      | (obtain ⟨_, _, _, _, _, rfl, _⟩ := hb; obtain ⟨rfl, _⟩ := ha; rfl)
      | (obtain ⟨_, _, rfl⟩ := ha; obtain ⟨rfl, _⟩ := hb; rfl)
      | (obtain ⟨_, _, rfl⟩ := hb; obtain ⟨rfl, _⟩ := ha; rfl)
      | (obtain ⟨_, _, _, rfl, _⟩ := ha; obtain ⟨rfl, _⟩ := hb; rfl)
      | (obtain ⟨_, _, _, rfl, _⟩ := hb; obtain ⟨rfl, _⟩ := ha; rfl)
      | (obtain ⟨_, rfl, _⟩ := ha; obtain ⟨rfl, _⟩ := hb; rfl)
      | (obtain ⟨_, rfl, _⟩ := hb; obtain ⟨rfl, _⟩ := ha; rfl)

theorem op_same {op : BinOp} {t ty : TypeId} {x y : Operand} (hT : TT.Sound P T) (hr : HR P ρ fl μ h w) (he : EnvR ρ μ w tmps ev) (ho : o.op = .binOp op t x y ty) (ha : aSame T tmps h op t x y = some (n, h')) :
    OpOK P ρ fl μ h w ((execOp ev o).run P w) n h' := by
  unfold aSame at ha
  split at ha
  case h_2 => cases ha
  rename_i d a b hd hx hy
  split at ha
  · rename_i r hs
    simp only [Option.some.injEq, Prod.mk.injEq] at ha
    obtain ⟨rfl, rfl⟩ := ha
    obtain ⟨h1, h2, h3⟩ := sameA_sound hT hr hd (he x _ hx) (he y _ hy) hs
    refine valOK_here hr (v' := .bool r) ?_ (rel_lit rfl)
    simp only [execOp, ho, Sem.run_bind, eqGuard_run h2 h3, Result.andThen_ok]
    rw [(sameA_bin hd (he x _ hx) (he y _ hy) hs).1]
    simp [h1]
  · rename_i r hs
    simp only [Option.some.injEq, Prod.mk.injEq] at ha
    obtain ⟨rfl, rfl⟩ := ha
    obtain ⟨h1, h2, h3⟩ := sameA_sound hT hr hd (he x _ hx) (he y _ hy) hs
    refine valOK_here hr (v' := .bool !r) ?_ (rel_lit rfl)
    simp only [execOp, ho, Sem.run_bind, eqGuard_run h2 h3, Result.andThen_ok]
    rw [(sameA_bin hd (he x _ hx) (he y _ hy) hs).2]
    simp [h1]
  · cases ha

end Go.Proofs.YtfchbkmegicfoaaGreat.Ex
