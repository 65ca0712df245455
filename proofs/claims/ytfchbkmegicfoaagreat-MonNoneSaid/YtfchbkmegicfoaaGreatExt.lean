/- The abstract machine's operations, held against the model's: conversions, functions, rows, bounds, parts. -/
import Derived.Test.YtfchbkmegicfoaaGreatExs
set_option linter.unusedSimpArgs false
set_option linter.unusedVariables false
namespace Go.Proofs.YtfchbkmegicfoaaGreat.Ex
open Go Go.RowKit

variable {P : Program} {T : TT} {ρ : Nat → Value} {fl : Nat} {μ : Mu} {h : AH} {w : World} {tmps : TM} {ev : Operand → Value} {o : Oper} {n : AN} {h' : AH}

theorem op_convert {src dst : TypeId} {x : Operand} (hT : TT.Sound P T) (hr : HR P ρ fl μ h w) (he : EnvR ρ μ w tmps ev) (ho : o.op = .convert src dst x) (ha : aConvert P T o tmps h src dst x = some (n, h')) :
    OpOK P ρ fl μ h w ((execOp ev o).run P w) n h' := by
  unfold aConvert at ha
  split at ha
  · rename_i k m hx
    split at ha
    · rename_i d0 k' hs hd
      simp only [Option.some.injEq, Prod.mk.injEq] at ha
      obtain ⟨rfl, rfl⟩ := ha
      have h1 := rel_lit_inv (he x _ hx)
      refine valOK_here hr (v' := .int k' (k'.wrap m)) ?_ (rel_lit rfl)
      simp [execOp, ho, h1, convert, run_und hT hs, run_und hT hd, Conv.intToInt]
    · exact orLit_sound hr he ha fun hk => by cases hk
  · rename_i v hx
    refine orLit_sound hr he ha fun hk => aConv1_sound hT hr (he x _ hx) hk ?_
    simp only [execOp, ho, Sem.run_bind]
    rfl
  · cases ha

theorem op_makeInterface {t : TypeId} {x : Operand} (hT : TT.Sound P T) (hr : HR P ρ fl μ h w) (he : EnvR ρ μ w tmps ev) (ho : o.op = .makeInterface t x) (ha : aMakeInterface T tmps h t x = some (n, h')) :
    OpOK P ρ fl μ h w ((execOp ev o).run P w) n h' := by
  unfold aMakeInterface at ha
  split at ha
  · cases ha
  · rename_i d y hne hd hx
    simp only [Option.some.injEq, Prod.mk.injEq] at ha
    obtain ⟨rfl, rfl⟩ := ha
    refine valOK_here hr (v' := .iface t (ev x)) ?_ (by unfold rel; exact ⟨_, rfl, he x _ hx⟩)
    have : (Instr.makeInterface t (ev x)).run P w = .ok (.iface t (ev x)) w := by
      simp only [Instr.makeInterface, Sem.run_bind, run_und hT hd, Result.andThen_ok]
      cases d <;> first | rfl | (exact absurd rfl (hne _))
    simp [execOp, ho, this]
  · cases ha

theorem arr_map (f : Operand → Value) (l : Array Operand) : l.map f = (l.toList.map f).toArray := by
  cases l
  simp

theorem op_makeFunc {f : Fn} {first caps : Array Operand} (hr : HR P ρ fl μ h w) (he : EnvR ρ μ w tmps ev) (ho : o.op = .makeFunc f first caps) (ha : aMakeFunc tmps h f first caps = some (n, h')) :
    OpOK P ρ fl μ h w ((execOp ev o).run P w) n h' := by
  unfold aMakeFunc at ha
  split at ha
  · rename_i a b h1 h2
    cases hy : notYield f with
    | false => rw [hy] at ha; cases ha
    | true =>
      rw [hy] at ha
      simp only [cond_true, Option.some.injEq, Prod.mk.injEq] at ha
      obtain ⟨rfl, rfl⟩ := ha
      refine valOK_here hr (v' := .func f (first.map ev) (caps.map ev)) (by simp [execOp, ho, Instr.makeFunc]) ?_
      unfold rel
      refine ⟨f, first.toList.map ev, caps.toList.map ev, by rw [arr_map, arr_map], ?_, evals_sound he h1, evals_sound he h2⟩
      cases f <;> first | rfl | cases hy
  · cases ha

theorem op_makeMap {t : TypeId} (hr : HR P ρ fl μ h w) (ho : o.op = .makeMap t none) : OpOK P ρ fl μ h w ((execOp ev o).run P w) (.val (.mp h.n)) (h.push (.map [] 0)) := by
  refine ⟨_, _, .map (some w.heap.size), .inl ?_, Eff.alloc hr (o := .map #[] 0) ⟨#[], rfl, rfl, rfl⟩, ?_⟩
  · simp [execOp, ho, Instr.makeMap]
  · unfold rel
    exact ⟨w.heap.size, up_same _ _ _, rfl⟩

theorem natA_inv {v : AV} {k : Nat} {u : Value} (hv : natA v = some k) (hu : rel ρ μ w v u) : ∃ kd i, u = .int kd i ∧ 0 ≤ i ∧ i.toNat = k := by
  unfold natA at hv
  split at hv
  · rename_i i hi
    split at hv
    · unfold intA at hi
      split at hi
      · rename_i kd i'
        obtain rfl := Option.some.inj hi
        exact ⟨kd, _, rel_lit_inv hu, by assumption, Option.some.inj hv⟩
      · cases hi
    · cases hv
  · cases hv

theorem op_makeSlice {t : TypeId} {l c : Operand} (hT : TT.Sound P T) (hr : HR P ρ fl μ h w) (he : EnvR ρ μ w tmps ev) (ho : o.op = .makeSlice t l c) (ha : aMakeSlice T tmps h t l c = some (n, h')) :
    OpOK P ρ fl μ h w ((execOp ev o).run P w) n h' := by
  unfold aMakeSlice at ha
  split at ha
  case h_2 => cases ha
  rename_i e k m hu hl hc
  split at ha
  case h_2 => cases ha
  rename_i i hi
  split at ha
  case isFalse => cases ha
  rename_i hcond
  simp only [Bool.and_eq_true, decide_eq_true_eq] at hcond
  obtain ⟨⟨⟨c1, c2⟩, c3⟩, c4⟩ := hcond
  simp only [Option.some.injEq, Prod.mk.injEq] at ha
  obtain ⟨rfl, rfl⟩ := ha
  obtain ⟨al, al1, al2⟩ := Option.bind_eq_some_iff.1 hl
  obtain ⟨ac, ac1, ac2⟩ := Option.bind_eq_some_iff.1 hc
  obtain ⟨kl, il, e1, e2, rfl⟩ := natA_inv al2 (he l _ al1)
  obtain ⟨kc, ic, f1, f2, rfl⟩ := natA_inv ac2 (he c _ ac1)
  obtain ⟨info, z, g1, g2, g3, g4, g5⟩ := hT.info e i hi
  have hzr := rel_cells (ofVal1_rel (ρ := ρ) (μ := μ) (w := w) g5)
  have hlen := rels_length hzr
  rw [Array.length_toList] at hlen
  have hb : (info.bytes : Int) * ic ≤ 281474976710656 := by
    have h1 : ((i.bytes * ic.toNat : Nat) : Int) ≤ 281474976710656 := by omega
    rw [Int.natCast_mul, Int.toNat_of_nonneg f2, ← g3] at h1
    exact h1
  have hrun := run_make (P := P) w t e info z (und_P hT hu) g1 g4 kl kc il ic e2 (by omega) hb (by omega)
  have hrow := rep_rels hzr ic.toNat
  rw [c4] at hrow
  refine ⟨_, _, .slice (some ⟨w.heap.size, 0, none⟩) il.toNat ic.toNat, .inl ?_, Eff.alloc hr (o := .cells (madeCells z.cells (ic.toNat * info.size)) e) ⟨_, rfl, whole_of (by rw [g2]; exact hrow)⟩, rel_sl_new c1 (by simp only [maxLen]; omega) _⟩
  simp [execOp, ho, e1, f1, hrun]

/-! Slice expressions. -/

def optRel : Option Nat → Option Value → Prop
  | none, u => u = none
  | some k, u => ∃ kd i, u = some (.int kd i) ∧ 0 ≤ i ∧ i.toNat = k

theorem optNat_sound (he : EnvR ρ μ w tmps ev) {x : Option Operand} {k : Option Nat} (hx : optNat tmps x = some k) : optRel k (x.map ev) := by
  cases x with
  | none =>
    change some none = some k at hx
    obtain rfl := Option.some.inj hx
    rfl
  | some y =>
    change (match evalA tmps y with | some v => (natA v).map some | none => none) = some k at hx
    split at hx
    · rename_i v hv
      simp only [Option.map_eq_some_iff] at hx
      obtain ⟨k', h1, rfl⟩ := hx
      obtain ⟨kd, i, h2, h3, h4⟩ := natA_inv h1 (he y _ hv)
      exact ⟨kd, i, by simp [h2], h3, h4⟩
    · cases hx

def capFor (m l : Nat) : Cap → Option Nat → Cap → Prop
  | cap, none, c' => c' = (match cap with | .kn k => .kn (k - l) | .un z => .un z)
  | _, some _, c' => c' = .kn (m - l)

theorem low_run {P : Program} {w : World} {lo : Option Nat} {rlo : Option Value} (y : Nat) (code : BoundsCode) (k m : Nat) : optRel lo rlo → lo.getD 0 ≤ y → (match rlo with
      | some v => (do let l ← Instr.sliceBound v y code; pure (l, k, m))
      | none => (do let l ← pure 0; pure (l, k, m)) : Sem (Nat × Nat × Nat)).run P w = .ok (lo.getD 0, k, m) w := fun h1 hy => by
  cases lo with
  | none => obtain rfl := h1; rfl
  | some k =>
    obtain ⟨kd, i, rfl, h4, h5⟩ := h1
    simp only [Option.getD_some] at hy ⊢
    rw [Sem.run_bind, run_sliceBound w kd i y code h4 (by omega), h5]
    rfl

theorem bounds_sound {isS : Bool} {len c : Nat} {cap c' : Cap} {lo hi mx : Option Nat} {rlo rhi rmx : Option Value} {l r : Nat} (h1 : optRel lo rlo) (h2 : optRel hi rhi) (h3 : optRel mx rmx)
    (hcap : ∀ k, capGe cap len k = some true → k ≤ c) (hb : boundsA len cap lo hi mx = some (l, r, c')) (w : World) :
    ∃ m, (Instr.sliceBounds isS len c rlo rhi rmx).run P w = .ok (l, r, m) w ∧ l ≤ r ∧ r ≤ m ∧ m ≤ c ∧ (mx = none → m = c) ∧ capFor m l cap mx c' := by
  unfold boundsA at hb
  cases mx with
  | some m =>
    obtain ⟨km, im, rfl, m1, m2⟩ := h3
    cases hi with
    | none => simp at hb
    | some k =>
      obtain ⟨kh, ih, rfl, g1, g2⟩ := h2
      simp only at hb
      split at hb
      · rename_i hc
        simp only [Bool.and_eq_true, decide_eq_true_eq, beq_iff_eq] at hc
        simp only [Option.some.injEq, Prod.mk.injEq] at hb
        obtain ⟨rfl, rfl, rfl⟩ := hb
        have hmc := hcap m hc.2
        refine ⟨m, ?_, hc.1.1, hc.1.2, hmc, by simp, rfl⟩
        simp only [Instr.sliceBounds, Sem.run_bind]
        rw [run_sliceBound w km im c _ m1 (by omega), m2]
        simp only [Result.andThen_ok, Sem.run_bind]
        rw [run_sliceBound w kh ih m _ g1 (by omega), g2]
        simp only [Result.andThen_ok]
        exact low_run k _ _ _ h1 hc.1.1
      · cases hb
  | none =>
    obtain rfl := h3
    simp only at hb
    split at hb
    · rename_i hc
      simp only [Bool.and_eq_true, decide_eq_true_eq, beq_iff_eq] at hc
      simp only [Option.some.injEq, Prod.mk.injEq] at hb
      obtain ⟨rfl, rfl, rfl⟩ := hb
      have hrc := hcap _ hc.2
      refine ⟨c, ?_, hc.1, hrc, Nat.le_refl _, fun _ => rfl, rfl⟩
      simp only [Instr.sliceBounds, Sem.run_bind, Sem.run_pure, Result.andThen_ok]
      cases hi with
      | none =>
        obtain rfl := h2
        simp only [Option.getD_none, Sem.run_pure, Result.andThen_ok, Sem.run_bind] at hc ⊢
        exact low_run len _ _ _ h1 hc.1
      | some k =>
        obtain ⟨kh, ih, rfl, g1, g2⟩ := h2
        simp only [Option.getD_some] at hc hrc ⊢
        rw [Sem.run_bind, run_sliceBound w kh ih c _ g1 (by omega), g2]
        simp only [Result.andThen_ok]
        exact low_run k _ _ _ h1 hc.1
    · cases hb

theorem capGe_of {r o' len c : Nat} {cap : Cap} (hh : capRel w r o' len cap c) (k : Nat) (hk : capGe cap len k = some true) : k ≤ c := by
  cases cap with
  | kn m => simp only [capGe, Option.some.injEq, decide_eq_true_eq] at hk; obtain ⟨rfl, _⟩ := hh; exact hk
  | un z =>
    simp only [capGe] at hk
    split at hk
    · exact Nat.le_trans (by assumption) hh.1
    · cases hk

/-- The slice that a slice expression gives. -/
theorem sl_cut {b off len c m l r base r1 o' z : Nat} {cap c' : Cap} {mx : Option Nat} (hb : μ b = some (r1, base)) (ho : c = 0 ∨ o' = base + off) (hc : capRel w r1 (base + off) len cap c)
    (h1 : l ≤ r) (h2 : r ≤ m) (h3 : m ≤ c) (hm : mx = none → m = c) (hf : capFor m l cap mx c') (hz : capFits z c' = true) :
    rel ρ μ w (.sl b (off + l * z) (r - l) c') (.slice (if m = l then some ⟨r1, o', none⟩ else (some ⟨r1, o', none⟩ : Option Addr).map (·.add (l * z))) (r - l) (m - l)) := by
  have hmax := (capRel_le hc).2
  have key : ∃ o2, (if m = l then some ⟨r1, o', none⟩ else (some ⟨r1, o', none⟩ : Option Addr).map (·.add (l * z))) = some ⟨r1, o2, none⟩ ∧ (m - l = 0 ∨ o2 = base + (off + l * z)) := by
    by_cases hml : m = l
    · exact ⟨o', by simp [hml], .inl (by omega)⟩
    · refine ⟨o' + l * z, by simp [hml, addr_add], .inr ?_⟩
      rcases ho with h0 | rfl
      · omega
      · omega
  obtain ⟨o2, e1, e2⟩ := key
  rw [e1]
  unfold rel
  refine ⟨r1, base, o2, m - l, hb, rfl, e2, ?_⟩
  cases mx with
  | some k =>
    simp only [capFor] at hf
    subst hf
    exact ⟨rfl, by omega, by omega⟩
  | none =>
    have hmc := hm rfl
    subst hmc
    simp only [capFor] at hf
    subst hf
    cases cap with
    | kn k =>
      obtain ⟨rfl, _, _⟩ := hc
      exact ⟨rfl, by omega, by omega⟩
    | un z2 =>
      obtain ⟨_, _, q1, cur, e, fz, q2, q3⟩ := hc
      simp only [capFits] at hz
      obtain rfl := Nat.eq_of_beq_eq_true hz
      refine ⟨by omega, by omega, q1, cur, e, fz, q2, ?_⟩
      have : l * z + (m - l) * z = m * z := by rw [← Nat.add_mul]; congr 1; omega
      omega

theorem op_slice {t : TypeId} {x : Operand} {lo hi mx : Option Operand} (hT : TT.Sound P T) (hr : HR P ρ fl μ h w) (he : EnvR ρ μ w tmps ev) (ho : o.op = .slice t x lo hi mx) (ha : aSlice P T o tmps h t x lo hi mx = some (n, h')) :
    OpOK P ρ fl μ h w ((execOp ev o).run P w) n h' := by
  unfold aSlice at ha
  refine orLit_sound hr he ha fun hk => ?_
  split at hk
  case h_2 => cases hk
  rename_i y l0 h0 m0 hx hl hh hm
  have q1 := optNat_sound he hl
  have q2 := optNat_sound he hh
  have q3 := optNat_sound he hm
  have hv := he x _ hx
  unfold aSlice1 at hk
  split at hk
  · rename_i e b off len cap hu
    split at hk
    case h_2 => cases hk
    rename_i z l r c' hz hb
    cases hfit : capFits z c' with
    | false => rw [hfit] at hk; cases hk
    | true =>
      rw [hfit] at hk
      simp only [cond_true, Option.some.injEq, Prod.mk.injEq] at hk
      obtain ⟨rfl, rfl⟩ := hk
      obtain ⟨r1, base, o', c, h1, h2, h3, h4⟩ := rel_sl_inv hv
      obtain ⟨m, b1, b2, b3, b4, b5, b6⟩ := bounds_sound (P := P) (isS := true) (len := len) (c := c) q1 q2 q3 (capGe_of h4) hb w
      refine valOK_here hr ?_ (sl_cut h1 h3 h4 b2 b3 b4 b5 b6 hfit)
      simp [execOp, ho, h2, Instr.sliceAt, Instr.slice, run_und hT hu, b1, run_size hT hz]
  · rename_i k e b off hu
    split at hk
    case h_2 => cases hk
    rename_i z l r c' hz hb
    cases hfit : Nat.ble k 16777216 with
    | false => rw [hfit] at hk; cases hk
    | true =>
      rw [hfit] at hk
      simp only [cond_true, Option.some.injEq, Prod.mk.injEq] at hk
      obtain ⟨rfl, rfl⟩ := hk
      have hk2 := Nat.ble_eq.mp hfit
      obtain ⟨r1, base, h1, h2⟩ := rel_ptr_inv hv
      have h4 : capRel w r1 (base + off) k (.kn k) k := ⟨rfl, Nat.le_refl _, by simp only [maxLen]; omega⟩
      obtain ⟨m, b1, b2, b3, b4, b5, b6⟩ := bounds_sound (P := P) (isS := false) (len := k) (c := k) q1 q2 q3 (capGe_of h4) hb w
      have hcf : capFits z c' = true := by
        cases m0 <;> simp only [capFor] at b6 <;> subst b6 <;> rfl
      refine valOK_here hr ?_ (sl_cut h1 (.inr rfl) h4 b2 b3 b4 b5 b6 hcf)
      simp [execOp, ho, h2, Instr.sliceAt, Instr.sureAddr, run_und hT hu, b1, run_size hT hz]
      split <;> rfl
  · cases hk

end Go.Proofs.YtfchbkmegicfoaaGreat.Ex
