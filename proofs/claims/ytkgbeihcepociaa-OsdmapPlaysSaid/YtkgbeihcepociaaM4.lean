/- Part 4 of the proof: Cmp, Hash, Ln, Fast, ExcL, Sl2, Ty, Cd1, Str, Bkt, Bk2, Gd1, Pl1, Cd2, Cd3, Cd4, Cd5, Con, Cd6, Om1, Om2. -/
import Derived.Test.YtkgbeihcepociaaM3
section

set_option linter.unusedSimpArgs false
set_option linter.unusedVariables false
namespace Go.Proofs.Ytkgbeihcepociaa.Ex
open Go Go.RowKit Go.Lib Go.Sort
def cmpI (xs : List Int) : List Int := Lib.compact xs
def cmpO (xs : List Int) : List Int := cmpI xs ++ List.replicate (xs.length - (cmpI xs).length) 0
theorem cmpI_le (xs : List Int) : (cmpI xs).length ≤ xs.length := by
  unfold cmpI Lib.compact Lib.compactUpTo
  rw [List.length_map]
  have := List.length_filter_le (Lib.keeps xs.toArray) (List.range xs.length)
  rw [List.length_range] at this
  exact this
theorem cmpO_len (xs : List Int) : (cmpO xs).length = xs.length := by
  have := cmpI_le xs
  unfold cmpO
  rw [List.length_append, List.length_replicate]
  omega
def sCompact : List AV → AH → Option (AV × AH)
  | [.sl b 0 n cap], h => bif Nat.beq n 0 then some (.sl b 0 n cap, h) else match h.at b with
    | some (.cells l e) => match intsL l with
      | some xs => bif Nat.beq n xs.length && Nat.ble xs.length 4611686018427387903 then some (.sl b 0 (cmpI xs).length cap, h.put b (.cells (avI (cmpO xs)) e)) else none
      | none => none
    | _ => none
  | [.lit (.slice none 0 0)], h => some (.lit (.slice none 0 0), h)
  | _, _ => none
variable {ρ : Nat → Value} {fl : Nat}
theorem sCompact_ok {μ : Mu} {h h' : AH} {w : World} {v : AV} {args : List AV} {args' : List Value} (hg : sCompact args h = some (v, h')) (hr : HR Try.prog ρ fl μ h w) (ha : rels ρ μ w args args') :
    Calls Try.prog 90 args'.toArray w fun e w' => ∃ μ' v', e = .returned v' ∧ Eff Try.prog ρ fl μ h w μ' h' w' ∧ rel ρ μ' w' v v' := by
  have hnone : ∀ p c, Calls Try.prog 90 #[.slice p 0 c] w fun e w' => e = .returned (.slice p 0 c) ∧ w' = w := fun p c => Any.slices_Compact_int_empty Try.lays20 p c w
  unfold sCompact at hg
  split at hg
  · rename_i b n c
    obtain ⟨v1, vs, rfl, r1, r2⟩ := rels_cons_inv ha
    obtain rfl := rels_nil_inv r2
    cases hn : Nat.beq n 0 with
    | true =>
      rw [hn] at hg
      cases hg
      have h0 : n = 0 := Nat.eq_of_beq_eq_true hn
      subst h0
      have hv : ∃ p c', v1 = .slice p 0 c' := by
        rcases rel_sl_inv r1 with ⟨r, base, o, c', _, rfl, _⟩ | hh
        · exact ⟨_, _, rfl⟩
        · obtain ⟨h1, h2, p, rfl⟩ := hh
          exact ⟨_, _, rfl⟩
      obtain ⟨p, c', rfl⟩ := hv
      refine (hnone p c').mono fun e w' hy => ?_
      obtain ⟨rfl, rfl⟩ := hy
      exact ⟨μ, _, rfl, Eff.refl hr, r1⟩
    | false =>
    rw [hn] at hg
    simp only [cond_false] at hg
    split at hg
    case h_2 => cases hg
    rename_i l e hb
    split at hg
    case h_2 => cases hg
    rename_i xs hxs
    cases hcc : (Nat.beq n xs.length && Nat.ble xs.length 4611686018427387903) with
    | false => rw [hcc] at hg; cases hg
    | true =>
    rw [hcc] at hg
    cases hg
    simp only [Bool.and_eq_true] at hcc
    have hnx : n = xs.length := Nat.eq_of_beq_eq_true hcc.1
    have hle : xs.length ≤ 4611686018427387903 := Nat.le_of_ble_eq_true hcc.2
    have hn0 : n ≠ 0 := fun hh => by subst hh; cases hn
    obtain rfl := intsL_eq hxs
    subst hnx
    rcases rel_sl_inv r1 with ⟨r, base, o, c', m1, rfl, hco, hcap⟩ | hh
    case inr => exact absurd hh.1 hn0
    have hc0 := (capRel_le hcap).1
    have ho : o = base := by rcases hco with h | h <;> omega
    subst ho
    have hgb : getB h b = some (avI xs, e) := by unfold getB; rw [hb]
    obtain ⟨cur, k1, k2, k3⟩ := getB_sound hr m1 hgb
    have hgx : ∀ (ys : List Int) (j : Nat) (hj : j < ys.length), (avI ys)[j]? = some (.lit (.int .i64 ys[j])) := fun ys j hj => by
      unfold avI
      rw [List.getElem?_map, List.getElem?_eq_getElem hj]
      rfl
    have hlA : (avI xs).length = xs.length := by unfold avI; simp
    have hH : Holds (Value.int .i64) w r o xs.toArray := fun j hj => by
      have hj' : j < xs.length := by simpa using hj
      obtain ⟨v0, q1, q2⟩ := k2.2 j _ (hgx xs j hj')
      refine ⟨?_, frozen_in k1⟩
      rw [cell_in k1, q1, rel_lit_inv q2]
      simp [hj']
    have hsl : (cmpO xs).length = xs.length := cmpO_len xs
    refine (Any.slices_Compact_int Try.lays20 r o c' xs w hH (by omega) hc0).mono fun e' w' hy => ?_
    obtain ⟨rfl, n', rfl⟩ := hy
    obtain ⟨hone, hat⟩ := one_putRow (enc := Value.int .i64) k1 n' o (cmpO xs).toArray
    have hef : Eff Try.prog ρ fl μ h w μ (h.put b (.cells (avI (cmpO xs)) e)) (putRow (Value.int .i64) (Sort.ahead w n') r o (cmpO xs).toArray) := by
      refine Eff.upd hr m1 hb rfl hone hat ⟨_, rfl, ⟨?_, fun i x hi => ?_⟩, fun hbg => ?_⟩
      · have := k2.1
        unfold putCells avI
        rw [hlA] at this
        simpa [hsl] using this
      · have hi' : i < (cmpO xs).length := by
          have := (List.getElem?_eq_some_iff.1 hi).1
          unfold avI at this
          simpa using this
        rw [hgx _ i hi'] at hi
        cases hi
        refine ⟨.int .i64 (cmpO xs)[i], ?_, rel_lit rfl⟩
        have hsz := k2.1
        rw [hlA] at hsz
        unfold putCells
        rw [Array.getElem?_mapIdx, Array.getElem?_eq_getElem (by omega)]
        simp only [Option.map_some, List.size_toArray]
        rw [if_pos ⟨Nat.le_add_right _ _, by omega⟩, show o + i - o = i by omega]
        simp [hi']
      · obtain ⟨b1, b2⟩ := k3 hbg
        refine ⟨b1, ?_⟩
        rw [hlA] at b2
        unfold putCells avI
        simpa [hsl] using b2
    have hgr : Grows w (putRow (Value.int .i64) (Sort.ahead w n') r o (cmpO xs).toArray) := hef.grows
    have hcl := cmpI_le xs
    refine ⟨μ, _, rfl, hef, ?_⟩
    have hcap2 : capRel w r (o + 0) (cmpI xs).length c c' := by
      cases c with
      | kn k => exact ⟨hcap.1, Nat.le_trans hcl hcap.2.1, hcap.2.2⟩
      | un z => exact ⟨Nat.le_trans hcl hcap.1, hcap.2.1, hcap.2.2.1, hcap.2.2.2⟩
    unfold rel
    exact .inl ⟨r, o, o, c', m1, rfl, .inr (by omega), hcap2.mono hgr⟩
  · cases hg
    obtain ⟨v1, vs, rfl, r1, r2⟩ := rels_cons_inv ha
    obtain rfl := rels_nil_inv r2
    have r1' := r1
    obtain rfl := rel_lit_inv r1
    refine (hnone none 0).mono fun e w' hy => ?_
    obtain ⟨rfl, rfl⟩ := hy
    exact ⟨μ, _, rfl, Eff.refl hr, r1'⟩
  · cases hg
end Go.Proofs.Ytkgbeihcepociaa.Ex
end

section

set_option linter.unusedSimpArgs false
set_option linter.unusedVariables false
set_option maxRecDepth 10000
set_option maxHeartbeats 4000000
namespace Go.Proofs.Ytkgbeihcepociaa.Ex
open Go
abbrev I3 := Int × Int × Int
/-- One round of MIX. -/
def mixR (s0 s1 s2 : Int) (x : I3) : I3 :=
  let a := xorI .u32 (IntKind.u32.wrap (IntKind.u32.wrap (x.1 - x.2.1) - x.2.2)) (shrI .u32 x.2.2 s0)
  let b := xorI .u32 (IntKind.u32.wrap (IntKind.u32.wrap (x.2.1 - x.2.2) - a)) (shlI .u32 a s1)
  let c := xorI .u32 (IntKind.u32.wrap (IntKind.u32.wrap (x.2.2 - a) - b)) (shrI .u32 b s2)
  (a, b, c)
def mixN : Nat → I3 → I3
  | 0, x => x
  | 1, x => mixR 13 8 13 x
  | 2, x => mixR 12 16 5 (mixR 13 8 13 x)
  | _, x => mixR 3 10 15 (mixR 12 16 5 (mixR 13 8 13 x))
def mix3 (x : I3) : I3 := mixN 3 x
def u3 (a : Int) : AV := .lit (.int .u32 a)
def mixTab : AV := .agg [.lit (.int .i64 13), .lit (.int .i64 8), .lit (.int .i64 13), .lit (.int .i64 12), .lit (.int .i64 16), .lit (.int .i64 5), .lit (.int .i64 3), .lit (.int .i64 10), .lit (.int .i64 15)]
theorem mixV0 : pur Try.prog (Instr.index 229 (.agg #[.int .i64 13, .int .i64 8, .int .i64 13, .int .i64 12, .int .i64 16, .int .i64 5, .int .i64 3, .int .i64 10, .int .i64 15]) (.int .i64 0)) = some (.ok (.agg #[.int .i64 13, .int .i64 8, .int .i64 13])) := by kernel_rfl
theorem mixV1 : pur Try.prog (Instr.index 229 (.agg #[.int .i64 13, .int .i64 8, .int .i64 13, .int .i64 12, .int .i64 16, .int .i64 5, .int .i64 3, .int .i64 10, .int .i64 15]) (.int .i64 1)) = some (.ok (.agg #[.int .i64 12, .int .i64 16, .int .i64 5])) := by kernel_rfl
theorem mixV2 : pur Try.prog (Instr.index 229 (.agg #[.int .i64 13, .int .i64 8, .int .i64 13, .int .i64 12, .int .i64 16, .int .i64 5, .int .i64 3, .int .i64 10, .int .i64 15]) (.int .i64 2)) = some (.ok (.agg #[.int .i64 3, .int .i64 10, .int .i64 15])) := by kernel_rfl
section
variable {t : TM} {h : AH} {d : Option Tmp} {ty : TypeId} {ps : String} {af : Array Edge} {g : Option (Nat × Bool)}
theorem mixTab0 {i j : Nat} (hx : t.get i = mixTab) (hy : t.get j = .lit (.int .i64 0)) : aop Try.prog (tabOf Try.prog NT0) ⟨d, .index 229 (.tmp i) (.tmp j), ty, ps, af, g⟩ t h = some (.val (.agg [.lit (.int .i64 13), .lit (.int .i64 8), .lit (.int .i64 13)]), h) :=
  a_index_lit (by rw [hx]; rfl) (by rw [hy]; rfl) mixV0 rfl
theorem mixTab1 {i j : Nat} (hx : t.get i = mixTab) (hy : t.get j = .lit (.int .i64 1)) : aop Try.prog (tabOf Try.prog NT0) ⟨d, .index 229 (.tmp i) (.tmp j), ty, ps, af, g⟩ t h = some (.val (.agg [.lit (.int .i64 12), .lit (.int .i64 16), .lit (.int .i64 5)]), h) :=
  a_index_lit (by rw [hx]; rfl) (by rw [hy]; rfl) mixV1 rfl
theorem mixTab2 {i j : Nat} (hx : t.get i = mixTab) (hy : t.get j = .lit (.int .i64 2)) : aop Try.prog (tabOf Try.prog NT0) ⟨d, .index 229 (.tmp i) (.tmp j), ty, ps, af, g⟩ t h = some (.val (.agg [.lit (.int .i64 3), .lit (.int .i64 10), .lit (.int .i64 15)]), h) :=
  a_index_lit (by rw [hx]; rfl) (by rw [hy]; rfl) mixV2 rfl
end
theorem trio_x {H : AH} {p : Nat} {x : I3} (hp : H.at p = some (.cells [.lit (.int .u32 x.1), .lit (.int .u32 x.2.1), .lit (.int .u32 x.2.2)] 204)) :
    WC Try.prog (tabOf Try.prog NT0) S00 150 [.ptr p 0] H fun r h' => h'.at p = some (.cells [.lit (.int .u32 (mix3 x).1), .lit (.int .u32 (mix3 x).2.1), .lit (.int .u32 (mix3 x).2.2)] 204) ∧ H.n ≤ h'.n ∧ ∀ q, q < H.n → q ≠ p → h'.at q = H.at q := by
  refine WC_fn Try.func150 rfl rfl ?_
  have hlt := at_lt hp
  have L0 := fun e off => ld_at (T := tabOf Try.prog NT0) hp e off
  simp only [core, Nat.reduceAdd, Nat.reduceSub, Nat.reduceMul, Nat.reduceLT, Nat.reduceEqDiff, reduceCtorEq, Nat.reduceLeDiff, Int.reduceLE, Int.reduceLT, Int.reduceToNat, Try.ntmps150]
  rw [WB_regionD [0, 1, 2, 3, 4, 5, 6, 7, 8, 9, 10, 11, 12, 13, 14] 26958519655973595170767904528538414010378582634470141901892646633472 (by kernel_rfl)]
  repeat ((with_reducible refine WDM_cons ?_; simp only [dw1]; try simp only [dw2, Nat.reduceAdd, Nat.reduceMul, Nat.reduceShiftRight, Nat.reduceMod, Nat.reduceEqDiff]); simp only [core, Nat.reduceAdd, Nat.reduceSub, Nat.reduceMul, Nat.reduceLT, Nat.reduceEqDiff, reduceCtorEq, Nat.reduceLeDiff, Int.reduceLE, Int.reduceLT, Int.reduceToNat, cored, L0])
  refine WB_for 3 (fun i t h => Ext H.n H h ∧ t.n = 63 ∧ t.get 0 = .ptr p 0 ∧ t.get 2 = .lit (.int .u32 (mixN i x).1) ∧ t.get 3 = .lit (.int .u32 (mixN i x).2.1) ∧ t.get 4 = .lit (.int .u32 (mixN i x).2.2) ∧ t.get 22 = mixTab ∧ t.get 23 = .lit (.int .i64 i)) ?_ ?_ _ _ ?_
  · rintro i t h hi hc ⟨he, hn, g0, g2, g3, g4, g22, g23⟩ ih
    have hi3 : i = 0 ∨ i = 1 ∨ i = 2 := by omega
    rcases hi3 with rfl | rfl | rfl
    · have g23 : t.get 23 = .lit (.int .i64 0) := g23
      have hw : IntKind.i64.wrap ((0 : Int) + 1) = ((0 + 1 : Nat) : Int) := by decide
      have hc : ((0 : Int) < 3) = True := by decide
      simp only [core, Nat.reduceAdd, Nat.reduceSub, Nat.reduceMul, Nat.reduceLT, Nat.reduceEqDiff, reduceCtorEq, Nat.reduceLeDiff, Int.reduceLE, Int.reduceLT, Int.reduceToNat, hn, g0, g2, g3, g4, g22, g23, hc, hw, mixTab0]
      refine ih _ _ ?_
      simp only [core, Nat.reduceAdd, Nat.reduceSub, Nat.reduceMul, Nat.reduceLT, Nat.reduceEqDiff, reduceCtorEq, Nat.reduceLeDiff, Int.reduceLE, Int.reduceLT, Int.reduceToNat, hn, g0, g2, g3, g4, g22, g23]
      refine ⟨he.push _ he.1, ?_⟩
      (repeat' apply And.intro) <;> first | rfl | trivial
    · have g23 : t.get 23 = .lit (.int .i64 1) := g23
      have hw : IntKind.i64.wrap ((1 : Int) + 1) = ((1 + 1 : Nat) : Int) := by decide
      have hc : ((1 : Int) < 3) = True := by decide
      simp only [core, Nat.reduceAdd, Nat.reduceSub, Nat.reduceMul, Nat.reduceLT, Nat.reduceEqDiff, reduceCtorEq, Nat.reduceLeDiff, Int.reduceLE, Int.reduceLT, Int.reduceToNat, hn, g0, g2, g3, g4, g22, g23, hc, hw, mixTab1]
      refine ih _ _ ?_
      simp only [core, Nat.reduceAdd, Nat.reduceSub, Nat.reduceMul, Nat.reduceLT, Nat.reduceEqDiff, reduceCtorEq, Nat.reduceLeDiff, Int.reduceLE, Int.reduceLT, Int.reduceToNat, hn, g0, g2, g3, g4, g22, g23]
      refine ⟨he.push _ he.1, ?_⟩
      (repeat' apply And.intro) <;> first | rfl | trivial
    · have g23 : t.get 23 = .lit (.int .i64 2) := g23
      have hw : IntKind.i64.wrap ((2 : Int) + 1) = ((2 + 1 : Nat) : Int) := by decide
      have hc : ((2 : Int) < 3) = True := by decide
      simp only [core, Nat.reduceAdd, Nat.reduceSub, Nat.reduceMul, Nat.reduceLT, Nat.reduceEqDiff, reduceCtorEq, Nat.reduceLeDiff, Int.reduceLE, Int.reduceLT, Int.reduceToNat, hn, g0, g2, g3, g4, g22, g23, hc, hw, mixTab2]
      refine ih _ _ ?_
      simp only [core, Nat.reduceAdd, Nat.reduceSub, Nat.reduceMul, Nat.reduceLT, Nat.reduceEqDiff, reduceCtorEq, Nat.reduceLeDiff, Int.reduceLE, Int.reduceLT, Int.reduceToNat, hn, g0, g2, g3, g4, g22, g23]
      refine ⟨he.push _ he.1, ?_⟩
      (repeat' apply And.intro) <;> first | rfl | trivial
  · rintro t h hc ⟨he, hn, g0, g2, g3, g4, g22, g23⟩
    have g23 : t.get 23 = .lit (.int .i64 3) := g23
    have hc : ((3 : Int) < 3) = False := by decide
    have hp2 : h.at p = some (.cells [.lit (.int .u32 x.1), .lit (.int .u32 x.2.1), .lit (.int .u32 x.2.2)] 204) := (he.2 p hlt).trans hp
    have hlt2 : p < h.n := at_lt hp2
    simp only [core, Nat.reduceAdd, Nat.reduceSub, Nat.reduceMul, Nat.reduceLT, Nat.reduceEqDiff, reduceCtorEq, Nat.reduceLeDiff, Int.reduceLE, Int.reduceLT, Int.reduceToNat, hn, g0, g2, g3, g4, g22, g23, hc, hp2]
    refine ⟨.inl trivial, at_put_same _ hlt2, he.1, fun q hq hqp => ?_⟩
    rw [at_put_ne _ (Ne.symm hqp)]
    exact he.2 q hq
  · simp only [core, Nat.reduceAdd, Nat.reduceSub, Nat.reduceMul, Nat.reduceLT, Nat.reduceEqDiff, reduceCtorEq, Nat.reduceLeDiff, Int.reduceLE, Int.reduceLT, Int.reduceToNat]
    refine ⟨Ext.refl _ _, ?_⟩
    (repeat' apply And.intro) <;> first | rfl | trivial
/-- A number in a block of its own. -/
def Bx (h : AH) (p : Nat) (a : Int) : Prop := h.at p = some (.cells [.lit (.int .u32 a)] 123)
theorem mix_x {H : AH} {p q r : Nat} {x : I3} (hp : Bx H p x.1) (hq : Bx H q x.2.1) (hr : Bx H r x.2.2) (pq : p ≠ q) (pr : p ≠ r) (qr : q ≠ r) :
    WC Try.prog (tabOf Try.prog NT0) S00 132 [.ptr p 0, .ptr q 0, .ptr r 0] H fun _ h' => Bx h' p (mix3 x).1 ∧ Bx h' q (mix3 x).2.1 ∧ Bx h' r (mix3 x).2.2 ∧ H.n ≤ h'.n ∧ ∀ b, b < H.n → b ≠ p → b ≠ q → b ≠ r → h'.at b = H.at b := by
  refine WC_fn Try.func132 rfl rfl ?_
  have lp := at_lt hp
  have lq := at_lt hq
  have lr := at_lt hr
  have Lp := fun e off => ld_at (T := tabOf Try.prog NT0) hp e off
  have Lq := fun e off => ld_at (T := tabOf Try.prog NT0) hq e off
  have Lr := fun e off => ld_at (T := tabOf Try.prog NT0) hr e off
  simp only [core, Nat.reduceAdd, Nat.reduceSub, Nat.reduceMul, Nat.reduceLT, Nat.reduceEqDiff, reduceCtorEq, Nat.reduceLeDiff, Int.reduceLE, Int.reduceLT, Int.reduceToNat, Try.ntmps132]
  rw [WB_regionD [0, 1, 2, 3, 4, 5, 6, 7, 8, 9, 10, 11] 11144928247238770519951308239364144742010880 (by kernel_rfl)]
  repeat ((with_reducible refine WDM_cons ?_; simp only [dw1]; try simp only [dw2, Nat.reduceAdd, Nat.reduceMul, Nat.reduceShiftRight, Nat.reduceMod, Nat.reduceEqDiff]); simp only [core, Nat.reduceAdd, Nat.reduceSub, Nat.reduceMul, Nat.reduceLT, Nat.reduceEqDiff, reduceCtorEq, Nat.reduceLeDiff, Int.reduceLE, Int.reduceLT, Int.reduceToNat, cored, Lp, Lq, Lr, lp, lq, lr])
  refine (trio_x (x := x) (at_push_n H _)).mono ?_
  rintro _ h1 ⟨h2, h3, h4⟩
  rw [n_push] at h3 h4
  have e1 : ∀ b, b < H.n → h1.at b = H.at b := fun b hb => (h4 b (by omega) (by omega)).trans (at_push_lt _ hb)
  have l0 : H.n < h1.n := by omega
  have lp1 : p < h1.n := by omega
  have lq1 : q < h1.n := by omega
  have lr1 : r < h1.n := by omega
  have L0 := fun e off => ld_at (T := tabOf Try.prog NT0) h2 e off
  have P1 := (e1 p lp).trans hp
  have Q1 := (e1 q lq).trans hq
  have R1 := (e1 r lr).trans hr
  simp only [core, Nat.reduceAdd, Nat.reduceSub, Nat.reduceMul, Nat.reduceLT, Nat.reduceEqDiff, reduceCtorEq, Nat.reduceLeDiff, Int.reduceLE, Int.reduceLT, Int.reduceToNat, L0, P1, Q1, R1, pq, pr, qr, lp1, lq1, lr1]
  refine ⟨.inl trivial, ?_, ?_, ?_, by omega, fun b hb b1 b2 b3 => ?_⟩
  · unfold Bx
    rw [at_put_ne _ (Ne.symm pr), at_put_ne _ (Ne.symm pq), at_put_same _ lp1]
  · unfold Bx
    rw [at_put_ne _ (Ne.symm qr), at_put_same _ (by rw [n_put]; exact lq1)]
  · unfold Bx
    rw [at_put_same _ (by rw [n_put, n_put]; exact lr1)]
  · rw [at_put_ne _ (Ne.symm b3), at_put_ne _ (Ne.symm b2), at_put_ne _ (Ne.symm b1)]
    exact e1 b hb
theorem Bx.ld {h : AH} {p : Nat} {a : Int} (hb : Bx h p a) (e off : Nat) : loadA (tabOf Try.prog NT0) h e p off = ldL (tabOf Try.prog NT0) e [.lit (.int .u32 a)] off := ld_at hb e off
theorem Bx.new {h : AH} {a : Int} {p : Nat} (hp : p = h.n) : Bx (h.push (.cells [.lit (.int .u32 a)] 123)) p a := by subst hp; exact at_push_n h _
theorem Bx.old {h : AH} {a : Int} {p : Nat} {x : AB} (hb : Bx h p a) : Bx (h.push x) p a := (at_push_lt _ (at_lt hb)).trans hb
theorem Bx.put {h : AH} {a b : Int} {p : Nat} (hb : Bx h p a) : Bx (h.put p (.cells [.lit (.int .u32 b)] 123)) p b := at_put_same _ (at_lt hb)
theorem Bx.keep {h : AH} {a : Int} {p q : Nat} {x : AB} (hb : Bx h p a) (hne : q ≠ p) : Bx (h.put q x) p a := (at_put_ne _ hne).trans hb
theorem Bx.lt {h : AH} {a : Int} {p : Nat} (hb : Bx h p a) : p < h.n := at_lt hb
theorem Bx.after {h h' : AH} {a : Int} {b p q r : Nat} (hb : Bx h b a) (hk : ∀ c, c < h.n → c ≠ p → c ≠ q → c ≠ r → h'.at c = h.at c) (h1 : b ≠ p) (h2 : b ≠ q) (h3 : b ≠ r) : Bx h' b a := (hk b hb.lt h1 h2 h3).trans hb
def hash2F (a b : Int) : Int :=
  let t := mix3 (a, b, xorI .u32 (xorI .u32 1315423911 a) b)
  let u := mix3 (231232, t.1, t.2.2)
  (mix3 (t.2.1, 1232, u.2.2)).2.2
def hash3F (a b c : Int) : Int :=
  let t := mix3 (a, b, xorI .u32 (xorI .u32 (xorI .u32 1315423911 a) b) c)
  let u := mix3 (c, 231232, t.2.2)
  let v := mix3 (1232, t.1, u.2.2)
  let w := mix3 (t.2.1, u.2.1, v.2.2)
  (mix3 (v.1, u.1, w.2.2)).2.2
theorem Ext.of_keep {H h h' : AH} {p q r : Nat} (he : Ext H.n H h) (hn : h.n ≤ h'.n) (hk : ∀ c, c < h.n → c ≠ p → c ≠ q → c ≠ r → h'.at c = h.at c) (h1 : H.n ≤ p) (h2 : H.n ≤ q) (h3 : H.n ≤ r) : Ext H.n H h' :=
  ⟨Nat.le_trans he.1 hn, fun b hb => (hk b (by have := he.1; omega) (by omega) (by omega) (by omega)).trans (he.2 b hb)⟩
theorem hash2_x {H : AH} {be oe : Nat} (a b : Int) : WC Try.prog (tabOf Try.prog NT0) S00 96 [.ptr be oe, .lit (.int .u32 a), .lit (.int .u32 b)] H fun r h' => Ext H.n H h' ∧ r = .lit (.int .u32 (hash2F a b)) := by
  refine WC_fn Try.func96 rfl rfl ?_
  simp only [core, Nat.reduceAdd, Nat.reduceSub, Nat.reduceMul, Nat.reduceLT, Nat.reduceEqDiff, reduceCtorEq, Nat.reduceLeDiff, Int.reduceLE, Int.reduceLT, Int.reduceToNat, Try.ntmps96]
  refine (mix_x (x := (a, b, xorI .u32 (xorI .u32 1315423911 a) b)) (by repeat (first | exact Bx.new rfl | refine Bx.old ?_)) (by repeat (first | exact Bx.new rfl | refine Bx.old ?_)) (by repeat (first | exact Bx.new rfl | refine Bx.old ?_)) (by omega) (by omega) (by omega)).mono ?_
  rintro _ h1 ⟨A1, B1, C1, n1, k1⟩
  have X1 : Bx h1 (H.n + 1 + 1 + 1) 231232 := Bx.after (by repeat (first | exact Bx.new rfl | refine Bx.old ?_)) k1 (by omega) (by omega) (by omega)
  have Y1 : Bx h1 (H.n + 1 + 1 + 1 + 1) 1232 := Bx.after (by repeat (first | exact Bx.new rfl | refine Bx.old ?_)) k1 (by omega) (by omega) (by omega)
  have E1 : Ext H.n H h1 := Ext.of_keep (by repeat (first | exact Ext.refl _ _ | refine Ext.push _ ?_ (by (try simp only [n_push]); omega))) n1 k1 (by omega) (by omega) (by omega)
  clear n1 k1
  obtain ⟨t, ht⟩ : ∃ t, t = mix3 (a, b, xorI .u32 (xorI .u32 1315423911 a) b) := ⟨_, rfl⟩
  rw [← ht] at A1 B1 C1
  simp only [core, Nat.reduceAdd, Nat.reduceSub, Nat.reduceMul, Nat.reduceLT, Nat.reduceEqDiff, reduceCtorEq, Nat.reduceLeDiff, Int.reduceLE, Int.reduceLT, Int.reduceToNat]
  refine (mix_x (x := (231232, t.1, t.2.2)) X1 A1 C1 (by omega) (by omega) (by omega)).mono ?_
  rintro _ h2 ⟨X2, A2, C2, n2, k2⟩
  have B2 := B1.after k2 (by omega) (by omega) (by omega)
  have Y2 := Y1.after k2 (by omega) (by omega) (by omega)
  have E2 := Ext.of_keep E1 n2 k2 (by omega) (by omega) (by omega)
  obtain ⟨u, hu⟩ : ∃ u, u = mix3 (231232, t.1, t.2.2) := ⟨_, rfl⟩
  rw [← hu] at X2 A2 C2
  simp only [core, Nat.reduceAdd, Nat.reduceSub, Nat.reduceMul, Nat.reduceLT, Nat.reduceEqDiff, reduceCtorEq, Nat.reduceLeDiff, Int.reduceLE, Int.reduceLT, Int.reduceToNat]
  refine (mix_x (x := (t.2.1, 1232, u.2.2)) B2 Y2 C2 (by omega) (by omega) (by omega)).mono ?_
  rintro _ h3 ⟨B3, Y3, C3, n3, k3⟩
  have E3 := Ext.of_keep E2 n3 k3 (by omega) (by omega) (by omega)
  have L3 := C3.ld
  simp only [core, Nat.reduceAdd, Nat.reduceSub, Nat.reduceMul, Nat.reduceLT, Nat.reduceEqDiff, reduceCtorEq, Nat.reduceLeDiff, Int.reduceLE, Int.reduceLT, Int.reduceToNat, L3]
  refine ⟨E3, ?_⟩
  subst hu ht
  rfl
theorem hash3_x {H : AH} {be oe : Nat} (a b c : Int) : WC Try.prog (tabOf Try.prog NT0) S00 190 [.ptr be oe, .lit (.int .u32 a), .lit (.int .u32 b), .lit (.int .u32 c)] H fun r h' => Ext H.n H h' ∧ r = .lit (.int .u32 (hash3F a b c)) := by
  refine WC_fn Try.func190 rfl rfl ?_
  simp only [core, Nat.reduceAdd, Nat.reduceSub, Nat.reduceMul, Nat.reduceLT, Nat.reduceEqDiff, reduceCtorEq, Nat.reduceLeDiff, Int.reduceLE, Int.reduceLT, Int.reduceToNat, Try.ntmps190]
  obtain ⟨w0, hw0⟩ : ∃ w, w = xorI .u32 (xorI .u32 (xorI .u32 1315423911 a) b) c := ⟨_, rfl⟩
  rw [← hw0]
  refine (mix_x (x := (a, b, w0)) (by repeat (first | exact Bx.new rfl | refine Bx.old ?_)) (by repeat (first | exact Bx.new rfl | refine Bx.old ?_)) (by repeat (first | exact Bx.new rfl | refine Bx.old ?_)) (by omega) (by omega) (by omega)).mono ?_
  rintro _ h1 ⟨A1, B1, W1, n1, k1⟩
  have C1 : Bx h1 (H.n + 1 + 1) c := Bx.after (by repeat (first | exact Bx.new rfl | refine Bx.old ?_)) k1 (by omega) (by omega) (by omega)
  have X1 : Bx h1 (H.n + 1 + 1 + 1 + 1) 231232 := Bx.after (by repeat (first | exact Bx.new rfl | refine Bx.old ?_)) k1 (by omega) (by omega) (by omega)
  have Y1 : Bx h1 (H.n + 1 + 1 + 1 + 1 + 1) 1232 := Bx.after (by repeat (first | exact Bx.new rfl | refine Bx.old ?_)) k1 (by omega) (by omega) (by omega)
  have E1 : Ext H.n H h1 := Ext.of_keep (by repeat (first | exact Ext.refl _ _ | refine Ext.push _ ?_ (by (try simp only [n_push]); omega))) n1 k1 (by omega) (by omega) (by omega)
  clear n1 k1
  obtain ⟨t, ht⟩ : ∃ t, t = mix3 (a, b, w0) := ⟨_, rfl⟩
  rw [← ht] at A1 B1 W1
  simp only [core, Nat.reduceAdd, Nat.reduceSub, Nat.reduceMul, Nat.reduceLT, Nat.reduceEqDiff, reduceCtorEq, Nat.reduceLeDiff, Int.reduceLE, Int.reduceLT, Int.reduceToNat]
  refine (mix_x (x := (c, 231232, t.2.2)) C1 X1 W1 (by omega) (by omega) (by omega)).mono ?_
  rintro _ h2 ⟨C2, X2, W2, n2, k2⟩
  have A2 := A1.after k2 (by omega) (by omega) (by omega)
  have B2 := B1.after k2 (by omega) (by omega) (by omega)
  have Y2 := Y1.after k2 (by omega) (by omega) (by omega)
  have E2 := Ext.of_keep E1 n2 k2 (by omega) (by omega) (by omega)
  obtain ⟨u, hu⟩ : ∃ u, u = mix3 (c, 231232, t.2.2) := ⟨_, rfl⟩
  rw [← hu] at C2 X2 W2
  simp only [core, Nat.reduceAdd, Nat.reduceSub, Nat.reduceMul, Nat.reduceLT, Nat.reduceEqDiff, reduceCtorEq, Nat.reduceLeDiff, Int.reduceLE, Int.reduceLT, Int.reduceToNat]
  refine (mix_x (x := (1232, t.1, u.2.2)) Y2 A2 W2 (by omega) (by omega) (by omega)).mono ?_
  rintro _ h3 ⟨Y3, A3, W3, n3, k3⟩
  have B3 := B2.after k3 (by omega) (by omega) (by omega)
  have X3 := X2.after k3 (by omega) (by omega) (by omega)
  have C3 := C2.after k3 (by omega) (by omega) (by omega)
  have E3 := Ext.of_keep E2 n3 k3 (by omega) (by omega) (by omega)
  obtain ⟨v, hv⟩ : ∃ v, v = mix3 (1232, t.1, u.2.2) := ⟨_, rfl⟩
  rw [← hv] at Y3 A3 W3
  simp only [core, Nat.reduceAdd, Nat.reduceSub, Nat.reduceMul, Nat.reduceLT, Nat.reduceEqDiff, reduceCtorEq, Nat.reduceLeDiff, Int.reduceLE, Int.reduceLT, Int.reduceToNat]
  refine (mix_x (x := (t.2.1, u.2.1, v.2.2)) B3 X3 W3 (by omega) (by omega) (by omega)).mono ?_
  rintro _ h4 ⟨B4, X4, W4, n4, k4⟩
  have Y4 := Y3.after k4 (by omega) (by omega) (by omega)
  have C4 := C3.after k4 (by omega) (by omega) (by omega)
  have E4 := Ext.of_keep E3 n4 k4 (by omega) (by omega) (by omega)
  obtain ⟨z, hz⟩ : ∃ z, z = mix3 (t.2.1, u.2.1, v.2.2) := ⟨_, rfl⟩
  rw [← hz] at B4 X4 W4
  simp only [core, Nat.reduceAdd, Nat.reduceSub, Nat.reduceMul, Nat.reduceLT, Nat.reduceEqDiff, reduceCtorEq, Nat.reduceLeDiff, Int.reduceLE, Int.reduceLT, Int.reduceToNat]
  refine (mix_x (x := (v.1, u.1, z.2.2)) Y4 C4 W4 (by omega) (by omega) (by omega)).mono ?_
  rintro _ h5 ⟨Y5, C5, W5, n5, k5⟩
  have E5 := Ext.of_keep E4 n5 k5 (by omega) (by omega) (by omega)
  have L5 := W5.ld
  simp only [core, Nat.reduceAdd, Nat.reduceSub, Nat.reduceMul, Nat.reduceLT, Nat.reduceEqDiff, reduceCtorEq, Nat.reduceLeDiff, Int.reduceLE, Int.reduceLT, Int.reduceToNat, L5]
  refine ⟨E5, ?_⟩
  subst hz hv hu ht hw0
  rfl
def mixTabU : AV := .agg [.lit (.int .u64 13), .lit (.int .u64 8), .lit (.int .u64 13), .lit (.int .u64 12), .lit (.int .u64 16), .lit (.int .u64 5), .lit (.int .u64 3), .lit (.int .u64 10), .lit (.int .u64 15)]
theorem mixVU0 : pur Try.prog (Instr.index 222 (.agg #[.int .u64 13, .int .u64 8, .int .u64 13, .int .u64 12, .int .u64 16, .int .u64 5, .int .u64 3, .int .u64 10, .int .u64 15]) (.int .i64 0)) = some (.ok (.agg #[.int .u64 13, .int .u64 8, .int .u64 13])) := by kernel_rfl
theorem mixVU1 : pur Try.prog (Instr.index 222 (.agg #[.int .u64 13, .int .u64 8, .int .u64 13, .int .u64 12, .int .u64 16, .int .u64 5, .int .u64 3, .int .u64 10, .int .u64 15]) (.int .i64 1)) = some (.ok (.agg #[.int .u64 12, .int .u64 16, .int .u64 5])) := by kernel_rfl
theorem mixVU2 : pur Try.prog (Instr.index 222 (.agg #[.int .u64 13, .int .u64 8, .int .u64 13, .int .u64 12, .int .u64 16, .int .u64 5, .int .u64 3, .int .u64 10, .int .u64 15]) (.int .i64 2)) = some (.ok (.agg #[.int .u64 3, .int .u64 10, .int .u64 15])) := by kernel_rfl
section
variable {t : TM} {h : AH} {d : Option Tmp} {ty : TypeId} {ps : String} {af : Array Edge} {g : Option (Nat × Bool)}
theorem mixTabU0 {i j : Nat} (hx : t.get i = mixTabU) (hy : t.get j = .lit (.int .i64 0)) : aop Try.prog (tabOf Try.prog NT0) ⟨d, .index 222 (.tmp i) (.tmp j), ty, ps, af, g⟩ t h = some (.val (.agg [.lit (.int .u64 13), .lit (.int .u64 8), .lit (.int .u64 13)]), h) :=
  a_index_lit (by rw [hx]; rfl) (by rw [hy]; rfl) mixVU0 rfl
theorem mixTabU1 {i j : Nat} (hx : t.get i = mixTabU) (hy : t.get j = .lit (.int .i64 1)) : aop Try.prog (tabOf Try.prog NT0) ⟨d, .index 222 (.tmp i) (.tmp j), ty, ps, af, g⟩ t h = some (.val (.agg [.lit (.int .u64 12), .lit (.int .u64 16), .lit (.int .u64 5)]), h) :=
  a_index_lit (by rw [hx]; rfl) (by rw [hy]; rfl) mixVU1 rfl
theorem mixTabU2 {i j : Nat} (hx : t.get i = mixTabU) (hy : t.get j = .lit (.int .i64 2)) : aop Try.prog (tabOf Try.prog NT0) ⟨d, .index 222 (.tmp i) (.tmp j), ty, ps, af, g⟩ t h = some (.val (.agg [.lit (.int .u64 3), .lit (.int .u64 10), .lit (.int .u64 15)]), h) :=
  a_index_lit (by rw [hx]; rfl) (by rw [hy]; rfl) mixVU2 rfl
end
def trioV (x : I3) : AV := .agg [.lit (.int .u32 x.1), .lit (.int .u32 x.2.1), .lit (.int .u32 x.2.2)]
theorem mixRef_x {H : AH} (x : I3) : WC Try.prog (tabOf Try.prog NT0) S00 138 [.agg [.lit (.int .u32 x.1), .lit (.int .u32 x.2.1), .lit (.int .u32 x.2.2)]] H fun r h' => Ext H.n H h' ∧ r = trioV (mix3 x) := by
  refine WC_fn Try.func138 rfl rfl ?_
  simp only [core, Nat.reduceAdd, Nat.reduceSub, Nat.reduceMul, Nat.reduceLT, Nat.reduceEqDiff, reduceCtorEq, Nat.reduceLeDiff, Int.reduceLE, Int.reduceLT, Int.reduceToNat, Try.ntmps138]
  rw [WB_regionD [0, 1, 2, 3, 4, 5, 6, 7, 8] 1204932154128817075520000 (by kernel_rfl)]
  repeat ((with_reducible refine WDM_cons ?_; simp only [dw1]; try simp only [dw2, Nat.reduceAdd, Nat.reduceMul, Nat.reduceShiftRight, Nat.reduceMod, Nat.reduceEqDiff]); simp only [core, Nat.reduceAdd, Nat.reduceSub, Nat.reduceMul, Nat.reduceLT, Nat.reduceEqDiff, reduceCtorEq, Nat.reduceLeDiff, Int.reduceLE, Int.reduceLT, Int.reduceToNat, cored])
  refine WB_for 3 (fun i t h => (Ext H.n H h ∧ h.at (H.n + 1) = some (.cells [.lit (.int .u32 0), .lit (.int .u32 0), .lit (.int .u32 0)] 194)) ∧ t.n = 56 ∧ t.get 2 = .ptr (H.n + 1) 0 ∧ t.get 3 = .lit (.int .u32 (mixN i x).1) ∧ t.get 4 = .lit (.int .u32 (mixN i x).2.1) ∧ t.get 5 = .lit (.int .u32 (mixN i x).2.2) ∧ t.get 17 = mixTabU ∧ t.get 18 = .lit (.int .i64 i)) ?_ ?_ _ _ ?_
  · rintro i t h hi hc ⟨⟨he, ha⟩, hn, g2, g3, g4, g5, g17, g18⟩ ih
    have hi3 : i = 0 ∨ i = 1 ∨ i = 2 := by omega
    have ha' : ∀ x, (h.push x).at (H.n + 1) = some (.cells [.lit (.int .u32 0), .lit (.int .u32 0), .lit (.int .u32 0)] 194) := fun x => (at_push_lt _ (at_lt ha)).trans ha
    rcases hi3 with rfl | rfl | rfl
    · have g18 : t.get 18 = .lit (.int .i64 0) := g18
      have hw : IntKind.i64.wrap ((0 : Int) + 1) = ((0 + 1 : Nat) : Int) := by decide
      have hc : ((0 : Int) < 3) = True := by decide
      simp only [core, Nat.reduceAdd, Nat.reduceSub, Nat.reduceMul, Nat.reduceLT, Nat.reduceEqDiff, reduceCtorEq, Nat.reduceLeDiff, Int.reduceLE, Int.reduceLT, Int.reduceToNat, hn, g2, g3, g4, g5, g17, g18, hc, hw, mixTabU0]
      refine ih _ _ ?_
      simp only [core, Nat.reduceAdd, Nat.reduceSub, Nat.reduceMul, Nat.reduceLT, Nat.reduceEqDiff, reduceCtorEq, Nat.reduceLeDiff, Int.reduceLE, Int.reduceLT, Int.reduceToNat, hn, g2, g3, g4, g5, g17, g18]
      refine ⟨⟨he.push _ he.1, ha' _⟩, ?_⟩
      (repeat' apply And.intro) <;> first | rfl | trivial
    · have g18 : t.get 18 = .lit (.int .i64 1) := g18
      have hw : IntKind.i64.wrap ((1 : Int) + 1) = ((1 + 1 : Nat) : Int) := by decide
      have hc : ((1 : Int) < 3) = True := by decide
      simp only [core, Nat.reduceAdd, Nat.reduceSub, Nat.reduceMul, Nat.reduceLT, Nat.reduceEqDiff, reduceCtorEq, Nat.reduceLeDiff, Int.reduceLE, Int.reduceLT, Int.reduceToNat, hn, g2, g3, g4, g5, g17, g18, hc, hw, mixTabU1]
      refine ih _ _ ?_
      simp only [core, Nat.reduceAdd, Nat.reduceSub, Nat.reduceMul, Nat.reduceLT, Nat.reduceEqDiff, reduceCtorEq, Nat.reduceLeDiff, Int.reduceLE, Int.reduceLT, Int.reduceToNat, hn, g2, g3, g4, g5, g17, g18]
      refine ⟨⟨he.push _ he.1, ha' _⟩, ?_⟩
      (repeat' apply And.intro) <;> first | rfl | trivial
    · have g18 : t.get 18 = .lit (.int .i64 2) := g18
      have hw : IntKind.i64.wrap ((2 : Int) + 1) = ((2 + 1 : Nat) : Int) := by decide
      have hc : ((2 : Int) < 3) = True := by decide
      simp only [core, Nat.reduceAdd, Nat.reduceSub, Nat.reduceMul, Nat.reduceLT, Nat.reduceEqDiff, reduceCtorEq, Nat.reduceLeDiff, Int.reduceLE, Int.reduceLT, Int.reduceToNat, hn, g2, g3, g4, g5, g17, g18, hc, hw, mixTabU2]
      refine ih _ _ ?_
      simp only [core, Nat.reduceAdd, Nat.reduceSub, Nat.reduceMul, Nat.reduceLT, Nat.reduceEqDiff, reduceCtorEq, Nat.reduceLeDiff, Int.reduceLE, Int.reduceLT, Int.reduceToNat, hn, g2, g3, g4, g5, g17, g18]
      refine ⟨⟨he.push _ he.1, ha' _⟩, ?_⟩
      (repeat' apply And.intro) <;> first | rfl | trivial
  · rintro t h hc ⟨⟨he, ha⟩, hn, g2, g3, g4, g5, g17, g18⟩
    have g18 : t.get 18 = .lit (.int .i64 3) := g18
    have hc : ((3 : Int) < 3) = False := by decide
    have hlt : H.n + 1 < h.n := at_lt ha
    simp only [core, Nat.reduceAdd, Nat.reduceSub, Nat.reduceMul, Nat.reduceLT, Nat.reduceEqDiff, reduceCtorEq, Nat.reduceLeDiff, Int.reduceLE, Int.reduceLT, Int.reduceToNat, hn, g2, g3, g4, g5, g17, g18, hc, ha, hlt]
    exact ⟨he.put _ (by omega), rfl⟩
  · simp only [core, Nat.reduceAdd, Nat.reduceSub, Nat.reduceMul, Nat.reduceLT, Nat.reduceEqDiff, reduceCtorEq, Nat.reduceLeDiff, Int.reduceLE, Int.reduceLT, Int.reduceToNat]
    refine ⟨((Ext.refl H.n H).push _ (Nat.le_refl _)).push _ (by rw [n_push]; omega), ?_⟩
    (repeat' apply And.intro) <;> first | rfl | trivial
theorem Tri.keep {h h' : AH} {p : Nat} {x : AB} (he : Ext h.n h h') (hp : h.at p = some x) : h'.at p = some x := (he.2 p (at_lt hp)).trans hp
theorem hash2Ref_x {H : AH} (a b : Int) : WC Try.prog (tabOf Try.prog NT0) S00 102 [.lit (.int .u32 a), .lit (.int .u32 b)] H fun r h' => Ext H.n H h' ∧ r = .lit (.int .u32 (hash2F a b)) := by
  refine WC_fn Try.func102 rfl rfl ?_
  simp only [core, Nat.reduceAdd, Nat.reduceSub, Nat.reduceMul, Nat.reduceLT, Nat.reduceEqDiff, reduceCtorEq, Nat.reduceLeDiff, Int.reduceLE, Int.reduceLT, Int.reduceToNat, Try.ntmps102]
  refine (mixRef_x (a, b, xorI .u32 (xorI .u32 1315423911 a) b)).mono ?_
  rintro _ h1 ⟨e1, rfl⟩
  obtain ⟨t, ht⟩ : ∃ t, t = mix3 (a, b, xorI .u32 (xorI .u32 1315423911 a) b) := ⟨_, rfl⟩
  rw [← ht]
  unfold trioV
  simp only [core, Nat.reduceAdd, Nat.reduceSub, Nat.reduceMul, Nat.reduceLT, Nat.reduceEqDiff, reduceCtorEq, Nat.reduceLeDiff, Int.reduceLE, Int.reduceLT, Int.reduceToNat]
  refine (mixRef_x (231232, t.1, t.2.2)).mono ?_
  rintro _ h2 ⟨e2, rfl⟩
  obtain ⟨u, hu⟩ : ∃ u, u = mix3 (231232, t.1, t.2.2) := ⟨_, rfl⟩
  rw [← hu]
  unfold trioV
  have T2 := Tri.keep e2 (at_push_n h1 _)
  have LT2 := fun e off => ld_at (T := tabOf Try.prog NT0) T2 e off
  have lt2 : h1.n < h2.n := at_lt T2
  simp only [core, Nat.reduceAdd, Nat.reduceSub, Nat.reduceMul, Nat.reduceLT, Nat.reduceEqDiff, reduceCtorEq, Nat.reduceLeDiff, Int.reduceLE, Int.reduceLT, Int.reduceToNat, LT2, lt2]
  refine (mixRef_x (t.2.1, 1232, u.2.2)).mono ?_
  rintro _ h3 ⟨e3, rfl⟩
  unfold trioV
  simp only [core, Nat.reduceAdd, Nat.reduceSub, Nat.reduceMul, Nat.reduceLT, Nat.reduceEqDiff, reduceCtorEq, Nat.reduceLeDiff, Int.reduceLE, Int.reduceLT, Int.reduceToNat]
  refine ⟨(e1.trans ((Ext.push _ (Ext.refl _ _) e1.1).trans (e2.mono (by rw [n_push]; have := e1.1; omega)))).trans (((Ext.refl H.n h2).push _ (by have := e1.1; omega)).trans (e3.mono (by rw [n_push]; have := e1.1; omega))), ?_⟩
  subst hu ht
  rfl
theorem hash3Ref_x {H : AH} (a b c : Int) : WC Try.prog (tabOf Try.prog NT0) S00 185 [.lit (.int .u32 a), .lit (.int .u32 b), .lit (.int .u32 c)] H fun r h' => Ext H.n H h' ∧ r = .lit (.int .u32 (hash3F a b c)) := by
  refine WC_fn Try.func185 rfl rfl ?_
  simp only [core, Nat.reduceAdd, Nat.reduceSub, Nat.reduceMul, Nat.reduceLT, Nat.reduceEqDiff, reduceCtorEq, Nat.reduceLeDiff, Int.reduceLE, Int.reduceLT, Int.reduceToNat, Try.ntmps185]
  obtain ⟨w0, hw0⟩ : ∃ w, w = xorI .u32 (xorI .u32 (xorI .u32 1315423911 a) b) c := ⟨_, rfl⟩
  rw [← hw0]
  refine (mixRef_x (a, b, w0)).mono ?_
  rintro _ h1 ⟨e1, rfl⟩
  obtain ⟨t, ht⟩ : ∃ t, t = mix3 (a, b, w0) := ⟨_, rfl⟩
  rw [← ht]
  unfold trioV
  simp only [core, Nat.reduceAdd, Nat.reduceSub, Nat.reduceMul, Nat.reduceLT, Nat.reduceEqDiff, reduceCtorEq, Nat.reduceLeDiff, Int.reduceLE, Int.reduceLT, Int.reduceToNat]
  refine (mixRef_x (c, 231232, t.2.2)).mono ?_
  rintro _ h2 ⟨e2, rfl⟩
  obtain ⟨u, hu⟩ : ∃ u, u = mix3 (c, 231232, t.2.2) := ⟨_, rfl⟩
  rw [← hu]
  unfold trioV
  have T2 := Tri.keep e2 (at_push_n h1 _)
  have LT2 := fun e off => ld_at (T := tabOf Try.prog NT0) T2 e off
  have lt2 : h1.n < h2.n := at_lt T2
  have E2 : Ext H.n H h2 := e1.trans ((Ext.push _ (Ext.refl _ _) e1.1).trans (e2.mono (by rw [n_push]; have := e1.1; omega)))
  simp only [core, Nat.reduceAdd, Nat.reduceSub, Nat.reduceMul, Nat.reduceLT, Nat.reduceEqDiff, reduceCtorEq, Nat.reduceLeDiff, Int.reduceLE, Int.reduceLT, Int.reduceToNat, LT2, lt2]
  refine (mixRef_x (1232, t.1, u.2.2)).mono ?_
  rintro _ h3 ⟨e3, rfl⟩
  obtain ⟨v, hv⟩ : ∃ v, v = mix3 (1232, t.1, u.2.2) := ⟨_, rfl⟩
  rw [← hv]
  unfold trioV
  have T3 := Tri.keep e3 ((at_push_lt _ lt2).trans T2)
  have U3 := Tri.keep e3 (at_push_n h2 _)
  have LT3 := fun e off => ld_at (T := tabOf Try.prog NT0) T3 e off
  have LU3 := fun e off => ld_at (T := tabOf Try.prog NT0) U3 e off
  have lt3 : h1.n < h3.n := at_lt T3
  have lu3 : h2.n < h3.n := at_lt U3
  have E3 : Ext H.n H h3 := E2.trans ((Ext.push _ (Ext.refl _ _) E2.1).trans (e3.mono (by rw [n_push]; have := E2.1; omega)))
  simp only [core, Nat.reduceAdd, Nat.reduceSub, Nat.reduceMul, Nat.reduceLT, Nat.reduceEqDiff, reduceCtorEq, Nat.reduceLeDiff, Int.reduceLE, Int.reduceLT, Int.reduceToNat, LT3, LU3, lt3, lu3]
  refine (mixRef_x (t.2.1, u.2.1, v.2.2)).mono ?_
  rintro _ h4 ⟨e4, rfl⟩
  obtain ⟨z, hz⟩ : ∃ z, z = mix3 (t.2.1, u.2.1, v.2.2) := ⟨_, rfl⟩
  rw [← hz]
  unfold trioV
  have U4 := Tri.keep e4 ((at_push_lt _ lu3).trans U3)
  have V4 := Tri.keep e4 (at_push_n h3 _)
  have LU4 := fun e off => ld_at (T := tabOf Try.prog NT0) U4 e off
  have LV4 := fun e off => ld_at (T := tabOf Try.prog NT0) V4 e off
  have lu4 : h2.n < h4.n := at_lt U4
  have lv4 : h3.n < h4.n := at_lt V4
  have E4 : Ext H.n H h4 := E3.trans ((Ext.push _ (Ext.refl _ _) E3.1).trans (e4.mono (by rw [n_push]; have := E3.1; omega)))
  simp only [core, Nat.reduceAdd, Nat.reduceSub, Nat.reduceMul, Nat.reduceLT, Nat.reduceEqDiff, reduceCtorEq, Nat.reduceLeDiff, Int.reduceLE, Int.reduceLT, Int.reduceToNat, LU4, LV4, lu4, lv4]
  refine (mixRef_x (v.1, u.1, z.2.2)).mono ?_
  rintro _ h5 ⟨e5, rfl⟩
  unfold trioV
  simp only [core, Nat.reduceAdd, Nat.reduceSub, Nat.reduceMul, Nat.reduceLT, Nat.reduceEqDiff, reduceCtorEq, Nat.reduceLeDiff, Int.reduceLE, Int.reduceLT, Int.reduceToNat]
  refine ⟨E4.trans ((Ext.push _ (Ext.refl _ _) E4.1).trans (e5.mono (by rw [n_push]; have := E4.1; omega))), ?_⟩
  subst hz hv hu ht hw0
  rfl
end Go.Proofs.Ytkgbeihcepociaa.Ex
end

section

set_option linter.unusedSimpArgs false
set_option linter.unusedVariables false
set_option maxRecDepth 10000
set_option maxHeartbeats 4000000
namespace Go.Proofs.Ytkgbeihcepociaa.Ex
open Go
def len8 (b : Nat) : Nat := if b = 0 then 0 else Nat.log2 b + 1
def tabOk (s : ByteArray) : Bool := (List.range 256).all (fun b => (s[b]?).map (·.toNat) == some (len8 b))
theorem len8_at {s : ByteArray} (hs : tabOk s = true) {b : Nat} (hb : b < 256) : strAt s (b : Int) = some (len8 b) := by
  unfold strAt
  rw [if_pos (by omega), Int.toNat_natCast]
  have := List.all_eq_true.1 hs b (List.mem_range.2 hb)
  simpa using this
theorem shr_nat (x k : Nat) (hk : k ≤ 64) : shrI .u64 (x : Int) (k : Int) = ((x / 2 ^ k : Nat) : Int) := by
  unfold shrI
  have : min (Int.toNat (k : Int)) (IntKind.bits .u64) = k := by simp [IntKind.bits]; omega
  rw [this]
  have h2 : ((2 ^ k : Nat) : Int) = (2 : Int) ^ k := by exact Int.natCast_pow 2 k
  rw [← h2, Int.fdiv_eq_ediv_of_nonneg _ (Int.natCast_nonneg _)]
  rfl
theorem wrap_u8 {n : Nat} (h : n < 256) : IntKind.u8.wrap (n : Int) = (n : Int) := by
  unfold IntKind.wrap
  simp [IntKind.bits, IntKind.signed]
  omega
theorem log2_div (x : Nat) (h : 256 ≤ x) : Nat.log2 x = Nat.log2 (x / 256) + 8 := by
  have e : ∀ k y, 2 ^ k ≤ y → Nat.log2 y = Nat.log2 (y / 2 ^ k) + k := by
    intro k
    induction k with
    | zero => intro y _; simp
    | succ k ih =>
      intro y hy
      have h2 : 2 ≤ y := by have := Nat.one_le_two_pow (n := k); rw [Nat.pow_succ] at hy; omega
      rw [Nat.log2_def y, if_pos h2, ih (y / 2) (by rw [Nat.pow_succ] at hy; omega), Nat.div_div_eq_div_mul, Nat.pow_succ, Nat.mul_comm 2]
      omega
  exact e 8 x h
theorem len64_x {H : AH} (x : Nat) (h1 : 1 ≤ x) (h2 : x ≤ 65536) : WC Try.prog (tabOf Try.prog NT0) S00 161 [.lit (.int .u64 x)] H fun r h' => h' = H ∧ r = .lit (.int .i64 ((Nat.log2 x + 1 : Nat))) := by
  refine WC_fn Try.func161 rfl rfl ?_
  have c1 : ¬ (4294967296 : Int) ≤ (x : Int) := by omega
  by_cases h3 : x = 65536
  · subst h3
    have c2 : (65536 : Int) ≤ ((65536 : Nat) : Int) := by omega
    have e1 : shrI .u64 ((65536 : Nat) : Int) 16 = 1 := by decide
    have e2 : IntKind.i64.wrap (0 + 16) = 16 := by decide
    have e3 : IntKind.u8.wrap 1 = 1 := by decide
    have e4 : IntKind.i64.wrap (16 + 1) = 17 := by decide
    have c3 : ¬ (256 : Int) ≤ 1 := by omega
    have c4 : ∀ s, tabOk s = true → strAt s 1 = some 1 := fun s hs => len8_at hs (b := 1) (by omega)
    simp only [core, Nat.reduceAdd, Nat.reduceSub, Nat.reduceMul, Nat.reduceLT, Nat.reduceEqDiff, reduceCtorEq, Nat.reduceLeDiff, Int.reduceLE, Int.reduceLT, Int.reduceToNat, Try.ntmps161, c1, c2, e1, e2, e3, e4, c3]
    rw [c4 _ (by kernel_rfl)]
    simp only [core, Nat.reduceAdd, Nat.reduceSub, Nat.reduceMul, Nat.reduceLT, Nat.reduceEqDiff, reduceCtorEq, Nat.reduceLeDiff, Int.reduceLE, Int.reduceLT, Int.reduceToNat, e4]
    rfl
  · have c2 : ¬ (65536 : Int) ≤ (x : Int) := by omega
    by_cases h4 : 256 ≤ x
    · have c3 : (256 : Int) ≤ (x : Int) := by omega
      have e1 : shrI .u64 (x : Int) 8 = ((x / 256 : Nat) : Int) := shr_nat x 8 (by omega)
      have e2 : IntKind.i64.wrap (0 + 8) = 8 := by decide
      have e3 : IntKind.u8.wrap ((x / 256 : Nat) : Int) = ((x / 256 : Nat) : Int) := wrap_u8 (by omega)
      have c4 : ∀ s, tabOk s = true → strAt s ((x / 256 : Nat) : Int) = some (len8 (x / 256)) := fun s hs => len8_at hs (by omega)
      simp only [core, Nat.reduceAdd, Nat.reduceSub, Nat.reduceMul, Nat.reduceLT, Nat.reduceEqDiff, reduceCtorEq, Nat.reduceLeDiff, Int.reduceLE, Int.reduceLT, Int.reduceToNat, Try.ntmps161, c1, c2, e1, e2, e3, c3]
      rw [c4 _ (by kernel_rfl)]
      have h5 : len8 (x / 256) = Nat.log2 (x / 256) + 1 := by unfold len8; rw [if_neg (by omega)]
      have h6 : Nat.log2 (x / 256) < 8 := (Nat.log2_lt (by omega)).2 (by omega)
      have e4 : IntKind.i64.wrap ((len8 (x / 256) : Nat) : Int) = ((Nat.log2 (x / 256) + 1 : Nat) : Int) := by rw [h5]; exact wrap_in (by omega) (by omega)
      have e5 : IntKind.i64.wrap (8 + ((Nat.log2 (x / 256) + 1 : Nat) : Int)) = ((Nat.log2 x + 1 : Nat) : Int) := by rw [log2_div x h4]; exact (wrap_in (by omega) (by omega)).trans (by omega)
      simp only [core, Nat.reduceAdd, Nat.reduceSub, Nat.reduceMul, Nat.reduceLT, Nat.reduceEqDiff, reduceCtorEq, Nat.reduceLeDiff, Int.reduceLE, Int.reduceLT, Int.reduceToNat, e4, e5]
    · have c3 : ¬ (256 : Int) ≤ (x : Int) := by omega
      have e3 : IntKind.u8.wrap (x : Int) = (x : Int) := wrap_u8 (by omega)
      have c4 : ∀ s, tabOk s = true → strAt s (x : Int) = some (len8 x) := fun s hs => len8_at hs (by omega)
      simp only [core, Nat.reduceAdd, Nat.reduceSub, Nat.reduceMul, Nat.reduceLT, Nat.reduceEqDiff, reduceCtorEq, Nat.reduceLeDiff, Int.reduceLE, Int.reduceLT, Int.reduceToNat, Try.ntmps161, c1, c2, e3, c3]
      rw [c4 _ (by kernel_rfl)]
      have h5 : len8 x = Nat.log2 x + 1 := by unfold len8; rw [if_neg (by omega)]
      have h6 : Nat.log2 x < 8 := (Nat.log2_lt (by omega)).2 (by omega)
      have e4 : IntKind.i64.wrap ((len8 x : Nat) : Int) = ((Nat.log2 x + 1 : Nat) : Int) := by rw [h5]; exact wrap_in (by omega) (by omega)
      have e5 : IntKind.i64.wrap (0 + ((Nat.log2 x + 1 : Nat) : Int)) = ((Nat.log2 x + 1 : Nat) : Int) := (wrap_in (by omega) (by omega)).trans (by omega)
      simp only [core, Nat.reduceAdd, Nat.reduceSub, Nat.reduceMul, Nat.reduceLT, Nat.reduceEqDiff, reduceCtorEq, Nat.reduceLeDiff, Int.reduceLE, Int.reduceLT, Int.reduceToNat, e4, e5]
def lnS (k : Int) (x : Int × Int) : Int × Int :=
  let y := shrI .u64 (IntKind.u64.wrap (x.1 * x.1)) 31
  if 4294967296 ≤ y then (shrI .u64 y 1, IntKind.i64.wrap (x.2 + shlI .i64 1 k)) else (y, x.2)
def lnL : Nat → Int × Int → Int × Int
  | 0, x => x
  | n + 1, x => lnL n (lnS n x)
def clampU (u : Int) : Nat := (if u < 0 then 0 else if 65535 < u then 65535 else u).toNat + 1
def lnF (u : Int) : Int := (lnL 44 (shlI .u64 (clampU u) (IntKind.i64.wrap (31 - (Nat.log2 (clampU u) : Int))), shlI .i64 (Nat.log2 (clampU u)) 44)).2
theorem clampU_le (u : Int) : 1 ≤ clampU u ∧ clampU u ≤ 65536 := by unfold clampU; split <;> (try split) <;> omega
theorem ln_x {H : AH} (u : Int) : WC Try.prog (tabOf Try.prog NT0) S00 193 [.lit (.int .i64 u)] H fun r h' => h' = H ∧ r = .lit (.int .i64 (lnF u)) := by
  refine WC_fn Try.func193 rfl rfl ?_
  obtain ⟨X, hX⟩ : ∃ X, X = clampU u := ⟨_, rfl⟩
  obtain ⟨x1, x2⟩ := clampU_le u
  rw [← hX] at x1 x2
  have hcl : ∀ v, v = (if u < 0 then 0 else u) → IntKind.u64.wrap (IntKind.u64.wrap (if 65535 < v then 65535 else v) + 1) = (X : Int) := fun v hv => by
    rw [hX, hv]
    unfold clampU
    by_cases h1 : u < 0
    · rw [if_pos h1, if_neg (by omega), if_pos h1]; decide
    · rw [if_neg h1, if_neg h1]
      by_cases h2 : 65535 < u
      · rw [if_pos h2]; decide
      · rw [if_neg h2]
        rw [wrap_u64 (n := u) (by omega) (by omega), wrap_u64 (by omega) (by omega)]
        omega
  have hcl := hcl _ rfl
  simp only [corem, WB_cond_s, put, ldL, WB_label, List.nil_append, List.drop_zero, List.take_zero, Nat.reduceAdd, Nat.reduceSub, Nat.reduceMul, Nat.reduceLT, Nat.reduceEqDiff, reduceCtorEq, Nat.reduceLeDiff, Int.reduceLE, Int.reduceLT, Int.reduceToNat, Try.ntmps193, -WB_label, hcl]
  refine (len64_x X x1 x2).mono ?_
  rintro _ h ⟨rfl, rfl⟩
  have hl : Nat.log2 X < 17 := (Nat.log2_lt (by omega)).2 (by omega)
  have hw1 : IntKind.i64.wrap (((Nat.log2 X + 1 : Nat) : Int) - 1) = (Nat.log2 X : Int) := (wrap_in (by omega) (by omega)).trans (by omega)
  have hw2 : (0 : Int) ≤ IntKind.i64.wrap (31 - (Nat.log2 X : Int)) := by rw [wrap_in (by omega) (by omega)]; omega
  simp only [corem, WB_cond_s, put, ldL, WB_label, List.nil_append, List.drop_zero, List.take_zero, Nat.reduceAdd, Nat.reduceSub, Nat.reduceMul, Nat.reduceLT, Nat.reduceEqDiff, reduceCtorEq, Nat.reduceLeDiff, Int.reduceLE, Int.reduceLT, Int.reduceToNat, Try.ntmps193, -WB_label, hw1, hw2]
  refine WB_lab rfl (fun t h => by simp only [WB_seq, WB_label, WB_skip]) (fun n t h' => ∃ y o : Int, n ≤ 43 ∧ h' = h ∧ (lnL (n + 1) (y, o)).2 = lnF u ∧ t.n = 39 ∧ t.get 5 = .lit (.int .u64 y) ∧ t.get 6 = .lit (.int .i64 o) ∧ t.get 7 = .lit (.int .i64 n)) 43 ?_ _ _ ?_
  · rintro n t h' ⟨y, o, hn43, rfl, hL, hn, g5, g6, g7⟩ ih
    have hn0 : (0 : Int) ≤ (n : Int) := by omega
    have key : lnL (n + 1) (y, o) = lnL n (lnS n (y, o)) := rfl
    rw [key] at hL
    unfold lnS at hL
    simp only at hL
    cases n with
    | zero =>
      have hw3 : IntKind.i64.wrap (((0 : Nat) : Int) - 1) = -1 := by decide
      simp only [corem, WB_cond_s, put, ldL, WB_label, List.nil_append, List.drop_zero, List.take_zero, Nat.reduceAdd, Nat.reduceSub, Nat.reduceMul, Nat.reduceLT, Nat.reduceEqDiff, reduceCtorEq, Nat.reduceLeDiff, Int.reduceLE, Int.reduceLT, Int.reduceToNat, hn, g5, g6, g7, -WB_label, hw3, hn0]
      refine ⟨fun hq => ?_, fun hq => ?_⟩
      · rw [if_pos (by simpa using hq)] at hL
        rw [← hL]; rfl
      · rw [if_neg (by simpa using hq)] at hL
        rw [← hL]; rfl
    | succ m =>
      have hw3 : IntKind.i64.wrap (((m + 1 : Nat) : Int) - 1) = (m : Int) := (wrap_in (by omega) (by omega)).trans (by omega)
      have hm : (0 : Int) ≤ (m : Int) := by omega
      have hd : decide ((0 : Int) ≤ (m : Int)) = true := by simp
      simp only [corem, WB_cond_s, put, ldL, WB_label, List.nil_append, List.drop_zero, List.take_zero, Nat.reduceAdd, Nat.reduceSub, Nat.reduceMul, Nat.reduceLT, Nat.reduceEqDiff, reduceCtorEq, Nat.reduceLeDiff, Int.reduceLE, Int.reduceLT, Int.reduceToNat, hn, g5, g6, g7, -WB_label, hw3, hn0, hm]
      refine ⟨fun hq => ?_, fun hq => ?_⟩
      · refine WB_goto ?_
        refine ih m _ _ (by omega) ⟨shrI .u64 (shrI .u64 (IntKind.u64.wrap (y * y)) 31) 1, IntKind.i64.wrap (o + shlI .i64 1 ((m + 1 : Nat) : Int)), by omega, rfl, ?_, ?_⟩
        rotate_left
        · simp only [core, Nat.reduceAdd, Nat.reduceSub, Nat.reduceMul, Nat.reduceLT, Nat.reduceEqDiff, reduceCtorEq, Nat.reduceLeDiff, Int.reduceLE, Int.reduceLT, Int.reduceToNat, hn, g5, g6, g7]
        · rw [if_pos (by simpa using hq)] at hL
          exact hL
      · refine WB_goto ?_
        refine ih m _ _ (by omega) ⟨shrI .u64 (IntKind.u64.wrap (y * y)) 31, o, by omega, rfl, ?_, ?_⟩
        rotate_left
        · simp only [core, Nat.reduceAdd, Nat.reduceSub, Nat.reduceMul, Nat.reduceLT, Nat.reduceEqDiff, reduceCtorEq, Nat.reduceLeDiff, Int.reduceLE, Int.reduceLT, Int.reduceToNat, hn, g5, g6, g7]
        · rw [if_neg (by simpa using hq)] at hL
          exact hL
  · refine ⟨shlI .u64 X (IntKind.i64.wrap (31 - (Nat.log2 X : Int))), shlI .i64 (Nat.log2 X) 44, Nat.le_refl _, rfl, ?_, ?_⟩
    · unfold lnF
      rw [← hX]
    · simp only [core, Nat.reduceAdd, Nat.reduceSub, Nat.reduceMul, Nat.reduceLT, Nat.reduceEqDiff, reduceCtorEq, Nat.reduceLeDiff, Int.reduceLE, Int.reduceLT, Int.reduceToNat]
      rfl
theorem shl_nat (x k : Nat) (hk : k ≤ 64) (e : Int) (he : e = (k : Int)) : shlI .u64 (x : Int) e = IntKind.u64.wrap ((x * 2 ^ k : Nat) : Int) := by
  subst he
  unfold shlI
  have : min (Int.toNat (k : Int)) (IntKind.bits .u64) = k := by simp [IntKind.bits]; omega
  rw [this]
  have h2 : ((2 ^ k : Nat) : Int) = (2 : Int) ^ k := by exact Int.natCast_pow 2 k
  rw [← h2]
  rfl
theorem log2_top {x e : Nat} (h1 : 1 ≤ x) (he : e ≤ Nat.log2 x) : (0 < x / 2 ^ (e + 1)) ↔ e < Nat.log2 x := by
  rw [Nat.div_pos_iff]
  constructor
  · rintro ⟨_, h⟩
    exact (Nat.le_log2 (by omega)).2 h
  · intro h
    exact ⟨Nat.two_pow_pos _, (Nat.le_log2 (by omega)).1 h⟩
theorem lnRef_x {H : AH} (u : Int) : WC Try.prog (tabOf Try.prog NT0) S00 192 [.lit (.int .i64 u)] H fun r h' => h' = H ∧ r = .lit (.int .i64 (lnF u)) := by
  refine WC_fn Try.func192 rfl rfl ?_
  obtain ⟨X, hX⟩ : ∃ X, X = clampU u := ⟨_, rfl⟩
  obtain ⟨x1, x2⟩ := clampU_le u
  rw [← hX] at x1 x2
  have hl : Nat.log2 X < 17 := (Nat.log2_lt (by omega)).2 (by omega)
  simp only [corem, WB_cond_s, put, ldL, WB_label, List.nil_append, List.drop_zero, List.take_zero, Nat.reduceAdd, Nat.reduceSub, Nat.reduceMul, Nat.reduceLT, Nat.reduceEqDiff, reduceCtorEq, Nat.reduceLeDiff, Int.reduceLE, Int.reduceLT, Int.reduceToNat, Try.ntmps192, -WB_cond_s]
  refine WB_cut (fun t h => H = h ∧ t.n = 48 ∧ t.get 0 = .lit (.int .i64 (if u < 0 then 0 else u))) (fun k' K' hk => ?_) ?_
  · rw [WB_cond_s]
    simp only [core, Nat.reduceAdd, Nat.reduceSub, Nat.reduceMul, Nat.reduceLT, Nat.reduceEqDiff, reduceCtorEq, Nat.reduceLeDiff, Int.reduceLE, Int.reduceLT, Int.reduceToNat]
    refine ⟨fun hq => hk _ _ ⟨rfl, ?_⟩, fun hq => hk _ _ ⟨rfl, ?_⟩⟩
    · simp only [core, Nat.reduceAdd, Nat.reduceSub, Nat.reduceMul, Nat.reduceLT, Nat.reduceEqDiff, reduceCtorEq, Nat.reduceLeDiff, Int.reduceLE, Int.reduceLT, Int.reduceToNat]
      rw [if_pos (by simpa using hq)]
    · simp only [core, Nat.reduceAdd, Nat.reduceSub, Nat.reduceMul, Nat.reduceLT, Nat.reduceEqDiff, reduceCtorEq, Nat.reduceLeDiff, Int.reduceLE, Int.reduceLT, Int.reduceToNat]
      rw [if_neg (by simpa using hq)]
  rintro t h ⟨rfl, hn, g0⟩
  obtain ⟨v, hv⟩ : ∃ v, v = (if u < 0 then 0 else u) := ⟨_, rfl⟩
  rw [← hv] at g0
  simp only [corem, WB_cond_s, put, ldL, WB_label, List.nil_append, List.drop_zero, List.take_zero, Nat.reduceAdd, Nat.reduceSub, Nat.reduceMul, Nat.reduceLT, Nat.reduceEqDiff, reduceCtorEq, Nat.reduceLeDiff, Int.reduceLE, Int.reduceLT, Int.reduceToNat, hn, g0, -WB_cond_s]
  refine WB_cut (fun t h => H = h ∧ t.n = 48 ∧ t.get 0 = .lit (.int .i64 ((X : Int) - 1))) (fun k' K' hk => ?_) ?_
  · rw [WB_cond_s]
    simp only [core, Nat.reduceAdd, Nat.reduceSub, Nat.reduceMul, Nat.reduceLT, Nat.reduceEqDiff, reduceCtorEq, Nat.reduceLeDiff, Int.reduceLE, Int.reduceLT, Int.reduceToNat, hn, g0]
    refine ⟨fun hq => hk _ _ ⟨rfl, ?_⟩, fun hq => hk _ _ ⟨rfl, ?_⟩⟩
    · simp only [core, Nat.reduceAdd, Nat.reduceSub, Nat.reduceMul, Nat.reduceLT, Nat.reduceEqDiff, reduceCtorEq, Nat.reduceLeDiff, Int.reduceLE, Int.reduceLT, Int.reduceToNat, hn, g0]
      have hq : 65535 < v := by simpa using hq
      have : (X : Int) = 65536 := by
        rw [hX]; unfold clampU
        split at hv
        · omega
        · subst hv; rw [if_neg (by omega), if_pos hq]; rfl
      rw [this]
      rfl
    · simp only [core, Nat.reduceAdd, Nat.reduceSub, Nat.reduceMul, Nat.reduceLT, Nat.reduceEqDiff, reduceCtorEq, Nat.reduceLeDiff, Int.reduceLE, Int.reduceLT, Int.reduceToNat, hn, g0]
      have hq : ¬ 65535 < v := by simpa using hq
      have : (X : Int) - 1 = v := by
        rw [hX]; unfold clampU
        split at hv
        · rename_i h0; rw [if_pos h0]; subst hv; rfl
        · rename_i h0; subst hv; rw [if_neg h0, if_neg hq]; omega
      rw [this]
  rintro t h ⟨rfl, hn, g0⟩
  have e1 : IntKind.u64.wrap (IntKind.u64.wrap ((X : Int) - 1) + 1) = (X : Int) := by
    rw [wrap_u64 (n := (X : Int) - 1) (by omega) (by omega), wrap_u64 (by omega) (by omega)]; omega
  simp only [core, Nat.reduceAdd, Nat.reduceSub, Nat.reduceMul, Nat.reduceLT, Nat.reduceEqDiff, reduceCtorEq, Nat.reduceLeDiff, Int.reduceLE, Int.reduceLT, Int.reduceToNat, hn, g0, e1]
  refine WB_ind (fun (e : Nat) t h => H = h ∧ e ≤ Nat.log2 X ∧ t.n = 48 ∧ t.get 3 = .lit (.int .u64 X) ∧ t.get 4 = .lit (.int .i64 e)) (fun e => Nat.log2 X - e) ?_ 0 _ _ ?_
  · rintro e t h ⟨rfl, he, hn, g3, g4⟩ ih
    have hw : IntKind.i64.wrap ((e : Int) + 1) = ((e + 1 : Nat) : Int) := wrap_succ (n := 60) (by omega) (by omega)
    have hw2 : IntKind.u64.wrap ((e + 1 : Nat) : Int) = ((e + 1 : Nat) : Int) := wrap_u64 (by omega) (by omega)
    have hs := shr_nat X (e + 1) (by omega)
    have h0 : (0 : Int) ≤ ((e + 1 : Nat) : Int) := by omega
    have ht := log2_top x1 he
    by_cases hlt : e < Nat.log2 X
    · have hc : ((0 : Int) < ((X / 2 ^ (e + 1) : Nat) : Int)) = True := by have h9 := ht.2 hlt; simp only [eq_iff_iff, iff_true]; omega
      simp only [core, Nat.reduceAdd, Nat.reduceSub, Nat.reduceMul, Nat.reduceLT, Nat.reduceEqDiff, reduceCtorEq, Nat.reduceLeDiff, Int.reduceLE, Int.reduceLT, Int.reduceToNat, hn, g3, g4, hw, hw2, hs, h0, hc]
      refine ih (e + 1) _ _ ⟨rfl, by omega, ?_⟩ (by omega)
      simp only [core, Nat.reduceAdd, Nat.reduceSub, Nat.reduceMul, Nat.reduceLT, Nat.reduceEqDiff, reduceCtorEq, Nat.reduceLeDiff, Int.reduceLE, Int.reduceLT, Int.reduceToNat, hn, g3, g4]
    · have hc : ((0 : Int) < ((X / 2 ^ (e + 1) : Nat) : Int)) = False := by have h9 : ¬ 0 < X / 2 ^ (e + 1) := fun h => hlt (ht.1 h); simp only [eq_iff_iff, iff_false]; omega
      have heq : e = Nat.log2 X := by omega
      subst heq
      have hw3 : IntKind.i64.wrap (31 - (Nat.log2 X : Int)) = 31 - (Nat.log2 X : Int) := wrap_in (by omega) (by omega)
      have hw4 : IntKind.u64.wrap (31 - (Nat.log2 X : Int)) = 31 - (Nat.log2 X : Int) := wrap_u64 (by omega) (by omega)
      have h31 : (0 : Int) ≤ 31 - (Nat.log2 X : Int) := by omega
      simp only [core, Nat.reduceAdd, Nat.reduceSub, Nat.reduceMul, Nat.reduceLT, Nat.reduceEqDiff, reduceCtorEq, Nat.reduceLeDiff, Int.reduceLE, Int.reduceLT, Int.reduceToNat, hn, g3, g4, hw, hw2, hs, h0, hc, hw3, hw4, h31]
      refine WB_ind (fun (n : Nat) t h' => ∃ y o : Int, n ≤ 44 ∧ H = h' ∧ (lnL n (y, o)).2 = lnF u ∧ t.n = 48 ∧ t.get 5 = .lit (.int .u64 y) ∧ t.get 6 = .lit (.int .i64 o) ∧ t.get 7 = .lit (.int .i64 ((n : Int) - 1))) (fun n => n) ?_ 44 _ _ ?_
      · rintro n t h' ⟨y, o, hn44, rfl, hL, hn, g5, g6, g7⟩ ih2
        cases n with
        | zero =>
          have hc : ((0 : Int) ≤ ((0 : Nat) : Int) - 1) = False := by decide
          simp only [core, Nat.reduceAdd, Nat.reduceSub, Nat.reduceMul, Nat.reduceLT, Nat.reduceEqDiff, reduceCtorEq, Nat.reduceLeDiff, Int.reduceLE, Int.reduceLT, Int.reduceToNat, hn, g5, g6, g7, hc]
          rw [← hL]; rfl
        | succ m =>
          have hg7 : t.get 7 = .lit (.int .i64 (m : Int)) := by rw [g7]; congr 2; omega
          have hc : ((0 : Int) ≤ (m : Int)) = True := by simp
          have hw5 : IntKind.u64.wrap (m : Int) = (m : Int) := wrap_u64 (by omega) (by omega)
          have hw6 : IntKind.i64.wrap ((m : Int) - 1) = (m : Int) - 1 := wrap_in (by omega) (by omega)
          have hm : (0 : Int) ≤ (m : Int) := by omega
          have key : lnL (m + 1) (y, o) = lnL m (lnS m (y, o)) := rfl
          rw [key] at hL
          unfold lnS at hL
          simp only at hL
          simp only [core, Nat.reduceAdd, Nat.reduceSub, Nat.reduceMul, Nat.reduceLT, Nat.reduceEqDiff, reduceCtorEq, Nat.reduceLeDiff, Int.reduceLE, Int.reduceLT, Int.reduceToNat, hn, g5, g6, hg7, hc, hw5, hw6, hm]
          refine ⟨fun hq => ?_, fun hq => ?_⟩
          · rw [if_pos (by simpa using hq)] at hL
            refine ih2 m _ _ ⟨shrI .u64 (shrI .u64 (IntKind.u64.wrap (y * y)) 31) 1, IntKind.i64.wrap (o + shlI .i64 1 (m : Int)), by omega, rfl, hL, ?_⟩ (by omega)
            simp only [core, Nat.reduceAdd, Nat.reduceSub, Nat.reduceMul, Nat.reduceLT, Nat.reduceEqDiff, reduceCtorEq, Nat.reduceLeDiff, Int.reduceLE, Int.reduceLT, Int.reduceToNat, hn, g5, g6, g7]
          · rw [if_neg (by simpa using hq)] at hL
            refine ih2 m _ _ ⟨shrI .u64 (IntKind.u64.wrap (y * y)) 31, o, by omega, rfl, hL, ?_⟩ (by omega)
            simp only [core, Nat.reduceAdd, Nat.reduceSub, Nat.reduceMul, Nat.reduceLT, Nat.reduceEqDiff, reduceCtorEq, Nat.reduceLeDiff, Int.reduceLE, Int.reduceLT, Int.reduceToNat, hn, g5, g6, g7]
      · refine ⟨shlI .u64 X (31 - (Nat.log2 X : Int)), shlI .i64 (Nat.log2 X) 44, Nat.le_refl _, rfl, ?_, ?_⟩
        · unfold lnF
          rw [← hX, hw3]
        · simp only [core, Nat.reduceAdd, Nat.reduceSub, Nat.reduceMul, Nat.reduceLT, Nat.reduceEqDiff, reduceCtorEq, Nat.reduceLeDiff, Int.reduceLE, Int.reduceLT, Int.reduceToNat, hn, g3, g4]
          rfl
  · refine ⟨rfl, Nat.zero_le _, ?_⟩
    simp only [core, Nat.reduceAdd, Nat.reduceSub, Nat.reduceMul, Nat.reduceLT, Nat.reduceEqDiff, reduceCtorEq, Nat.reduceLeDiff, Int.reduceLE, Int.reduceLT, Int.reduceToNat, hn, g0]
    rfl
end Go.Proofs.Ytkgbeihcepociaa.Ex
end

section

set_option linter.unusedSimpArgs false
set_option linter.unusedVariables false
set_option maxRecDepth 10000
namespace Go.Proofs.Ytkgbeihcepociaa.Ex
open Go
/-- A number is computed first. -/
def fN {β : Type} (n : Nat) (k : Nat → β) : β := Nat.rec (motive := fun _ => β) (k 0) (fun m _ => k (Nat.succ m)) n
theorem fN_eq {β : Type} (n : Nat) (k : Nat → β) : fN n k = k n := by cases n <;> rfl
def subN (a b : Nat) : Nat := Nat.mod (Nat.add a (Nat.sub 4294967296 b)) 4294967296
abbrev N3 := Nat × Nat × Nat
def mixRN (s0 s1 s2 a b c : Nat) : N3 :=
  fN (Nat.xor (subN (subN a b) c) (Nat.shiftRight c s0)) fun a =>
  fN (Nat.xor (subN (subN b c) a) (Nat.mod (Nat.shiftLeft a s1) 4294967296)) fun b =>
  fN (Nat.xor (subN (subN c a) b) (Nat.shiftRight b s2)) fun c => (a, b, c)
def mix3N (x : N3) : N3 := match x with
  | (a, b, c) => match mixRN 13 8 13 a b c with
    | (a, b, c) => match mixRN 12 16 5 a b c with
      | (a, b, c) => mixRN 3 10 15 a b c
def toI (x : N3) : I3 := ((x.1 : Int), (x.2.1 : Int), (x.2.2 : Int))
def lt3 (x : N3) : Prop := x.1 < 4294967296 ∧ x.2.1 < 4294967296 ∧ x.2.2 < 4294967296
theorem xorI_nat {a b : Nat} (ha : a < 4294967296) (hb : b < 4294967296) : xorI .u32 (a : Int) (b : Int) = ((Nat.xor a b : Nat) : Int) ∧ Nat.xor a b < 4294967296 := by
  have hx : a ^^^ b < 2 ^ 32 := Nat.xor_lt_two_pow (n := 32) ha hb
  refine ⟨?_, hx⟩
  unfold xorI
  have e1 : (BitVec.ofInt (IntKind.bits .u32) (a : Int)).toNat = a := by
    show (BitVec.ofInt 32 (a : Int)).toNat = a
    rw [BitVec.ofInt_natCast, BitVec.toNat_ofNat, Nat.mod_eq_of_lt ha]
  have e2 : (BitVec.ofInt (IntKind.bits .u32) (b : Int)).toNat = b := by
    show (BitVec.ofInt 32 (b : Int)).toNat = b
    rw [BitVec.ofInt_natCast, BitVec.toNat_ofNat, Nat.mod_eq_of_lt hb]
  rw [BitVec.toNat_xor, e1, e2]
  exact wrap_u32 (by omega) (by have : a ^^^ b < 4294967296 := hx; omega)
theorem subN_lt (a b : Nat) : subN a b < 4294967296 := Nat.mod_lt _ (by decide)
theorem wrap_sub {a b : Nat} (ha : a < 4294967296) (hb : b < 4294967296) : IntKind.u32.wrap ((a : Int) - (b : Int)) = ((subN a b : Nat) : Int) := by
  unfold subN IntKind.wrap
  simp only [IntKind.bits, IntKind.signed, Bool.false_and]
  show ((a : Int) - b) % 4294967296 = (((a + (4294967296 - b)) % 4294967296 : Nat) : Int)
  omega
theorem shr32 {a : Nat} (k : Nat) (hk : k ≤ 32) (ha : a < 4294967296) : shrI .u32 (a : Int) (k : Int) = ((Nat.shiftRight a k : Nat) : Int) ∧ Nat.shiftRight a k < 4294967296 := by
  have e0 : Nat.shiftRight a k = a / 2 ^ k := Nat.shiftRight_eq_div_pow a k
  rw [e0]
  refine ⟨?_, Nat.lt_of_le_of_lt (Nat.div_le_self _ _) ha⟩
  unfold shrI
  have : min (Int.toNat (k : Int)) (IntKind.bits .u32) = k := by simp [IntKind.bits]; omega
  rw [this]
  have h2 : ((2 ^ k : Nat) : Int) = (2 : Int) ^ k := by exact Int.natCast_pow 2 k
  rw [← h2, Int.fdiv_eq_ediv_of_nonneg _ (Int.natCast_nonneg _)]
  rfl
theorem shl32 {a : Nat} (k : Nat) (hk : k ≤ 32) : shlI .u32 (a : Int) (k : Int) = ((Nat.mod (Nat.shiftLeft a k) 4294967296 : Nat) : Int) ∧ Nat.mod (Nat.shiftLeft a k) 4294967296 < 4294967296 := by
  refine ⟨?_, Nat.mod_lt _ (by decide)⟩
  have e0 : Nat.shiftLeft a k = a * 2 ^ k := Nat.shiftLeft_eq a k
  rw [e0]
  unfold shlI
  have : min (Int.toNat (k : Int)) (IntKind.bits .u32) = k := by simp [IntKind.bits]; omega
  rw [this]
  have h2 : ((2 ^ k : Nat) : Int) = (2 : Int) ^ k := by exact Int.natCast_pow 2 k
  rw [← h2]
  generalize 2 ^ k = m
  unfold IntKind.wrap
  simp only [IntKind.bits, IntKind.signed, Bool.false_and]
  show ((a : Int) * (m : Int)) % 4294967296 = ((a * m % 4294967296 : Nat) : Int)
  rw [Int.natCast_emod, Int.natCast_mul]
  rfl
theorem mixRN_ok {s0 s1 s2 a b c : Nat} (h0 : s0 ≤ 32) (h1 : s1 ≤ 32) (h2 : s2 ≤ 32) (ha : a < 4294967296) (hb : b < 4294967296) (hc : c < 4294967296) :
    mixR (s0 : Int) (s1 : Int) (s2 : Int) (toI (a, b, c)) = toI (mixRN s0 s1 s2 a b c) ∧ lt3 (mixRN s0 s1 s2 a b c) := by
  obtain ⟨p1, p2⟩ := shr32 s0 h0 hc
  obtain ⟨a', ha'⟩ : ∃ a', a' = Nat.xor (subN (subN a b) c) (Nat.shiftRight c s0) := ⟨_, rfl⟩
  obtain ⟨q1, q2⟩ := xorI_nat (subN_lt (subN a b) c) p2
  rw [← ha'] at q1 q2
  obtain ⟨p3, p4⟩ := shl32 (a := a') s1 h1
  obtain ⟨b', hb'⟩ : ∃ b', b' = Nat.xor (subN (subN b c) a') (Nat.mod (Nat.shiftLeft a' s1) 4294967296) := ⟨_, rfl⟩
  obtain ⟨q3, q4⟩ := xorI_nat (subN_lt (subN b c) a') p4
  rw [← hb'] at q3 q4
  obtain ⟨p5, p6⟩ := shr32 s2 h2 q4
  obtain ⟨c', hc'⟩ : ∃ c', c' = Nat.xor (subN (subN c a') b') (Nat.shiftRight b' s2) := ⟨_, rfl⟩
  obtain ⟨q5, q6⟩ := xorI_nat (subN_lt (subN c a') b') p6
  rw [← hc'] at q5 q6
  have e : mixRN s0 s1 s2 a b c = (a', b', c') := by
    unfold mixRN
    simp only [fN_eq, ← ha', ← hb', ← hc']
  rw [e]
  refine ⟨?_, q2, q4, q6⟩
  unfold mixR toI
  simp only
  rw [wrap_sub ha hb, wrap_sub (subN_lt a b) hc, p1, q1, wrap_sub hb hc, wrap_sub (subN_lt b c) q2, p3, q3, wrap_sub hc q2, wrap_sub (subN_lt c a') q4, p5, q5]
theorem mix3N_ok {x : N3} (h : lt3 x) : mix3 (toI x) = toI (mix3N x) ∧ lt3 (mix3N x) := by
  obtain ⟨a, b, c⟩ := x
  obtain ⟨e1, l1⟩ := mixRN_ok (s0 := 13) (s1 := 8) (s2 := 13) (by decide) (by decide) (by decide) h.1 h.2.1 h.2.2
  obtain ⟨a1, b1, c1⟩ : N3 := mixRN 13 8 13 a b c
  unfold mix3 mixN mix3N
  simp only
  generalize hx1 : mixRN 13 8 13 a b c = x1 at *
  obtain ⟨a1, b1, c1⟩ := x1
  obtain ⟨e2, l2⟩ := mixRN_ok (s0 := 12) (s1 := 16) (s2 := 5) (by decide) (by decide) (by decide) l1.1 l1.2.1 l1.2.2
  simp only
  generalize hx2 : mixRN 12 16 5 a1 b1 c1 = x2 at *
  obtain ⟨a2, b2, c2⟩ := x2
  obtain ⟨e3, l3⟩ := mixRN_ok (s0 := 3) (s1 := 10) (s2 := 15) (by decide) (by decide) (by decide) l2.1 l2.2.1 l2.2.2
  simp only
  refine ⟨?_, l3⟩
  rw [← e3, ← e2, ← e1]
  rfl
section
variable {M : I3 → I3} {G : N3 → N3}
def GoodG (M : I3 → I3) (G : N3 → N3) : Prop := ∀ x, lt3 x → M (toI x) = toI (G x) ∧ lt3 (G x)
def h2M (M : I3 → I3) (a b w : Int) : Int :=
  let t := M (a, b, w)
  let u := M (231232, t.1, t.2.2)
  (M (t.2.1, 1232, u.2.2)).2.2
def h2G (G : N3 → N3) (a b w : Nat) : Nat := match G (a, b, w) with
  | (ta, tb, tc) => match G (231232, ta, tc) with
    | (_, _, uc) => (G (tb, 1232, uc)).2.2
theorem h2_ok (hG : GoodG M G) {a b w : Nat} (ha : a < 4294967296) (hb : b < 4294967296) (hw : w < 4294967296) : h2M M (a : Int) (b : Int) (w : Int) = ((h2G G a b w : Nat) : Int) ∧ h2G G a b w < 4294967296 := by
  obtain ⟨e1, l1⟩ := hG (a, b, w) ⟨ha, hb, hw⟩
  have f1 : M ((a : Int), (b : Int), (w : Int)) = toI (G (a, b, w)) := e1
  unfold h2M h2G
  rw [f1]
  generalize G (a, b, w) = t at l1
  obtain ⟨ta, tb, tc⟩ := t
  obtain ⟨e2, l2⟩ := hG (231232, ta, tc) ⟨(by decide : 231232 < 4294967296), l1.1, l1.2.2⟩
  have f2 : M (231232, (ta : Int), (tc : Int)) = toI (G (231232, ta, tc)) := e2
  simp only [toI]
  rw [f2]
  generalize G (231232, ta, tc) = u at l2
  obtain ⟨ua, ub, uc⟩ := u
  obtain ⟨e3, l3⟩ := hG (tb, 1232, uc) ⟨l1.2.1, (by decide : 1232 < 4294967296), l2.2.2⟩
  have f3 : M ((tb : Int), 1232, (uc : Int)) = toI (G (tb, 1232, uc)) := e3
  simp only [toI]
  rw [f3]
  exact ⟨rfl, l3.2.2⟩
def h3M (M : I3 → I3) (a b c w : Int) : Int :=
  let t := M (a, b, w)
  let u := M (c, 231232, t.2.2)
  let v := M (1232, t.1, u.2.2)
  let w := M (t.2.1, u.2.1, v.2.2)
  (M (v.1, u.1, w.2.2)).2.2
def h3G (G : N3 → N3) (a b c w : Nat) : Nat := match G (a, b, w) with
  | (ta, tb, tc) => match G (c, 231232, tc) with
    | (ua, ub, uc) => match G (1232, ta, uc) with
      | (va, _, vc) => match G (tb, ub, vc) with
        | (_, _, wc) => (G (va, ua, wc)).2.2
theorem h3_ok (hG : GoodG M G) {a b c w : Nat} (ha : a < 4294967296) (hb : b < 4294967296) (hc : c < 4294967296) (hw : w < 4294967296) : h3M M (a : Int) (b : Int) (c : Int) (w : Int) = ((h3G G a b c w : Nat) : Int) ∧ h3G G a b c w < 4294967296 := by
  obtain ⟨e1, l1⟩ := hG (a, b, w) ⟨ha, hb, hw⟩
  have f1 : M ((a : Int), (b : Int), (w : Int)) = toI (G (a, b, w)) := e1
  unfold h3M h3G
  rw [f1]
  generalize G (a, b, w) = t at l1
  obtain ⟨ta, tb, tc⟩ := t
  obtain ⟨e2, l2⟩ := hG (c, 231232, tc) ⟨hc, (by decide : 231232 < 4294967296), l1.2.2⟩
  have f2 : M ((c : Int), 231232, (tc : Int)) = toI (G (c, 231232, tc)) := e2
  simp only [toI]
  rw [f2]
  generalize G (c, 231232, tc) = u at l2
  obtain ⟨ua, ub, uc⟩ := u
  obtain ⟨e3, l3⟩ := hG (1232, ta, uc) ⟨(by decide : 1232 < 4294967296), l1.1, l2.2.2⟩
  have f3 : M (1232, (ta : Int), (uc : Int)) = toI (G (1232, ta, uc)) := e3
  simp only [toI]
  rw [f3]
  generalize G (1232, ta, uc) = v at l3
  obtain ⟨va, vb, vc⟩ := v
  obtain ⟨e4, l4⟩ := hG (tb, ub, vc) ⟨l1.2.1, l2.2.1, l3.2.2⟩
  have f4 : M ((tb : Int), (ub : Int), (vc : Int)) = toI (G (tb, ub, vc)) := e4
  simp only [toI]
  rw [f4]
  generalize G (tb, ub, vc) = z at l4
  obtain ⟨za, zb, zc⟩ := z
  obtain ⟨e5, l5⟩ := hG (va, ua, zc) ⟨l3.1, l2.1, l4.2.2⟩
  have f5 : M ((va : Int), (ua : Int), (zc : Int)) = toI (G (va, ua, zc)) := e5
  simp only [toI]
  rw [f5]
  exact ⟨rfl, l5.2.2⟩
end
def hash2N (a b : Nat) : Nat := h2G mix3N a b (Nat.xor (Nat.xor 1315423911 a) b)
def hash3N (a b c : Nat) : Nat := h3G mix3N a b c (Nat.xor (Nat.xor (Nat.xor 1315423911 a) b) c)
theorem hash2N_ok {a b : Nat} (ha : a < 4294967296) (hb : b < 4294967296) : hash2F (a : Int) (b : Int) = ((hash2N a b : Nat) : Int) ∧ hash2N a b < 4294967296 := by
  obtain ⟨x1, y1⟩ := xorI_nat (a := 1315423911) (by decide) ha
  obtain ⟨x2, y2⟩ := xorI_nat y1 hb
  have e0 : xorI .u32 (xorI .u32 1315423911 (a : Int)) (b : Int) = ((Nat.xor (Nat.xor 1315423911 a) b : Nat) : Int) := by
    rw [← x2, ← x1]; rfl
  have key := h2_ok (M := mix3) (G := mix3N) (fun x hx => mix3N_ok hx) ha hb y2
  rw [← e0] at key
  exact key
theorem hash3N_ok {a b c : Nat} (ha : a < 4294967296) (hb : b < 4294967296) (hc : c < 4294967296) : hash3F (a : Int) (b : Int) (c : Int) = ((hash3N a b c : Nat) : Int) ∧ hash3N a b c < 4294967296 := by
  obtain ⟨x1, y1⟩ := xorI_nat (a := 1315423911) (by decide) ha
  obtain ⟨x2, y2⟩ := xorI_nat y1 hb
  obtain ⟨x3, y3⟩ := xorI_nat y2 hc
  have e0 : xorI .u32 (xorI .u32 (xorI .u32 1315423911 (a : Int)) (b : Int)) (c : Int) = ((Nat.xor (Nat.xor (Nat.xor 1315423911 a) b) c : Nat) : Int) := by
    rw [← x3, ← x2, ← x1]; rfl
  have key := h3_ok (M := mix3) (G := mix3N) (fun x hx => mix3N_ok hx) ha hb hc y3
  rw [← e0] at key
  exact key
/-! The logarithm. -/
def lnLN : Nat → Nat → Nat → Nat
  | 0, _, o => o
  | n + 1, y, o => fN (Nat.shiftRight (Nat.mul y y) 31) fun y => bif Nat.ble 4294967296 y then fN (Nat.shiftRight y 1) fun y => fN (Nat.add o (Nat.shiftLeft 1 n)) fun o => lnLN n y o else lnLN n y o
def lnN (u : Nat) : Nat := fN (Nat.succ u) fun x => fN (Nat.log2 x) fun e => lnLN 44 (Nat.shiftLeft x (Nat.sub 31 e)) (Nat.shiftLeft e 44)
theorem lnLN_ok : ∀ (n : Nat) (y o : Nat), n ≤ 44 → y < 4294967296 → o + 2 ^ n ≤ 2 ^ 60 → (lnL n ((y : Int), (o : Int))).2 = ((lnLN n y o : Nat) : Int) ∧ lnLN n y o < 2 ^ 60
  | 0, y, o, _, _, ho => ⟨rfl, by have : lnLN 0 y o = o := rfl; rw [this]; simp at ho; omega⟩
  | n + 1, y, o, hn, hy, ho => by
    have hp : (2 : Nat) ^ (n + 1) = 2 ^ n + 2 ^ n := by rw [Nat.pow_succ]; omega
    have h60 : (2 : Nat) ^ 60 = 1152921504606846976 := by decide
    rw [hp, h60] at ho
    obtain ⟨q, hq⟩ : ∃ q, q = (2 : Nat) ^ n := ⟨_, rfl⟩
    rw [← hq] at ho
    have hyy : y * y < 18446744073709551616 := by
      have : y * y ≤ 4294967295 * 4294967295 := Nat.mul_le_mul (by omega) (by omega)
      omega
    have e1 : IntKind.u64.wrap ((y : Int) * (y : Int)) = ((y * y : Nat) : Int) := by
      rw [show ((y : Int) * (y : Int)) = ((y * y : Nat) : Int) from (Int.natCast_mul y y).symm]
      exact wrap_u64 (by omega) (by omega)
    obtain ⟨z, hz⟩ : ∃ z, z = y * y / 2 ^ 31 := ⟨_, rfl⟩
    have e2 : shrI .u64 ((y * y : Nat) : Int) 31 = (z : Int) := by rw [hz]; exact shr_nat (y * y) 31 (by decide)
    have e3 : Nat.shiftRight (Nat.mul y y) 31 = z := by rw [hz]; exact Nat.shiftRight_eq_div_pow _ _
    have hz2 : z < 8589934592 := by rw [hz]; omega
    have key : lnL (n + 1) ((y : Int), (o : Int)) = lnL n (lnS n ((y : Int), (o : Int))) := rfl
    rw [key]
    unfold lnS lnLN
    simp only [e1, e2, e3, fN_eq]
    by_cases hge : 4294967296 ≤ z
    · rw [if_pos (by omega), show Nat.ble 4294967296 z = true from Nat.ble_eq.mpr hge]
      simp only [cond_true]
      have e4 : shrI .u64 (z : Int) 1 = ((z / 2 : Nat) : Int) := shr_nat z 1 (by decide)
      have e5 : Nat.shiftRight z 1 = z / 2 := Nat.shiftRight_eq_div_pow _ _
      have e6 : shlI .i64 1 (n : Int) = (q : Int) := by
        unfold shlI
        have : min (Int.toNat (n : Int)) (IntKind.bits .i64) = n := by simp [IntKind.bits]; omega
        rw [this]
        have h2 : ((2 ^ n : Nat) : Int) = (2 : Int) ^ n := by exact Int.natCast_pow 2 n
        rw [Int.one_mul, ← h2, ← hq]
        exact wrap_in (by omega) (by omega)
      have e7 : Nat.shiftLeft 1 n = q := by rw [show Nat.shiftLeft 1 n = 1 * 2 ^ n from Nat.shiftLeft_eq 1 n, Nat.one_mul, hq]
      have e8 : IntKind.i64.wrap ((o : Int) + (q : Int)) = ((o + q : Nat) : Int) := by
        rw [show ((o : Int) + (q : Int)) = ((o + q : Nat) : Int) from (Int.natCast_add o q).symm]
        exact wrap_in (by omega) (by omega)
      rw [e4, e5, e6, e7, e8]
      exact lnLN_ok n (z / 2) (o + q) (by omega) (by omega) (by rw [← hq, h60]; omega)
    · rw [if_neg (by omega), show Nat.ble 4294967296 z = false from Bool.eq_false_iff.mpr fun h => hge (Nat.ble_eq.mp h)]
      simp only [cond_false]
      exact lnLN_ok n z o (by omega) (by omega) (by rw [← hq, h60]; omega)
theorem lnN_ok {u : Nat} (hu : u ≤ 65535) : lnF (u : Int) = ((lnN u : Nat) : Int) ∧ lnN u < 2 ^ 60 := by
  have hX : clampU (u : Int) = u + 1 := by
    unfold clampU
    rw [if_neg (by omega), if_neg (by omega)]
    rfl
  obtain ⟨e, he⟩ : ∃ e, e = Nat.log2 (u + 1) := ⟨_, rfl⟩
  have hl : e < 17 := by rw [he]; exact (Nat.log2_lt (by omega)).2 (by omega)
  have hlt : u + 1 < 2 ^ (e + 1) := by rw [he]; exact Nat.lt_log2_self
  have he2 : Nat.log2 (Nat.succ u) = e := he.symm
  unfold lnF lnN
  rw [hX]
  simp only [fN_eq]
  rw [he2]
  have e1 : IntKind.i64.wrap (31 - (e : Int)) = ((31 - e : Nat) : Int) := (wrap_in (by omega) (by omega)).trans (by omega)
  have hb : (u + 1) * 2 ^ (31 - e) < 4294967296 := by
    have h1 : (u + 1) * 2 ^ (31 - e) < 2 ^ (e + 1) * 2 ^ (31 - e) := Nat.mul_lt_mul_of_pos_right hlt (Nat.two_pow_pos _)
    rw [← Nat.pow_add, show e + 1 + (31 - e) = 32 by omega] at h1
    exact h1
  have e2 : shlI .u64 ((u + 1 : Nat) : Int) ((31 - e : Nat) : Int) = (((u + 1) * 2 ^ (31 - e) : Nat) : Int) := by
    rw [shl_nat (u + 1) (31 - e) (by omega) _ rfl]
    exact wrap_u64 (by omega) (by omega)
  have e3 : shlI .i64 (e : Int) 44 = ((e * 2 ^ 44 : Nat) : Int) := by
    unfold shlI
    have : min (Int.toNat (44 : Int)) (IntKind.bits .i64) = 44 := by decide
    rw [this, show ((e : Int) * 2 ^ 44) = ((e * 2 ^ 44 : Nat) : Int) by rw [Int.natCast_mul]; rfl]
    exact wrap_in (by omega) (by omega)
  have e4 : Nat.shiftLeft (Nat.succ u) (Nat.sub 31 e) = (u + 1) * 2 ^ (31 - e) := Nat.shiftLeft_eq _ _
  have e5 : Nat.shiftLeft e 44 = e * 2 ^ 44 := Nat.shiftLeft_eq _ _
  rw [e1, e2, e3, e4, e5]
  exact lnLN_ok 44 _ _ (by decide) hb (by omega)
/-! As the sums have them. -/
def okU : Int → Bool
  | .ofNat n => Nat.blt n 4294967296
  | _ => false
theorem okU_out {a : Int} (h : okU a = true) : ∃ n : Nat, a = (n : Int) ∧ n < 4294967296 := by
  cases a with
  | ofNat n => exact ⟨n, rfl, Nat.blt_eq.mp h⟩
  | negSucc n => cases h
def hash2V (a b : Int) : Int := bif okU a && okU b then fN (hash2N a.toNat b.toNat) fun n => Int.ofNat n else hash2F a b
def hash3V (a b c : Int) : Int := bif okU a && (okU b && okU c) then fN (hash3N a.toNat b.toNat c.toNat) fun n => Int.ofNat n else hash3F a b c
def okL : Int → Bool
  | .ofNat n => Nat.ble n 65535
  | _ => false
def lnV (u : Int) : Int := bif okL u then fN (lnN u.toNat) fun n => Int.ofNat n else lnF u
theorem hash2V_eq (a b : Int) : hash2V a b = hash2F a b := by
  unfold hash2V
  cases h : okU a && okU b with
  | false => rfl
  | true =>
    simp only [Bool.and_eq_true] at h
    obtain ⟨n, rfl, hn⟩ := okU_out h.1
    obtain ⟨m, rfl, hm⟩ := okU_out h.2
    rw [cond_true, fN_eq, (hash2N_ok hn hm).1]
    rfl
theorem hash3V_eq (a b c : Int) : hash3V a b c = hash3F a b c := by
  unfold hash3V
  cases h : okU a && (okU b && okU c) with
  | false => rfl
  | true =>
    simp only [Bool.and_eq_true] at h
    obtain ⟨n, rfl, hn⟩ := okU_out h.1
    obtain ⟨m, rfl, hm⟩ := okU_out h.2.1
    obtain ⟨k, rfl, hk⟩ := okU_out h.2.2
    rw [cond_true, fN_eq, (hash3N_ok hn hm hk).1]
    rfl
theorem lnV_eq (u : Int) : lnV u = lnF u := by
  unfold lnV
  cases h : okL u with
  | false => rfl
  | true =>
    cases u with
    | negSucc n => cases h
    | ofNat n =>
      rw [cond_true, fN_eq]
      exact (lnN_ok (Nat.ble_eq.mp h)).1.symm
end Go.Proofs.Ytkgbeihcepociaa.Ex
end

section

set_option linter.unusedSimpArgs false
set_option linter.unusedVariables false
namespace Go.Proofs.Ytkgbeihcepociaa.Ex
open Go Go.RowKit
theorem follows_mixed : Try.prog.follows .mixedOrders = true := by kernel_rfl
def sHash2 : List AV → AH → Option (AV × AH)
  | [.ptr _ _, .lit (.int .u32 a), .lit (.int .u32 b)], h => some (.lit (.int .u32 (hash2V a b)), h)
  | _, _ => none
def sHash3 : List AV → AH → Option (AV × AH)
  | [.ptr _ _, .lit (.int .u32 a), .lit (.int .u32 b), .lit (.int .u32 c)], h => some (.lit (.int .u32 (hash3V a b c)), h)
  | _, _ => none
def sHash2R : List AV → AH → Option (AV × AH)
  | [.lit (.int .u32 a), .lit (.int .u32 b)], h => some (.lit (.int .u32 (hash2V a b)), h)
  | _, _ => none
def sHash3R : List AV → AH → Option (AV × AH)
  | [.lit (.int .u32 a), .lit (.int .u32 b), .lit (.int .u32 c)], h => some (.lit (.int .u32 (hash3V a b c)), h)
  | _, _ => none
def sLn : List AV → AH → Option (AV × AH)
  | [.lit (.int .i64 u)], h => some (.lit (.int .i64 (lnV u)), h)
  | _, _ => none
/-- What the sums of the first kind know. -/
def S01 : Sums := fun f =>
  bif Nat.beq f 96 then some sHash2 else
  bif Nat.beq f 190 then some sHash3 else
  bif Nat.beq f 102 then some sHash2R else
  bif Nat.beq f 185 then some sHash3R else
  bif Nat.beq f 193 then some sLn else
  bif Nat.beq f 192 then some sLn else none
theorem bif_some {α : Type} {b : Bool} {x : α} {y : Option α} {z : α} (h : (bif b then some x else y) = some z) : (b = true ∧ x = z) ∨ y = some z := by
  cases b
  · exact .inr h
  · exact .inl ⟨rfl, Option.some.inj h⟩
theorem sums_ok01 (ρ : Nat → Value) (fl : Nat) : SumsOK Try.prog ρ fl S01 := by
  intro f g args h v h' hs hg μ w args' hr ha
  unfold S01 at hs
  have key : ∀ (f : FuncId) (x : Value), scal x = true → (WC Try.prog (tabOf Try.prog NT0) S00 f args h fun r h' => Ext h.n h h' ∧ r = .lit x) → Calls Try.prog f args'.toArray w fun e w' => ∃ μ' v', e = .returned v' ∧ Eff Try.prog ρ fl μ h w μ' h w' ∧ rel ρ μ' w' (.lit x) v' :=
    fun f x hx hw => sum_of_wc tab_sound noNG follows_mixed (sums_ok00 ρ fl) hx hw hr ha
  rcases bif_some hs with ⟨h1, rfl⟩ | hs
  · obtain rfl := Nat.eq_of_beq_eq_true h1
    unfold sHash2 at hg
    split at hg
    case h_2 => cases hg
    cases hg
    rw [hash2V_eq]; exact key _ _ rfl (hash2_x _ _)
  rcases bif_some hs with ⟨h1, rfl⟩ | hs
  · obtain rfl := Nat.eq_of_beq_eq_true h1
    unfold sHash3 at hg
    split at hg
    case h_2 => cases hg
    cases hg
    rw [hash3V_eq]; exact key _ _ rfl (hash3_x _ _ _)
  rcases bif_some hs with ⟨h1, rfl⟩ | hs
  · obtain rfl := Nat.eq_of_beq_eq_true h1
    unfold sHash2R at hg
    split at hg
    case h_2 => cases hg
    cases hg
    rw [hash2V_eq]; exact key _ _ rfl (hash2Ref_x _ _)
  rcases bif_some hs with ⟨h1, rfl⟩ | hs
  · obtain rfl := Nat.eq_of_beq_eq_true h1
    unfold sHash3R at hg
    split at hg
    case h_2 => cases hg
    cases hg
    rw [hash3V_eq]; exact key _ _ rfl (hash3Ref_x _ _ _)
  rcases bif_some hs with ⟨h1, rfl⟩ | hs
  · obtain rfl := Nat.eq_of_beq_eq_true h1
    unfold sLn at hg
    split at hg
    case h_2 => cases hg
    cases hg
    rw [lnV_eq]; exact key _ _ rfl ((ln_x _).mono fun r h' ⟨e, q⟩ => ⟨e ▸ Ext.refl _ _, q⟩)
  rcases bif_some hs with ⟨h1, rfl⟩ | hs
  · obtain rfl := Nat.eq_of_beq_eq_true h1
    unfold sLn at hg
    split at hg
    case h_2 => cases hg
    cases hg
    rw [lnV_eq]; exact key _ _ rfl ((lnRef_x _).mono fun r h' ⟨e, q⟩ => ⟨e ▸ Ext.refl _ _, q⟩)
  cases hs
theorem closed_c {f n : Nat} (hrun : isTrue (ex Try.prog (tabOf Try.prog NT0) S01 n (.call f [] none) .nil) = true) (w : World) : Calls Try.prog f #[] w fun e w' => e = .returned (.bool true) ∧ Below w.heap.size w w' := by
  obtain ⟨h', hx⟩ := isTrue_inv hrun
  refine (ex_calls (ρ := fun _ => default) (args' := []) tab_sound noNG follows_mixed (sums_ok01 _ _) hx rels_nil).mono fun e w' hy => ?_
  obtain ⟨v', μ', rfl, hb, hv⟩ := hy
  exact ⟨by rw [rel_bool_inv hv], hb⟩
set_option maxRecDepth 100000 in
theorem lives09_run : isTrue (ex Try.prog (tabOf Try.prog NT0) S01 100000 (.call 27 [] none) .nil) = true := by decide +kernel
set_option maxRecDepth 100000 in
theorem awake10_run : isTrue (ex Try.prog (tabOf Try.prog NT0) S01 100000 (.call 15 [] none) .nil) = true := by decide +kernel
def capB (z : Nat) : AV → Bool
  | .sl _ _ n (.kn k) => Nat.ble n k
  | .sl _ _ _ (.un z') => Nat.beq z' z
  | _ => true
theorem capB_ok {z : Nat} {v : AV} (h : capB z v = true) : CapOk z v := by
  rintro b off n cap rfl
  cases cap with
  | kn k => exact Nat.ble_eq.mp h
  | un z' => exact Nat.eq_of_beq_eq_true h
/-- A pool put in behind the last one: what append does. -/
def sInsA : List AV → AH → Option (AV × AH)
  | [v, .lit (.int .i64 i), .sl b2 o2 1 _], h => match getR h b2 with
    | some l2 => match cut l2 o2 4 with
      | some new => bif isSl v && capB 4 v && Nat.ble ((lenD v + 1) * 32) 140737488355328 && new.all AV.one && decide (i = (lenD v : Int)) then appendB h 94 4 1 new v else none
      | none => none
    | none => none
  | _, _ => none
theorem insA_app {h h' : AH} {v r : AV} {b2 o2 : Nat} {k2 : Cap} {l2 new : List AV} (hv : isSl v = true) (hbig : (lenD v + 1) * 32 ≤ 140737488355328) (hg2 : getR h b2 = some l2) (hc2 : cut l2 o2 4 = some new) (h1 : new.all AV.one = true) (ha : appendB h 94 4 1 new v = some (r, h')) :
    appendA (tabOf Try.prog NT0) h 28 28 v (.sl b2 o2 1 k2) = some (r, h') := by
  have e1 : und (tabOf Try.prog NT0) 28 = some (.slice 94) := by kernel_rfl
  have h00 : (tabOf Try.prog NT0 94).map (fun i => (i.bytes, i.zero.cells.length, i.size)) = some (32, 4, 4) := by kernel_rfl
  obtain ⟨i0, h0, he⟩ := Option.map_eq_some_iff.1 h00
  obtain ⟨hb, hz, hs⟩ : i0.bytes = 32 ∧ i0.zero.cells.length = 4 ∧ i0.size = 4 := by
    simp only [Prod.mk.injEq] at he
    exact he
  have hlv : lenA v = some (lenD v) := by
    obtain ⟨n, ⟨rfl, _⟩ | ⟨b, off, cap, rfl⟩⟩ := SlN.of hv <;> rfl
  have hsrc : srcA h 4 (.sl b2 o2 1 k2) = some new := by
    simp only [srcA, hg2]
    exact hc2
  have hnl : new.length = 4 := by
    unfold cut at hc2
    split at hc2
    · cases hc2
      rw [List.length_take, List.length_drop]
      omega
    · cases hc2
  unfold appendA
  have f1 : Nat.ble (lenD v + 1) 4611686018427387904 = true := Nat.ble_eq_true_of_le (by omega)
  have f2 : Nat.ble ((lenD v + 1) * 32) 140737488355328 = true := Nat.ble_eq_true_of_le hbig
  have hlu : lenA (.sl b2 o2 1 k2) = some 1 := rfl
  rw [e1, hlv, hlu]
  simp only [h0, hb, hz, hs, hsrc, hnl, h1, f1, f2]
  exact ha
theorem sum_of_wcV {ρ : Nat → Value} {fl : Nat} {S : Sums} (hS : SumsOK Try.prog ρ fl S) {f : FuncId} {args : List AV} {h h' : AH} {r : AV}
    (hw : WC Try.prog (tabOf Try.prog NT0) S f args h fun a b => a = r ∧ b = h') {μ : Mu} {w : World} {args' : List Value} (hr : HR Try.prog ρ fl μ h w) (ha : rels ρ μ w args args') :
    Calls Try.prog f args'.toArray w fun e w' => ∃ μ' v', e = .returned v' ∧ Eff Try.prog ρ fl μ h w μ' h' w' ∧ rel ρ μ' w' r v' := by
  obtain ⟨n, o, h1, hex, v, cm, rfl, rfl, rfl⟩ := hw
  intro cs
  obtain ⟨_, h2⟩ := ex_ok tab_sound noNG follows_mixed hS n _ _ _ _ hex
  obtain ⟨_, μ', w', f', cs', q1, q2, q3, q4⟩ := h2 _ w cs args' hr ha trivial
  cases cm with
  | some m => rename_i h3; cases h3
  | none =>
    have q4 : cs' = cs := q4
    subst q4
    obtain ⟨r1, r2, r3, r4, fn, v', r5, r6, r7⟩ := q3
    exact ⟨.returned v', w', f', ⟨μ', v', rfl, q1, r7⟩, q2, r1, r4, r2, r3, fn, by rw [r1]; exact r5, r6⟩
/-! with thole/tholelaw09.lives -/
set_option maxRecDepth 10000 in
set_option maxHeartbeats 4000000 in
theorem insA_x {h h' : AH} {v u r : AV} (hv : isSl v = true) (hcap : CapOk 4 v) (hu : isSl u = true) (h1 : lenD u = 1) (hrt : isSl r = true) (ha : appendA (tabOf Try.prog NT0) h 28 28 v u = some (r, h')) :
    WC Try.prog (tabOf Try.prog NT0) S01 121 [v, .lit (.int .i64 (lenD v)), u] h fun a b => a = r ∧ b = h' := by
  refine WC_fn Try.func121 rfl rfl ?_
  have hle : ((lenD v : Int) ≤ (lenD v : Int)) = True := by simp
  have h11 : (((1 : Nat) : Int) == 0) = false := rfl
  have hee : ((lenD v : Int) == (lenD v : Int)) = true := by simp
  simp only [core, Nat.reduceAdd, Nat.reduceSub, Nat.reduceMul, Nat.reduceLT, Nat.reduceEqDiff, reduceCtorEq, Nat.reduceLeDiff, Int.reduceLE, Int.reduceLT, Int.reduceToNat, Try.ntmps121, hv, hu, h1, hle, h11, hcap, hee]
  rw [ha]
  simp only [core, Nat.reduceAdd, Nat.reduceSub, Nat.reduceMul, Nat.reduceLT, Nat.reduceEqDiff, reduceCtorEq, Nat.reduceLeDiff, Int.reduceLE, Int.reduceLT, Int.reduceToNat, hrt]
def sInsF (args : List AV) (h : AH) : Option (AV × AH) := match sIns args h with
  | some r => some r
  | none => sInsA args h
theorem appendB_sl {h h' : AH} {e : TypeId} {z : Nat} {new : List AV} {v r : AV} (ha : appendB h e z 1 new v = some (r, h')) : isSl r = true := by
  unfold appendB at ha
  rw [show Nat.beq 1 0 = false from rfl] at ha
  simp only [cond_false] at ha
  split at ha
  · cases ha; rfl
  · split at ha
    · split at ha
      · split at ha
        · rename_i q1 q2
          cases hq : (Nat.beq z _ && Nat.beq e _) with
          | false => rw [hq] at ha; cases ha
          | true => rw [hq] at ha; cases ha; rfl
        · cases ha
      · cases ha
    · rename_i off len cap k
      cases hq : Nat.ble (len + 1) k with
      | false =>
        rw [hq] at ha
        simp only [cond_false] at ha
        split at ha
        · split at ha
          · cases ha; rfl
          · cases ha
        · cases ha
      | true =>
        rw [hq] at ha
        simp only [cond_true] at ha
        split at ha
        · obtain ⟨_, _, hh⟩ := Option.map_eq_some_iff.1 ha
          cases hh
          rfl
        · cases ha
  · cases ha
theorem sInsA_ok {ρ : Nat → Value} {fl : Nat} {μ : Mu} {h h' : AH} {w : World} {v : AV} {args : List AV} {args' : List Value} (hg : sInsA args h = some (v, h')) (hr : HR Try.prog ρ fl μ h w) (ha : rels ρ μ w args args') :
    Calls Try.prog 121 args'.toArray w fun e w' => ∃ μ' v', e = .returned v' ∧ Eff Try.prog ρ fl μ h w μ' h' w' ∧ rel ρ μ' w' v v' := by
  unfold sInsA at hg
  split at hg
  case h_2 => cases hg
  rename_i x i b2 o2 k2
  split at hg
  case h_2 => cases hg
  rename_i l2 hg2
  split at hg
  case h_2 => cases hg
  rename_i new hc2
  cases hcc : (isSl x && capB 4 x && Nat.ble ((lenD x + 1) * 32) 140737488355328 && new.all AV.one && decide (i = (lenD x : Int))) with
  | false => rw [hcc] at hg; cases hg
  | true =>
  rw [hcc] at hg
  simp only [Bool.and_eq_true, decide_eq_true_eq] at hcc
  obtain ⟨⟨⟨⟨q1, q2⟩, q3⟩, q4⟩, rfl⟩ := hcc
  exact sum_of_wcV (sums_ok01 ρ fl) (insA_x (u := .sl b2 o2 1 k2) q1 (capB_ok q2) rfl rfl (appendB_sl hg) (insA_app q1 (Nat.ble_eq.mp q3) hg2 hc2 q4 hg)) hr ha
def isLives (f : FuncId) : Bool := Nat.beq f 27 || Nat.beq f 15
def S0 : Sums := fun f => bif isLives f then some sTrue else bif Nat.beq f 121 then some sInsF else bif Nat.beq f 89 then some sSort else bif Nat.beq f 90 then some sCompact else S01 f
theorem sums_ok (ρ : Nat → Value) (fl : Nat) : SumsOK Try.prog ρ fl S0 := by
  intro f g args h v h' hs hg μ w args' hr ha
  unfold S0 at hs
  rcases bif_some hs with ⟨h0, rfl⟩ | hs
  · unfold isLives at h0
    simp only [Bool.or_eq_true] at h0
    rcases h0 with h1 | h1
    · obtain rfl := Nat.eq_of_beq_eq_true h1
      exact sTrue_ok (closed_c lives09_run) hg hr ha
    · obtain rfl := Nat.eq_of_beq_eq_true h1
      exact sTrue_ok (closed_c awake10_run) hg hr ha
  rcases bif_some hs with ⟨h1, rfl⟩ | hs
  · obtain rfl := Nat.eq_of_beq_eq_true h1
    unfold sInsF at hg
    split at hg
    · rename_i r hq
      cases hg
      exact sIns_ok hq hr ha
    · exact sInsA_ok hg hr ha
  rcases bif_some hs with ⟨h1, rfl⟩ | hs
  · obtain rfl := Nat.eq_of_beq_eq_true h1
    exact sSort_ok hg hr ha
  rcases bif_some hs with ⟨h1, rfl⟩ | hs
  · obtain rfl := Nat.eq_of_beq_eq_true h1
    exact sCompact_ok hg hr ha
  · exact sums_ok01 ρ fl f g args h v h' hs hg μ w args' hr ha
/-! Calls of what is summed up. -/
section
variable {H : AH} {Q : AV → AH → Prop}
theorem awake10_c (hq : Q (.lit (.bool true)) H) : WC Try.prog (tabOf Try.prog NT0) S0 15 [] H Q := WC_sum Try.func15 rfl (g := sTrue) rfl rfl hq
theorem ins_c {b n i b2 o2 : Nat} {k2 : Cap} {l l2 old new : List AV} {e2 : TypeId} (hb : H.at b = some (.cells l 94)) (hb2 : H.at b2 = some (.cells l2 e2)) (hc : cut l 0 (n * 4) = some old) (hc2 : cut l2 o2 4 = some new)
    (hbig : (n + 1) * 32 ≤ 140737488355328) (hne : b ≠ b2) (h1 : new.all AV.one = true) (h2 : old.all AV.one = true) (hi : i < n) (hq : Q (.sl H.n 0 (n + 1) (.un 4)) ((H.put b .gone).push (.cells (old.take (i * 4) ++ new ++ old.drop (i * 4)) 94))) :
    WC Try.prog (tabOf Try.prog NT0) S0 121 [.sl b 0 n (.un 4), .lit (.int .i64 i), .sl b2 o2 1 k2] H Q := by
  refine WC_sum Try.func121 rfl (g := sInsF) rfl ?_ hq
  have g1 : getB H b = some (l, 94) := by unfold getB; rw [hb]
  have g2 : getB H b2 = some (l2, e2) := by unfold getB; rw [hb2]
  have g3 : Nat.beq b b2 = false := by rw [Bool.eq_false_iff]; exact fun hh => hne (Nat.eq_of_beq_eq_true hh)
  have g4 : Nat.ble ((n + 1) * 32) 140737488355328 = true := Nat.ble_eq_true_of_le hbig
  have g5 : decide ((0 : Int) ≤ (i : Int)) = true := decide_eq_true (by omega)
  have g6 : decide ((i : Int) < (n : Int)) = true := decide_eq_true (by omega)
  have key : sIns [.sl b 0 n (.un 4), .lit (.int .i64 i), .sl b2 o2 1 k2] H = some (.sl H.n 0 (n + 1) (.un 4), (H.put b .gone).push (.cells (old.take (i * 4) ++ new ++ old.drop (i * 4)) 94)) := by
    unfold sIns
    simp only [g1, g2, hc, hc2, g3, g4, g5, g6, h1, h2, Nat.beq_refl, Bool.not_false, Bool.and_self, cond_true, Int.toNat_natCast]
  unfold sInsF
  rw [key]
theorem insA_c {b2 o2 : Nat} {k2 : Cap} {l2 new : List AV} {v r : AV} {H' : AH} (hv : isSl v = true) (hcap : CapOk 4 v) (hg2 : getR H b2 = some l2) (hc2 : cut l2 o2 4 = some new) (hbig : (lenD v + 1) * 32 ≤ 140737488355328) (h1 : new.all AV.one = true)
    (ha : appendB H 94 4 1 new v = some (r, H')) (hq : Q r H') :
    WC Try.prog (tabOf Try.prog NT0) S0 121 [v, .lit (.int .i64 (lenD v)), .sl b2 o2 1 k2] H Q := by
  refine WC_sum Try.func121 rfl (g := sInsF) rfl ?_ hq
  have e1 : sIns [v, .lit (.int .i64 (lenD v)), .sl b2 o2 1 k2] H = none := by
    obtain ⟨n, ⟨rfl, _⟩ | ⟨b, off, cap, rfl⟩⟩ := SlN.of hv
    · rfl
    · cases off with
      | succ off => rfl
      | zero =>
        cases cap with
        | kn k => rfl
        | un z =>
          obtain rfl : z = 4 := hcap b 0 n (.un z) rfl
          show (match getB H b, getB H b2 with
            | some (l, e), some (l2, _) => match cut l 0 (n * 4), cut l2 o2 4 with
              | some old, some new => bif Nat.beq e 94 && Nat.ble ((n + 1) * 32) 140737488355328 && !Nat.beq b b2 && new.all AV.one && old.all AV.one && decide (0 ≤ ((n : Nat) : Int)) && decide (((n : Nat) : Int) < (n : Int)) then
                  some (AV.sl H.n 0 (n + 1) (.un 4), (H.put b .gone).push (.cells (old.take ((n : Int).toNat * 4) ++ new ++ old.drop ((n : Int).toNat * 4)) e)) else none
              | _, _ => none
            | _, _ => none) = none
          have hd : decide (((n : Nat) : Int) < (n : Int)) = false := decide_eq_false (by omega)
          simp only [hd, Bool.and_false, cond_false]
          split
          · split <;> rfl
          · rfl
  have hcb : capB 4 v = true := by
    obtain ⟨n, ⟨rfl, _⟩ | ⟨b, off, cap, rfl⟩⟩ := SlN.of hv
    · rfl
    · have := hcap b off n cap rfl
      cases cap with
      | kn k => exact Nat.ble_eq_true_of_le this
      | un z' => exact Nat.beq_eq.mpr this
  have f2 : Nat.ble ((lenD v + 1) * 32) 140737488355328 = true := Nat.ble_eq_true_of_le hbig
  unfold sInsF
  rw [e1]
  simp only [sInsA, hg2, hc2, hv, hcb, f2, h1, Bool.and_self, decide_true, cond_true]
  exact ha
end
end Go.Proofs.Ytkgbeihcepociaa.Ex
end

section

set_option linter.unusedSimpArgs false
set_option linter.unusedVariables false
set_option maxRecDepth 10000
namespace Go.Proofs.Ytkgbeihcepociaa.Ex
open Go
/-- A number in a list of numbers. -/
theorem IsSl.int {T : TT} {F : Nat → Prop} {h : AH} {v : AV} {xs : List Int} {e : TypeId} (hs : IsSl RInt F h v xs) (hA : isAggT T e = some false) (hS : sizeT T e = some 1) {i : Nat} (hi : i < xs.length) :
    loadA T h e (slB v) (slO v + i) = some (.lit (.int .i64 (xs.getD i 0))) := by
  obtain ⟨c, ⟨rfl, _⟩, h2⟩ := hs.get (T := T) (List.getElem?_eq_getElem hi)
  have := h2 e 1 0 hS (by omega) (by show 0 + 1 ≤ 1; omega)
  simp only [RInt, Nat.mul_one, Nat.add_zero] at this
  rw [this]
  simp [ldL, hA, hS, List.getD_eq_getElem?_getD, List.getElem?_eq_getElem hi]
/-- A copy of a slice: its rows are new. -/
theorem fresh_append {α : Type} {R : Rep α} {T : TT} {F : Nat → Prop} {H : AH} {v zv : AV} {xs : List α} {t e by' : Nat} (hu : und T t = some (.slice e)) (hz : sizeT T e = some R.z) (hzv : zeroT T e = some zv) (hb : bytesT T e = some by') (hzl : zv.cells.length = R.z) (h0 : 0 < R.z) (h200 : R.z ≤ 200)
    (hr : IsSl R F H v xs) (hn : xs.length ≤ 4611686018427387904) (hy : xs.length * by' ≤ 140737488355328) {p : Nat} (hp : H.at p = some (.cells [] e)) :
    ∃ s' h', appendA T H t t (.sl p 0 0 (.kn 0)) v = some (s', h') ∧ Ext H.n H h' ∧ IsSl R (fun b => F b ∨ b = p ∨ H.n ≤ b) h' s' xs ∧ SlF (fun b => b = p ∨ H.n ≤ b) s' ∧ isNil s' = false := by
  obtain ⟨L, h1, h2, hc, h3⟩ := hr.out
  have e0 : L.length = xs.length := h3.1
  have hlt := at_lt hp
  rcases append_fresh (T := T) (h := H) (t := t) (tx := t) (e := e) (z := R.z) (by' := by') (zv := zv) (M := L) (p := p) (x := v) hu hu hz hzv hb hzl h0 h200 hp h1.src h1.len h1.1 h3.ones (by rw [e0]; exact hn) (by rw [e0]; exact hy) with ⟨hM, ha⟩ | ⟨hM, ha⟩
  · subst hM
    obtain rfl : xs = [] := List.eq_nil_of_length_eq_zero (by rw [← e0]; rfl)
    refine ⟨_, _, ha, Ext.refl _ _, .mk (L := []) ⟨by simp, .inr ⟨p, 0, _, [], rfl, by unfold getR; rw [hp], by simp [cut]⟩⟩ (fun b off n cap e => by cases e; exact .inr (.inl rfl)) (fun b off n cap e => by cases e; exact Nat.le_refl 0) .nil, fun b off n cap e => by cases e; exact .inl rfl, rfl⟩
  · refine ⟨_, _, ha, (Ext.refl _ _).push _ (Nat.le_refl _), .mk (L := L) ⟨h1.1, .inr ⟨H.n, 0, _, L.flatten, rfl, by unfold getR; rw [at_push_n], ?_⟩⟩ (fun b off n cap e => by cases e; exact .inr (.inr (Nat.le_refl _))) (fun b off n cap e => by cases e; rfl) (h3.lift fun b hb hlt => ⟨at_push_lt _ hlt, .inl hb⟩), fun b off n cap e => by cases e; exact .inr (Nat.le_refl _), rfl⟩
    unfold cut
    rw [if_pos (by rw [flat_len h1.1]; omega), List.drop_zero, ← flat_len h1.1, List.take_length]
theorem IsSl.empty {α : Type} {R : Rep α} {F : Nat → Prop} {H : AH} {v : AV} {xs : List α} (h : IsSl R F H v xs) (hn : isNil v = true) : xs = [] := by
  refine List.eq_nil_of_length_eq_zero ?_
  rw [← h.lenD]
  unfold isNil at hn
  split at hn
  · rfl
  · cases hn
theorem clone_x {F : Nat → Prop} {H : AH} {v : AV} {xs : List Int} (hv : IsSl RInt F H v xs) (hl : xs.length * 8 ≤ 140737488355328) :
    WC Try.prog (tabOf Try.prog NT0) S0 88 [v] H fun r h' => Ext H.n H h' ∧ IsSl RInt (fun b => H.n ≤ b) h' r xs ∧ isNil r = isNil v := by
  refine WC_fn Try.func88 rfl rfl ?_
  have s1 := hv.isSl
  have s2 := hv.lenD
  simp only [core, Nat.reduceAdd, Nat.reduceSub, Nat.reduceMul, Nat.reduceLT, Nat.reduceEqDiff, reduceCtorEq, Nat.reduceLeDiff, Int.reduceLE, Int.reduceLT, Int.reduceToNat, Try.ntmps88, s1, s2]
  refine ⟨fun he => ?_, fun he => ?_⟩
  · rw [he]
    obtain rfl := hv.empty he
    exact ⟨Ext.refl _ _, IsSl.nil, rfl⟩
  · have hv2 : IsSl RInt F (H.push (.cells [] 3)) v xs := hv.ext ((Ext.refl H.n H).push _ (Nat.le_refl _)) (Nat.le_refl _)
    refine WOp_app (fresh_append (T := tabOf Try.prog NT0) (by kernel_rfl) (by kernel_rfl) (zv := .lit (.int .i64 0)) (by kernel_rfl) (by' := 8) (by kernel_rfl) rfl (by decide) (by decide) hv2 (by omega) hl (at_push_n H _)) ?_
    rintro s' h' ⟨e1, e2, e3, e4⟩
    simp only [core, Nat.reduceAdd, Nat.reduceSub, Nat.reduceMul, Nat.reduceLT, Nat.reduceEqDiff, reduceCtorEq, Nat.reduceLeDiff, Int.reduceLE, Int.reduceLT, Int.reduceToNat]
    rw [he]
    refine ⟨((Ext.refl H.n H).push _ (Nat.le_refl _)).trans (e1.mono (by rw [n_push]; omega)), ?_, e4⟩
    obtain ⟨L, f1, f2, f3, f4⟩ := e2.out
    refine .mk f1 (fun b off n cap e => ?_) f3 ⟨f4.1, fun i c x h1 h2 => f4.2 i c x h1 h2⟩
    rcases e3 b off n cap e with rfl | hb
    · exact Nat.le_refl _
    · rw [n_push] at hb; omega
end Go.Proofs.Ytkgbeihcepociaa.Ex
end

section

set_option linter.unusedSimpArgs false
set_option linter.unusedVariables false
set_option maxRecDepth 10000
namespace Go.Proofs.Ytkgbeihcepociaa.Ex
open Go
structure OsdD where
  ex : Bool
  up : Bool
  weight : Int
  boot : Int
  upFrom : Int
  upThru : Int
  deriving DecidableEq
structure PoolD where
  id : Int
  size : Int
  min : Int
  pgs : Int
  deriving DecidableEq
structure BktD where
  id : Int
  kind : Int
  items : List Int
  weights : List Int
  deriving DecidableEq
structure MapD where
  epoch : Int
  osds : List OsdD
  pools : List PoolD
  buckets : List BktD
  leaf : Int
  deriving DecidableEq
def ROsd : Rep OsdD := RMap (fun x => (x.ex, x.up, x.weight, x.boot, x.upFrom, x.upThru)) (RPair RBool (RPair RBool (RPair RInt (RPair RInt (RPair RInt RInt)))))
def RPool : Rep PoolD := RMap (fun x => (x.id, x.size, x.min, x.pgs)) (RPair RInt (RPair RInt (RPair RInt RInt)))
def RBkt : Rep BktD := RMap (fun x => (x.id, x.kind, x.items, x.weights)) (RPair RInt (RPair RInt (RPair (RSl RInt) (RSl RInt))))
def RMp : Rep MapD := RMap (fun x => (x.epoch, x.osds, x.pools, x.buckets, x.leaf)) (RPair RInt (RPair (RSl ROsd) (RPair (RSl RPool) (RPair (RSl RBkt) RInt))))
section
variable {F : Nat → Prop} {h : AH} {c : List AV}
theorem RSl_is {α : Type} {R : Rep α} {xs : List α} : (RSl R).is F h c xs ↔ ∃ v, c = [v] ∧ IsSl R F h v xs :=
  ⟨fun hh => by obtain ⟨v, L, rfl, h1⟩ := hh; exact ⟨v, rfl, v, L, rfl, h1⟩, fun ⟨v, e, hh⟩ => e ▸ hh⟩
theorem ROsd_is {x : OsdD} : ROsd.is F h c x ↔ c = [.lit (.bool x.ex), .lit (.bool x.up), .lit (.int .i64 x.weight), .lit (.int .i64 x.boot), .lit (.int .i64 x.upFrom), .lit (.int .i64 x.upThru)] ∧ I64 x.weight ∧ I64 x.boot ∧ I64 x.upFrom ∧ I64 x.upThru := by
  constructor
  · rintro ⟨_, _, rfl, rfl, _, _, rfl, rfl, _, _, rfl, ⟨rfl, h1⟩, _, _, rfl, ⟨rfl, h2⟩, _, _, rfl, ⟨rfl, h3⟩, rfl, h4⟩
    exact ⟨rfl, h1, h2, h3, h4⟩
  · rintro ⟨rfl, h1, h2, h3, h4⟩
    exact ⟨_, _, rfl, rfl, _, _, rfl, rfl, _, _, rfl, ⟨rfl, h1⟩, _, _, rfl, ⟨rfl, h2⟩, _, _, rfl, ⟨rfl, h3⟩, rfl, h4⟩
theorem RPool_is {x : PoolD} : RPool.is F h c x ↔ c = [.lit (.int .i64 x.id), .lit (.int .i64 x.size), .lit (.int .i64 x.min), .lit (.int .i64 x.pgs)] ∧ I64 x.id ∧ I64 x.size ∧ I64 x.min ∧ I64 x.pgs := by
  constructor
  · rintro ⟨_, _, rfl, ⟨rfl, h1⟩, _, _, rfl, ⟨rfl, h2⟩, _, _, rfl, ⟨rfl, h3⟩, rfl, h4⟩
    exact ⟨rfl, h1, h2, h3, h4⟩
  · rintro ⟨rfl, h1, h2, h3, h4⟩
    exact ⟨_, _, rfl, ⟨rfl, h1⟩, _, _, rfl, ⟨rfl, h2⟩, _, _, rfl, ⟨rfl, h3⟩, rfl, h4⟩
theorem RBkt_is {x : BktD} : RBkt.is F h c x ↔ ∃ va vb, c = [.lit (.int .i64 x.id), .lit (.int .i64 x.kind), va, vb] ∧ IsSl RInt F h va x.items ∧ IsSl RInt F h vb x.weights ∧ I64 x.id ∧ I64 x.kind := by
  constructor
  · rintro ⟨_, _, rfl, ⟨rfl, h1⟩, _, _, rfl, ⟨rfl, h2⟩, _, _, rfl, h3, h4⟩
    obtain ⟨va, rfl, h3⟩ := RSl_is.1 h3
    obtain ⟨vb, rfl, h4⟩ := RSl_is.1 h4
    exact ⟨va, vb, rfl, h3, h4, h1, h2⟩
  · rintro ⟨va, vb, rfl, h3, h4, h1, h2⟩
    exact ⟨_, _, rfl, ⟨rfl, h1⟩, _, _, rfl, ⟨rfl, h2⟩, _, _, rfl, h3, h4⟩
theorem RMp_is {x : MapD} : RMp.is F h c x ↔ ∃ vo vp vb, c = [.lit (.int .i64 x.epoch), vo, vp, vb, .lit (.int .i64 x.leaf)] ∧ IsSl ROsd F h vo x.osds ∧ IsSl RPool F h vp x.pools ∧ IsSl RBkt F h vb x.buckets ∧ I64 x.epoch ∧ I64 x.leaf := by
  constructor
  · rintro ⟨_, _, rfl, ⟨rfl, h1⟩, _, _, rfl, h2, _, _, rfl, h3, _, _, rfl, h4, rfl, h5⟩
    obtain ⟨vo, rfl, h2⟩ := RSl_is.1 h2
    obtain ⟨vp, rfl, h3⟩ := RSl_is.1 h3
    obtain ⟨vb, rfl, h4⟩ := RSl_is.1 h4
    exact ⟨vo, vp, vb, rfl, h2, h3, h4, h1, h5⟩
  · rintro ⟨vo, vp, vb, rfl, h2, h3, h4, h1, h5⟩
    exact ⟨_, _, rfl, ⟨rfl, h1⟩, _, _, rfl, h2, _, _, rfl, h3, _, _, rfl, h4, rfl, h5⟩
end
theorem ROsd_z : ROsd.z = 6 := rfl
theorem RPool_z : RPool.z = 4 := rfl
theorem RBkt_z : RBkt.z = 4 := rfl
theorem RMp_z : RMp.z = 5 := rfl
/-- The loads of an element, by place. -/
theorem IsSl.at {α : Type} {R : Rep α} {T : TT} {F : Nat → Prop} {h : AH} {v : AV} {xs : List α} (hs : IsSl R F h v xs) {z : Nat} (hz : R.z = z) {i : Nat} {x : α} (hx : xs[i]? = some x) :
    ∃ c, R.is F h c x ∧ (∀ e n j, sizeT T e = some n → 0 < n → j + n ≤ z → loadA T h e (slB v) (slO v + i * z + j) = ldL T e c j) ∧ (∀ e n, sizeT T e = some n → 0 < n → n ≤ z → loadA T h e (slB v) (slO v + i * z) = ldL T e c 0) := by
  subst hz
  obtain ⟨c, h1, h2⟩ := hs.get (T := T) hx
  exact ⟨c, h1, h2, fun e n hn h0 hle => by have := h2 e n 0 hn h0 (by omega); simpa using this⟩
/-- A list of elements of so many bytes is not too great. -/
def Sm {α : Type} (by' : Nat) (ys : List α) : Prop := ys.length * by' ≤ 140737488351232
/-- The loads of an element in a heap that has grown; what the element is, is told of the heap ahead. -/
theorem IsSl.atE {α : Type} {R : Rep α} {T : TT} {F : Nat → Prop} {H h : AH} {v : AV} {xs : List α} (hs : IsSl R F H v xs) (he : Ext H.n H h) {z : Nat} (hz : R.z = z) {i : Nat} {x : α} (hx : xs[i]? = some x) :
    ∃ c, R.is F H c x ∧ (∀ e n j, sizeT T e = some n → 0 < n → j + n ≤ z → loadA T h e (slB v) (slO v + i * z + j) = ldL T e c j) ∧ (∀ e n, sizeT T e = some n → 0 < n → n ≤ z → loadA T h e (slB v) (slO v + i * z) = ldL T e c 0) := by
  have key : ∀ e off, loadA T h e (slB v) off = loadA T H e (slB v) off := fun e off => by
    obtain ⟨L, h1, _, _, h3⟩ := hs.out
    rcases h1.2 with ⟨rfl, rfl⟩ | ⟨b, o, cap, row, rfl, h4, h5⟩
    · have := h3.1
      have hlt := (List.getElem?_eq_some_iff.1 hx).1
      simp at this
      omega
    · have := he.2 b (getR_lt h4)
      simp only [slB, loadA, getR, this]
  obtain ⟨c, h1, h2, h3⟩ := hs.at (T := T) hz hx
  exact ⟨c, h1, fun e n j a b d => by rw [key]; exact h2 e n j a b d, fun e n a b d => by rw [key]; exact h3 e n a b d⟩
end Go.Proofs.Ytkgbeihcepociaa.Ex
end

section

set_option linter.unusedSimpArgs false
set_option linter.unusedVariables false
set_option maxRecDepth 10000
set_option maxHeartbeats 4000000
namespace Go.Proofs.Ytkgbeihcepociaa.Ex
open Go
def byteN (q : IntKind) (n : Int) (i : Nat) : UInt8 := UInt8.ofNat (IntKind.u8.wrap (shrI q n ((8 * i : Nat) : Int))).toNat
def encN (q : IntKind) (n : Int) (k : Nat) : List UInt8 := (List.range k).map (byteN q n)
theorem encN_succ (q : IntKind) (n : Int) (k : Nat) : encN q n (k + 1) = encN q n k ++ [byteN q n k] := by unfold encN; rw [List.range_succ, List.map_append]; rfl
theorem encN_len (q : IntKind) (n : Int) (k : Nat) : (encN q n k).length = k := by unfold encN; simp
/-- Bytes that grow. -/
abbrev OwnB (n0 : Nat) (h : AH) (v : AV) (xs : List UInt8) : Prop := OwnL RByte (fun _ => False) n0 h v 5 xs
theorem wrap_u8b (n : Int) : ((UInt8.ofNat (IntKind.u8.wrap n).toNat).toNat : Int) = IntKind.u8.wrap n := by
  rw [IntKind.wrap_u8]
  have h : 0 ≤ n % 256 ∧ n % 256 < 256 := by omega
  rw [UInt8.toNat_ofNat']
  omega
/-- What stands beside a row that grows is as it was. -/
def Fr (h : AH) (v : AV) (h' : AH) (v' : AV) : Prop := h.n ≤ h'.n ∧ ∀ b, b < h.n → Apart v b → h'.at b = h.at b ∧ Apart v' b
theorem Fr.refl {h : AH} {v : AV} : Fr h v h v := ⟨Nat.le_refl _, fun b _ ha => ⟨rfl, ha⟩⟩
theorem Fr.trans {h h1 h2 : AH} {v v1 v2 : AV} (a : Fr h v h1 v1) (b : Fr h1 v1 h2 v2) : Fr h v h2 v2 :=
  ⟨Nat.le_trans a.1 b.1, fun k hk ha => let ⟨x, y⟩ := a.2 k hk ha; let ⟨z, u⟩ := b.2 k (Nat.lt_of_lt_of_le hk a.1) y; ⟨z.trans x, u⟩⟩
theorem Fr.ext {h h1 : AH} {v : AV} (e : Ext h.n h h1) : Fr h v h1 v := ⟨e.1, fun b hb ha => ⟨e.2 b hb, ha⟩⟩
theorem Fr.box {h h1 : AH} {v v1 : AV} {b : Nat} {x : AB} (f : Fr h v h1 v1) (hx : h.at b = some x) (ha : Apart v b) : h1.at b = some x ∧ Apart v1 b :=
  let ⟨p, q⟩ := f.2 b (at_lt hx) ha; ⟨p.trans hx, q⟩
theorem OwnB.apart {n0 : Nat} {h : AH} {v : AV} {xs : List UInt8} (ho : OwnB n0 h v xs) {b : Nat} (hb : b < n0 ∨ h.n ≤ b) : Apart v b := by
  intro off len cap hv
  obtain ⟨L, h2, -⟩ := ho
  rcases h2.2 with ⟨rfl, -⟩ | ⟨p, rfl, hp, hat⟩
  · cases hv
  · cases hv
    have := at_lt hat
    omega
theorem Fr.toExt {n0 : Nat} {h h1 : AH} {v v1 : AV} {xs : List UInt8} (f : Fr h v h1 v1) (ho : OwnB n0 h v xs) (hn0 : n0 ≤ h.n) : Ext n0 h h1 := ⟨f.1, fun b hb => (f.2 b (by omega) (ho.apart (.inl hb))).1⟩
theorem int2_x {H : AH} {v : AV} {xs : List UInt8} {n0 : Nat} (n : Int) (ho : OwnB n0 H v xs) (hn0 : n0 ≤ H.n) (hl : xs.length + 8 ≤ 140737488355328) :
    WC Try.prog (tabOf Try.prog NT0) S0 113 [v, .lit (.int .i64 n)] H fun r h' => Fr H v h' r ∧ OwnB n0 h' r (xs ++ encN .i64 n 8) := by
  refine WC_fn Try.func113 rfl rfl ?_
  simp only [core, Nat.reduceAdd, Nat.reduceSub, Nat.reduceMul, Nat.reduceLT, Nat.reduceEqDiff, reduceCtorEq, Nat.reduceLeDiff, Int.reduceLE, Int.reduceLT, Int.reduceToNat, Try.ntmps113]
  refine WB_for 8 (fun i t h => (∃ s, OwnB n0 h s (xs ++ encN .i64 n i) ∧ Fr H v h s ∧ t.get 0 = s) ∧ t.n = 19 ∧ t.get 1 = .lit (.int .i64 n) ∧ t.get 6 = .lit (.int .i64 i)) ?_ ?_ _ _ ?_
  · rintro i t h hlt hc ⟨⟨s, ho, fr, g0⟩, hn, g1, g6⟩ ih
    have hc : ((i : Int) < 8) = True := by simp only [eq_iff_iff, iff_true]; omega
    have hws := wrap_succ hlt (by omega)
    have hw8 : IntKind.i64.wrap (8 * (i : Int)) = ((8 * i : Nat) : Int) := (wrap_in (by omega) (by omega)).trans (by omega)
    have s1 := (ho.toSl (F := fun _ => True) (fun _ h => h.elim) (fun _ _ => trivial)).isSl
    have h8 : ((8 * i : Nat) : Int) < 0 ∨ (0 : Int) ≤ ((8 * i : Nat) : Int) := .inr (by omega)
    have h80 : ((0 : Int) ≤ ((8 * i : Nat) : Int)) = True := by simp only [eq_iff_iff, iff_true]; omega
    simp only [core, Nat.reduceAdd, Nat.reduceSub, Nat.reduceMul, Nat.reduceLT, Nat.reduceEqDiff, reduceCtorEq, Nat.reduceLeDiff, Int.reduceLE, Int.reduceLT, Int.reduceToNat, hn, g1, g6, g0, hc, hw8, h80, s1]
    obtain ⟨h2, hh2⟩ : ∃ h2, h2 = h.push (.cells [.lit (.int .u8 (IntKind.u8.wrap (shrI .i64 n ((8 * i : Nat) : Int))))] 5) := ⟨_, rfl⟩
    have e2 : Ext h.n h h2 := hh2 ▸ (Ext.refl _ _).push _ (Nat.le_refl _)
    have A2 : h2.at h.n = some (.cells [.lit (.int .u8 (IntKind.u8.wrap (shrI .i64 n ((8 * i : Nat) : Int))))] 5) := hh2 ▸ at_push_n _ _
    rw [← hh2]
    clear hh2
    have hn2 := e2.1
    have hnh := fr.1
    have hlen : (xs ++ encN .i64 n i).length = xs.length + i := by rw [List.length_append, encN_len]
    refine WOp_app ((ho.ext e2 (Nat.le_refl _)).snoc (by kernel_rfl) (by kernel_rfl) (by kernel_rfl) (zv := .lit (.int .u8 0)) (by kernel_rfl) (by' := 1) (by kernel_rfl) rfl (by decide) (by decide) A2 (y := byteN .i64 n i) (by show [AV.lit (Value.int .u8 _)] = [AV.lit (Value.int .u8 ((byteN .i64 n i).toNat : Int))]; unfold byteN; rw [wrap_u8b]) (by omega) (by omega) (by omega)) ?_
    rintro s4 h4 ⟨ho4, e4, f4⟩
    have v4 := (ho4.toSl (F := fun _ => True) (fun _ h => h.elim) (fun _ _ => trivial)).isSl
    simp only [core, Nat.reduceAdd, Nat.reduceSub, Nat.reduceMul, Nat.reduceLT, Nat.reduceEqDiff, reduceCtorEq, Nat.reduceLeDiff, Int.reduceLE, Int.reduceLT, Int.reduceToNat, hn, g1, g6, g0, hws, v4]
    refine ih _ _ ⟨⟨s4, by rw [encN_succ, ← List.append_assoc]; exact ho4, fr.trans ((Fr.ext e2).trans ⟨e4.1, f4⟩), by simp only [core, Nat.reduceAdd, Nat.reduceSub, Nat.reduceMul, Nat.reduceLT, Nat.reduceEqDiff, reduceCtorEq, Nat.reduceLeDiff, Int.reduceLE, Int.reduceLT, Int.reduceToNat, hn, g1, g6]⟩, ?_⟩
    simp only [core, Nat.reduceAdd, Nat.reduceSub, Nat.reduceMul, Nat.reduceLT, Nat.reduceEqDiff, reduceCtorEq, Nat.reduceLeDiff, Int.reduceLE, Int.reduceLT, Int.reduceToNat, hn, g1, g6]
  · rintro t h hc ⟨⟨s, ho, fr, g0⟩, hn, g1, g6⟩
    have hc : ((8 : Int) < 8) = False := by decide
    have hc' : (((8 : Nat) : Int) < 8) = False := by decide
    simp only [core, Nat.reduceAdd, Nat.reduceSub, Nat.reduceMul, Nat.reduceLT, Nat.reduceEqDiff, reduceCtorEq, Nat.reduceLeDiff, Int.reduceLE, Int.reduceLT, Int.reduceToNat, hn, g1, g6, g0, hc, hc']
    exact ⟨fr, ho⟩
  · refine ⟨⟨v, by rw [show encN .i64 n 0 = [] from rfl, List.append_nil]; exact ho, Fr.refl, by simp only [core, Nat.reduceAdd, Nat.reduceSub, Nat.reduceMul, Nat.reduceLT, Nat.reduceEqDiff, reduceCtorEq, Nat.reduceLeDiff, Int.reduceLE, Int.reduceLT, Int.reduceToNat]⟩, ?_⟩
    simp only [core, Nat.reduceAdd, Nat.reduceSub, Nat.reduceMul, Nat.reduceLT, Nat.reduceEqDiff, reduceCtorEq, Nat.reduceLeDiff, Int.reduceLE, Int.reduceLT, Int.reduceToNat]
    rfl
theorem word2_x {H : AH} {v : AV} {xs : List UInt8} {n0 : Nat} (n : Int) (ho : OwnB n0 H v xs) (hn0 : n0 ≤ H.n) (hl : xs.length + 4 ≤ 140737488355328) :
    WC Try.prog (tabOf Try.prog NT0) S0 144 [v, .lit (.int .u32 n)] H fun r h' => Fr H v h' r ∧ OwnB n0 h' r (xs ++ encN .u32 n 4) := by
  refine WC_fn Try.func144 rfl rfl ?_
  simp only [core, Nat.reduceAdd, Nat.reduceSub, Nat.reduceMul, Nat.reduceLT, Nat.reduceEqDiff, reduceCtorEq, Nat.reduceLeDiff, Int.reduceLE, Int.reduceLT, Int.reduceToNat, Try.ntmps144]
  refine WB_for 4 (fun i t h => (∃ s, OwnB n0 h s (xs ++ encN .u32 n i) ∧ Fr H v h s ∧ t.get 0 = s) ∧ t.n = 19 ∧ t.get 1 = .lit (.int .u32 n) ∧ t.get 6 = .lit (.int .i64 i)) ?_ ?_ _ _ ?_
  · rintro i t h hlt hc ⟨⟨s, ho, fr, g0⟩, hn, g1, g6⟩ ih
    have hc : ((i : Int) < 4) = True := by simp only [eq_iff_iff, iff_true]; omega
    have hws := wrap_succ hlt (by omega)
    have hw8 : IntKind.i64.wrap (8 * (i : Int)) = ((8 * i : Nat) : Int) := (wrap_in (by omega) (by omega)).trans (by omega)
    have s1 := (ho.toSl (F := fun _ => True) (fun _ h => h.elim) (fun _ _ => trivial)).isSl
    have h8 : ((8 * i : Nat) : Int) < 0 ∨ (0 : Int) ≤ ((8 * i : Nat) : Int) := .inr (by omega)
    have h80 : ((0 : Int) ≤ ((8 * i : Nat) : Int)) = True := by simp only [eq_iff_iff, iff_true]; omega
    simp only [core, Nat.reduceAdd, Nat.reduceSub, Nat.reduceMul, Nat.reduceLT, Nat.reduceEqDiff, reduceCtorEq, Nat.reduceLeDiff, Int.reduceLE, Int.reduceLT, Int.reduceToNat, hn, g1, g6, g0, hc, hw8, h80, s1]
    obtain ⟨h2, hh2⟩ : ∃ h2, h2 = h.push (.cells [.lit (.int .u8 (IntKind.u8.wrap (shrI .u32 n ((8 * i : Nat) : Int))))] 5) := ⟨_, rfl⟩
    have e2 : Ext h.n h h2 := hh2 ▸ (Ext.refl _ _).push _ (Nat.le_refl _)
    have A2 : h2.at h.n = some (.cells [.lit (.int .u8 (IntKind.u8.wrap (shrI .u32 n ((8 * i : Nat) : Int))))] 5) := hh2 ▸ at_push_n _ _
    rw [← hh2]
    clear hh2
    have hn2 := e2.1
    have hnh := fr.1
    have hlen : (xs ++ encN .u32 n i).length = xs.length + i := by rw [List.length_append, encN_len]
    refine WOp_app ((ho.ext e2 (Nat.le_refl _)).snoc (by kernel_rfl) (by kernel_rfl) (by kernel_rfl) (zv := .lit (.int .u8 0)) (by kernel_rfl) (by' := 1) (by kernel_rfl) rfl (by decide) (by decide) A2 (y := byteN .u32 n i) (by show [AV.lit (Value.int .u8 _)] = [AV.lit (Value.int .u8 ((byteN .u32 n i).toNat : Int))]; unfold byteN; rw [wrap_u8b]) (by omega) (by omega) (by omega)) ?_
    rintro s4 h4 ⟨ho4, e4, f4⟩
    have v4 := (ho4.toSl (F := fun _ => True) (fun _ h => h.elim) (fun _ _ => trivial)).isSl
    simp only [core, Nat.reduceAdd, Nat.reduceSub, Nat.reduceMul, Nat.reduceLT, Nat.reduceEqDiff, reduceCtorEq, Nat.reduceLeDiff, Int.reduceLE, Int.reduceLT, Int.reduceToNat, hn, g1, g6, g0, hws, v4]
    refine ih _ _ ⟨⟨s4, by rw [encN_succ, ← List.append_assoc]; exact ho4, fr.trans ((Fr.ext e2).trans ⟨e4.1, f4⟩), by simp only [core, Nat.reduceAdd, Nat.reduceSub, Nat.reduceMul, Nat.reduceLT, Nat.reduceEqDiff, reduceCtorEq, Nat.reduceLeDiff, Int.reduceLE, Int.reduceLT, Int.reduceToNat, hn, g1, g6]⟩, ?_⟩
    simp only [core, Nat.reduceAdd, Nat.reduceSub, Nat.reduceMul, Nat.reduceLT, Nat.reduceEqDiff, reduceCtorEq, Nat.reduceLeDiff, Int.reduceLE, Int.reduceLT, Int.reduceToNat, hn, g1, g6]
  · rintro t h hc ⟨⟨s, ho, fr, g0⟩, hn, g1, g6⟩
    have hc : ((4 : Int) < 4) = False := by decide
    have hc' : (((4 : Nat) : Int) < 4) = False := by decide
    simp only [core, Nat.reduceAdd, Nat.reduceSub, Nat.reduceMul, Nat.reduceLT, Nat.reduceEqDiff, reduceCtorEq, Nat.reduceLeDiff, Int.reduceLE, Int.reduceLT, Int.reduceToNat, hn, g1, g6, g0, hc, hc']
    exact ⟨fr, ho⟩
  · refine ⟨⟨v, by rw [show encN .u32 n 0 = [] from rfl, List.append_nil]; exact ho, Fr.refl, by simp only [core, Nat.reduceAdd, Nat.reduceSub, Nat.reduceMul, Nat.reduceLT, Nat.reduceEqDiff, reduceCtorEq, Nat.reduceLeDiff, Int.reduceLE, Int.reduceLT, Int.reduceToNat]⟩, ?_⟩
    simp only [core, Nat.reduceAdd, Nat.reduceSub, Nat.reduceMul, Nat.reduceLT, Nat.reduceEqDiff, reduceCtorEq, Nat.reduceLeDiff, Int.reduceLE, Int.reduceLT, Int.reduceToNat]
    rfl
theorem count2_x {H : AH} {v : AV} {xs : List UInt8} {n0 : Nat} (n : Int) (ho : OwnB n0 H v xs) (hn0 : n0 ≤ H.n) (hl : xs.length + 4 ≤ 140737488355328) :
    WC Try.prog (tabOf Try.prog NT0) S0 114 [v, .lit (.int .i64 n)] H fun r h' => Fr H v h' r ∧ OwnB n0 h' r (xs ++ encN .u32 (IntKind.u32.wrap n) 4) := by
  refine WC_fn Try.func114 rfl rfl ?_
  simp only [core, Nat.reduceAdd, Nat.reduceSub, Nat.reduceMul, Nat.reduceLT, Nat.reduceEqDiff, reduceCtorEq, Nat.reduceLeDiff, Int.reduceLE, Int.reduceLT, Int.reduceToNat, Try.ntmps114]
  refine (word2_x (IntKind.u32.wrap n) ho hn0 hl).mono ?_
  rintro r h ⟨e, hr⟩
  simp only [core, Nat.reduceAdd, Nat.reduceSub, Nat.reduceMul, Nat.reduceLT, Nat.reduceEqDiff, reduceCtorEq, Nat.reduceLeDiff, Int.reduceLE, Int.reduceLT, Int.reduceToNat]
  exact ⟨e, hr⟩
def encB (b : Bool) : List UInt8 := [if b then 1 else 0]
theorem bool2_x {H : AH} {v : AV} {xs : List UInt8} {n0 : Nat} (b : Bool) (ho : OwnB n0 H v xs) (hn0 : n0 ≤ H.n) (hl : xs.length + 1 ≤ 140737488355328) :
    WC Try.prog (tabOf Try.prog NT0) S0 172 [v, .lit (.bool b)] H fun r h' => Fr H v h' r ∧ OwnB n0 h' r (xs ++ encB b) := by
  refine WC_fn Try.func172 rfl rfl ?_
  have s1 := (ho.toSl (F := fun _ => True) (fun _ h => h.elim) (fun _ _ => trivial)).isSl
  cases b with
  | true =>
    simp only [core, Nat.reduceAdd, Nat.reduceSub, Nat.reduceMul, Nat.reduceLT, Nat.reduceEqDiff, reduceCtorEq, Nat.reduceLeDiff, Int.reduceLE, Int.reduceLT, Int.reduceToNat, Try.ntmps172, s1]
    obtain ⟨h2, hh2⟩ : ∃ h2, h2 = H.push (.cells [.lit (.int .u8 1)] 5) := ⟨_, rfl⟩
    have e2 : Ext H.n H h2 := hh2 ▸ (Ext.refl _ _).push _ (Nat.le_refl _)
    have A2 : h2.at H.n = some (.cells [.lit (.int .u8 1)] 5) := hh2 ▸ at_push_n _ _
    rw [← hh2]
    clear hh2
    have hn2 := e2.1
    refine WOp_app ((ho.ext e2 (Nat.le_refl _)).snoc (by kernel_rfl) (by kernel_rfl) (by kernel_rfl) (zv := .lit (.int .u8 0)) (by kernel_rfl) (by' := 1) (by kernel_rfl) rfl (by decide) (by decide) A2 (y := 1) rfl (by omega) (by omega) (by omega)) ?_
    rintro s4 h4 ⟨ho4, e4, f4⟩
    have v4 := (ho4.toSl (F := fun _ => True) (fun _ h => h.elim) (fun _ _ => trivial)).isSl
    simp only [core, Nat.reduceAdd, Nat.reduceSub, Nat.reduceMul, Nat.reduceLT, Nat.reduceEqDiff, reduceCtorEq, Nat.reduceLeDiff, Int.reduceLE, Int.reduceLT, Int.reduceToNat, v4]
    exact ⟨(Fr.ext e2).trans ⟨e4.1, f4⟩, ho4⟩
  | false =>
    simp only [core, Nat.reduceAdd, Nat.reduceSub, Nat.reduceMul, Nat.reduceLT, Nat.reduceEqDiff, reduceCtorEq, Nat.reduceLeDiff, Int.reduceLE, Int.reduceLT, Int.reduceToNat, Try.ntmps172, s1]
    obtain ⟨h2, hh2⟩ : ∃ h2, h2 = H.push (.cells [.lit (.int .u8 0)] 5) := ⟨_, rfl⟩
    have e2 : Ext H.n H h2 := hh2 ▸ (Ext.refl _ _).push _ (Nat.le_refl _)
    have A2 : h2.at H.n = some (.cells [.lit (.int .u8 0)] 5) := hh2 ▸ at_push_n _ _
    rw [← hh2]
    clear hh2
    have hn2 := e2.1
    refine WOp_app ((ho.ext e2 (Nat.le_refl _)).snoc (by kernel_rfl) (by kernel_rfl) (by kernel_rfl) (zv := .lit (.int .u8 0)) (by kernel_rfl) (by' := 1) (by kernel_rfl) rfl (by decide) (by decide) A2 (y := 0) rfl (by omega) (by omega) (by omega)) ?_
    rintro s4 h4 ⟨ho4, e4, f4⟩
    have v4 := (ho4.toSl (F := fun _ => True) (fun _ h => h.elim) (fun _ _ => trivial)).isSl
    simp only [core, Nat.reduceAdd, Nat.reduceSub, Nat.reduceMul, Nat.reduceLT, Nat.reduceEqDiff, reduceCtorEq, Nat.reduceLeDiff, Int.reduceLE, Int.reduceLT, Int.reduceToNat, v4]
    exact ⟨(Fr.ext e2).trans ⟨e4.1, f4⟩, ho4⟩
end Go.Proofs.Ytkgbeihcepociaa.Ex
end

section

set_option linter.unusedSimpArgs false
set_option linter.unusedVariables false
set_option maxRecDepth 10000
set_option maxHeartbeats 4000000
namespace Go.Proofs.Ytkgbeihcepociaa.Ex
open Go
def drawF (h w : Int) : Int := if w < 1 then -9223372036854775808 else IntKind.i64.wrap ((IntKind.i64.wrap (lnF (IntKind.i64.wrap (andI .u32 h 65535)) - 281474976710656)).tdiv w)
def strawF (x r id w : Int) : Int := drawF (hash3F x (IntKind.u32.wrap id) (IntKind.u32.wrap r)) w
/-- One straw more. -/
def chStep (x r : Int) (s : Int × Int) (i : Nat) (id w : Int) : Int × Int := if w < 1 then s else if s.2 < 0 ∨ s.1 < strawF x r id w then (strawF x r id w, (i : Int)) else s
def chN (ids ws : List Int) (x r : Int) : Nat → Int × Int
  | 0 => (0, -1)
  | n + 1 => chStep x r (chN ids ws x r n) n (ids.getD n 0) (ws.getD n 0)
def chooseF (ids ws : List Int) (x r : Int) : Option Nat := if ids.length = ws.length then (if 0 ≤ (chN ids ws x r ids.length).2 then some (chN ids ws x r ids.length).2.toNat else none) else none
/-- A value in a block of its own. -/
def Bk (h : AH) (p : Nat) (v : AV) (e : TypeId) : Prop := h.at p = some (.cells [v] e)
theorem Bk.ld {h : AH} {p : Nat} {v : AV} {e0 : TypeId} (hb : Bk h p v e0) (e off : Nat) : loadA (tabOf Try.prog NT0) h e p off = ldL (tabOf Try.prog NT0) e [v] off := ld_at hb e off
theorem Bk.new {h : AH} {v : AV} {e p : Nat} (hp : p = h.n) : Bk (h.push (.cells [v] e)) p v e := by subst hp; exact at_push_n h _
theorem Bk.old {h : AH} {v : AV} {e p : Nat} {x : AB} (hb : Bk h p v e) : Bk (h.push x) p v e := (at_push_lt _ (at_lt hb)).trans hb
theorem Bk.ext {h h' : AH} {v : AV} {e p : Nat} (hb : Bk h p v e) (he : Ext h.n h h') : Bk h' p v e := (he.2 p (at_lt hb)).trans hb
theorem Bk.lt {h : AH} {v : AV} {e p : Nat} (hb : Bk h p v e) : p < h.n := at_lt hb
end Go.Proofs.Ytkgbeihcepociaa.Ex
end

section

set_option linter.unusedSimpArgs false
set_option linter.unusedVariables false
set_option maxRecDepth 10000
set_option maxHeartbeats 4000000
namespace Go.Proofs.Ytkgbeihcepociaa.Ex
open Go
/-- A map's value. -/
def mpV (m : MapD) (vo vp vb : AV) : AV := .agg [.lit (.int .i64 m.epoch), vo, vp, vb, .lit (.int .i64 m.leaf)]
/-- What a map's value reads. -/
structure MpAt (F : Nat → Prop) (h : AH) (m : MapD) (vo vp vb : AV) : Prop where
  o : IsSl ROsd F h vo m.osds
  p : IsSl RPool F h vp m.pools
  b : IsSl RBkt F h vb m.buckets
theorem MpAt.ext {F : Nat → Prop} {h h' : AH} {m : MapD} {vo vp vb : AV} {n0 : Nat} (hm : MpAt F h m vo vp vb) (he : Ext n0 h h') (hn : h.n ≤ n0) : MpAt F h' m vo vp vb := ⟨hm.o.ext he hn, hm.p.ext he hn, hm.b.ext he hn⟩
def bktV (b : BktD) (va vw : AV) : AV := .agg [.lit (.int .i64 b.id), .lit (.int .i64 b.kind), va, vw]
def bkt0 : BktD := ⟨0, 0, [], []⟩
def bucketF (m : MapD) (id : Int) : Option BktD := m.buckets.find? (fun b => b.id == id)
def bucketG (m : MapD) (id : Int) : BktD := (bucketF m id).getD bkt0
theorem find_drop {α : Type} {p : α → Bool} {l : List α} {i : Nat} {x : α} (hx : l[i]? = some x) : (l.drop i).find? p = if p x then some x else (l.drop (i + 1)).find? p := by
  have hlt := (List.getElem?_eq_some_iff.1 hx).1
  rw [List.drop_eq_getElem_cons hlt, List.find?_cons]
  have : l[i] = x := by rw [List.getElem?_eq_getElem hlt] at hx; exact Option.some.inj hx
  rw [this]
  cases p x <;> rfl
theorem bucketR_x {F : Nat → Prop} {H : AH} {m : MapD} {vo vp vb : AV} (id : Int) (hm : MpAt F H m vo vp vb) (hl : Sm 64 m.buckets) :
    WC Try.prog (tabOf Try.prog NT0) S0 66 [mpV m vo vp vb, .lit (.int .i64 id)] H fun r h' => Ext H.n H h' ∧ ∃ va vw, r = .tup [bktV (bucketG m id) va vw, .lit (.bool (bucketF m id).isSome)] ∧ IsSl RInt F h' va (bucketG m id).items ∧ IsSl RInt F h' vw (bucketG m id).weights := by
  refine WC_fn Try.func66 rfl rfl ?_
  unfold Sm at hl
  have s1 := hm.b.isSl
  have s2 := hm.b.lenD
  have o1 := hm.o.one
  have o2 := hm.p.one
  have o3 := hm.b.one
  simp only [core, Nat.reduceAdd, Nat.reduceSub, Nat.reduceMul, Nat.reduceLT, Nat.reduceEqDiff, reduceCtorEq, Nat.reduceLeDiff, Int.reduceLE, Int.reduceLT, Int.reduceToNat, Try.ntmps66, mpV, s1, s2, o1, o2, o3]
  obtain ⟨h2, hh2⟩ : ∃ h2, h2 = (H.push (.cells [.lit (.int .i64 m.epoch), vo, vp, vb, .lit (.int .i64 m.leaf)] 31)).push (.cells [.lit (.int .i64 0), .lit (.int .i64 0), .lit (.slice none 0 0), .lit (.slice none 0 0)] 92) := ⟨_, rfl⟩
  have E0 : Ext H.n H h2 := hh2 ▸ ((Ext.refl _ _).push _ (Nat.le_refl _)).push _ (by rw [n_push]; omega)
  have A0 : h2.at (H.n + 1) = some (.cells [.lit (.int .i64 0), .lit (.int .i64 0), .lit (.slice none 0 0), .lit (.slice none 0 0)] 92) := hh2 ▸ at_push_n _ _
  have n2 : h2.n = H.n + 2 := by rw [hh2, n_push, n_push]
  rw [← hh2]
  clear hh2
  refine WB_for m.buckets.length (fun i t h => Ext h2.n h2 h ∧ bucketF m id = (m.buckets.drop i).find? (fun b => b.id == id) ∧ t.n = 22 ∧ t.get 1 = .lit (.int .i64 id) ∧ t.get 4 = .ptr (H.n + 1) 0 ∧ t.get 9 = vb ∧ t.get 10 = .lit (.int .i64 m.buckets.length) ∧ t.get 11 = .lit (.int .i64 i)) ?_ ?_ _ _ ?_
  · rintro i t h hlt hc ⟨he, hf, hn, g1, g4, g9, g10, g11⟩ ih
    obtain ⟨x, hx⟩ : ∃ x, m.buckets[i]? = some x := ⟨_, List.getElem?_eq_getElem hlt⟩
    have E1 : Ext H.n H h := E0.trans (he.mono (by omega))
    obtain ⟨c, hc1, hld, hld0⟩ := hm.b.atE (T := tabOf Try.prog NT0) E1 RBkt_z hx
    obtain ⟨va, vw, rfl, ha, hw, i1, i2⟩ := RBkt_is.1 hc1
    have a1 := ha.one
    have w1 := hw.one
    have hws := wrap_succ hlt (by omega)
    rw [find_drop hx] at hf
    have A1 : h.at (H.n + 1) = some (.cells [.lit (.int .i64 0), .lit (.int .i64 0), .lit (.slice none 0 0), .lit (.slice none 0 0)] 92) := (he.2 _ (by omega)).trans A0
    have l1 : H.n + 1 < h.n := at_lt A1
    simp only [core, Nat.reduceAdd, Nat.reduceSub, Nat.reduceMul, Nat.reduceLT, Nat.reduceEqDiff, reduceCtorEq, Nat.reduceLeDiff, Int.reduceLE, Int.reduceLT, Int.reduceToNat, s1, s2, hn, g1, g4, g9, g10, g11, hlt, hc, hld, hld0, hws, a1, w1]
    refine ⟨fun hq => ?_, fun hq => ?_⟩
    · rw [if_pos hq] at hf
      have hG : bucketG m id = x := by unfold bucketG; rw [hf]; rfl
      simp only [core, Nat.reduceAdd, Nat.reduceSub, Nat.reduceMul, Nat.reduceLT, Nat.reduceEqDiff, reduceCtorEq, Nat.reduceLeDiff, Int.reduceLE, Int.reduceLT, Int.reduceToNat, hn, g1, g4, g9, g10, g11, a1, w1, A1, l1]
      have EF : Ext H.n H ((h.put (H.n + 1) (.cells [.lit (.int .i64 x.id), .lit (.int .i64 x.kind), va, vw] 92)).push (.cells [.lit (.int .i64 x.id), .lit (.int .i64 x.kind), va, vw] 92)) := (E1.put _ (by omega)).push _ (by rw [n_put]; omega)
      rw [hG, hf]
      exact ⟨EF, va, vw, rfl, ha.ext EF (Nat.le_refl _), hw.ext EF (Nat.le_refl _)⟩
    · rw [if_neg (by rw [hq]; decide)] at hf
      refine ih _ _ ⟨he.push _ he.1, hf, ?_⟩
      simp only [core, Nat.reduceAdd, Nat.reduceSub, Nat.reduceMul, Nat.reduceLT, Nat.reduceEqDiff, reduceCtorEq, Nat.reduceLeDiff, Int.reduceLE, Int.reduceLT, Int.reduceToNat, hn, g1, g4, g9, g10, g11]
  · rintro t h hc ⟨he, hf, hn, g1, g4, g9, g10, g11⟩
    have A1 : h.at (H.n + 1) = some (.cells [.lit (.int .i64 0), .lit (.int .i64 0), .lit (.slice none 0 0), .lit (.slice none 0 0)] 92) := (he.2 _ (by omega)).trans A0
    have l1 : H.n + 1 < h.n := at_lt A1
    have E1 : Ext H.n H h := E0.trans (he.mono (by omega))
    have hf : bucketF m id = none := by rw [hf, List.drop_length]; rfl
    have hG : bucketG m id = bkt0 := by unfold bucketG; rw [hf]; rfl
    simp only [core, Nat.reduceAdd, Nat.reduceSub, Nat.reduceMul, Nat.reduceLT, Nat.reduceEqDiff, reduceCtorEq, Nat.reduceLeDiff, Int.reduceLE, Int.reduceLT, Int.reduceToNat, s1, s2, hn, g1, g4, g9, g10, g11, hc, A1, l1, bdM, fillA]
    rw [hG, hf]
    exact ⟨E1.put _ (by omega), _, _, rfl, IsSl.nil, IsSl.nil⟩
  · simp only [core, Nat.reduceAdd, Nat.reduceSub, Nat.reduceMul, Nat.reduceLT, Nat.reduceEqDiff, reduceCtorEq, Nat.reduceLeDiff, Int.reduceLE, Int.reduceLT, Int.reduceToNat]
    refine ⟨Ext.refl _ _, rfl, ?_⟩
    (repeat' apply And.intro) <;> first | rfl | trivial
end Go.Proofs.Ytkgbeihcepociaa.Ex
end

section

set_option linter.unusedSimpArgs false
set_option linter.unusedVariables false
set_option maxRecDepth 10000
set_option maxHeartbeats 4000000
namespace Go.Proofs.Ytkgbeihcepociaa.Ex
open Go
theorem Ext.step {H h h' : AH} (he : Ext H.n H h) (hk : Ext h.n h h') : Ext H.n H h' := he.trans (hk.mono he.1)
theorem bucket_x {F : Nat → Prop} {H : AH} {m : MapD} {vo vp vb : AV} (id : Int) (hm : MpAt F H m vo vp vb) (hl : Sm 64 m.buckets) (hok : ∀ b ∈ m.buckets, Sm 8 b.items ∧ Sm 8 b.weights) :
    WC Try.prog (tabOf Try.prog NT0) S0 109 [mpV m vo vp vb, .lit (.int .i64 id)] H fun r h' => Ext H.n H h' ∧ ∃ va vw, r = .tup [bktV (bucketG m id) va vw, .lit (.bool (bucketF m id).isSome)] ∧ IsSl RInt (fun b => H.n ≤ b) h' va (bucketG m id).items ∧ IsSl RInt (fun b => H.n ≤ b) h' vw (bucketG m id).weights := by
  refine WC_fn Try.func109 rfl rfl ?_
  unfold Sm at hl
  have s1 := hm.b.isSl
  have s2 := hm.b.lenD
  have o1 := hm.o.one
  have o2 := hm.p.one
  have o3 := hm.b.one
  simp only [core, Nat.reduceAdd, Nat.reduceSub, Nat.reduceMul, Nat.reduceLT, Nat.reduceEqDiff, reduceCtorEq, Nat.reduceLeDiff, Int.reduceLE, Int.reduceLT, Int.reduceToNat, Try.ntmps109, mpV, s1, s2, o1, o2, o3]
  obtain ⟨h2, hh2⟩ : ∃ h2, h2 = (H.push (.cells [.lit (.int .i64 m.epoch), vo, vp, vb, .lit (.int .i64 m.leaf)] 31)).push (.cells [.lit (.int .i64 0), .lit (.int .i64 0), .lit (.slice none 0 0), .lit (.slice none 0 0)] 92) := ⟨_, rfl⟩
  have E0 : Ext H.n H h2 := hh2 ▸ ((Ext.refl _ _).push _ (Nat.le_refl _)).push _ (by rw [n_push]; omega)
  have A0 : h2.at (H.n + 1) = some (.cells [.lit (.int .i64 0), .lit (.int .i64 0), .lit (.slice none 0 0), .lit (.slice none 0 0)] 92) := hh2 ▸ at_push_n _ _
  have n2 : h2.n = H.n + 2 := by rw [hh2, n_push, n_push]
  rw [← hh2]
  clear hh2
  refine WB_for m.buckets.length (fun i t h => Ext h2.n h2 h ∧ bucketF m id = (m.buckets.drop i).find? (fun b => b.id == id) ∧ t.n = 30 ∧ t.get 1 = .lit (.int .i64 id) ∧ t.get 4 = .ptr (H.n + 1) 0 ∧ t.get 9 = vb ∧ t.get 10 = .lit (.int .i64 m.buckets.length) ∧ t.get 11 = .lit (.int .i64 i)) ?_ ?_ _ _ ?_
  · rintro i t h hlt hc ⟨he, hf, hn, g1, g4, g9, g10, g11⟩ ih
    obtain ⟨x, hx⟩ : ∃ x, m.buckets[i]? = some x := ⟨_, List.getElem?_eq_getElem hlt⟩
    have E1 : Ext H.n H h := E0.trans (he.mono (by omega))
    obtain ⟨c, hc1, hld, hld0⟩ := hm.b.atE (T := tabOf Try.prog NT0) E1 RBkt_z hx
    obtain ⟨va, vw, rfl, ha, hw, i1, i2⟩ := RBkt_is.1 hc1
    obtain ⟨k1, k2⟩ := hok x (List.mem_of_getElem? hx)
    unfold Sm at k1 k2
    have a1 := ha.one
    have w1 := hw.one
    have a2 := ha.isSl
    have w2 := hw.isSl
    have hws := wrap_succ hlt (by omega)
    rw [find_drop hx] at hf
    have A1 : h.at (H.n + 1) = some (.cells [.lit (.int .i64 0), .lit (.int .i64 0), .lit (.slice none 0 0), .lit (.slice none 0 0)] 92) := (he.2 _ (by omega)).trans A0
    have l1 : H.n + 1 < h.n := at_lt A1
    simp only [core, Nat.reduceAdd, Nat.reduceSub, Nat.reduceMul, Nat.reduceLT, Nat.reduceEqDiff, reduceCtorEq, Nat.reduceLeDiff, Int.reduceLE, Int.reduceLT, Int.reduceToNat, s1, s2, hn, g1, g4, g9, g10, g11, hlt, hc, hld, hld0, hws, a1, w1]
    refine ⟨fun hq => ?_, fun hq => ?_⟩
    · rw [if_pos hq] at hf
      have hG : bucketG m id = x := by unfold bucketG; rw [hf]; rfl
      obtain ⟨hp, hhp⟩ : ∃ hp, hp = h.push (.cells [.lit (.int .i64 x.id), .lit (.int .i64 x.kind), va, vw] 92) := ⟨_, rfl⟩
      have EP : Ext h.n h hp := hhp ▸ (Ext.refl _ _).push _ (Nat.le_refl _)
      have P0 : hp.at h.n = some (.cells [.lit (.int .i64 x.id), .lit (.int .i64 x.kind), va, vw] 92) := hhp ▸ at_push_n h _
      have LP0 := ld_at (T := tabOf Try.prog NT0) P0
      rw [← hhp]
      rw [WB_regionD [0, 1, 3, 4, 2, 6, 5, 7, 8, 9] 632895786129742360360258634752 (by kernel_rfl)]
      repeat ((with_reducible refine WDM_cons ?_; simp only [dw1]; try simp only [dw2, Nat.reduceAdd, Nat.reduceMul, Nat.reduceShiftRight, Nat.reduceMod, Nat.reduceEqDiff]); simp only [core, Nat.reduceAdd, Nat.reduceSub, Nat.reduceMul, Nat.reduceLT, Nat.reduceEqDiff, reduceCtorEq, Nat.reduceLeDiff, Int.reduceLE, Int.reduceLT, Int.reduceToNat, cored, hn, g1, g4, g9, g10, g11, LP0, a2, w2])
      have E2 := E1.step EP
      refine (clone_x (ha.ext E2 (Nat.le_refl _)) (by omega)).mono ?_
      rintro ra h3 ⟨e3, ra1, -⟩
      have P3 := (e3.2 _ (at_lt P0)).trans P0
      have LP3 := ld_at (T := tabOf Try.prog NT0) P3
      have E3 := E2.step e3
      repeat ((with_reducible refine WDM_cons ?_; simp only [dw1]; try simp only [dw2, Nat.reduceAdd, Nat.reduceMul, Nat.reduceShiftRight, Nat.reduceMod, Nat.reduceEqDiff]); simp only [core, Nat.reduceAdd, Nat.reduceSub, Nat.reduceMul, Nat.reduceLT, Nat.reduceEqDiff, reduceCtorEq, Nat.reduceLeDiff, Int.reduceLE, Int.reduceLT, Int.reduceToNat, cored, hn, g1, g4, g9, g10, g11, LP3, a2, w2])
      refine (clone_x (hw.ext E3 (Nat.le_refl _)) (by omega)).mono ?_
      rintro rw1 h4 ⟨e4, rw2, -⟩
      have P4 := (e4.2 _ (at_lt P3)).trans P3
      have LP4 := ld_at (T := tabOf Try.prog NT0) P4
      have E4 := E3.step e4
      have l4 := at_lt P4
      have o4 := ra1.one
      have o5 := rw2.one
      have lh : h.n < hp.n := at_lt P0
      have l3 : hp.n ≤ h3.n := e3.1
      have l5 : h3.n ≤ h4.n := e4.1
      have A4 : h4.at (H.n + 1) = some (.cells [.lit (.int .i64 0), .lit (.int .i64 0), .lit (.slice none 0 0), .lit (.slice none 0 0)] 92) := ((e4.2 _ (by omega)).trans ((e3.2 _ (by omega)).trans (EP.2 _ l1))).trans A1
      have l6 : H.n + 1 < h4.n := at_lt A4
      have hne : ¬ h.n = H.n + 1 := by omega
      repeat ((with_reducible refine WDM_cons ?_; simp only [dw1]; try simp only [dw2, Nat.reduceAdd, Nat.reduceMul, Nat.reduceShiftRight, Nat.reduceMod, Nat.reduceEqDiff]); simp only [core, Nat.reduceAdd, Nat.reduceSub, Nat.reduceMul, Nat.reduceLT, Nat.reduceEqDiff, reduceCtorEq, Nat.reduceLeDiff, Int.reduceLE, Int.reduceLT, Int.reduceToNat, cored, hn, g1, g4, g9, g10, g11, LP4, P4, l4, o4, o5, a2, w2, A4, l6, hne])
      rw [hG, hf]
      have k0 := E1.1
      refine ⟨((E4.put _ (by omega)).put _ (by omega)).put _ (by omega), _, _, rfl, ?_, ?_⟩
      · refine ra1.lift fun b hb hlt => ⟨?_, by omega⟩
        rw [at_put_ne _ (by omega), at_put_ne _ (by omega), at_put_ne _ (by omega)]
        exact e4.2 b hlt
      · refine rw2.lift fun b hb hlt => ⟨?_, by omega⟩
        rw [at_put_ne _ (by omega), at_put_ne _ (by omega), at_put_ne _ (by omega)]
    · rw [if_neg (by rw [hq]; decide)] at hf
      refine ih _ _ ⟨he.push _ he.1, hf, ?_⟩
      simp only [core, Nat.reduceAdd, Nat.reduceSub, Nat.reduceMul, Nat.reduceLT, Nat.reduceEqDiff, reduceCtorEq, Nat.reduceLeDiff, Int.reduceLE, Int.reduceLT, Int.reduceToNat, hn, g1, g4, g9, g10, g11]
  · rintro t h hc ⟨he, hf, hn, g1, g4, g9, g10, g11⟩
    have A1 : h.at (H.n + 1) = some (.cells [.lit (.int .i64 0), .lit (.int .i64 0), .lit (.slice none 0 0), .lit (.slice none 0 0)] 92) := (he.2 _ (by omega)).trans A0
    have l1 : H.n + 1 < h.n := at_lt A1
    have E1 : Ext H.n H h := E0.trans (he.mono (by omega))
    have hf : bucketF m id = none := by rw [hf, List.drop_length]; rfl
    have hG : bucketG m id = bkt0 := by unfold bucketG; rw [hf]; rfl
    simp only [core, Nat.reduceAdd, Nat.reduceSub, Nat.reduceMul, Nat.reduceLT, Nat.reduceEqDiff, reduceCtorEq, Nat.reduceLeDiff, Int.reduceLE, Int.reduceLT, Int.reduceToNat, s1, s2, hn, g1, g4, g9, g10, g11, hc, A1, l1, bdM, fillA]
    rw [hG, hf]
    exact ⟨E1.put _ (by omega), _, _, rfl, IsSl.nil, IsSl.nil⟩
  · simp only [core, Nat.reduceAdd, Nat.reduceSub, Nat.reduceMul, Nat.reduceLT, Nat.reduceEqDiff, reduceCtorEq, Nat.reduceLeDiff, Int.reduceLE, Int.reduceLT, Int.reduceToNat]
    refine ⟨Ext.refl _ _, rfl, ?_⟩
    (repeat' apply And.intro) <;> first | rfl | trivial
end Go.Proofs.Ytkgbeihcepociaa.Ex
end

section

set_option linter.unusedSimpArgs false
set_option linter.unusedVariables false
set_option maxRecDepth 10000
set_option maxHeartbeats 4000000
namespace Go.Proofs.Ytkgbeihcepociaa.Ex
open Go
def kindF (m : MapD) (item : Int) : Int := if 0 ≤ item then (if item < 8 then 0 else -1) else if (bucketF m item).isSome then (bucketG m item).kind else -1
theorem kind_x {F : Nat → Prop} {H : AH} {m : MapD} {vo vp vb : AV} (item : Int) (hm : MpAt F H m vo vp vb) (hl : Sm 64 m.buckets) :
    WC Try.prog (tabOf Try.prog NT0) S0 59 [mpV m vo vp vb, .lit (.int .i64 item)] H fun r h' => Ext H.n H h' ∧ r = .lit (.int .i64 (kindF m item)) := by
  refine WC_fn Try.func59 rfl rfl ?_
  have o1 := hm.o.one
  have o2 := hm.p.one
  have o3 := hm.b.one
  simp only [core, Nat.reduceAdd, Nat.reduceSub, Nat.reduceMul, Nat.reduceLT, Nat.reduceEqDiff, reduceCtorEq, Nat.reduceLeDiff, Int.reduceLE, Int.reduceLT, Int.reduceToNat, Try.ntmps59, mpV, o1, o2, o3]
  have EP : ∀ x, Ext H.n H (H.push x) := fun x => (Ext.refl _ _).push _ (Nat.le_refl _)
  refine ⟨fun hq => ⟨fun hq2 => ?_, fun hq2 => ?_⟩, fun hq => ?_⟩
  · refine ⟨EP _, ?_⟩
    unfold kindF
    rw [if_pos (by simpa using hq), if_pos (by simpa using hq2)]
  · refine ⟨EP _, ?_⟩
    unfold kindF
    rw [if_pos (by simpa using hq), if_neg (by simpa using hq2)]
  · have hq : ¬ 0 ≤ item := by simpa using hq
    refine (bucketR_x item (hm.ext (EP _) (Nat.le_refl _)) hl).mono ?_
    rintro _ h1 ⟨e1, va, vw, rfl, b1, b2⟩
    have o4 := b1.one
    have o5 := b2.one
    simp only [core, Nat.reduceAdd, Nat.reduceSub, Nat.reduceMul, Nat.reduceLT, Nat.reduceEqDiff, reduceCtorEq, Nat.reduceLeDiff, Int.reduceLE, Int.reduceLT, Int.reduceToNat, bktV, o4, o5]
    refine ⟨fun hq2 => ?_, fun hq2 => ?_⟩
    · refine ⟨(Ext.step (EP _) e1).push _ (by have := e1.1; rw [n_push] at this; omega), ?_⟩
      unfold kindF
      rw [if_neg hq, if_neg (by simp at hq2; simp [hq2])]
    · refine ⟨(Ext.step (EP _) e1).push _ (by have := e1.1; rw [n_push] at this; omega), ?_⟩
      unfold kindF
      rw [if_neg hq, if_pos (by simpa using hq2)]
def wOk (w : Int) : Bool := decide (0 ≤ w) && decide (w ≤ 1048576)
def itsTo (m : MapD) (i : Nat) : List Int := (m.buckets.take i).flatMap (·.items)
def itemOk (m : MapD) (its : List Int) (b : BktD) (k : Nat) : Bool := decide (0 ≤ kindF m (b.items.getD k 0)) && decide (kindF m (b.items.getD k 0) < b.kind) && !((its ++ b.items.take k).contains (b.items.getD k 0))
def hdOk (m : MapD) (i : Nat) (b : BktD) : Bool := !((m.buckets.take i).any (fun c => c.id == b.id)) && decide (b.id < 0) && decide (1 ≤ b.kind) && decide (b.kind ≤ 3) && (b.items.length == b.weights.length)
def bOk (m : MapD) (i : Nat) (b : BktD) : Bool := hdOk m i b && b.weights.all wOk && (List.range b.items.length).all (itemOk m (itsTo m i) b)
def goodF (m : MapD) : Bool := decide (0 ≤ m.leaf) && decide (m.leaf ≤ 3) && (List.range m.buckets.length).all (fun i => bOk m i (m.buckets.getD i bkt0))
theorem range_all_succ {p : Nat → Bool} {i : Nat} : (List.range (i + 1)).all p = ((List.range i).all p && p i) := by
  rw [List.range_succ, List.all_append]; simp
theorem range_all_false {p : Nat → Bool} {n i : Nat} (hi : i < n) (hp : p i = false) : (List.range n).all p = false := by
  rw [List.all_eq_false]
  exact ⟨i, List.mem_range.2 hi, by simp [hp]⟩
theorem getD_of {α : Type} {l : List α} {i : Nat} {x d : α} (hx : l[i]? = some x) : l.getD i d = x := by rw [List.getD_eq_getElem?_getD, hx]; rfl
theorem good_false {m : MapD} {i : Nat} {x : BktD} (hx : m.buckets[i]? = some x) (h : bOk m i x = false) : goodF m = false := by
  unfold goodF
  rw [range_all_false (i := i) (List.getElem?_eq_some_iff.1 hx).1 (by simp only [getD_of hx]; exact h), Bool.and_false]
theorem itsTo_succ {m : MapD} {i : Nat} {x : BktD} (hx : m.buckets[i]? = some x) : itsTo m (i + 1) = itsTo m i ++ x.items := by
  unfold itsTo
  rw [List.take_add_one, hx, List.flatMap_append]
  simp
theorem any_take {α : Type} {p : α → Bool} {l : List α} {i : Nat} {x : α} (hx : l[i]? = some x) : (l.take (i + 1)).any p = ((l.take i).any p || p x) := by
  rw [List.take_add_one, hx, List.any_append]; simp
theorem any_true' {α : Type} {p : α → Bool} {l : List α} {i : Nat} {x : α} (hx : l[i]? = some x) (hp : p x = true) : l.any p = true := by
  rw [List.any_eq_true]
  exact ⟨x, List.mem_of_getElem? hx, hp⟩
theorem all_take' {α : Type} {p : α → Bool} {l : List α} {i : Nat} {x : α} (hx : l[i]? = some x) : (l.take (i + 1)).all p = ((l.take i).all p && p x) := by
  rw [List.take_add_one, hx, List.all_append]; simp
theorem all_false' {α : Type} {p : α → Bool} {l : List α} {i : Nat} {x : α} (hx : l[i]? = some x) (hp : p x = false) : l.all p = false := by
  rw [List.all_eq_false]
  exact ⟨x, List.mem_of_getElem? hx, by simp [hp]⟩
theorem getD_some' {α : Type} {l : List α} {i : Nat} (d : α) (hi : i < l.length) : l[i]? = some (l.getD i d) := by rw [List.getD_eq_getElem?_getD, List.getElem?_eq_getElem hi]; rfl
theorem contains_take {x : Int} {l : List Int} {i : Nat} (hi : i < l.length) : (l.take (i + 1)).contains x = ((l.take i).contains x || l.getD i 0 == x) := by
  rw [List.take_add_one, getD_some' 0 hi]
  simp only [Option.toList_some, List.contains_eq_any_beq, List.any_append, List.any_cons, List.any_nil, Bool.or_false]
  rw [Bool.beq_comm]
theorem IsSl.i64 {F : Nat → Prop} {h : AH} {v : AV} {xs : List Int} (hs : IsSl RInt F h v xs) : ∀ (i : Nat), i < xs.length → I64 (xs.getD i 0) := fun i hi => by
  obtain ⟨L, h1, _, _, h3⟩ := hs.out
  obtain ⟨c, _, hc⟩ := h3.get (getD_some' 0 hi)
  exact hc.2
/-- The items of a map that is not too great. -/
def OkM (m : MapD) : Prop := Sm 64 m.buckets ∧ (∀ b ∈ m.buckets, Sm 8 b.items ∧ Sm 8 b.weights) ∧ True
theorem nodup_len : ∀ {l r : List Int}, l.Nodup → (∀ x ∈ l, x ∈ r) → l.length ≤ r.length
  | [], r, _, _ => Nat.zero_le _
  | a :: l, r, hn, hs => by
    rw [List.nodup_cons] at hn
    have ha : a ∈ r := hs a (by simp)
    have h1 := List.length_erase_of_mem ha
    have h2 := List.length_pos_of_mem ha
    have h3 := nodup_len (r := r.erase a) hn.2 fun x hx => (List.mem_erase_of_ne (by intro hh; subst hh; exact hn.1 hx)).2 (hs x (by simp [hx]))
    rw [List.length_cons]
    omega
/-- Items so far: unlike, and each is of some kind. -/
def ItsOk (m : MapD) (l : List Int) : Prop := l.Nodup ∧ ∀ d ∈ l, 0 ≤ kindF m d
theorem its_item {m : MapD} {base : List Int} {b : BktD} (hb : ItsOk m base) : ∀ k, k ≤ b.items.length → (List.range k).all (itemOk m base b) = true → ItsOk m (base ++ b.items.take k)
  | 0, _, _ => by rw [List.take_zero, List.append_nil]; exact hb
  | k + 1, hk, h => by
    rw [range_all_succ, Bool.and_eq_true] at h
    obtain ⟨i1, i2⟩ := its_item hb k (by omega) h.1
    have h2 := h.2
    unfold itemOk at h2
    simp only [Bool.and_eq_true, decide_eq_true_eq, Bool.not_eq_true'] at h2
    obtain ⟨⟨h3, _⟩, h4⟩ := h2
    rw [List.take_add_one, getD_some' 0 (by omega), ← List.append_assoc]
    refine ⟨?_, fun d hd => ?_⟩
    · rw [List.nodup_append]
      refine ⟨i1, by simp, fun a ha c hc hac => ?_⟩
      simp only [Option.toList_some, List.mem_singleton] at hc
      subst hc
      subst hac
      rw [List.contains_iff_mem.2 ha] at h4
      cases h4
    · simp only [Option.toList_some, List.mem_append (t := [_]), List.mem_singleton] at hd
      rcases hd with hd | rfl
      · exact i2 d hd
      · exact h3
theorem its_bkts {m : MapD} : ∀ i, i ≤ m.buckets.length → (List.range i).all (fun i => bOk m i (m.buckets.getD i bkt0)) = true → ItsOk m (itsTo m i)
  | 0, _, _ => ⟨List.nodup_nil, fun d hd => by cases hd⟩
  | i + 1, hi, h => by
    rw [range_all_succ, Bool.and_eq_true] at h
    obtain ⟨x, hx⟩ : ∃ x, m.buckets[i]? = some x := ⟨_, List.getElem?_eq_getElem (by omega)⟩
    have h2 := h.2
    rw [getD_of hx] at h2
    unfold bOk at h2
    rw [Bool.and_eq_true] at h2
    have := its_item (its_bkts i (by omega) h.1) x.items.length (Nat.le_refl _) h2.2
    rw [List.take_length] at this
    rw [itsTo_succ hx]
    exact this
theorem its_len {m : MapD} {l : List Int} (h : ItsOk m l) : l.length ≤ 8 + m.buckets.length := by
  have := nodup_len (r := [0, 1, 2, 3, 4, 5, 6, 7] ++ m.buckets.map (·.id)) h.1 fun d hd => by
    have h1 := h.2 d hd
    unfold kindF at h1
    rw [List.mem_append]
    split at h1
    · split at h1
      · left
        simp only [List.mem_cons, List.not_mem_nil, or_false]
        omega
      · omega
    · split at h1
      · rename_i hs
        right
        obtain ⟨b, hb⟩ := Option.isSome_iff_exists.1 hs
        have h2 := List.mem_of_find?_eq_some hb
        have h3 := List.find?_some hb
        exact List.mem_map.2 ⟨b, h2, eq_of_beq h3⟩
      · omega
  rw [List.length_append, List.length_map] at this
  exact this
theorem good_x {F : Nat → Prop} {H : AH} {m : MapD} {vo vp vb : AV} (hm : MpAt F H m vo vp vb) (hok : OkM m) :
    WC Try.prog (tabOf Try.prog NT0) S0 20 [mpV m vo vp vb] H fun r h' => Ext H.n H h' ∧ r = .lit (.bool (goodF m)) := by
  refine WC_fn Try.func20 rfl rfl ?_
  obtain ⟨hl, hbs, hit⟩ := hok
  have hl0 := hl
  unfold Sm at hl
  have s1 := hm.b.isSl
  have s2 := hm.b.lenD
  have o1 := hm.o.one
  have o2 := hm.p.one
  have o3 := hm.b.one
  have hcap : CapOk 4 vb := by obtain ⟨L, -, -, hc, -⟩ := hm.b.out; exact hc
  have EP : ∀ x, Ext H.n H (H.push x) := fun x => (Ext.refl _ _).push _ (Nat.le_refl _)
  simp only [core, Nat.reduceAdd, Nat.reduceSub, Nat.reduceMul, Nat.reduceLT, Nat.reduceEqDiff, reduceCtorEq, Nat.reduceLeDiff, Int.reduceLE, Int.reduceLT, Int.reduceToNat, Try.ntmps20, mpV, o1, o2, o3]
  by_cases hl1 : m.leaf < 0
  · simp only [core, Nat.reduceAdd, Nat.reduceSub, Nat.reduceMul, Nat.reduceLT, Nat.reduceEqDiff, reduceCtorEq, Nat.reduceLeDiff, Int.reduceLE, Int.reduceLT, Int.reduceToNat, hl1]
    refine ⟨EP _, ?_⟩
    unfold goodF
    rw [decide_eq_false (show ¬ 0 ≤ m.leaf by omega)]
    rfl
  simp only [core, Nat.reduceAdd, Nat.reduceSub, Nat.reduceMul, Nat.reduceLT, Nat.reduceEqDiff, reduceCtorEq, Nat.reduceLeDiff, Int.reduceLE, Int.reduceLT, Int.reduceToNat, hl1]
  refine ⟨fun hq => ?_, fun hq => ?_⟩
  · refine ⟨EP _, ?_⟩
    unfold goodF
    rw [decide_eq_false (show ¬ m.leaf ≤ 3 by simp at hq; omega), Bool.and_false]
    rfl
  have hl2 : m.leaf ≤ 3 := by simp at hq; omega
  have hg0 : goodF m = (List.range m.buckets.length).all (fun i => bOk m i (m.buckets.getD i bkt0)) := by
    unfold goodF
    rw [decide_eq_true (show 0 ≤ m.leaf by omega), decide_eq_true hl2]
    rfl
  simp only [core, Nat.reduceAdd, Nat.reduceSub, Nat.reduceMul, Nat.reduceLT, Nat.reduceEqDiff, reduceCtorEq, Nat.reduceLeDiff, Int.reduceLE, Int.reduceLT, Int.reduceToNat, s1, s2]
  obtain ⟨h1, hh1⟩ : ∃ h1, h1 = H.push (.cells [.lit (.int .i64 m.epoch), vo, vp, vb, .lit (.int .i64 m.leaf)] 31) := ⟨_, rfl⟩
  have E0 : Ext H.n H h1 := hh1 ▸ EP _
  have A0 : h1.at H.n = some (.cells [.lit (.int .i64 m.epoch), vo, vp, vb, .lit (.int .i64 m.leaf)] 31) := hh1 ▸ at_push_n _ _
  have n1 : h1.n = H.n + 1 := by rw [hh1, n_push]
  rw [← hh1]
  clear hh1
  refine WB_for m.buckets.length (fun i t h => ∃ o, OwnL RInt (fun _ => False) h1.n h o 3 (itsTo m i) ∧ Ext h1.n h1 h ∧ (List.range i).all (fun i => bOk m i (m.buckets.getD i bkt0)) = true ∧ t.n = 116 ∧ t.get 1 = .ptr H.n 0 ∧ t.get 3 = o ∧ t.get 24 = vb ∧ t.get 25 = .lit (.int .i64 m.buckets.length) ∧ t.get 26 = .lit (.int .i64 i)) ?_ ?_ _ _ ?_
  · rintro i t h hlt hc ⟨o, ho, he, hall, hn, g1, g3, g24, g25, g26⟩ ih
    obtain ⟨x, hx⟩ : ∃ x, m.buckets[i]? = some x := ⟨_, List.getElem?_eq_getElem hlt⟩
    have E1 : Ext H.n H h := E0.trans (he.mono (by omega))
    obtain ⟨c, hc1, hld, hld0⟩ := hm.b.atE (T := tabOf Try.prog NT0) E1 RBkt_z hx
    obtain ⟨va, vw, rfl, ha, hw, i1, i2⟩ := RBkt_is.1 hc1
    obtain ⟨k1, k2⟩ := hbs x (List.mem_of_getElem? hx)
    unfold Sm at k1 k2
    have a1 := ha.one
    have w1 := hw.one
    have a2 := ha.isSl
    have w2 := hw.isSl
    have a3 := ha.lenD
    have w3 := hw.lenD
    have hws := wrap_succ hlt (by omega)
    have A1 := (he.2 _ (by omega)).trans A0
    have l1 : H.n < h.n := at_lt A1
    have LA1 := ld_at (T := tabOf Try.prog NT0) A1
    have hno : i ≤ m.buckets.length := by omega
    have hno2 : (i : Int) ≤ (m.buckets.length : Int) := by omega
    have hsub : IsSl RBkt F H (subSl 4 0 i vb) (m.buckets.take i) := by have := hm.b.sub (l := 0) (r := i) (by omega) hno; rw [List.drop_zero] at this; exact this
    have s3 := hsub.isSl
    have s4 : lenD (subSl 4 0 i vb) = i := by rw [hsub.lenD, List.length_take]; omega
    simp only [core, Nat.reduceAdd, Nat.reduceSub, Nat.reduceMul, Nat.reduceLT, Nat.reduceEqDiff, reduceCtorEq, Nat.reduceLeDiff, Int.reduceLE, Int.reduceLT, Int.reduceToNat, s1, s2, hn, g1, g3, g24, g25, g26, hlt, hc, hld, hld0, hws, a1, w1, LA1, l1, hcap, hno, hno2, s3, s4]
    obtain ⟨hA, hhA⟩ : ∃ hA, hA = h.push (.cells [.lit (.int .i64 x.id), .lit (.int .i64 x.kind), va, vw] 92) := ⟨_, rfl⟩
    have EA : Ext h.n h hA := hhA ▸ (Ext.refl _ _).push _ (Nat.le_refl _)
    have PA : hA.at h.n = some (.cells [.lit (.int .i64 x.id), .lit (.int .i64 x.kind), va, vw] 92) := hhA ▸ at_push_n h _
    rw [← hhA]
    clear hhA
    have hbk : bOk m i x = (hdOk m i x && x.weights.all wOk && (List.range x.items.length).all (itemOk m (itsTo m i) x)) := rfl
    have hbad : ∀ h', Ext H.n H h' → bOk m i x = false → Ext H.n H h' ∧ AV.lit (.bool false) = .lit (.bool (goodF m)) := fun h' e hf => ⟨e, by rw [good_false hx hf]⟩
    refine WB_for i (fun j t h' => Ext hA.n hA h' ∧ (m.buckets.take j).any (fun c => c.id == x.id) = false ∧ t.n = 116 ∧ t.get 1 = .ptr H.n 0 ∧ t.get 3 = o ∧ t.get 5 = .ptr h.n 0 ∧ t.get 24 = vb ∧ t.get 25 = .lit (.int .i64 m.buckets.length) ∧ t.get 26 = .lit (.int .i64 i) ∧ t.get 34 = subSl 4 0 i vb ∧ t.get 35 = .lit (.int .i64 i) ∧ t.get 36 = .lit (.int .i64 j)) ?_ ?_ _ _ ?_
    · rintro j t h' hj hc ⟨he2, hany, hn, g1, g3, g5, g24, g25, g26, g34, g35, g36⟩ ih2
      have hjl : j < m.buckets.length := by omega
      obtain ⟨y, hy⟩ : ∃ y, m.buckets[j]? = some y := ⟨_, List.getElem?_eq_getElem hjl⟩
      have hy2 : (m.buckets.take i)[j]? = some y := by rw [List.getElem?_take, if_pos hj, hy]
      have E2 : Ext H.n H h' := (E1.step EA).step he2
      obtain ⟨c, hc1, hld, hld0⟩ := hsub.atE (T := tabOf Try.prog NT0) E2 RBkt_z hy2
      obtain ⟨ya, yw, rfl, ya1, yw1, -, -⟩ := RBkt_is.1 hc1
      have y1 := ya1.one
      have y2 := yw1.one
      have hws := wrap_succ hj (by omega)
      have P2 := (he2.2 _ (at_lt PA)).trans PA
      have LP2 := ld_at (T := tabOf Try.prog NT0) P2
      have l2 : h.n < h'.n := at_lt P2
      simp only [core, Nat.reduceAdd, Nat.reduceSub, Nat.reduceMul, Nat.reduceLT, Nat.reduceEqDiff, reduceCtorEq, Nat.reduceLeDiff, Int.reduceLE, Int.reduceLT, Int.reduceToNat, s1, s2, s3, s4, hn, g1, g3, g5, g24, g25, g26, g34, g35, g36, hj, hc, hld, hld0, hws, y1, y2, LP2, l2]
      refine ⟨fun hq => ?_, fun hq => ?_⟩
      · refine hbad _ (E2.push _ E2.1) ?_
        rw [hbk]
        unfold hdOk
        rw [any_true' hy2 hq]
        rfl
      · refine ih2 _ _ ⟨he2.push _ he2.1, ?_, ?_⟩
        · rw [any_take hy, hany]
          simpa using hq
        · simp only [core, Nat.reduceAdd, Nat.reduceSub, Nat.reduceMul, Nat.reduceLT, Nat.reduceEqDiff, reduceCtorEq, Nat.reduceLeDiff, Int.reduceLE, Int.reduceLT, Int.reduceToNat, hn, g1, g3, g5, g24, g25, g26, g34, g35, g36]
    · rintro t h' hc ⟨he2, hany, hn, g1, g3, g5, g24, g25, g26, g34, g35, g36⟩
      have E2 : Ext H.n H h' := (E1.step EA).step he2
      have P2 := (he2.2 _ (at_lt PA)).trans PA
      have LP2 := ld_at (T := tabOf Try.prog NT0) P2
      have l2 : h.n < h'.n := at_lt P2
      by_cases c1 : 0 ≤ x.id
      · simp only [core, Nat.reduceAdd, Nat.reduceSub, Nat.reduceMul, Nat.reduceLT, Nat.reduceEqDiff, reduceCtorEq, Nat.reduceLeDiff, Int.reduceLE, Int.reduceLT, Int.reduceToNat, s1, s2, s3, s4, hn, g1, g3, g5, g24, g25, g26, g34, g35, g36, hc, LP2, l2, c1]
        refine hbad _ E2 ?_
        rw [hbk]; unfold hdOk
        rw [decide_eq_false (show ¬ x.id < 0 by omega)]; simp
      by_cases c2 : x.kind < 1
      · simp only [core, Nat.reduceAdd, Nat.reduceSub, Nat.reduceMul, Nat.reduceLT, Nat.reduceEqDiff, reduceCtorEq, Nat.reduceLeDiff, Int.reduceLE, Int.reduceLT, Int.reduceToNat, s1, s2, s3, s4, hn, g1, g3, g5, g24, g25, g26, g34, g35, g36, hc, LP2, l2, c1, c2]
        refine hbad _ E2 ?_
        rw [hbk]; unfold hdOk
        rw [decide_eq_false (show ¬ 1 ≤ x.kind by omega)]; simp
      by_cases c3 : 3 < x.kind
      · simp only [core, Nat.reduceAdd, Nat.reduceSub, Nat.reduceMul, Nat.reduceLT, Nat.reduceEqDiff, reduceCtorEq, Nat.reduceLeDiff, Int.reduceLE, Int.reduceLT, Int.reduceToNat, s1, s2, s3, s4, hn, g1, g3, g5, g24, g25, g26, g34, g35, g36, hc, LP2, l2, c1, c2, c3]
        refine hbad _ E2 ?_
        rw [hbk]; unfold hdOk
        rw [decide_eq_false (show ¬ x.kind ≤ 3 by omega)]; simp
      simp only [core, Nat.reduceAdd, Nat.reduceSub, Nat.reduceMul, Nat.reduceLT, Nat.reduceEqDiff, reduceCtorEq, Nat.reduceLeDiff, Int.reduceLE, Int.reduceLT, Int.reduceToNat, s1, s2, s3, s4, hn, g1, g3, g5, g24, g25, g26, g34, g35, g36, hc, LP2, l2, c1, c2, c3, a2, w2, a3, w3]
      refine ⟨fun hq => ?_, fun hq => ?_⟩
      · refine hbad _ E2 ?_
        rw [hbk]; unfold hdOk
        have : ¬ x.items.length = x.weights.length := by simp at hq; omega
        simp [this]
      have hlen : x.items.length = x.weights.length := by simp at hq; omega
      have hhd : hdOk m i x = true := by
        unfold hdOk
        rw [hany, decide_eq_true (show x.id < 0 by omega), decide_eq_true (show 1 ≤ x.kind by omega), decide_eq_true (show x.kind ≤ 3 by omega)]
        simp [hlen]
      rw [hhd, Bool.true_and] at hbk
      refine WB_for x.weights.length (fun j t h'' => h'' = h' ∧ (x.weights.take j).all wOk = true ∧ t.n = 116 ∧ t.get 1 = .ptr H.n 0 ∧ t.get 3 = o ∧ t.get 5 = .ptr h.n 0 ∧ t.get 24 = vb ∧ t.get 25 = .lit (.int .i64 m.buckets.length) ∧ t.get 26 = .lit (.int .i64 i) ∧ t.get 69 = vw ∧ t.get 70 = .lit (.int .i64 x.weights.length) ∧ t.get 71 = .lit (.int .i64 j)) ?_ ?_ _ _ ?_
      · rintro j t h'' hj hc ⟨rfl, hwall, hn, g1, g3, g5, g24, g25, g26, g69, g70, g71⟩ ih3
        have hldw := (hw.ext E2 (Nat.le_refl _)).int (T := tabOf Try.prog NT0) (e := 3) (by kernel_rfl) (by kernel_rfl) hj
        have hws := wrap_succ hj (by omega)
        have hjx := getD_some' 0 hj
        by_cases d1 : x.weights.getD j 0 < 0
        · simp only [core, Nat.reduceAdd, Nat.reduceSub, Nat.reduceMul, Nat.reduceLT, Nat.reduceEqDiff, reduceCtorEq, Nat.reduceLeDiff, Int.reduceLE, Int.reduceLT, Int.reduceToNat, hn, g1, g3, g5, g24, g25, g26, g69, g70, g71, hc, hj, hldw, w2, w3, d1]
          refine hbad _ E2 ?_
          rw [hbk, all_false' hjx (by unfold wOk; rw [decide_eq_false (by omega)]; rfl)]
          rfl
        · simp only [core, Nat.reduceAdd, Nat.reduceSub, Nat.reduceMul, Nat.reduceLT, Nat.reduceEqDiff, reduceCtorEq, Nat.reduceLeDiff, Int.reduceLE, Int.reduceLT, Int.reduceToNat, hn, g1, g3, g5, g24, g25, g26, g69, g70, g71, hc, hj, hldw, w2, w3, d1]
          refine ⟨fun hq => ?_, fun hq => ?_⟩
          · refine hbad _ E2 ?_
            rw [hbk, all_false' hjx (by unfold wOk; rw [decide_eq_false (show ¬ x.weights.getD j 0 ≤ 1048576 by have := of_decide_eq_true hq; omega), Bool.and_false])]
            rfl
          · simp only [hws]
            refine ih3 _ _ ⟨rfl, ?_, ?_⟩
            · rw [all_take' hjx, hwall]
              unfold wOk
              rw [decide_eq_true (show 0 ≤ x.weights.getD j 0 by omega), decide_eq_true (show x.weights.getD j 0 ≤ 1048576 by have := of_decide_eq_false hq; omega)]
              rfl
            · simp only [core, Nat.reduceAdd, Nat.reduceSub, Nat.reduceMul, Nat.reduceLT, Nat.reduceEqDiff, reduceCtorEq, Nat.reduceLeDiff, Int.reduceLE, Int.reduceLT, Int.reduceToNat, hn, g1, g3, g5, g24, g25, g26, g69, g70, g71]
      · rintro t h'' hc ⟨rfl, hwall, hn, g1, g3, g5, g24, g25, g26, g69, g70, g71⟩
        rw [List.take_length] at hwall
        rw [hwall, Bool.true_and] at hbk
        simp only [core, Nat.reduceAdd, Nat.reduceSub, Nat.reduceMul, Nat.reduceLT, Nat.reduceEqDiff, reduceCtorEq, Nat.reduceLeDiff, Int.reduceLE, Int.reduceLT, Int.reduceToNat, hn, g1, g3, g5, g24, g25, g26, g69, g70, g71, hc, LP2, l2, a2, a3]
        refine WB_for x.items.length (fun k t h3 => ∃ o', OwnL RInt (fun _ => False) h1.n h3 o' 3 (itsTo m i ++ x.items.take k) ∧ Ext h1.n h1 h3 ∧ Apart o' h.n ∧ h3.at h.n = some (.cells [.lit (.int .i64 x.id), .lit (.int .i64 x.kind), va, vw] 92) ∧ (List.range k).all (itemOk m (itsTo m i) x) = true ∧ t.n = 116 ∧ t.get 1 = .ptr H.n 0 ∧ t.get 3 = o' ∧ t.get 5 = .ptr h.n 0 ∧ t.get 24 = vb ∧ t.get 25 = .lit (.int .i64 m.buckets.length) ∧ t.get 26 = .lit (.int .i64 i) ∧ t.get 83 = va ∧ t.get 84 = .lit (.int .i64 x.items.length) ∧ t.get 85 = .lit (.int .i64 k)) ?_ ?_ _ _ ?_
        · rintro k t h3 hk hc ⟨o', ho', he3, hap, P3, hkall, hn, g1, g3, g5, g24, g25, g26, g83, g84, g85⟩ ih4
          have E3 : Ext H.n H h3 := E0.trans (he3.mono (by omega))
          have hlda := (ha.ext E3 (Nat.le_refl _)).int (T := tabOf Try.prog NT0) (e := 3) (by kernel_rfl) (by kernel_rfl) hk
          have A3 := (he3.2 _ (by omega)).trans A0
          have l3 : H.n < h3.n := at_lt A3
          have LA3 := ld_at (T := tabOf Try.prog NT0) A3
          have hws := wrap_succ hk (by omega)
          simp only [core, Nat.reduceAdd, Nat.reduceSub, Nat.reduceMul, Nat.reduceLT, Nat.reduceEqDiff, reduceCtorEq, Nat.reduceLeDiff, Int.reduceLE, Int.reduceLT, Int.reduceToNat, hn, g1, g3, g5, g24, g25, g26, g83, g84, g85, hc, hk, hlda, a2, a3, LA3, l3]
          refine (kind_x (x.items.getD k 0) (hm.ext E3 (Nat.le_refl _)) hl0).mono ?_
          rintro _ h4 ⟨e4, rfl⟩
          have he4 : Ext h1.n h1 h4 := Ext.step he3 e4
          have E4 : Ext H.n H h4 := E3.step e4
          have ho4 := ho'.ext e4 (Nat.le_refl _)
          have P4 := (e4.2 _ (at_lt P3)).trans P3
          have l4 : h.n < h4.n := at_lt P4
          have LP4 := ld_at (T := tabOf Try.prog NT0) P4
          by_cases d1 : kindF m (x.items.getD k 0) < 0
          · simp only [core, Nat.reduceAdd, Nat.reduceSub, Nat.reduceMul, Nat.reduceLT, Nat.reduceEqDiff, reduceCtorEq, Nat.reduceLeDiff, Int.reduceLE, Int.reduceLT, Int.reduceToNat, hn, g1, g3, g5, g24, g25, g26, g83, g84, g85, hc, d1]
            refine hbad _ E4 ?_
            rw [hbk, range_all_false hk (by unfold itemOk; rw [decide_eq_false (show ¬ 0 ≤ kindF m (x.items.getD k 0) by omega)]; rfl)]
          simp only [core, Nat.reduceAdd, Nat.reduceSub, Nat.reduceMul, Nat.reduceLT, Nat.reduceEqDiff, reduceCtorEq, Nat.reduceLeDiff, Int.reduceLE, Int.reduceLT, Int.reduceToNat, hn, g1, g3, g5, g24, g25, g26, g83, g84, g85, hc, d1, LP4, l4]
          refine ⟨fun hq => ?_, fun hq => ?_⟩
          · refine hbad _ E4 ?_
            rw [hbk, range_all_false hk (by unfold itemOk; rw [decide_eq_false (show ¬ kindF m (x.items.getD k 0) < x.kind by have := of_decide_eq_true hq; omega), Bool.and_false]; rfl)]
          have d2 : kindF m (x.items.getD k 0) < x.kind := by have := of_decide_eq_false hq; omega
          have v4 := ho4.toSl (F := fun _ => True) (fun _ _ => trivial) (fun _ _ => trivial)
          have b2 := v4.isSl
          have b3 := v4.lenD
          have hlen4 : (itsTo m i ++ x.items.take k).length ≤ 8 + m.buckets.length := its_len (its_item (its_bkts i (by omega) hall) k (by omega) hkall)
          simp only [core, Nat.reduceAdd, Nat.reduceSub, Nat.reduceMul, Nat.reduceLT, Nat.reduceEqDiff, reduceCtorEq, Nat.reduceLeDiff, Int.reduceLE, Int.reduceLT, Int.reduceToNat, hn, g1, g3, g5, g24, g25, g26, g83, g84, g85, hc, b2, b3]
          refine WB_for (itsTo m i ++ x.items.take k).length (fun j t h5 => h5 = h4 ∧ ((itsTo m i ++ x.items.take k).take j).contains (x.items.getD k 0) = false ∧ t.n = 116 ∧ t.get 1 = .ptr H.n 0 ∧ t.get 3 = o' ∧ t.get 5 = .ptr h.n 0 ∧ t.get 11 = .lit (.int .i64 (x.items.getD k 0)) ∧ t.get 24 = vb ∧ t.get 25 = .lit (.int .i64 m.buckets.length) ∧ t.get 26 = .lit (.int .i64 i) ∧ t.get 83 = va ∧ t.get 84 = .lit (.int .i64 x.items.length) ∧ t.get 85 = .lit (.int .i64 k) ∧ t.get 100 = o' ∧ t.get 101 = .lit (.int .i64 (itsTo m i ++ x.items.take k).length) ∧ t.get 102 = .lit (.int .i64 j)) ?_ ?_ _ _ ?_
          · rintro j t h5 hj hc ⟨rfl, hcon, hn, g1, g3, g5, g11, g24, g25, g26, g83, g84, g85, g100, g101, g102⟩ ih5
            have hld5 := v4.int (T := tabOf Try.prog NT0) (e := 3) (by kernel_rfl) (by kernel_rfl) hj
            have hws := wrap_succ hj (by omega)
            simp only [core, Nat.reduceAdd, Nat.reduceSub, Nat.reduceMul, Nat.reduceLT, Nat.reduceEqDiff, reduceCtorEq, Nat.reduceLeDiff, Int.reduceLE, Int.reduceLT, Int.reduceToNat, hn, g1, g3, g5, g11, g24, g25, g26, g83, g84, g85, g100, g101, g102, hc, hj, hld5, b2, b3, hws]
            refine ⟨fun hq => ?_, fun hq => ?_⟩
            · refine hbad _ E4 ?_
              rw [hbk, range_all_false hk ?_]
              unfold itemOk
              have : (itsTo m i ++ x.items.take k).contains (x.items.getD k 0) = true := by
                rw [List.contains_iff_mem, ← eq_of_beq hq]
                exact List.mem_of_getElem? (getD_some' 0 hj)
              rw [this]
              simp
            · refine ih5 _ _ ⟨rfl, ?_, ?_⟩
              · rw [contains_take hj, hcon, hq]; rfl
              · simp only [core, Nat.reduceAdd, Nat.reduceSub, Nat.reduceMul, Nat.reduceLT, Nat.reduceEqDiff, reduceCtorEq, Nat.reduceLeDiff, Int.reduceLE, Int.reduceLT, Int.reduceToNat, hn, g1, g3, g5, g11, g24, g25, g26, g83, g84, g85, g100, g101, g102]
          · rintro t h5 hc ⟨rfl, hcon, hn, g1, g3, g5, g11, g24, g25, g26, g83, g84, g85, g100, g101, g102⟩
            rw [List.take_length] at hcon
            simp only [core, Nat.reduceAdd, Nat.reduceSub, Nat.reduceMul, Nat.reduceLT, Nat.reduceEqDiff, reduceCtorEq, Nat.reduceLeDiff, Int.reduceLE, Int.reduceLT, Int.reduceToNat, hn, g1, g3, g5, g11, g24, g25, g26, g83, g84, g85, g100, g101, g102, hc]
            obtain ⟨h6, hh6⟩ : ∃ h6, h6 = h5.push (.cells [.lit (.int .i64 (x.items.getD k 0))] 3) := ⟨_, rfl⟩
            have e6 : Ext h5.n h5 h6 := hh6 ▸ (Ext.refl _ _).push _ (Nat.le_refl _)
            have A6 : h6.at h5.n = some (.cells [.lit (.int .i64 (x.items.getD k 0))] 3) := hh6 ▸ at_push_n h5 _
            have n6 := at_lt A6
            rw [← hh6]
            have ho6 := ho4.ext e6 (Nat.le_refl _)
            have q0 := he4.1
            refine WOp_app (ho6.snoc (by kernel_rfl) (by kernel_rfl) (by kernel_rfl) (zv := .lit (.int .i64 0)) (by kernel_rfl) (by' := 8) (by kernel_rfl) rfl (by decide) (by decide) A6 (y := x.items.getD k 0) ⟨rfl, ha.i64 k hk⟩ (by omega) (by omega) (by omega)) ?_
            rintro s' h7 ⟨o7, e7, k7⟩
            obtain ⟨k8, k9⟩ := k7 h.n (by omega) hap
            simp only [core, Nat.reduceAdd, Nat.reduceSub, Nat.reduceMul, Nat.reduceLT, Nat.reduceEqDiff, reduceCtorEq, Nat.reduceLeDiff, Int.reduceLE, Int.reduceLT, Int.reduceToNat, hn, g1, g3, g5, g11, g24, g25, g26, g83, g84, g85, g100, g101, g102, hws]
            refine ih4 _ _ ⟨s', ?_, (he4.step e6).trans e7, k9, k8.trans ((e6.2 _ (by omega)).trans P4), ?_, ?_⟩
            · rw [List.take_add_one, getD_some' 0 hk]
              simpa using o7
            · rw [range_all_succ, hkall]
              unfold itemOk
              rw [decide_eq_true (show 0 ≤ kindF m (x.items.getD k 0) by omega), decide_eq_true d2, hcon]
              rfl
            · simp only [core, Nat.reduceAdd, Nat.reduceSub, Nat.reduceMul, Nat.reduceLT, Nat.reduceEqDiff, reduceCtorEq, Nat.reduceLeDiff, Int.reduceLE, Int.reduceLT, Int.reduceToNat, hn, g1, g3, g5, g11, g24, g25, g26, g83, g84, g85, g100, g101, g102]
          · simp only [core, Nat.reduceAdd, Nat.reduceSub, Nat.reduceMul, Nat.reduceLT, Nat.reduceEqDiff, reduceCtorEq, Nat.reduceLeDiff, Int.reduceLE, Int.reduceLT, Int.reduceToNat, hn, g1, g3, g5, g24, g25, g26, g83, g84, g85]
            refine ⟨rfl, ?_⟩
            (repeat' apply And.intro) <;> first | rfl | trivial
        · rintro t h3 hc ⟨o', ho', he3, hap, P3, hkall, hn, g1, g3, g5, g24, g25, g26, g83, g84, g85⟩
          rw [List.take_length] at ho'
          simp only [core, Nat.reduceAdd, Nat.reduceSub, Nat.reduceMul, Nat.reduceLT, Nat.reduceEqDiff, reduceCtorEq, Nat.reduceLeDiff, Int.reduceLE, Int.reduceLT, Int.reduceToNat, hn, g1, g3, g5, g24, g25, g26, g83, g84, g85, hc, hws]
          refine ih _ _ ⟨o', ?_, he3, ?_, ?_⟩
          · rw [itsTo_succ hx]; exact ho'
          · rw [range_all_succ, hall, getD_of hx, hbk, hkall]; rfl
          · simp only [core, Nat.reduceAdd, Nat.reduceSub, Nat.reduceMul, Nat.reduceLT, Nat.reduceEqDiff, reduceCtorEq, Nat.reduceLeDiff, Int.reduceLE, Int.reduceLT, Int.reduceToNat, hn, g1, g3, g5, g24, g25, g26, g83, g84, g85]
        · refine ⟨o, ?_, ?_, ?_, P2, rfl, ?_⟩
          · rw [List.take_zero, List.append_nil]
            exact ((ho.ext EA (Nat.le_refl _)).ext he2 (Nat.le_refl _))
          · exact (he.step EA).step he2
          · exact ho.apart (Nat.le_refl _)
          · simp only [core, Nat.reduceAdd, Nat.reduceSub, Nat.reduceMul, Nat.reduceLT, Nat.reduceEqDiff, reduceCtorEq, Nat.reduceLeDiff, Int.reduceLE, Int.reduceLT, Int.reduceToNat, hn, g1, g3, g5, g24, g25, g26, g69, g70, g71]
            (repeat' apply And.intro) <;> first | rfl | trivial
      · simp only [core, Nat.reduceAdd, Nat.reduceSub, Nat.reduceMul, Nat.reduceLT, Nat.reduceEqDiff, reduceCtorEq, Nat.reduceLeDiff, Int.reduceLE, Int.reduceLT, Int.reduceToNat, hn, g1, g3, g5, g24, g25, g26, g34, g35, g36]
        (repeat' apply And.intro) <;> first | rfl | trivial
    · simp only [core, Nat.reduceAdd, Nat.reduceSub, Nat.reduceMul, Nat.reduceLT, Nat.reduceEqDiff, reduceCtorEq, Nat.reduceLeDiff, Int.reduceLE, Int.reduceLT, Int.reduceToNat, hn, g1, g3, g24, g25, g26]
      refine ⟨Ext.refl _ _, rfl, ?_⟩
      (repeat' apply And.intro) <;> first | rfl | trivial
  · rintro t h hc ⟨o, ho, he, hall, hn, g1, g3, g24, g25, g26⟩
    simp only [core, Nat.reduceAdd, Nat.reduceSub, Nat.reduceMul, Nat.reduceLT, Nat.reduceEqDiff, reduceCtorEq, Nat.reduceLeDiff, Int.reduceLE, Int.reduceLT, Int.reduceToNat, s1, s2, hn, g1, g3, g24, g25, g26, hc]
    exact ⟨E0.trans (he.mono (by omega)), by rw [hg0, hall]⟩
  · refine ⟨_, OwnL.nil, Ext.refl _ _, rfl, ?_⟩
    simp only [core, Nat.reduceAdd, Nat.reduceSub, Nat.reduceMul, Nat.reduceLT, Nat.reduceEqDiff, reduceCtorEq, Nat.reduceLeDiff, Int.reduceLE, Int.reduceLT, Int.reduceToNat]
    (repeat' apply And.intro) <;> first | rfl | trivial
end Go.Proofs.Ytkgbeihcepociaa.Ex
end

section

set_option linter.unusedSimpArgs false
set_option linter.unusedVariables false
set_option maxRecDepth 10000
set_option maxHeartbeats 4000000
namespace Go.Proofs.Ytkgbeihcepociaa.Ex
open Go
def pool0 : PoolD := ⟨0, 0, 0, 0⟩
def poolV (p : PoolD) : AV := .agg [.lit (.int .i64 p.id), .lit (.int .i64 p.size), .lit (.int .i64 p.min), .lit (.int .i64 p.pgs)]
def poolF (m : MapD) (id : Int) : Option PoolD := m.pools.find? (fun b => b.id == id)
def poolG (m : MapD) (id : Int) : PoolD := (poolF m id).getD pool0
end Go.Proofs.Ytkgbeihcepociaa.Ex
end

section

set_option linter.unusedSimpArgs false
set_option linter.unusedVariables false
set_option maxRecDepth 10000
set_option maxHeartbeats 4000000
namespace Go.Proofs.Ytkgbeihcepociaa.Ex
open Go
theorem encB_len (b : Bool) : (encB b).length = 1 := rfl
def encPool (p : PoolD) : List UInt8 := encN .i64 p.id 8 ++ (encN .i64 p.size 8 ++ (encN .i64 p.min 8 ++ encN .i64 p.pgs 8))
theorem encPool_len (p : PoolD) : (encPool p).length = 32 := by unfold encPool; simp only [List.length_append, encN_len]
def osdV (o : OsdD) : AV := .agg [.lit (.bool o.ex), .lit (.bool o.up), .lit (.int .i64 o.weight), .lit (.int .i64 o.boot), .lit (.int .i64 o.upFrom), .lit (.int .i64 o.upThru)]
def encOsd (o : OsdD) : List UInt8 := encB o.ex ++ (encB o.up ++ (encN .i64 o.weight 8 ++ (encN .i64 o.boot 8 ++ (encN .i64 o.upFrom 8 ++ encN .i64 o.upThru 8))))
theorem encOsd_len (p : OsdD) : (encOsd p).length = 34 := by unfold encOsd; simp only [List.length_append, encN_len, encB_len]
theorem putPool_x {H : AH} {v : AV} {xs : List UInt8} {n0 : Nat} (p : PoolD) (ho : OwnB n0 H v xs) (hn0 : n0 ≤ H.n) (hl : xs.length + 32 ≤ 140737488355328) :
    WC Try.prog (tabOf Try.prog NT0) S0 142 [v, poolV p] H fun r h' => Fr H v h' r ∧ OwnB n0 h' r (xs ++ encPool p) := by
  refine WC_fn Try.func142 rfl rfl ?_
  have s1 := (ho.toSl (F := fun _ => True) (fun _ h => h.elim) (fun _ _ => trivial)).isSl
  simp only [core, Nat.reduceAdd, Nat.reduceSub, Nat.reduceMul, Nat.reduceLT, Nat.reduceEqDiff, reduceCtorEq, Nat.reduceLeDiff, Int.reduceLE, Int.reduceLT, Int.reduceToNat, Try.ntmps142, poolV, s1]
  obtain ⟨h0, hh0⟩ : ∃ h0, h0 = H.push (.cells [.lit (.int .i64 p.id), .lit (.int .i64 p.size), .lit (.int .i64 p.min), .lit (.int .i64 p.pgs)] 94) := ⟨_, rfl⟩
  have E0 : Ext H.n H h0 := hh0 ▸ (Ext.refl _ _).push _ (Nat.le_refl _)
  have A0 : h0.at H.n = some (.cells [.lit (.int .i64 p.id), .lit (.int .i64 p.size), .lit (.int .i64 p.min), .lit (.int .i64 p.pgs)] 94) := hh0 ▸ at_push_n _ _
  rw [← hh0]
  clear hh0
  have n1 := E0.1
  have ap0 : Apart v H.n := ho.apart (.inr (Nat.le_refl _))
  have F0 : Fr H v h0 v := Fr.ext E0
  have o0 := ho.ext E0 (Nat.le_refl _)
  refine (int2_x (p.id) o0 (by have := F0.1; omega) (by omega)).mono ?_
  rintro r1 h1 ⟨f1, o1⟩
  obtain ⟨A1, ap1⟩ := f1.box A0 ap0
  have F1 := F0.trans f1
  have L1 := ld_at (T := tabOf Try.prog NT0) A1
  have l1 := at_lt A1
  have v1 := (o1.toSl (F := fun _ => True) (fun _ h => h.elim) (fun _ _ => trivial)).isSl
  simp only [core, Nat.reduceAdd, Nat.reduceSub, Nat.reduceMul, Nat.reduceLT, Nat.reduceEqDiff, reduceCtorEq, Nat.reduceLeDiff, Int.reduceLE, Int.reduceLT, Int.reduceToNat, L1, l1, v1]
  refine (int2_x (p.size) o1 (by have := F1.1; omega) (by simp only [List.length_append, encN_len, encB_len, encPool_len]; omega)).mono ?_
  rintro r2 h2 ⟨f2, o2⟩
  obtain ⟨A2, ap2⟩ := f2.box A1 ap1
  have F2 := F1.trans f2
  have L2 := ld_at (T := tabOf Try.prog NT0) A2
  have l2 := at_lt A2
  have v2 := (o2.toSl (F := fun _ => True) (fun _ h => h.elim) (fun _ _ => trivial)).isSl
  simp only [core, Nat.reduceAdd, Nat.reduceSub, Nat.reduceMul, Nat.reduceLT, Nat.reduceEqDiff, reduceCtorEq, Nat.reduceLeDiff, Int.reduceLE, Int.reduceLT, Int.reduceToNat, L2, l2, v2]
  refine (int2_x (p.min) o2 (by have := F2.1; omega) (by simp only [List.length_append, encN_len, encB_len, encPool_len]; omega)).mono ?_
  rintro r3 h3 ⟨f3, o3⟩
  obtain ⟨A3, ap3⟩ := f3.box A2 ap2
  have F3 := F2.trans f3
  have L3 := ld_at (T := tabOf Try.prog NT0) A3
  have l3 := at_lt A3
  have v3 := (o3.toSl (F := fun _ => True) (fun _ h => h.elim) (fun _ _ => trivial)).isSl
  simp only [core, Nat.reduceAdd, Nat.reduceSub, Nat.reduceMul, Nat.reduceLT, Nat.reduceEqDiff, reduceCtorEq, Nat.reduceLeDiff, Int.reduceLE, Int.reduceLT, Int.reduceToNat, L3, l3, v3]
  refine (int2_x (p.pgs) o3 (by have := F3.1; omega) (by simp only [List.length_append, encN_len, encB_len, encPool_len]; omega)).mono ?_
  rintro r4 h4 ⟨f4, o4⟩
  obtain ⟨A4, ap4⟩ := f4.box A3 ap3
  have F4 := F3.trans f4
  have L4 := ld_at (T := tabOf Try.prog NT0) A4
  have l4 := at_lt A4
  have v4 := (o4.toSl (F := fun _ => True) (fun _ h => h.elim) (fun _ _ => trivial)).isSl
  simp only [core, Nat.reduceAdd, Nat.reduceSub, Nat.reduceMul, Nat.reduceLT, Nat.reduceEqDiff, reduceCtorEq, Nat.reduceLeDiff, Int.reduceLE, Int.reduceLT, Int.reduceToNat, L4, l4, v4]
  exact ⟨F4, by
    unfold encPool
    simpa only [List.append_assoc] using o4⟩
theorem putOsd_x {H : AH} {v : AV} {xs : List UInt8} {n0 : Nat} (o : OsdD) (ho : OwnB n0 H v xs) (hn0 : n0 ≤ H.n) (hl : xs.length + 34 ≤ 140737488355328) :
    WC Try.prog (tabOf Try.prog NT0) S0 141 [v, osdV o] H fun r h' => Fr H v h' r ∧ OwnB n0 h' r (xs ++ encOsd o) := by
  refine WC_fn Try.func141 rfl rfl ?_
  have s1 := (ho.toSl (F := fun _ => True) (fun _ h => h.elim) (fun _ _ => trivial)).isSl
  simp only [core, Nat.reduceAdd, Nat.reduceSub, Nat.reduceMul, Nat.reduceLT, Nat.reduceEqDiff, reduceCtorEq, Nat.reduceLeDiff, Int.reduceLE, Int.reduceLT, Int.reduceToNat, Try.ntmps141, osdV, s1]
  obtain ⟨h0, hh0⟩ : ∃ h0, h0 = H.push (.cells [.lit (.bool o.ex), .lit (.bool o.up), .lit (.int .i64 o.weight), .lit (.int .i64 o.boot), .lit (.int .i64 o.upFrom), .lit (.int .i64 o.upThru)] 43) := ⟨_, rfl⟩
  have E0 : Ext H.n H h0 := hh0 ▸ (Ext.refl _ _).push _ (Nat.le_refl _)
  have A0 : h0.at H.n = some (.cells [.lit (.bool o.ex), .lit (.bool o.up), .lit (.int .i64 o.weight), .lit (.int .i64 o.boot), .lit (.int .i64 o.upFrom), .lit (.int .i64 o.upThru)] 43) := hh0 ▸ at_push_n _ _
  rw [← hh0]
  clear hh0
  have n1 := E0.1
  have ap0 : Apart v H.n := ho.apart (.inr (Nat.le_refl _))
  have F0 : Fr H v h0 v := Fr.ext E0
  have o0 := ho.ext E0 (Nat.le_refl _)
  refine (bool2_x (o.ex) o0 (by have := F0.1; omega) (by omega)).mono ?_
  rintro r1 h1 ⟨f1, o1⟩
  obtain ⟨A1, ap1⟩ := f1.box A0 ap0
  have F1 := F0.trans f1
  have L1 := ld_at (T := tabOf Try.prog NT0) A1
  have l1 := at_lt A1
  have v1 := (o1.toSl (F := fun _ => True) (fun _ h => h.elim) (fun _ _ => trivial)).isSl
  simp only [core, Nat.reduceAdd, Nat.reduceSub, Nat.reduceMul, Nat.reduceLT, Nat.reduceEqDiff, reduceCtorEq, Nat.reduceLeDiff, Int.reduceLE, Int.reduceLT, Int.reduceToNat, L1, l1, v1]
  refine (bool2_x (o.up) o1 (by have := F1.1; omega) (by simp only [List.length_append, encN_len, encB_len, encPool_len]; omega)).mono ?_
  rintro r2 h2 ⟨f2, o2⟩
  obtain ⟨A2, ap2⟩ := f2.box A1 ap1
  have F2 := F1.trans f2
  have L2 := ld_at (T := tabOf Try.prog NT0) A2
  have l2 := at_lt A2
  have v2 := (o2.toSl (F := fun _ => True) (fun _ h => h.elim) (fun _ _ => trivial)).isSl
  simp only [core, Nat.reduceAdd, Nat.reduceSub, Nat.reduceMul, Nat.reduceLT, Nat.reduceEqDiff, reduceCtorEq, Nat.reduceLeDiff, Int.reduceLE, Int.reduceLT, Int.reduceToNat, L2, l2, v2]
  refine (int2_x (o.weight) o2 (by have := F2.1; omega) (by simp only [List.length_append, encN_len, encB_len, encPool_len]; omega)).mono ?_
  rintro r3 h3 ⟨f3, o3⟩
  obtain ⟨A3, ap3⟩ := f3.box A2 ap2
  have F3 := F2.trans f3
  have L3 := ld_at (T := tabOf Try.prog NT0) A3
  have l3 := at_lt A3
  have v3 := (o3.toSl (F := fun _ => True) (fun _ h => h.elim) (fun _ _ => trivial)).isSl
  simp only [core, Nat.reduceAdd, Nat.reduceSub, Nat.reduceMul, Nat.reduceLT, Nat.reduceEqDiff, reduceCtorEq, Nat.reduceLeDiff, Int.reduceLE, Int.reduceLT, Int.reduceToNat, L3, l3, v3]
  refine (int2_x (o.boot) o3 (by have := F3.1; omega) (by simp only [List.length_append, encN_len, encB_len, encPool_len]; omega)).mono ?_
  rintro r4 h4 ⟨f4, o4⟩
  obtain ⟨A4, ap4⟩ := f4.box A3 ap3
  have F4 := F3.trans f4
  have L4 := ld_at (T := tabOf Try.prog NT0) A4
  have l4 := at_lt A4
  have v4 := (o4.toSl (F := fun _ => True) (fun _ h => h.elim) (fun _ _ => trivial)).isSl
  simp only [core, Nat.reduceAdd, Nat.reduceSub, Nat.reduceMul, Nat.reduceLT, Nat.reduceEqDiff, reduceCtorEq, Nat.reduceLeDiff, Int.reduceLE, Int.reduceLT, Int.reduceToNat, L4, l4, v4]
  refine (int2_x (o.upFrom) o4 (by have := F4.1; omega) (by simp only [List.length_append, encN_len, encB_len, encPool_len]; omega)).mono ?_
  rintro r5 h5 ⟨f5, o5⟩
  obtain ⟨A5, ap5⟩ := f5.box A4 ap4
  have F5 := F4.trans f5
  have L5 := ld_at (T := tabOf Try.prog NT0) A5
  have l5 := at_lt A5
  have v5 := (o5.toSl (F := fun _ => True) (fun _ h => h.elim) (fun _ _ => trivial)).isSl
  simp only [core, Nat.reduceAdd, Nat.reduceSub, Nat.reduceMul, Nat.reduceLT, Nat.reduceEqDiff, reduceCtorEq, Nat.reduceLeDiff, Int.reduceLE, Int.reduceLT, Int.reduceToNat, L5, l5, v5]
  refine (int2_x (o.upThru) o5 (by have := F5.1; omega) (by simp only [List.length_append, encN_len, encB_len, encPool_len]; omega)).mono ?_
  rintro r6 h6 ⟨f6, o6⟩
  obtain ⟨A6, ap6⟩ := f6.box A5 ap5
  have F6 := F5.trans f6
  have L6 := ld_at (T := tabOf Try.prog NT0) A6
  have l6 := at_lt A6
  have v6 := (o6.toSl (F := fun _ => True) (fun _ h => h.elim) (fun _ _ => trivial)).isSl
  simp only [core, Nat.reduceAdd, Nat.reduceSub, Nat.reduceMul, Nat.reduceLT, Nat.reduceEqDiff, reduceCtorEq, Nat.reduceLeDiff, Int.reduceLE, Int.reduceLT, Int.reduceToNat, L6, l6, v6]
  exact ⟨F6, by
    unfold encOsd
    simpa only [List.append_assoc] using o6⟩
end Go.Proofs.Ytkgbeihcepociaa.Ex
end

section

set_option linter.unusedSimpArgs false
set_option linter.unusedVariables false
set_option maxRecDepth 10000
set_option maxHeartbeats 4000000
namespace Go.Proofs.Ytkgbeihcepociaa.Ex
open Go
def encC (n : Nat) : List UInt8 := encN .u32 (IntKind.u32.wrap n) 4
theorem encC_len (n : Nat) : (encC n).length = 4 := encN_len _ _ _
def encI (l : List Int) : List UInt8 := l.flatMap fun x => encN .i64 x 8
theorem encI_len : ∀ l : List Int, (encI l).length = 8 * l.length
  | [] => rfl
  | x :: l => by
    have := encI_len l
    unfold encI at this ⊢
    rw [List.flatMap_cons, List.length_append, encN_len, this, List.length_cons]
    omega
theorem flat_succ {α β : Type} (f : α → List β) {l : List α} {i : Nat} {x : α} (hx : l[i]? = some x) : (l.take (i + 1)).flatMap f = (l.take i).flatMap f ++ f x := by
  rw [List.take_add_one, hx, List.flatMap_append]
  simp
def encBkt (b : BktD) : List UInt8 := encN .i64 b.id 8 ++ (encN .i64 b.kind 8 ++ (encC b.items.length ++ (encI b.items ++ (encC b.weights.length ++ encI b.weights))))
theorem encBkt_len (b : BktD) : (encBkt b).length = 24 + 8 * b.items.length + 8 * b.weights.length := by unfold encBkt; simp only [List.length_append, encN_len, encC_len, encI_len]; omega
theorem putBucket_x {F : Nat → Prop} {H : AH} {v va vw : AV} {xs : List UInt8} {n0 : Nat} (b : BktD) (ha : IsSl RInt F H va b.items) (hw : IsSl RInt F H vw b.weights) (hF : ∀ k, F k → k < n0) (ho : OwnB n0 H v xs) (hn0 : n0 ≤ H.n)
    (la : Sm 8 b.items) (lw : Sm 8 b.weights) (hl : xs.length + (24 + 8 * b.items.length + 8 * b.weights.length) ≤ 140737488355328) :
    WC Try.prog (tabOf Try.prog NT0) S0 143 [v, bktV b va vw] H fun r h' => Fr H v h' r ∧ OwnB n0 h' r (xs ++ encBkt b) := by
  refine WC_fn Try.func143 rfl rfl ?_
  unfold Sm at la lw
  have s1 := (ho.toSl (F := fun _ => True) (fun _ h => h.elim) (fun _ _ => trivial)).isSl
  have a1 := ha.isSl
  have a2 := ha.lenD
  have a3 := ha.one
  have w1 := hw.isSl
  have w2 := hw.lenD
  have w3 := hw.one
  simp only [core, Nat.reduceAdd, Nat.reduceSub, Nat.reduceMul, Nat.reduceLT, Nat.reduceEqDiff, reduceCtorEq, Nat.reduceLeDiff, Int.reduceLE, Int.reduceLT, Int.reduceToNat, Try.ntmps143, bktV, s1, a1, a2, a3, w1, w2, w3]
  obtain ⟨h0, hh0⟩ : ∃ h0, h0 = H.push (.cells [.lit (.int .i64 b.id), .lit (.int .i64 b.kind), va, vw] 92) := ⟨_, rfl⟩
  have E0 : Ext H.n H h0 := hh0 ▸ (Ext.refl _ _).push _ (Nat.le_refl _)
  have A0 : h0.at H.n = some (.cells [.lit (.int .i64 b.id), .lit (.int .i64 b.kind), va, vw] 92) := hh0 ▸ at_push_n _ _
  rw [← hh0]
  clear hh0
  have n1 := E0.1
  have ap0 : Apart v H.n := ho.apart (.inr (Nat.le_refl _))
  have apF : ∀ k, F k → Apart v k := fun k hk => OwnB.apart ho (.inl (hF k hk))
  have o0 := ho.ext E0 (Nat.le_refl _)
  have ha0 := ha.ext E0 (Nat.le_refl _)
  have hw0 := hw.ext E0 (Nat.le_refl _)
  have F0 : Fr h0 v h0 v := Fr.refl
  refine (int2_x b.id o0 (by omega) (by omega)).mono ?_
  rintro r1 h1 ⟨f1, o1⟩
  have F1 := F0.trans f1
  obtain ⟨A1, ap1⟩ := F1.box A0 ap0
  have L1 := ld_at (T := tabOf Try.prog NT0) A1
  have l1 := at_lt A1
  have v1 := (o1.toSl (F := fun _ => True) (fun _ h => h.elim) (fun _ _ => trivial)).isSl
  simp only [core, Nat.reduceAdd, Nat.reduceSub, Nat.reduceMul, Nat.reduceLT, Nat.reduceEqDiff, reduceCtorEq, Nat.reduceLeDiff, Int.reduceLE, Int.reduceLT, Int.reduceToNat, L1, l1, v1]
  refine (int2_x b.kind o1 (by have := F1.1; omega) (by simp only [List.length_append, encN_len]; omega)).mono ?_
  rintro r2 h2 ⟨f2, o2⟩
  have F2 := F1.trans f2
  obtain ⟨A2, ap2⟩ := F2.box A0 ap0
  have L2 := ld_at (T := tabOf Try.prog NT0) A2
  have l2 := at_lt A2
  have v2 := (o2.toSl (F := fun _ => True) (fun _ h => h.elim) (fun _ _ => trivial)).isSl
  simp only [core, Nat.reduceAdd, Nat.reduceSub, Nat.reduceMul, Nat.reduceLT, Nat.reduceEqDiff, reduceCtorEq, Nat.reduceLeDiff, Int.reduceLE, Int.reduceLT, Int.reduceToNat, L2, l2, v2, a1, a2]
  refine (count2_x (b.items.length : Int) o2 (by have := F2.1; omega) (by simp only [List.length_append, encN_len]; omega)).mono ?_
  rintro r3 h3 ⟨f3, o3⟩
  have F3 := F2.trans f3
  obtain ⟨A3, ap3⟩ := F3.box A0 ap0
  have L3 := ld_at (T := tabOf Try.prog NT0) A3
  have l3 := at_lt A3
  have v3 := (o3.toSl (F := fun _ => True) (fun _ h => h.elim) (fun _ _ => trivial)).isSl
  simp only [core, Nat.reduceAdd, Nat.reduceSub, Nat.reduceMul, Nat.reduceLT, Nat.reduceEqDiff, reduceCtorEq, Nat.reduceLeDiff, Int.reduceLE, Int.reduceLT, Int.reduceToNat, L3, l3, v3, a1, a2]
  obtain ⟨p3, hp3⟩ : ∃ p3, p3 = ((xs ++ encN .i64 b.id 8) ++ encN .i64 b.kind 8) ++ encN .u32 (IntKind.u32.wrap (b.items.length : Int)) 4 := ⟨_, rfl⟩
  have q3 : p3.length = xs.length + 20 := by rw [hp3]; simp only [List.length_append, encN_len]
  rw [← hp3] at o3
  refine WB_for b.items.length (fun i t h => (∃ s, OwnB n0 h s (p3 ++ encI (b.items.take i)) ∧ Fr h0 v h s ∧ t.get 0 = s) ∧ t.n = 50 ∧ t.get 3 = .ptr H.n 0 ∧ t.get 23 = va ∧ t.get 24 = .lit (.int .i64 b.items.length) ∧ t.get 25 = .lit (.int .i64 i)) ?_ ?_ _ _ ?_
  · rintro i t h hlt hc ⟨⟨s, ho, fr, g0⟩, hn, g3, g23, g24, g25⟩ ih
    have hws := wrap_succ hlt (by omega)
    have hi := ha0.lift (G := F) fun k hk hkn => ⟨(fr.2 k hkn (apF k hk)).1, hk⟩
    have hld := hi.int (T := tabOf Try.prog NT0) (e := 3) (by kernel_rfl) (by kernel_rfl) hlt
    have sv := (ho.toSl (F := fun _ => True) (fun _ h => h.elim) (fun _ _ => trivial)).isSl
    simp only [core, Nat.reduceAdd, Nat.reduceSub, Nat.reduceMul, Nat.reduceLT, Nat.reduceEqDiff, reduceCtorEq, Nat.reduceLeDiff, Int.reduceLE, Int.reduceLT, Int.reduceToNat, hn, g3, g23, g24, g25, g0, hc, hlt, hws, hld, a1, a2, sv]
    refine (int2_x (b.items.getD i 0) ho (by have := fr.1; omega) (by simp only [List.length_append, q3, encI_len, List.length_take]; omega)).mono ?_
    rintro r h' ⟨f, o⟩
    have v5 := (o.toSl (F := fun _ => True) (fun _ h => h.elim) (fun _ _ => trivial)).isSl
    simp only [core, Nat.reduceAdd, Nat.reduceSub, Nat.reduceMul, Nat.reduceLT, Nat.reduceEqDiff, reduceCtorEq, Nat.reduceLeDiff, Int.reduceLE, Int.reduceLT, Int.reduceToNat, hn, g3, g23, g24, g25, g0, hc, hlt, hws, a1, a2, w1, w2, v5]
    have hx : b.items[i]? = some (b.items.getD i 0) := by rw [List.getD_eq_getElem?_getD, List.getElem?_eq_getElem hlt]; rfl
    refine ih _ _ ⟨⟨r, by unfold encI at o ⊢; rw [flat_succ _ hx, ← List.append_assoc]; exact o, fr.trans f, by simp only [core, Nat.reduceAdd, Nat.reduceSub, Nat.reduceMul, Nat.reduceLT, Nat.reduceEqDiff, reduceCtorEq, Nat.reduceLeDiff, Int.reduceLE, Int.reduceLT, Int.reduceToNat, hn, g3, g23, g24, g25]⟩, ?_⟩
    simp only [core, Nat.reduceAdd, Nat.reduceSub, Nat.reduceMul, Nat.reduceLT, Nat.reduceEqDiff, reduceCtorEq, Nat.reduceLeDiff, Int.reduceLE, Int.reduceLT, Int.reduceToNat, hn, g3, g23, g24, g25]
  · rintro t h hc ⟨⟨s, o4, F4, g0⟩, hn, g3, g23, g24, g25⟩
    rw [List.take_length] at o4
    obtain ⟨A4, ap4⟩ := F4.box A0 ap0
    have L4 := ld_at (T := tabOf Try.prog NT0) A4
    have l4 := at_lt A4
    have v4 := (o4.toSl (F := fun _ => True) (fun _ h => h.elim) (fun _ _ => trivial)).isSl
    simp only [core, Nat.reduceAdd, Nat.reduceSub, Nat.reduceMul, Nat.reduceLT, Nat.reduceEqDiff, reduceCtorEq, Nat.reduceLeDiff, Int.reduceLE, Int.reduceLT, Int.reduceToNat, hn, g3, g23, g24, g25, g0, hc, L4, l4, v4, w1, w2]
    refine (count2_x (b.weights.length : Int) o4 (by have := F4.1; omega) (by simp only [List.length_append, q3, encI_len]; omega)).mono ?_
    rintro r5 h5 ⟨f5, o5⟩
    have F5 := F4.trans f5
    obtain ⟨A5, ap5⟩ := F5.box A0 ap0
    have L5 := ld_at (T := tabOf Try.prog NT0) A5
    have l5 := at_lt A5
    have v5 := (o5.toSl (F := fun _ => True) (fun _ h => h.elim) (fun _ _ => trivial)).isSl
    simp only [core, Nat.reduceAdd, Nat.reduceSub, Nat.reduceMul, Nat.reduceLT, Nat.reduceEqDiff, reduceCtorEq, Nat.reduceLeDiff, Int.reduceLE, Int.reduceLT, Int.reduceToNat, hn, g3, g23, g24, g25, L5, l5, v5, w1, w2]
    obtain ⟨p5, hp5⟩ : ∃ p5, p5 = (p3 ++ encI b.items) ++ encN .u32 (IntKind.u32.wrap (b.weights.length : Int)) 4 := ⟨_, rfl⟩
    have q5 : p5.length = xs.length + 24 + 8 * b.items.length := by rw [hp5]; simp only [List.length_append, encN_len, q3, encI_len]; omega
    rw [← hp5] at o5
    refine WB_for b.weights.length (fun i t h => (∃ s, OwnB n0 h s (p5 ++ encI (b.weights.take i)) ∧ Fr h0 v h s ∧ t.get 0 = s) ∧ t.n = 50 ∧ t.get 39 = vw ∧ t.get 40 = .lit (.int .i64 b.weights.length) ∧ t.get 41 = .lit (.int .i64 i)) ?_ ?_ _ _ ?_
    · rintro i t h hlt hc ⟨⟨s, ho, fr, g0⟩, hn, g39, g40, g41⟩ ih
      have hws := wrap_succ hlt (by omega)
      have hi := hw0.lift (G := F) fun k hk hkn => ⟨(fr.2 k hkn (apF k hk)).1, hk⟩
      have hld := hi.int (T := tabOf Try.prog NT0) (e := 3) (by kernel_rfl) (by kernel_rfl) hlt
      have sv := (ho.toSl (F := fun _ => True) (fun _ h => h.elim) (fun _ _ => trivial)).isSl
      simp only [core, Nat.reduceAdd, Nat.reduceSub, Nat.reduceMul, Nat.reduceLT, Nat.reduceEqDiff, reduceCtorEq, Nat.reduceLeDiff, Int.reduceLE, Int.reduceLT, Int.reduceToNat, hn, g39, g40, g41, g0, hc, hlt, hws, hld, w1, w2, sv]
      refine (int2_x (b.weights.getD i 0) ho (by have := fr.1; omega) (by simp only [List.length_append, q5, encI_len, List.length_take]; omega)).mono ?_
      rintro r h' ⟨f, o⟩
      have v5 := (o.toSl (F := fun _ => True) (fun _ h => h.elim) (fun _ _ => trivial)).isSl
      simp only [core, Nat.reduceAdd, Nat.reduceSub, Nat.reduceMul, Nat.reduceLT, Nat.reduceEqDiff, reduceCtorEq, Nat.reduceLeDiff, Int.reduceLE, Int.reduceLT, Int.reduceToNat, hn, g39, g40, g41, g0, hc, hlt, hws, a1, a2, w1, w2, v5]
      have hx : b.weights[i]? = some (b.weights.getD i 0) := by rw [List.getD_eq_getElem?_getD, List.getElem?_eq_getElem hlt]; rfl
      refine ih _ _ ⟨⟨r, by unfold encI at o ⊢; rw [flat_succ _ hx, ← List.append_assoc]; exact o, fr.trans f, by simp only [core, Nat.reduceAdd, Nat.reduceSub, Nat.reduceMul, Nat.reduceLT, Nat.reduceEqDiff, reduceCtorEq, Nat.reduceLeDiff, Int.reduceLE, Int.reduceLT, Int.reduceToNat, hn, g39, g40, g41]⟩, ?_⟩
      simp only [core, Nat.reduceAdd, Nat.reduceSub, Nat.reduceMul, Nat.reduceLT, Nat.reduceEqDiff, reduceCtorEq, Nat.reduceLeDiff, Int.reduceLE, Int.reduceLT, Int.reduceToNat, hn, g39, g40, g41]
    · rintro t h hc ⟨⟨s, o6, F6, g0⟩, hn, g39, g40, g41⟩
      rw [List.take_length] at o6
      simp only [core, Nat.reduceAdd, Nat.reduceSub, Nat.reduceMul, Nat.reduceLT, Nat.reduceEqDiff, reduceCtorEq, Nat.reduceLeDiff, Int.reduceLE, Int.reduceLT, Int.reduceToNat, hn, g39, g40, g41, g0, hc, w1, w2]
      refine ⟨(Fr.ext E0).trans F6, ?_⟩
      rw [hp5, hp3] at o6
      unfold encBkt encC
      simpa only [List.append_assoc] using o6
    · refine ⟨⟨r5, by rw [show encI (b.weights.take 0) = [] from rfl, List.append_nil]; exact o5, F5, by simp only [core, Nat.reduceAdd, Nat.reduceSub, Nat.reduceMul, Nat.reduceLT, Nat.reduceEqDiff, reduceCtorEq, Nat.reduceLeDiff, Int.reduceLE, Int.reduceLT, Int.reduceToNat, hn, g3, g23, g24, g25]⟩, ?_⟩
      simp only [core, Nat.reduceAdd, Nat.reduceSub, Nat.reduceMul, Nat.reduceLT, Nat.reduceEqDiff, reduceCtorEq, Nat.reduceLeDiff, Int.reduceLE, Int.reduceLT, Int.reduceToNat, hn, g3, g23, g24, g25]
      (repeat' apply And.intro) <;> first | rfl | trivial
  · refine ⟨⟨r3, by rw [show encI (b.items.take 0) = [] from rfl, List.append_nil]; exact o3, F3, by simp only [core, Nat.reduceAdd, Nat.reduceSub, Nat.reduceMul, Nat.reduceLT, Nat.reduceEqDiff, reduceCtorEq, Nat.reduceLeDiff, Int.reduceLE, Int.reduceLT, Int.reduceToNat]⟩, ?_⟩
    simp only [core, Nat.reduceAdd, Nat.reduceSub, Nat.reduceMul, Nat.reduceLT, Nat.reduceEqDiff, reduceCtorEq, Nat.reduceLeDiff, Int.reduceLE, Int.reduceLT, Int.reduceToNat]
    (repeat' apply And.intro) <;> first | rfl | trivial
end Go.Proofs.Ytkgbeihcepociaa.Ex
end

section

set_option linter.unusedSimpArgs false
set_option linter.unusedVariables false
set_option maxRecDepth 10000
set_option maxHeartbeats 4000000
namespace Go.Proofs.Ytkgbeihcepociaa.Ex
open Go
theorem flat_lt {α β : Type} (f : α → List β) {l : List α} {i : Nat} {x : α} (hx : l[i]? = some x) : ((l.take i).flatMap f).length + (f x).length ≤ (l.flatMap f).length := by
  have h1 : l.flatMap f = ((l.take i).flatMap f ++ f x) ++ (l.drop (i + 1)).flatMap f := by
    rw [← flat_succ f hx, ← List.flatMap_append, List.take_append_drop]
  rw [h1, List.length_append, List.length_append]
  omega
def encMap (m : MapD) : List UInt8 := encN .i64 m.epoch 8 ++ (encC m.osds.length ++ (m.osds.flatMap encOsd ++ (encC m.pools.length ++ (m.pools.flatMap encPool ++ (encC m.buckets.length ++ (m.buckets.flatMap encBkt ++ encN .i64 m.leaf 8))))))
theorem encMap_len (m : MapD) : (encMap m).length = 28 + (m.osds.flatMap encOsd).length + (m.pools.flatMap encPool).length + (m.buckets.flatMap encBkt).length := by unfold encMap; simp only [List.length_append, encN_len, encC_len]; omega
theorem putMap_x {F : Nat → Prop} {H : AH} {v : AV} {xs : List UInt8} {n0 : Nat} (m : MapD) {vo vp vb : AV} (hm : MpAt F H m vo vp vb) (hF : ∀ k, F k → k < n0) (ho : OwnB n0 H v xs) (hn0 : n0 ≤ H.n) (so : Sm 40 m.osds) (sp : Sm 32 m.pools) (sb : Sm 64 m.buckets) (hsz : ∀ b ∈ m.buckets, Sm 8 b.items ∧ Sm 8 b.weights) (hl : xs.length + (encMap m).length ≤ 140737488355328) :
    WC Try.prog (tabOf Try.prog NT0) S0 106 [v, mpV m vo vp vb] H fun r h' => Fr H v h' r ∧ OwnB n0 h' r (xs ++ encMap m) := by
  refine WC_fn Try.func106 rfl rfl ?_
  have s1 := (ho.toSl (F := fun _ => True) (fun _ h => h.elim) (fun _ _ => trivial)).isSl
  have e1 := hm.o.isSl
  have e2 := hm.o.lenD
  have e3 := hm.o.one
  have e4 := hm.p.isSl
  have e5 := hm.p.lenD
  have e6 := hm.p.one
  have e7 := hm.b.isSl
  have e8 := hm.b.lenD
  have e9 := hm.b.one
  unfold Sm at so sp sb
  rw [encMap_len] at hl
  simp only [core, Nat.reduceAdd, Nat.reduceSub, Nat.reduceMul, Nat.reduceLT, Nat.reduceEqDiff, reduceCtorEq, Nat.reduceLeDiff, Int.reduceLE, Int.reduceLT, Int.reduceToNat, Try.ntmps106, s1, mpV, e1, e2, e3, e4, e5, e6, e7, e8, e9]
  obtain ⟨h0, hh0⟩ : ∃ h0, h0 = H.push (.cells [.lit (.int .i64 m.epoch), vo, vp, vb, .lit (.int .i64 m.leaf)] 31) := ⟨_, rfl⟩
  have E0 : Ext H.n H h0 := hh0 ▸ (Ext.refl _ _).push _ (Nat.le_refl _)
  have A0 : h0.at H.n = some (.cells [.lit (.int .i64 m.epoch), vo, vp, vb, .lit (.int .i64 m.leaf)] 31) := hh0 ▸ at_push_n _ _
  rw [← hh0]
  clear hh0
  have n1 := E0.1
  have ap0 : Apart v H.n := ho.apart (.inr (Nat.le_refl _))
  have apF : ∀ k, F k → Apart v k := fun k hk => OwnB.apart ho (.inl (hF k hk))
  have o0 := ho.ext E0 (Nat.le_refl _)
  have F0 : Fr h0 v h0 v := Fr.refl
  have ho0 := hm.o.ext E0 (Nat.le_refl _)
  have hp0 := hm.p.ext E0 (Nat.le_refl _)
  have hb0 := hm.b.ext E0 (Nat.le_refl _)
  refine (int2_x m.epoch o0 (by have := F0.1; omega) (by (try simp only [List.length_append, encN_len]); omega)).mono ?_
  rintro r1 h1 ⟨f1, o1⟩
  have F1 := F0.trans f1
  obtain ⟨A1, ap1⟩ := F1.box A0 ap0
  have L1 := ld_at (T := tabOf Try.prog NT0) A1
  have l1 := at_lt A1
  have v1 := (o1.toSl (F := fun _ => True) (fun _ h => h.elim) (fun _ _ => trivial)).isSl
  simp only [core, Nat.reduceAdd, Nat.reduceSub, Nat.reduceMul, Nat.reduceLT, Nat.reduceEqDiff, reduceCtorEq, Nat.reduceLeDiff, Int.reduceLE, Int.reduceLT, Int.reduceToNat, L1, l1, v1, mpV, e1, e2, e3, e4, e5, e6, e7, e8, e9]
  refine (count2_x (m.osds.length : Int) o1 (by have := F1.1; omega) (by (try simp only [List.length_append, encN_len]); omega)).mono ?_
  rintro r2 h2 ⟨f2, o2⟩
  have F2 := F1.trans f2
  obtain ⟨A2, ap2⟩ := F2.box A0 ap0
  have L2 := ld_at (T := tabOf Try.prog NT0) A2
  have l2 := at_lt A2
  have v2 := (o2.toSl (F := fun _ => True) (fun _ h => h.elim) (fun _ _ => trivial)).isSl
  simp only [core, Nat.reduceAdd, Nat.reduceSub, Nat.reduceMul, Nat.reduceLT, Nat.reduceEqDiff, reduceCtorEq, Nat.reduceLeDiff, Int.reduceLE, Int.reduceLT, Int.reduceToNat, L2, l2, v2, mpV, e1, e2, e3, e4, e5, e6, e7, e8, e9]
  obtain ⟨p3, hp3⟩ : ∃ p, p = (xs ++ encN .i64 m.epoch 8) ++ encN .u32 (IntKind.u32.wrap (m.osds.length : Int)) 4 := ⟨_, rfl⟩
  have q3 : p3.length = xs.length + 12 := by rw [hp3]; simp only [List.length_append, encN_len]; try omega
  rw [← hp3] at o2
  refine WB_for m.osds.length (fun i t h => (∃ s, OwnB n0 h s (p3 ++ (m.osds.take i).flatMap encOsd) ∧ Fr h0 v h s ∧ t.get 0 = s) ∧ t.n = 68 ∧ t.get 3 = .ptr H.n 0 ∧ t.get 21 = vo ∧ t.get 22 = .lit (.int .i64 m.osds.length) ∧ t.get 23 = .lit (.int .i64 i)) ?_ ?_ _ _ ?_
  · rintro i t h hlt hc ⟨⟨s, ho, fr, g0⟩, hn, g3, g21, g22, g23⟩ ih
    have hws := wrap_succ hlt (by omega)
    obtain ⟨x, hx⟩ : ∃ x, m.osds[i]? = some x := ⟨_, List.getElem?_eq_getElem hlt⟩
    have hi := ho0.lift (G := F) fun k hk hkn => ⟨(fr.2 k hkn (apF k hk)).1, hk⟩
    obtain ⟨c, hc1, hld, hld0⟩ := hi.at (T := tabOf Try.prog NT0) ROsd_z hx
    obtain ⟨rfl, -⟩ := ROsd_is.1 hc1
    have sv := (ho.toSl (F := fun _ => True) (fun _ h => h.elim) (fun _ _ => trivial)).isSl
    have hfl := flat_lt encOsd hx
    simp only [core, Nat.reduceAdd, Nat.reduceSub, Nat.reduceMul, Nat.reduceLT, Nat.reduceEqDiff, reduceCtorEq, Nat.reduceLeDiff, Int.reduceLE, Int.reduceLT, Int.reduceToNat, hn, g3, g21, g22, g23, g0, hc, hlt, hws, hld, hld0, sv, mpV, e1, e2, e3, e4, e5, e6, e7, e8, e9]
    obtain ⟨h2, hh2⟩ : ∃ h2, h2 = h.push (.cells [.lit (.bool x.ex), .lit (.bool x.up), .lit (.int .i64 x.weight), .lit (.int .i64 x.boot), .lit (.int .i64 x.upFrom), .lit (.int .i64 x.upThru)] 43) := ⟨_, rfl⟩
    have E2 : Ext h.n h h2 := hh2 ▸ (Ext.refl _ _).push _ (Nat.le_refl _)
    rw [← hh2]
    clear hh2
    have hn2 := E2.1
    have hn3 := fr.1
    refine (putOsd_x x (ho.ext E2 (Nat.le_refl _)) (by omega) (by simp only [List.length_append, q3, encOsd_len] at hfl ⊢; omega)).mono ?_
    rintro r h' ⟨f, o⟩
    have v5 := (o.toSl (F := fun _ => True) (fun _ h => h.elim) (fun _ _ => trivial)).isSl
    simp only [core, Nat.reduceAdd, Nat.reduceSub, Nat.reduceMul, Nat.reduceLT, Nat.reduceEqDiff, reduceCtorEq, Nat.reduceLeDiff, Int.reduceLE, Int.reduceLT, Int.reduceToNat, hn, g3, g21, g22, g23, g0, hc, hlt, hws, v5, mpV, e1, e2, e3, e4, e5, e6, e7, e8, e9]
    refine ih _ _ ⟨⟨r, by rw [flat_succ _ hx, ← List.append_assoc]; exact o, (fr.trans (Fr.ext E2)).trans f, by simp only [core, Nat.reduceAdd, Nat.reduceSub, Nat.reduceMul, Nat.reduceLT, Nat.reduceEqDiff, reduceCtorEq, Nat.reduceLeDiff, Int.reduceLE, Int.reduceLT, Int.reduceToNat, hn, g3, g21, g22, g23]⟩, ?_⟩
    simp only [core, Nat.reduceAdd, Nat.reduceSub, Nat.reduceMul, Nat.reduceLT, Nat.reduceEqDiff, reduceCtorEq, Nat.reduceLeDiff, Int.reduceLE, Int.reduceLT, Int.reduceToNat, hn, g3, g21, g22, g23]
  · rintro t h4 hc ⟨⟨r4, o4, F4, g0⟩, hn, g3, g21, g22, g23⟩
    rw [List.take_length] at o4
    obtain ⟨A4, ap4⟩ := F4.box A0 ap0
    have L4 := ld_at (T := tabOf Try.prog NT0) A4
    have l4 := at_lt A4
    have v4 := (o4.toSl (F := fun _ => True) (fun _ h => h.elim) (fun _ _ => trivial)).isSl
    simp only [core, Nat.reduceAdd, Nat.reduceSub, Nat.reduceMul, Nat.reduceLT, Nat.reduceEqDiff, reduceCtorEq, Nat.reduceLeDiff, Int.reduceLE, Int.reduceLT, Int.reduceToNat, hn, g3, g21, g22, g23, g0, hc, L4, l4, v4, mpV, e1, e2, e3, e4, e5, e6, e7, e8, e9]
    refine (count2_x (m.pools.length : Int) o4 (by have := F4.1; omega) (by (try simp only [List.length_append, q3]); omega)).mono ?_
    rintro r5 h5 ⟨f5, o5⟩
    have F5 := F4.trans f5
    obtain ⟨A5, ap5⟩ := F5.box A0 ap0
    have L5 := ld_at (T := tabOf Try.prog NT0) A5
    have l5 := at_lt A5
    have v5 := (o5.toSl (F := fun _ => True) (fun _ h => h.elim) (fun _ _ => trivial)).isSl
    simp only [core, Nat.reduceAdd, Nat.reduceSub, Nat.reduceMul, Nat.reduceLT, Nat.reduceEqDiff, reduceCtorEq, Nat.reduceLeDiff, Int.reduceLE, Int.reduceLT, Int.reduceToNat, hn, g3, g21, g22, g23, L5, l5, v5, mpV, e1, e2, e3, e4, e5, e6, e7, e8, e9]
    obtain ⟨p6, hp6⟩ : ∃ p, p = (p3 ++ m.osds.flatMap encOsd) ++ encN .u32 (IntKind.u32.wrap (m.pools.length : Int)) 4 := ⟨_, rfl⟩
    have q6 : p6.length = xs.length + 16 + (m.osds.flatMap encOsd).length := by rw [hp6]; simp only [List.length_append, encN_len, q3]; try omega
    rw [← hp6] at o5
    refine WB_for m.pools.length (fun i t h => (∃ s, OwnB n0 h s (p6 ++ (m.pools.take i).flatMap encPool) ∧ Fr h0 v h s ∧ t.get 0 = s) ∧ t.n = 68 ∧ t.get 3 = .ptr H.n 0 ∧ t.get 37 = vp ∧ t.get 38 = .lit (.int .i64 m.pools.length) ∧ t.get 39 = .lit (.int .i64 i)) ?_ ?_ _ _ ?_
    · rintro i t h hlt hc ⟨⟨s, ho, fr, g0⟩, hn, g3, g37, g38, g39⟩ ih
      have hws := wrap_succ hlt (by omega)
      obtain ⟨x, hx⟩ : ∃ x, m.pools[i]? = some x := ⟨_, List.getElem?_eq_getElem hlt⟩
      have hi := hp0.lift (G := F) fun k hk hkn => ⟨(fr.2 k hkn (apF k hk)).1, hk⟩
      obtain ⟨c, hc1, hld, hld0⟩ := hi.at (T := tabOf Try.prog NT0) RPool_z hx
      obtain ⟨rfl, -⟩ := RPool_is.1 hc1
      have sv := (ho.toSl (F := fun _ => True) (fun _ h => h.elim) (fun _ _ => trivial)).isSl
      have hfl := flat_lt encPool hx
      simp only [core, Nat.reduceAdd, Nat.reduceSub, Nat.reduceMul, Nat.reduceLT, Nat.reduceEqDiff, reduceCtorEq, Nat.reduceLeDiff, Int.reduceLE, Int.reduceLT, Int.reduceToNat, hn, g3, g37, g38, g39, g0, hc, hlt, hws, hld, hld0, sv, mpV, e1, e2, e3, e4, e5, e6, e7, e8, e9]
      obtain ⟨h2, hh2⟩ : ∃ h2, h2 = h.push (.cells [.lit (.int .i64 x.id), .lit (.int .i64 x.size), .lit (.int .i64 x.min), .lit (.int .i64 x.pgs)] 94) := ⟨_, rfl⟩
      have E2 : Ext h.n h h2 := hh2 ▸ (Ext.refl _ _).push _ (Nat.le_refl _)
      rw [← hh2]
      clear hh2
      have hn2 := E2.1
      have hn3 := fr.1
      refine (putPool_x x (ho.ext E2 (Nat.le_refl _)) (by omega) (by simp only [List.length_append, q6, encPool_len] at hfl ⊢; omega)).mono ?_
      rintro r h' ⟨f, o⟩
      have v5 := (o.toSl (F := fun _ => True) (fun _ h => h.elim) (fun _ _ => trivial)).isSl
      simp only [core, Nat.reduceAdd, Nat.reduceSub, Nat.reduceMul, Nat.reduceLT, Nat.reduceEqDiff, reduceCtorEq, Nat.reduceLeDiff, Int.reduceLE, Int.reduceLT, Int.reduceToNat, hn, g3, g37, g38, g39, g0, hc, hlt, hws, v5, mpV, e1, e2, e3, e4, e5, e6, e7, e8, e9]
      refine ih _ _ ⟨⟨r, by rw [flat_succ _ hx, ← List.append_assoc]; exact o, (fr.trans (Fr.ext E2)).trans f, by simp only [core, Nat.reduceAdd, Nat.reduceSub, Nat.reduceMul, Nat.reduceLT, Nat.reduceEqDiff, reduceCtorEq, Nat.reduceLeDiff, Int.reduceLE, Int.reduceLT, Int.reduceToNat, hn, g3, g37, g38, g39]⟩, ?_⟩
      simp only [core, Nat.reduceAdd, Nat.reduceSub, Nat.reduceMul, Nat.reduceLT, Nat.reduceEqDiff, reduceCtorEq, Nat.reduceLeDiff, Int.reduceLE, Int.reduceLT, Int.reduceToNat, hn, g3, g37, g38, g39]
    · rintro t h7 hc ⟨⟨r7, o7, F7, g0⟩, hn, g3, g37, g38, g39⟩
      rw [List.take_length] at o7
      obtain ⟨A7, ap7⟩ := F7.box A0 ap0
      have L7 := ld_at (T := tabOf Try.prog NT0) A7
      have l7 := at_lt A7
      have v7 := (o7.toSl (F := fun _ => True) (fun _ h => h.elim) (fun _ _ => trivial)).isSl
      simp only [core, Nat.reduceAdd, Nat.reduceSub, Nat.reduceMul, Nat.reduceLT, Nat.reduceEqDiff, reduceCtorEq, Nat.reduceLeDiff, Int.reduceLE, Int.reduceLT, Int.reduceToNat, hn, g3, g37, g38, g39, g0, hc, L7, l7, v7, mpV, e1, e2, e3, e4, e5, e6, e7, e8, e9]
      refine (count2_x (m.buckets.length : Int) o7 (by have := F7.1; omega) (by (try simp only [List.length_append, q6]); omega)).mono ?_
      rintro r8 h8 ⟨f8, o8⟩
      have F8 := F7.trans f8
      obtain ⟨A8, ap8⟩ := F8.box A0 ap0
      have L8 := ld_at (T := tabOf Try.prog NT0) A8
      have l8 := at_lt A8
      have v8 := (o8.toSl (F := fun _ => True) (fun _ h => h.elim) (fun _ _ => trivial)).isSl
      simp only [core, Nat.reduceAdd, Nat.reduceSub, Nat.reduceMul, Nat.reduceLT, Nat.reduceEqDiff, reduceCtorEq, Nat.reduceLeDiff, Int.reduceLE, Int.reduceLT, Int.reduceToNat, hn, g3, g37, g38, g39, L8, l8, v8, mpV, e1, e2, e3, e4, e5, e6, e7, e8, e9]
      obtain ⟨p9, hp9⟩ : ∃ p, p = (p6 ++ m.pools.flatMap encPool) ++ encN .u32 (IntKind.u32.wrap (m.buckets.length : Int)) 4 := ⟨_, rfl⟩
      have q9 : p9.length = xs.length + 20 + (m.osds.flatMap encOsd).length + (m.pools.flatMap encPool).length := by rw [hp9]; simp only [List.length_append, encN_len, q6]; try omega
      rw [← hp9] at o8
      refine WB_for m.buckets.length (fun i t h => (∃ s, OwnB n0 h s (p9 ++ (m.buckets.take i).flatMap encBkt) ∧ Fr h0 v h s ∧ t.get 0 = s) ∧ t.n = 68 ∧ t.get 3 = .ptr H.n 0 ∧ t.get 53 = vb ∧ t.get 54 = .lit (.int .i64 m.buckets.length) ∧ t.get 55 = .lit (.int .i64 i)) ?_ ?_ _ _ ?_
      · rintro i t h hlt hc ⟨⟨s, ho, fr, g0⟩, hn, g3, g53, g54, g55⟩ ih
        have hws := wrap_succ hlt (by omega)
        obtain ⟨x, hx⟩ : ∃ x, m.buckets[i]? = some x := ⟨_, List.getElem?_eq_getElem hlt⟩
        have hi := hb0.lift (G := F) fun k hk hkn => ⟨(fr.2 k hkn (apF k hk)).1, hk⟩
        obtain ⟨c, hc1, hld, hld0⟩ := hi.at (T := tabOf Try.prog NT0) RBkt_z hx
        obtain ⟨va, vw, rfl, ha, hw, -, -⟩ := RBkt_is.1 hc1
        have a1 := ha.one
        have w1 := hw.one
        obtain ⟨la, lw⟩ := hsz x (List.mem_of_getElem? hx)
        have sv := (ho.toSl (F := fun _ => True) (fun _ h => h.elim) (fun _ _ => trivial)).isSl
        have hfl := flat_lt encBkt hx
        simp only [core, Nat.reduceAdd, Nat.reduceSub, Nat.reduceMul, Nat.reduceLT, Nat.reduceEqDiff, reduceCtorEq, Nat.reduceLeDiff, Int.reduceLE, Int.reduceLT, Int.reduceToNat, hn, g3, g53, g54, g55, g0, hc, hlt, hws, a1, w1, hld, hld0, sv, mpV, e1, e2, e3, e4, e5, e6, e7, e8, e9]
        obtain ⟨h2, hh2⟩ : ∃ h2, h2 = h.push (.cells [.lit (.int .i64 x.id), .lit (.int .i64 x.kind), va, vw] 92) := ⟨_, rfl⟩
        have E2 : Ext h.n h h2 := hh2 ▸ (Ext.refl _ _).push _ (Nat.le_refl _)
        rw [← hh2]
        clear hh2
        have hn2 := E2.1
        have hn3 := fr.1
        refine (putBucket_x x (ha.ext E2 (Nat.le_refl _)) (hw.ext E2 (Nat.le_refl _)) hF (ho.ext E2 (Nat.le_refl _)) (by omega) la lw (by simp only [List.length_append, q9, encBkt_len] at hfl ⊢; omega)).mono ?_
        rintro r h' ⟨f, o⟩
        have v5 := (o.toSl (F := fun _ => True) (fun _ h => h.elim) (fun _ _ => trivial)).isSl
        simp only [core, Nat.reduceAdd, Nat.reduceSub, Nat.reduceMul, Nat.reduceLT, Nat.reduceEqDiff, reduceCtorEq, Nat.reduceLeDiff, Int.reduceLE, Int.reduceLT, Int.reduceToNat, hn, g3, g53, g54, g55, g0, hc, hlt, hws, v5, mpV, e1, e2, e3, e4, e5, e6, e7, e8, e9]
        refine ih _ _ ⟨⟨r, by rw [flat_succ _ hx, ← List.append_assoc]; exact o, (fr.trans (Fr.ext E2)).trans f, by simp only [core, Nat.reduceAdd, Nat.reduceSub, Nat.reduceMul, Nat.reduceLT, Nat.reduceEqDiff, reduceCtorEq, Nat.reduceLeDiff, Int.reduceLE, Int.reduceLT, Int.reduceToNat, hn, g3, g53, g54, g55]⟩, ?_⟩
        simp only [core, Nat.reduceAdd, Nat.reduceSub, Nat.reduceMul, Nat.reduceLT, Nat.reduceEqDiff, reduceCtorEq, Nat.reduceLeDiff, Int.reduceLE, Int.reduceLT, Int.reduceToNat, hn, g3, g53, g54, g55]
      · rintro t h10 hc ⟨⟨r10, o10, F10, g0⟩, hn, g3, g53, g54, g55⟩
        rw [List.take_length] at o10
        obtain ⟨A10, ap10⟩ := F10.box A0 ap0
        have L10 := ld_at (T := tabOf Try.prog NT0) A10
        have l10 := at_lt A10
        have v10 := (o10.toSl (F := fun _ => True) (fun _ h => h.elim) (fun _ _ => trivial)).isSl
        simp only [core, Nat.reduceAdd, Nat.reduceSub, Nat.reduceMul, Nat.reduceLT, Nat.reduceEqDiff, reduceCtorEq, Nat.reduceLeDiff, Int.reduceLE, Int.reduceLT, Int.reduceToNat, hn, g3, g53, g54, g55, g0, hc, L10, l10, v10, mpV, e1, e2, e3, e4, e5, e6, e7, e8, e9]
        refine (int2_x m.leaf o10 (by have := F10.1; omega) (by (try simp only [List.length_append, q9]); omega)).mono ?_
        rintro r11 h11 ⟨f11, o11⟩
        have F11 := F10.trans f11
        obtain ⟨A11, ap11⟩ := F11.box A0 ap0
        have L11 := ld_at (T := tabOf Try.prog NT0) A11
        have l11 := at_lt A11
        have v11 := (o11.toSl (F := fun _ => True) (fun _ h => h.elim) (fun _ _ => trivial)).isSl
        simp only [core, Nat.reduceAdd, Nat.reduceSub, Nat.reduceMul, Nat.reduceLT, Nat.reduceEqDiff, reduceCtorEq, Nat.reduceLeDiff, Int.reduceLE, Int.reduceLT, Int.reduceToNat, hn, g3, g53, g54, g55, mpV, e1, e2, e3, e4, e5, e6, e7, e8, e9]
        refine ⟨(Fr.ext E0).trans F11, ?_⟩
        rw [hp9, hp6, hp3] at o11
        unfold encMap
        simp only [encC]
        simpa only [List.append_assoc] using o11
      · refine ⟨⟨r8, by rw [show (m.buckets.take 0).flatMap encBkt = [] from rfl, List.append_nil]; exact o8, F8, by simp only [core, Nat.reduceAdd, Nat.reduceSub, Nat.reduceMul, Nat.reduceLT, Nat.reduceEqDiff, reduceCtorEq, Nat.reduceLeDiff, Int.reduceLE, Int.reduceLT, Int.reduceToNat, hn, g3, g37, g38, g39]⟩, ?_⟩
        simp only [core, Nat.reduceAdd, Nat.reduceSub, Nat.reduceMul, Nat.reduceLT, Nat.reduceEqDiff, reduceCtorEq, Nat.reduceLeDiff, Int.reduceLE, Int.reduceLT, Int.reduceToNat, hn, g3, g37, g38, g39]
        (repeat' apply And.intro) <;> first | rfl | trivial
    · refine ⟨⟨r5, by rw [show (m.pools.take 0).flatMap encPool = [] from rfl, List.append_nil]; exact o5, F5, by simp only [core, Nat.reduceAdd, Nat.reduceSub, Nat.reduceMul, Nat.reduceLT, Nat.reduceEqDiff, reduceCtorEq, Nat.reduceLeDiff, Int.reduceLE, Int.reduceLT, Int.reduceToNat, hn, g3, g21, g22, g23]⟩, ?_⟩
      simp only [core, Nat.reduceAdd, Nat.reduceSub, Nat.reduceMul, Nat.reduceLT, Nat.reduceEqDiff, reduceCtorEq, Nat.reduceLeDiff, Int.reduceLE, Int.reduceLT, Int.reduceToNat, hn, g3, g21, g22, g23]
      (repeat' apply And.intro) <;> first | rfl | trivial
  · refine ⟨⟨r2, by rw [show (m.osds.take 0).flatMap encOsd = [] from rfl, List.append_nil]; exact o2, F2, by simp only [core, Nat.reduceAdd, Nat.reduceSub, Nat.reduceMul, Nat.reduceLT, Nat.reduceEqDiff, reduceCtorEq, Nat.reduceLeDiff, Int.reduceLE, Int.reduceLT, Int.reduceToNat, ]⟩, ?_⟩
    simp only [core, Nat.reduceAdd, Nat.reduceSub, Nat.reduceMul, Nat.reduceLT, Nat.reduceEqDiff, reduceCtorEq, Nat.reduceLeDiff, Int.reduceLE, Int.reduceLT, Int.reduceToNat, ]
    (repeat' apply And.intro) <;> first | rfl | trivial
end Go.Proofs.Ytkgbeihcepociaa.Ex
end

section

set_option linter.unusedSimpArgs false
set_option linter.unusedVariables false
set_option maxRecDepth 10000
set_option maxHeartbeats 4000000
namespace Go.Proofs.Ytkgbeihcepociaa.Ex
open Go
structure ChD where
  kind : Int
  osd : Int
  value : Int
  pool : PoolD
  bucket : BktD
  deriving DecidableEq
structure IncD where
  epoch : Int
  changes : List ChD
def RCh : Rep ChD := RMap (fun x => (x.kind, x.osd, x.value, x.pool, x.bucket)) (RPair RInt (RPair RInt (RPair RInt (RPair RPool RBkt))))
def RInc : Rep IncD := RMap (fun x => (x.epoch, x.changes)) (RPair RInt (RSl RCh))
theorem RCh_z : RCh.z = 11 := rfl
theorem RCh_is {F : Nat → Prop} {h : AH} {c : List AV} {x : ChD} : RCh.is F h c x ↔ ∃ va vw, c = [.lit (.int .i64 x.kind), .lit (.int .i64 x.osd), .lit (.int .i64 x.value), .lit (.int .i64 x.pool.id), .lit (.int .i64 x.pool.size), .lit (.int .i64 x.pool.min), .lit (.int .i64 x.pool.pgs), .lit (.int .i64 x.bucket.id), .lit (.int .i64 x.bucket.kind), va, vw] ∧ IsSl RInt F h va x.bucket.items ∧ IsSl RInt F h vw x.bucket.weights ∧ (I64 x.kind ∧ I64 x.osd ∧ I64 x.value) ∧ (I64 x.pool.id ∧ I64 x.pool.size ∧ I64 x.pool.min ∧ I64 x.pool.pgs) ∧ I64 x.bucket.id ∧ I64 x.bucket.kind := by
  constructor
  · rintro ⟨_, _, rfl, ⟨rfl, h1⟩, _, _, rfl, ⟨rfl, h2⟩, _, _, rfl, ⟨rfl, h3⟩, _, _, rfl, h4, h5⟩
    obtain ⟨rfl, k4⟩ := RPool_is.1 h4
    obtain ⟨va, vw, rfl, ha, hw, h6⟩ := RBkt_is.1 h5
    exact ⟨va, vw, rfl, ha, hw, ⟨h1, h2, h3⟩, k4, h6⟩
  · rintro ⟨va, vw, rfl, ha, hw, ⟨h1, h2, h3⟩, h4, h6⟩
    exact ⟨_, _, rfl, ⟨rfl, h1⟩, _, _, rfl, ⟨rfl, h2⟩, _, _, rfl, ⟨rfl, h3⟩, _, _, rfl, RPool_is.2 ⟨rfl, h4⟩, RBkt_is.2 ⟨va, vw, rfl, ha, hw, h6⟩⟩
def chV (c : ChD) (va vw : AV) : AV := .agg [.lit (.int .i64 c.kind), .lit (.int .i64 c.osd), .lit (.int .i64 c.value), .lit (.int .i64 c.pool.id), .lit (.int .i64 c.pool.size), .lit (.int .i64 c.pool.min), .lit (.int .i64 c.pool.pgs), .lit (.int .i64 c.bucket.id), .lit (.int .i64 c.bucket.kind), va, vw]
def incV (x : IncD) (vc : AV) : AV := .agg [.lit (.int .i64 x.epoch), vc]
end Go.Proofs.Ytkgbeihcepociaa.Ex
end

section

set_option linter.unusedSimpArgs false
set_option linter.unusedVariables false
set_option maxRecDepth 10000
namespace Go.Proofs.Ytkgbeihcepociaa.Ex
open Go
section
variable {P : Program} {T : TT} {t : TM} {h : AH} {d : Option Tmp} {ty : TypeId} {ps : String} {af : Array Edge} {g : Option (Nat × Bool)}
/-- Bytes as a text. -/
def aConQ (P : Program) (T : TT) (o : Oper) (t : TM) (h : AH) (src dst : TypeId) (x : Operand) : AR := aConvert P T o t h src dst x
def conM (h : AH) (r : AR) : AV → AR
  | .sl b off len _ => match bytesAt h b off len with
    | some bs => some (.val (.lit (.string ⟨bs.toArray⟩)), h)
    | none => r
  | _ => r
theorem conM_sl {r : AR} {b off len : Nat} {cap : Cap} : conM h r (.sl b off len cap) = match bytesAt h b off len with
    | some bs => some (.val (.lit (.string ⟨bs.toArray⟩)), h)
    | none => r := rfl
theorem a_conM {i : Nat} : aConR Try.prog (tabOf Try.prog NT0) ⟨d, .convert 49 9 (.tmp i), ty, ps, af, g⟩ t h 49 9 (.tmp i) = conM h (aConQ Try.prog (tabOf Try.prog NT0) ⟨d, .convert 49 9 (.tmp i), ty, ps, af, g⟩ t h 49 9 (.tmp i)) (t.get i) := by
  unfold conM
  split
  · rename_i b off len cap hv
    split
    · rename_i bs hbs
      have hu1 : und (tabOf Try.prog NT0) 49 = some (.slice 5) := by kernel_rfl
      have hu2 : und (tabOf Try.prog NT0) 9 = some .string := by kernel_rfl
      have hu3 : und (tabOf Try.prog NT0) 5 = some (.int .u8) := by kernel_rfl
      have hl : litOp Try.prog ⟨d, .convert 49 9 (.tmp i), ty, ps, af, g⟩ t = none := by
        unfold litOp
        rw [if_neg]
        simp [Op.operands, litAll, ev_tmp, hv, toVal]
      unfold aConR aConvert
      rw [ev_tmp, hv]
      unfold orLit
      rw [hl]
      simp only [aConv1, hu1, hu2, hu3, hbs, Option.map_some, val]
    · rfl
  · rfl
end
def bL (xs : List UInt8) : List AV := xs.map fun n => .lit (.int .u8 n.toNat)
theorem bytesA_bL : ∀ xs : List UInt8, bytesA (bL xs) = some xs
  | [] => rfl
  | x :: xs => by
    have hlt : Nat.blt x.toNat 256 = true := by rw [Nat.blt_eq]; exact UInt8.toNat_lt x
    show (bif Nat.blt x.toNat 256 then (bytesA (bL xs)).map (UInt8.ofNat x.toNat :: ·) else none) = _
    rw [hlt, bytesA_bL xs]
    simp
theorem OwnL.bytes {G : Nat → Prop} {n0 : Nat} {h : AH} {v : AV} {e : TypeId} {xs : List UInt8} (ho : OwnL RByte G n0 h v e xs) (hne : xs ≠ []) :
    ∃ p, v = .sl p 0 xs.length (.un 1) ∧ n0 ≤ p ∧ h.at p = some (.cells (bL xs) e) ∧ bytesAt h p 0 xs.length = some xs := by
  obtain ⟨L, h1, h2⟩ := ho
  have hL : L.flatten = bL xs := by
    obtain ⟨e1, e2⟩ := h2
    have key : ∀ (L : List (List AV)) (xs : List UInt8), L.length = xs.length → (∀ (i : Nat) c x, L[i]? = some c → xs[i]? = some x → RByte.is (fun b => G b ∧ Apart v b) h c x) → L.flatten = bL xs := by
      intro L
      induction L with
      | nil => intro xs hl _; cases xs with | nil => rfl | cons => cases hl
      | cons a r ih =>
        intro xs hl hh
        cases xs with
        | nil => cases hl
        | cons x xs =>
          have i1 := ih xs (by simpa using hl) (fun i c y a b => hh (i + 1) c y (by simpa using a) (by simpa using b))
          obtain rfl := hh 0 a x rfl rfl
          rw [List.flatten_cons, i1]
          rfl
    exact key L xs e1 e2
  have e0 := h2.1
  rcases h1.2 with ⟨rfl, rfl⟩ | ⟨p, rfl, hp, hat⟩
  · exact absurd (List.eq_nil_of_length_eq_zero (by rw [← e0]; rfl)) hne
  · refine ⟨p, by rw [e0]; rfl, hp, by rw [hat, hL], ?_⟩
    unfold bytesAt getR
    rw [hat, hL]
    show (match cut (bL xs) 0 xs.length with | some cs => bytesA cs | none => none) = _
    unfold cut
    rw [if_pos (by unfold bL; simp)]
    show bytesA (((bL xs).drop 0).take xs.length) = _
    rw [List.drop_zero, List.take_of_length_le (by unfold bL; simp), bytesA_bL]
end Go.Proofs.Ytkgbeihcepociaa.Ex
end

section

set_option linter.unusedSimpArgs false
set_option linter.unusedVariables false
set_option maxRecDepth 10000
set_option maxHeartbeats 4000000
namespace Go.Proofs.Ytkgbeihcepociaa.Ex
open Go
theorem map2_x {F : Nat → Prop} {H : AH} (m : MapD) {vo vp vb : AV} (hm : MpAt F H m vo vp vb) (hF : ∀ k, F k → k < H.n)
    (so : Sm 40 m.osds) (sp : Sm 32 m.pools) (sb : Sm 64 m.buckets) (hsz : ∀ b ∈ m.buckets, Sm 8 b.items ∧ Sm 8 b.weights) (hl : (encMap m).length ≤ 140737488355328) :
    WC Try.prog (tabOf Try.prog NT0) S0 58 [mpV m vo vp vb] H fun r h' => Ext H.n H h' ∧ OwnB H.n h' r (encMap m) := by
  refine WC_fn Try.func58 rfl rfl ?_
  have o1 := hm.o.one
  have o2 := hm.p.one
  have o3 := hm.b.one
  simp only [core, Nat.reduceAdd, Nat.reduceSub, Nat.reduceMul, Nat.reduceLT, Nat.reduceEqDiff, reduceCtorEq, Nat.reduceLeDiff, Int.reduceLE, Int.reduceLT, Int.reduceToNat, Try.ntmps58, mpV, o1, o2, o3]
  obtain ⟨h0, hh0⟩ : ∃ h0, h0 = H.push (.cells [.lit (.int .i64 m.epoch), vo, vp, vb, .lit (.int .i64 m.leaf)] 31) := ⟨_, rfl⟩
  have E0 : Ext H.n H h0 := hh0 ▸ (Ext.refl _ _).push _ (Nat.le_refl _)
  rw [← hh0]
  clear hh0
  have n1 := E0.1
  have on : OwnB H.n h0 (.lit (.slice none 0 0)) [] := OwnL.nil
  refine (putMap_x m (hm.ext E0 (Nat.le_refl _)) hF on n1 so sp sb hsz (by simpa using hl)).mono ?_
  rintro r h1 ⟨f, o⟩
  have v1 := (o.toSl (F := fun _ => True) (fun _ h => h.elim) (fun _ _ => trivial)).isSl
  simp only [core, Nat.reduceAdd, Nat.reduceSub, Nat.reduceMul, Nat.reduceLT, Nat.reduceEqDiff, reduceCtorEq, Nat.reduceLeDiff, Int.reduceLE, Int.reduceLT, Int.reduceToNat, v1]
  exact ⟨E0.trans (f.toExt on n1), by simpa using o⟩
def baL (xs : List UInt8) : ByteArray := ⟨xs.toArray⟩
theorem bytes_x {F : Nat → Prop} {H : AH} (m : MapD) {vo vp vb : AV} (hm : MpAt F H m vo vp vb) (hF : ∀ k, F k → k < H.n)
    (so : Sm 40 m.osds) (sp : Sm 32 m.pools) (sb : Sm 64 m.buckets) (hsz : ∀ b ∈ m.buckets, Sm 8 b.items ∧ Sm 8 b.weights) (hl : (encMap m).length ≤ 140737488355328) :
    WC Try.prog (tabOf Try.prog NT0) S0 19 [mpV m vo vp vb] H fun r h' => Ext H.n H h' ∧ r = .lit (.string (baL (encMap m))) := by
  refine WC_fn Try.func19 rfl rfl ?_
  have o1 := hm.o.one
  have o2 := hm.p.one
  have o3 := hm.b.one
  simp only [core, Nat.reduceAdd, Nat.reduceSub, Nat.reduceMul, Nat.reduceLT, Nat.reduceEqDiff, reduceCtorEq, Nat.reduceLeDiff, Int.reduceLE, Int.reduceLT, Int.reduceToNat, Try.ntmps19, mpV, o1, o2, o3]
  obtain ⟨h0, hh0⟩ : ∃ h0, h0 = H.push (.cells [.lit (.int .i64 m.epoch), vo, vp, vb, .lit (.int .i64 m.leaf)] 31) := ⟨_, rfl⟩
  have E0 : Ext H.n H h0 := hh0 ▸ (Ext.refl _ _).push _ (Nat.le_refl _)
  rw [← hh0]
  clear hh0
  have n1 := E0.1
  refine (map2_x m (hm.ext E0 (Nat.le_refl _)) (fun k hk => Nat.lt_of_lt_of_le (hF k hk) n1) so sp sb hsz hl).mono ?_
  rintro r h1 ⟨e1, o⟩
  have hne : encMap m ≠ [] := fun hh => by
    have := encMap_len m
    rw [hh] at this
    simp at this
    omega
  obtain ⟨p, rfl, hp, hat, hby⟩ := OwnL.bytes o hne
  simp only [core, Nat.reduceAdd, Nat.reduceSub, Nat.reduceMul, Nat.reduceLT, Nat.reduceEqDiff, reduceCtorEq, Nat.reduceLeDiff, Int.reduceLE, Int.reduceLT, Int.reduceToNat, a_conM, conM_sl, hby]
  exact ⟨E0.trans (e1.mono n1), rfl⟩
theorem num_x {H : AH} (n : Int) : WC Try.prog (tabOf Try.prog NT0) S0 18 [.lit (.int .i64 n)] H fun r h' => h' = H ∧ r = .lit (.int .i64 n) := by
  refine WC_fn Try.func18 rfl rfl ?_
  simp only [core, Nat.reduceAdd, Nat.reduceSub, Nat.reduceMul, Nat.reduceLT, Nat.reduceEqDiff, reduceCtorEq, Nat.reduceLeDiff, Int.reduceLE, Int.reduceLT, Int.reduceToNat, Try.ntmps18]
theorem wrap_add_wrap (a b : Int) : IntKind.i64.wrap (IntKind.i64.wrap a + b) = IntKind.i64.wrap (a + b) := by
  rw [IntKind.wrap_i64, IntKind.wrap_i64, IntKind.wrap_i64]; omega
def sumB (l : List BktD) : Nat := (l.map fun b => b.items.length).sum
def sumC (l : List ChD) : Nat := (l.map fun c => c.bucket.items.length).sum
theorem sum_succ {α : Type} (f : α → Nat) {l : List α} {i : Nat} {x : α} (hx : l[i]? = some x) : ((l.take (i + 1)).map f).sum = ((l.take i).map f).sum + f x := by
  rw [List.take_add_one, hx, List.map_append, List.sum_append]
  simp
theorem sumB_succ {l : List BktD} {i : Nat} {x : BktD} (hx : l[i]? = some x) : sumB (l.take (i + 1)) = sumB (l.take i) + x.items.length := sum_succ (fun b : BktD => b.items.length) hx
theorem sumC_succ {l : List ChD} {i : Nat} {x : ChD} (hx : l[i]? = some x) : sumC (l.take (i + 1)) = sumC (l.take i) + x.bucket.items.length := sum_succ (fun c : ChD => c.bucket.items.length) hx
def wideF (m : MapD) (l : List ChD) : Bool := (decide ((40 : Int) < (m.buckets.length : Int)) || decide ((300 : Int) < IntKind.i64.wrap ((sumB m.buckets + sumC l : Nat) : Int))) || decide ((300 : Int) < (l.length : Int))
theorem wide_x {F : Nat → Prop} {H : AH} {m : MapD} {vo vp vb vc : AV} {l : List ChD} (hm : MpAt F H m vo vp vb) (hc : IsSl RCh F H vc l) (sb : Sm 64 m.buckets) (sc : Sm 88 l) :
    WC Try.prog (tabOf Try.prog NT0) S0 14 [mpV m vo vp vb, vc] H fun r h' => Ext H.n H h' ∧ r = .lit (.bool (wideF m l)) := by
  refine WC_fn Try.func14 rfl rfl ?_
  unfold Sm at sb sc
  have s1 := hm.b.isSl
  have s2 := hm.b.lenD
  have s3 := hc.isSl
  have s4 := hc.lenD
  have o1 := hm.o.one
  have o2 := hm.p.one
  have o3 := hm.b.one
  have o4 := hc.one
  simp only [core, Nat.reduceAdd, Nat.reduceSub, Nat.reduceMul, Nat.reduceLT, Nat.reduceEqDiff, reduceCtorEq, Nat.reduceLeDiff, Int.reduceLE, Int.reduceLT, Int.reduceToNat, Try.ntmps14, mpV, s1, s2, s3, s4, o1, o2, o3, o4]
  obtain ⟨h1, hh1⟩ : ∃ h1, h1 = H.push (.cells [.lit (.int .i64 m.epoch), vo, vp, vb, .lit (.int .i64 m.leaf)] 31) := ⟨_, rfl⟩
  have E1 : Ext H.n H h1 := hh1 ▸ (Ext.refl _ _).push _ (Nat.le_refl _)
  have P1 : h1.at H.n = some (.cells [.lit (.int .i64 m.epoch), vo, vp, vb, .lit (.int .i64 m.leaf)] 31) := hh1 ▸ at_push_n _ _
  rw [← hh1]
  clear hh1
  have lp1 := at_lt P1
  have LP1 := ld_at (T := tabOf Try.prog NT0) P1
  refine WB_for m.buckets.length (fun i t h => t.get 5 = .lit (.int .i64 (IntKind.i64.wrap ((sumB (m.buckets.take i) : Nat) : Int))) ∧ Ext h1.n h1 h ∧ t.n = 49 ∧ t.get 1 = vc ∧ t.get 2 = .ptr H.n 0 ∧ t.get 11 = vb ∧ t.get 12 = .lit (.int .i64 m.buckets.length) ∧ t.get 13 = .lit (.int .i64 i)) ?_ ?_ _ _ ?_
  · rintro i t h hlt hc ⟨g3, he, hn, g1, g2, g11, g12, g13⟩ ih
    obtain ⟨x, hx⟩ : ∃ x, m.buckets[i]? = some x := ⟨_, List.getElem?_eq_getElem hlt⟩
    have EH := E1.step he
    obtain ⟨c, hc1, hld, hld0⟩ := hm.b.atE (T := tabOf Try.prog NT0) EH RBkt_z hx
    obtain ⟨va, vw, rfl, ha, hw, i1, i2⟩ := RBkt_is.1 hc1
    have a1 := ha.one
    have w1 := hw.one
    have a2 := ha.isSl
    have a3 := ha.lenD
    have hws := wrap_succ hlt (by omega)
    simp only [core, Nat.reduceAdd, Nat.reduceSub, Nat.reduceMul, Nat.reduceLT, Nat.reduceEqDiff, reduceCtorEq, Nat.reduceLeDiff, Int.reduceLE, Int.reduceLT, Int.reduceToNat, hn, g1, g2, g11, g12, g13, g3, hlt, hc, hws, s1, s2, hld, hld0, a1, w1, a2, a3]
    refine ih _ _ ⟨?_, he.push _ he.1, by simp only [core, Nat.reduceAdd, Nat.reduceSub, Nat.reduceMul, Nat.reduceLT, Nat.reduceEqDiff, reduceCtorEq, Nat.reduceLeDiff, Int.reduceLE, Int.reduceLT, Int.reduceToNat, hn, g1, g2, g11, g12, g13]⟩
    simp only [core, Nat.reduceAdd, Nat.reduceSub, Nat.reduceMul, Nat.reduceLT, Nat.reduceEqDiff, reduceCtorEq, Nat.reduceLeDiff, Int.reduceLE, Int.reduceLT, Int.reduceToNat, hn, g1, g2, g11, g12, g13, wrap_add_wrap, sumB_succ hx, Int.natCast_add]
  · rintro t h hc ⟨g3, he, hn, g1, g2, g11, g12, g13⟩
    rw [List.take_length] at g3
    have P2 := (he.2 _ lp1).trans P1
    have EH := E1.step he
    simp only [core, Nat.reduceAdd, Nat.reduceSub, Nat.reduceMul, Nat.reduceLT, Nat.reduceEqDiff, reduceCtorEq, Nat.reduceLeDiff, Int.reduceLE, Int.reduceLT, Int.reduceToNat, hn, g1, g2, g11, g12, g13, g3, hc, s1, s2, s3, s4]
    refine WB_for l.length (fun i t h => t.get 5 = .lit (.int .i64 (IntKind.i64.wrap ((sumB m.buckets + sumC (l.take i) : Nat) : Int))) ∧ Ext h1.n h1 h ∧ t.n = 49 ∧ t.get 1 = vc ∧ t.get 2 = .ptr H.n 0 ∧ t.get 23 = vc ∧ t.get 24 = .lit (.int .i64 l.length) ∧ t.get 25 = .lit (.int .i64 i)) ?_ ?_ _ _ ?_
    · rintro i t h hlt hc' ⟨g3, he, hn, g1, g2, g23, g24, g25⟩ ih
      obtain ⟨x, hx⟩ : ∃ x, l[i]? = some x := ⟨_, List.getElem?_eq_getElem hlt⟩
      have EH := E1.step he
      obtain ⟨c, hc1, hld, hld0⟩ := ‹IsSl RCh F H vc l›.atE (T := tabOf Try.prog NT0) EH RCh_z hx
      obtain ⟨va, vw, rfl, ha, hw, i1⟩ := RCh_is.1 hc1
      have a1 := ha.one
      have w1 := hw.one
      have a2 := ha.isSl
      have a3 := ha.lenD
      have hws := wrap_succ hlt (by omega)
      simp only [core, Nat.reduceAdd, Nat.reduceSub, Nat.reduceMul, Nat.reduceLT, Nat.reduceEqDiff, reduceCtorEq, Nat.reduceLeDiff, Int.reduceLE, Int.reduceLT, Int.reduceToNat, hn, g1, g2, g23, g24, g25, g3, hlt, hc', hws, s3, s4, hld, hld0, a1, w1, a2, a3]
      refine ih _ _ ⟨?_, he.push _ he.1, by simp only [core, Nat.reduceAdd, Nat.reduceSub, Nat.reduceMul, Nat.reduceLT, Nat.reduceEqDiff, reduceCtorEq, Nat.reduceLeDiff, Int.reduceLE, Int.reduceLT, Int.reduceToNat, hn, g1, g2, g23, g24, g25]⟩
      simp only [core, Nat.reduceAdd, Nat.reduceSub, Nat.reduceMul, Nat.reduceLT, Nat.reduceEqDiff, reduceCtorEq, Nat.reduceLeDiff, Int.reduceLE, Int.reduceLT, Int.reduceToNat, hn, g1, g2, g23, g24, g25, wrap_add_wrap, sumC_succ hx, Int.natCast_add, Int.add_assoc]
    · rintro t h hc' ⟨g3, he, hn, g1, g2, g23, g24, g25⟩
      rw [List.take_length] at g3
      have P := (he.2 _ lp1).trans P1
      have lp := at_lt P
      have LP := ld_at (T := tabOf Try.prog NT0) P
      have EH := E1.step he
      unfold wideF
      by_cases c1 : (40 : Int) < (m.buckets.length : Int)
      · simp only [core, Nat.reduceAdd, Nat.reduceSub, Nat.reduceMul, Nat.reduceLT, Nat.reduceEqDiff, reduceCtorEq, Nat.reduceLeDiff, Int.reduceLE, Int.reduceLT, Int.reduceToNat, hn, g1, g2, g23, g24, g25, g3, hc', LP, lp, s1, s2, s3, s4, c1]
        exact ⟨EH, rfl⟩
      · by_cases c2 : (300 : Int) < IntKind.i64.wrap ((sumB m.buckets + sumC l : Nat) : Int)
        · simp only [core, Nat.reduceAdd, Nat.reduceSub, Nat.reduceMul, Nat.reduceLT, Nat.reduceEqDiff, reduceCtorEq, Nat.reduceLeDiff, Int.reduceLE, Int.reduceLT, Int.reduceToNat, hn, g1, g2, g23, g24, g25, g3, hc', LP, lp, s1, s2, s3, s4, c1, c2]
          exact ⟨EH, rfl⟩
        · simp only [core, Nat.reduceAdd, Nat.reduceSub, Nat.reduceMul, Nat.reduceLT, Nat.reduceEqDiff, reduceCtorEq, Nat.reduceLeDiff, Int.reduceLE, Int.reduceLT, Int.reduceToNat, hn, g1, g2, g23, g24, g25, g3, hc', LP, lp, s1, s2, s3, s4, c1, c2]
          exact ⟨EH, rfl⟩
    · refine ⟨?_, he, ?_⟩
      · simp only [core, Nat.reduceAdd, Nat.reduceSub, Nat.reduceMul, Nat.reduceLT, Nat.reduceEqDiff, reduceCtorEq, Nat.reduceLeDiff, Int.reduceLE, Int.reduceLT, Int.reduceToNat, g3]
        rfl
      · simp only [core, Nat.reduceAdd, Nat.reduceSub, Nat.reduceMul, Nat.reduceLT, Nat.reduceEqDiff, reduceCtorEq, Nat.reduceLeDiff, Int.reduceLE, Int.reduceLT, Int.reduceToNat, hn, g1, g2, g11, g12, g13]
        (repeat' apply And.intro) <;> first | rfl | trivial
  · refine ⟨?_, Ext.refl _ _, ?_⟩
    · simp only [core, Nat.reduceAdd, Nat.reduceSub, Nat.reduceMul, Nat.reduceLT, Nat.reduceEqDiff, reduceCtorEq, Nat.reduceLeDiff, Int.reduceLE, Int.reduceLT, Int.reduceToNat]
      rfl
    · simp only [core, Nat.reduceAdd, Nat.reduceSub, Nat.reduceMul, Nat.reduceLT, Nat.reduceEqDiff, reduceCtorEq, Nat.reduceLeDiff, Int.reduceLE, Int.reduceLT, Int.reduceToNat]
      (repeat' apply And.intro) <;> first | rfl | trivial
end Go.Proofs.Ytkgbeihcepociaa.Ex
end

section

set_option linter.unusedSimpArgs false
set_option linter.unusedVariables false
set_option maxRecDepth 10000
set_option maxHeartbeats 4000000
namespace Go.Proofs.Ytkgbeihcepociaa.Ex
open Go
/-- Elements that hold no addresses. -/
def FlatR {α : Type} (R : Rep α) : Prop := ∀ (F G : Nat → Prop) (h h' : AH) (c : List AV) (x : α), R.is F h c x → R.is G h' c x
theorem flat_int : FlatR RInt := fun F G h h' c x hh => hh
theorem flat_osd : FlatR ROsd := fun F G h h' c x hh => ROsd_is.2 (ROsd_is.1 hh)
theorem flat_pool : FlatR RPool := fun F G h h' c x hh => RPool_is.2 (RPool_is.1 hh)
section
variable {α : Type} {R : Rep α}
/-- A row of the run's own, or an empty one without room. -/
def OwnE (R : Rep α) (n0 : Nat) (h : AH) (d : AV) (e : TypeId) (xs : List α) : Prop := OwnL R (fun _ => False) n0 h d e xs ∨ (xs = [] ∧ ∃ p, n0 ≤ p ∧ d = .sl p 0 0 (.kn 0) ∧ h.at p = some (.cells [] e))
theorem OwnE.ext {n0 m : Nat} {h h' : AH} {d : AV} {e : TypeId} {xs : List α} (hd : OwnE R n0 h d e xs) (he : Ext m h h') (hm : h.n ≤ m) : OwnE R n0 h' d e xs := by
  rcases hd with ho | ⟨rfl, p, hp, rfl, hat⟩
  · exact .inl (ho.ext he hm)
  · exact .inr ⟨rfl, p, hp, rfl, (he.2 _ (by have := at_lt hat; omega)).trans hat⟩
theorem OwnE.toSl {F : Nat → Prop} {n0 : Nat} {h : AH} {d : AV} {e : TypeId} {xs : List α} (hd : OwnE R n0 h d e xs) (h1 : ∀ b, n0 ≤ b → F b) : IsSl R F h d xs := by
  rcases hd with ho | ⟨rfl, p, hp0, rfl, hp⟩
  · exact ho.toSl (fun _ hf => hf.elim) h1
  · exact .mk (L := []) ⟨by simp, .inr ⟨p, 0, _, [], rfl, by unfold getR; rw [hp], by simp [cut]⟩⟩ (fun b off n cap e => by cases e; exact h1 _ hp0) (fun b off n cap e => by cases e; exact Nat.le_refl 0) .nil
theorem OwnE.apart {n0 : Nat} {h : AH} {d : AV} {e : TypeId} {xs : List α} (hd : OwnE R n0 h d e xs) {b : Nat} (hb : h.n ≤ b) : Apart d b := by
  rcases hd with ho | ⟨rfl, p, hp, rfl, hat⟩
  · exact ho.apart hb
  · have := at_lt hat
    exact fun off n cap e => by cases e; omega
theorem OwnE.mono {n0 n1 : Nat} {h : AH} {d : AV} {e : TypeId} {xs : List α} (hd : OwnE R n0 h d e xs) (hn : n1 ≤ n0) : OwnE R n1 h d e xs := by
  rcases hd with ⟨L, h1, h2⟩ | ⟨rfl, p, hp, rfl, hat⟩
  · refine .inl ⟨L, ⟨h1.1, ?_⟩, h2⟩
    rcases h1.2 with hh | ⟨p, rfl, hp, hat⟩
    · exact .inl hh
    · exact .inr ⟨p, rfl, by omega, hat⟩
  · exact .inr ⟨rfl, p, by omega, rfl, hat⟩
/-- What is appended to an empty slice without room. -/
theorem dn_flat {T : TT} {n0 : Nat} {F : Nat → Prop} {H : AH} {v zv : AV} {t e : TypeId} {by' p : Nat} {xs : List α} (hR : FlatR R) (hu : und T t = some (.slice e)) (hz : sizeT T e = some R.z) (hzv : zeroT T e = some zv) (hb : bytesT T e = some by')
    (hzl : zv.cells.length = R.z) (h0 : 0 < R.z) (h200 : R.z ≤ 200) (hv : IsSl R F H v xs) (hn : xs.length ≤ 4611686018427387904) (hl : xs.length * by' ≤ 140737488355328) (hp : H.at p = some (.cells [] e)) (hp0 : n0 ≤ p) (hn0 : n0 ≤ H.n) :
    ∃ s' h', appendA T H t t (.sl p 0 0 (.kn 0)) v = some (s', h') ∧ OwnE R n0 h' s' e xs ∧ Ext H.n H h' := by
  obtain ⟨L, h1, h2, h3, h4⟩ := hv.out
  have e0 := h4.1
  rcases append_fresh (T := T) (h := H) (t := t) (tx := t) (e := e) (M := L) (p := p) (x := v) hu hu hz hzv hb hzl h0 h200 hp h1.src h1.len h4.lens h4.ones (by omega) (by rw [e0]; exact hl) with ⟨hM, ha⟩ | ⟨hM, ha⟩
  · subst hM
    obtain rfl : xs = [] := List.eq_nil_of_length_eq_zero (by rw [← e0]; rfl)
    exact ⟨_, _, ha, .inr ⟨rfl, p, hp0, rfl, hp⟩, Ext.refl _ _⟩
  · refine ⟨_, _, ha, .inl ⟨L, ⟨h4.lens, .inr ⟨H.n, ?_, hn0, at_push_n _ _⟩⟩, ⟨e0, fun i c x a b => hR _ _ _ _ _ _ (h4.2 i c x a b)⟩⟩, (Ext.refl _ _).push _ (Nat.le_refl _)⟩
    rfl
end
theorem cloneI_o {F : Nat → Prop} {H : AH} {v : AV} {xs : List Int} (hv : IsSl RInt F H v xs) (hl : Sm 8 xs) :
    WC Try.prog (tabOf Try.prog NT0) S0 88 [v] H fun r h' => Ext H.n H h' ∧ OwnE RInt H.n h' r 3 xs := by
  refine WC_fn Try.func88 rfl rfl ?_
  unfold Sm at hl
  have s1 := hv.isSl
  have s2 := hv.lenD
  simp only [core, Nat.reduceAdd, Nat.reduceSub, Nat.reduceMul, Nat.reduceLT, Nat.reduceEqDiff, reduceCtorEq, Nat.reduceLeDiff, Int.reduceLE, Int.reduceLT, Int.reduceToNat, Try.ntmps88, s1, s2]
  refine ⟨fun he => ?_, fun he => ?_⟩
  · obtain rfl := hv.empty he
    exact ⟨Ext.refl _ _, .inl OwnL.nil⟩
  · have hv2 : IsSl RInt F (H.push (.cells [] 3)) v xs := hv.ext ((Ext.refl H.n H).push _ (Nat.le_refl _)) (Nat.le_refl _)
    refine WOp_app (dn_flat (n0 := H.n) flat_int (by kernel_rfl) (by kernel_rfl) (zv := .lit (.int .i64 0)) (by kernel_rfl) (by' := 8) (by kernel_rfl) rfl (by decide) (by decide) hv2 (by omega) (by omega) (at_push_n H _) (Nat.le_refl _) (by rw [n_push]; omega)) ?_
    rintro s' h' ⟨e1, e2⟩
    have v1 := (e1.toSl (F := fun _ => True) (fun _ _ => trivial)).isSl
    simp only [core, Nat.reduceAdd, Nat.reduceSub, Nat.reduceMul, Nat.reduceLT, Nat.reduceEqDiff, reduceCtorEq, Nat.reduceLeDiff, Int.reduceLE, Int.reduceLT, Int.reduceToNat, v1]
    exact ⟨((Ext.refl H.n H).push _ (Nat.le_refl _)).trans (e2.mono (by rw [n_push]; omega)), e1⟩
theorem cloneO_o {F : Nat → Prop} {H : AH} {v : AV} {xs : List OsdD} (hv : IsSl ROsd F H v xs) (hl : Sm 40 xs) :
    WC Try.prog (tabOf Try.prog NT0) S0 116 [v] H fun r h' => Ext H.n H h' ∧ OwnE ROsd H.n h' r 43 xs := by
  refine WC_fn Try.func116 rfl rfl ?_
  unfold Sm at hl
  have s1 := hv.isSl
  have s2 := hv.lenD
  simp only [core, Nat.reduceAdd, Nat.reduceSub, Nat.reduceMul, Nat.reduceLT, Nat.reduceEqDiff, reduceCtorEq, Nat.reduceLeDiff, Int.reduceLE, Int.reduceLT, Int.reduceToNat, Try.ntmps116, s1, s2]
  refine ⟨fun he => ?_, fun he => ?_⟩
  · obtain rfl := hv.empty he
    exact ⟨Ext.refl _ _, .inl OwnL.nil⟩
  · have hv2 : IsSl ROsd F (H.push (.cells [] 43)) v xs := hv.ext ((Ext.refl H.n H).push _ (Nat.le_refl _)) (Nat.le_refl _)
    refine WOp_app (dn_flat (n0 := H.n) flat_osd (by kernel_rfl) (by kernel_rfl) (zv := .agg [.lit (.bool false), .lit (.bool false), .lit (.int .i64 0), .lit (.int .i64 0), .lit (.int .i64 0), .lit (.int .i64 0)]) (by kernel_rfl) (by' := 40) (by kernel_rfl) rfl (by decide) (by decide) hv2 (by omega) (by omega) (at_push_n H _) (Nat.le_refl _) (by rw [n_push]; omega)) ?_
    rintro s' h' ⟨e1, e2⟩
    have v1 := (e1.toSl (F := fun _ => True) (fun _ _ => trivial)).isSl
    simp only [core, Nat.reduceAdd, Nat.reduceSub, Nat.reduceMul, Nat.reduceLT, Nat.reduceEqDiff, reduceCtorEq, Nat.reduceLeDiff, Int.reduceLE, Int.reduceLT, Int.reduceToNat, v1]
    exact ⟨((Ext.refl H.n H).push _ (Nat.le_refl _)).trans (e2.mono (by rw [n_push]; omega)), e1⟩
theorem cloneP_o {F : Nat → Prop} {H : AH} {v : AV} {xs : List PoolD} (hv : IsSl RPool F H v xs) (hl : Sm 32 xs) :
    WC Try.prog (tabOf Try.prog NT0) S0 117 [v] H fun r h' => Ext H.n H h' ∧ OwnE RPool H.n h' r 94 xs := by
  refine WC_fn Try.func117 rfl rfl ?_
  unfold Sm at hl
  have s1 := hv.isSl
  have s2 := hv.lenD
  simp only [core, Nat.reduceAdd, Nat.reduceSub, Nat.reduceMul, Nat.reduceLT, Nat.reduceEqDiff, reduceCtorEq, Nat.reduceLeDiff, Int.reduceLE, Int.reduceLT, Int.reduceToNat, Try.ntmps117, s1, s2]
  refine ⟨fun he => ?_, fun he => ?_⟩
  · obtain rfl := hv.empty he
    exact ⟨Ext.refl _ _, .inl OwnL.nil⟩
  · have hv2 : IsSl RPool F (H.push (.cells [] 94)) v xs := hv.ext ((Ext.refl H.n H).push _ (Nat.le_refl _)) (Nat.le_refl _)
    refine WOp_app (dn_flat (n0 := H.n) flat_pool (by kernel_rfl) (by kernel_rfl) (zv := .agg [.lit (.int .i64 0), .lit (.int .i64 0), .lit (.int .i64 0), .lit (.int .i64 0)]) (by kernel_rfl) (by' := 32) (by kernel_rfl) rfl (by decide) (by decide) hv2 (by omega) (by omega) (at_push_n H _) (Nat.le_refl _) (by rw [n_push]; omega)) ?_
    rintro s' h' ⟨e1, e2⟩
    have v1 := (e1.toSl (F := fun _ => True) (fun _ _ => trivial)).isSl
    simp only [core, Nat.reduceAdd, Nat.reduceSub, Nat.reduceMul, Nat.reduceLT, Nat.reduceEqDiff, reduceCtorEq, Nat.reduceLeDiff, Int.reduceLE, Int.reduceLT, Int.reduceToNat, v1]
    exact ⟨((Ext.refl H.n H).push _ (Nat.le_refl _)).trans (e2.mono (by rw [n_push]; omega)), e1⟩
end Go.Proofs.Ytkgbeihcepociaa.Ex
end

section

set_option linter.unusedSimpArgs false
set_option linter.unusedVariables false
set_option maxRecDepth 10000
set_option maxHeartbeats 4000000
namespace Go.Proofs.Ytkgbeihcepociaa.Ex
open Go
def osd0 : OsdD := ⟨false, false, 0, 0, 0, 0⟩
def osdG (m : MapD) (n : Int) : OsdD := if 0 ≤ n then m.osds.getD n.toNat osd0 else osd0
theorem empty_x {H : AH} : WC Try.prog (tabOf Try.prog NT0) S0 56 [] H fun r h' => Ext H.n H h' ∧ r = mpV ⟨0, [], [], [], 0⟩ (.lit (.slice none 0 0)) (.lit (.slice none 0 0)) (.lit (.slice none 0 0)) := by
  refine WC_fn Try.func56 rfl rfl ?_
  simp only [core, Nat.reduceAdd, Nat.reduceSub, Nat.reduceMul, Nat.reduceLT, Nat.reduceEqDiff, reduceCtorEq, Nat.reduceLeDiff, Int.reduceLE, Int.reduceLT, Int.reduceToNat, Try.ntmps56]
  exact ⟨(Ext.refl _ _).push _ (Nat.le_refl _), rfl⟩
theorem osd_x {F : Nat → Prop} {H : AH} {m : MapD} {vo vp vb : AV} (n : Int) (hm : MpAt F H m vo vp vb) (hl : Sm 40 m.osds) :
    WC Try.prog (tabOf Try.prog NT0) S0 107 [mpV m vo vp vb, .lit (.int .i64 n)] H fun r h' => Ext H.n H h' ∧ r = osdV (osdG m n) := by
  refine WC_fn Try.func107 rfl rfl ?_
  unfold Sm at hl
  have s1 := hm.o.isSl
  have s2 := hm.o.lenD
  have o1 := hm.o.one
  have o2 := hm.p.one
  have o3 := hm.b.one
  have E0 : Ext H.n H ((H.push (.cells [.lit (.int .i64 m.epoch), vo, vp, vb, .lit (.int .i64 m.leaf)] 31)).push (.cells [.lit (.bool false), .lit (.bool false), .lit (.int .i64 0), .lit (.int .i64 0), .lit (.int .i64 0), .lit (.int .i64 0)] 43)) := ((Ext.refl _ _).push _ (Nat.le_refl _)).push _ (by rw [n_push]; omega)
  by_cases h0 : n < 0
  · have hG : osdG m n = osd0 := by unfold osdG; rw [if_neg (by omega)]
    simp only [core, Nat.reduceAdd, Nat.reduceSub, Nat.reduceMul, Nat.reduceLT, Nat.reduceEqDiff, reduceCtorEq, Nat.reduceLeDiff, Int.reduceLE, Int.reduceLT, Int.reduceToNat, Try.ntmps107, mpV, s1, s2, o1, o2, o3, h0]
    rw [hG]
    exact ⟨((Ext.refl _ _).push _ (Nat.le_refl _)).push _ (by rw [n_push]; omega), rfl⟩
  · obtain ⟨k, rfl⟩ : ∃ k : Nat, n = (k : Int) := ⟨n.toNat, by omega⟩
    by_cases h1 : (m.osds.length : Int) ≤ (k : Int)
    · have hG : osdG m (k : Int) = osd0 := by
        unfold osdG
        rw [if_pos (by omega), List.getD_eq_getElem?_getD, List.getElem?_eq_none (by simp only [Int.toNat_natCast]; omega)]
        rfl
      simp only [core, Nat.reduceAdd, Nat.reduceSub, Nat.reduceMul, Nat.reduceLT, Nat.reduceEqDiff, reduceCtorEq, Nat.reduceLeDiff, Int.reduceLE, Int.reduceLT, Int.reduceToNat, Try.ntmps107, mpV, s1, s2, o1, o2, o3, h0, h1]
      rw [hG]
      exact ⟨((Ext.refl _ _).push _ (Nat.le_refl _)).push _ (by rw [n_push]; omega), rfl⟩
    · have hlt : k < m.osds.length := by omega
      obtain ⟨x, hx⟩ : ∃ x, m.osds[k]? = some x := ⟨_, List.getElem?_eq_getElem hlt⟩
      have hG : osdG m (k : Int) = x := by
        unfold osdG
        rw [if_pos (by omega), List.getD_eq_getElem?_getD, Int.toNat_natCast, hx]
        rfl
      obtain ⟨c, hc1, hld, hld0⟩ := hm.o.atE (T := tabOf Try.prog NT0) E0 ROsd_z hx
      obtain ⟨rfl, -⟩ := ROsd_is.1 hc1
      simp only [core, Nat.reduceAdd, Nat.reduceSub, Nat.reduceMul, Nat.reduceLT, Nat.reduceEqDiff, reduceCtorEq, Nat.reduceLeDiff, Int.reduceLE, Int.reduceLT, Int.reduceToNat, Try.ntmps107, mpV, s1, s2, o1, o2, o3, h0, h1, hlt, hld, hld0]
      rw [hG]
      exact ⟨((Ext.refl _ _).push _ (Nat.le_refl _)).push _ (by rw [n_push]; omega), rfl⟩
theorem osdR_x {F : Nat → Prop} {H : AH} {m : MapD} {vo vp vb : AV} (n : Int) (hm : MpAt F H m vo vp vb) (hl : Sm 40 m.osds) :
    WC Try.prog (tabOf Try.prog NT0) S0 111 [mpV m vo vp vb, .lit (.int .i64 n)] H fun r h' => Ext H.n H h' ∧ r = osdV (osdG m n) := by
  refine WC_fn Try.func111 rfl rfl ?_
  unfold Sm at hl
  have s1 := hm.o.isSl
  have s2 := hm.o.lenD
  have o1 := hm.o.one
  have o2 := hm.p.one
  have o3 := hm.b.one
  have E0 : Ext H.n H ((H.push (.cells [.lit (.int .i64 m.epoch), vo, vp, vb, .lit (.int .i64 m.leaf)] 31)).push (.cells [.lit (.bool false), .lit (.bool false), .lit (.int .i64 0), .lit (.int .i64 0), .lit (.int .i64 0), .lit (.int .i64 0)] 43)) := ((Ext.refl _ _).push _ (Nat.le_refl _)).push _ (by rw [n_push]; omega)
  by_cases h0 : n < 0
  · have hG : osdG m n = osd0 := by unfold osdG; rw [if_neg (by omega)]
    simp only [core, Nat.reduceAdd, Nat.reduceSub, Nat.reduceMul, Nat.reduceLT, Nat.reduceEqDiff, reduceCtorEq, Nat.reduceLeDiff, Int.reduceLE, Int.reduceLT, Int.reduceToNat, Try.ntmps111, mpV, s1, s2, o1, o2, o3, h0]
    rw [hG]
    exact ⟨((Ext.refl _ _).push _ (Nat.le_refl _)).push _ (by rw [n_push]; omega), rfl⟩
  · obtain ⟨k, rfl⟩ : ∃ k : Nat, n = (k : Int) := ⟨n.toNat, by omega⟩
    by_cases h1 : (m.osds.length : Int) ≤ (k : Int)
    · have hG : osdG m (k : Int) = osd0 := by
        unfold osdG
        rw [if_pos (by omega), List.getD_eq_getElem?_getD, List.getElem?_eq_none (by simp only [Int.toNat_natCast]; omega)]
        rfl
      simp only [core, Nat.reduceAdd, Nat.reduceSub, Nat.reduceMul, Nat.reduceLT, Nat.reduceEqDiff, reduceCtorEq, Nat.reduceLeDiff, Int.reduceLE, Int.reduceLT, Int.reduceToNat, Try.ntmps111, mpV, s1, s2, o1, o2, o3, h0, h1]
      rw [hG]
      exact ⟨((Ext.refl _ _).push _ (Nat.le_refl _)).push _ (by rw [n_push]; omega), rfl⟩
    · have hlt : k < m.osds.length := by omega
      obtain ⟨x, hx⟩ : ∃ x, m.osds[k]? = some x := ⟨_, List.getElem?_eq_getElem hlt⟩
      have hG : osdG m (k : Int) = x := by
        unfold osdG
        rw [if_pos (by omega), List.getD_eq_getElem?_getD, Int.toNat_natCast, hx]
        rfl
      obtain ⟨c, hc1, hld, hld0⟩ := hm.o.atE (T := tabOf Try.prog NT0) E0 ROsd_z hx
      obtain ⟨rfl, -⟩ := ROsd_is.1 hc1
      simp only [core, Nat.reduceAdd, Nat.reduceSub, Nat.reduceMul, Nat.reduceLT, Nat.reduceEqDiff, reduceCtorEq, Nat.reduceLeDiff, Int.reduceLE, Int.reduceLT, Int.reduceToNat, Try.ntmps111, mpV, s1, s2, o1, o2, o3, h0, h1, hlt, hld, hld0]
      rw [hG]
      exact ⟨((Ext.refl _ _).push _ (Nat.le_refl _)).push _ (by rw [n_push]; omega), rfl⟩
end Go.Proofs.Ytkgbeihcepociaa.Ex
end
