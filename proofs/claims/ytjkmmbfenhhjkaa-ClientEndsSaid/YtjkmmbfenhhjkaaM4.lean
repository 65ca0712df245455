/- Part 4 of the proof: Hash, Ln, Fast, Efb, Good, Word, Mix, Name, NameE, Csm, ExcL, Sl2, Ty, Cd1, Str, Bkt, Bk2, Gd1, Pl1, Cd2, Cd3, Cd4, Cd5, Con, Cd6, Om1, Om2, Om3, Om4, Par, May, Mpc, Chk, Ck2, Abs, Open. -/
import Derived.Test.YtjkmmbfenhhjkaaRows
import Derived.Lib.MinMax
import Derived.ProofKit
import Derived.OpenShut
import Derived.ShutString
import Derived.ChangeOld
import Derived.SizedLaws
import Derived.Test.YtjkmmbfenhhjkaaM3
open Nat renaming reduceAdd → zrA, reduceSub → zrS, reduceMul → zrM, reduceLT → zrL, reduceEqDiff → zrE, reduceLeDiff → zrD, reduceShiftRight → zrR, reduceMod → zrO
open Int renaming reduceLE → ziE, reduceLT → ziL, reduceToNat → ziN
section

set_option linter.unusedSimpArgs false
set_option linter.unusedVariables false
set_option maxRecDepth 10000
set_option maxHeartbeats 4000000
namespace Go.Proofs.Ytjkmmbfenhhjkaa.Ex
open Go
abbrev I3 := Int × Int × Int
/-- One round of MIX. -/
def mixR (s0 s1 s2 : Int) (x : I3) : I3 :=
  let a := xorI .u32 (IntKind.u32.wrap (IntKind.u32.wrap (x.1 - x.2.1) - x.2.2)) (shrI .u32 x.2.2 s0)
  let b := xorI .u32 (IntKind.u32.wrap (IntKind.u32.wrap (x.2.1 - x.2.2) - a)) (shlI .u32 a s1)
  let c := xorI .u32 (IntKind.u32.wrap (IntKind.u32.wrap (x.2.2 - a) - b)) (shrI .u32 b s2)
  (a, b, c)
def mixN : Nat → I3 → I3
  | 0, x => x
  | 1, x => mixR 13 8 13 x
  | 2, x => mixR 12 16 5 (mixR 13 8 13 x)
  | _, x => mixR 3 10 15 (mixR 12 16 5 (mixR 13 8 13 x))
def mix3 (x : I3) : I3 := mixN 3 x
def u3 (a : Int) : AV := .lit (.int .u32 a)
def mixTab : AV := .agg [.lit (.int .i64 13), .lit (.int .i64 8), .lit (.int .i64 13), .lit (.int .i64 12), .lit (.int .i64 16), .lit (.int .i64 5), .lit (.int .i64 3), .lit (.int .i64 10), .lit (.int .i64 15)]
theorem mixV0 : pur Try.prog (Instr.index 171 (.agg #[.int .i64 13, .int .i64 8, .int .i64 13, .int .i64 12, .int .i64 16, .int .i64 5, .int .i64 3, .int .i64 10, .int .i64 15]) (.int .i64 0)) = some (.ok (.agg #[.int .i64 13, .int .i64 8, .int .i64 13])) := by kernel_rfl
theorem mixV1 : pur Try.prog (Instr.index 171 (.agg #[.int .i64 13, .int .i64 8, .int .i64 13, .int .i64 12, .int .i64 16, .int .i64 5, .int .i64 3, .int .i64 10, .int .i64 15]) (.int .i64 1)) = some (.ok (.agg #[.int .i64 12, .int .i64 16, .int .i64 5])) := by kernel_rfl
theorem mixV2 : pur Try.prog (Instr.index 171 (.agg #[.int .i64 13, .int .i64 8, .int .i64 13, .int .i64 12, .int .i64 16, .int .i64 5, .int .i64 3, .int .i64 10, .int .i64 15]) (.int .i64 2)) = some (.ok (.agg #[.int .i64 3, .int .i64 10, .int .i64 15])) := by kernel_rfl
section
variable {t : TM} {h : AH} {d : Option Tmp} {ty : TypeId} {ps : String} {af : Array Edge} {g : Option (Nat × Bool)}
theorem mixTab0 {i j : Nat} (hx : t.get i = mixTab) (hy : t.get j = .lit (.int .i64 0)) : aop Try.prog (tabOf Try.prog NT0) ⟨d, .index 171 (.tmp i) (.tmp j), ty, ps, af, g⟩ t h = some (.val (.agg [.lit (.int .i64 13), .lit (.int .i64 8), .lit (.int .i64 13)]), h) :=
  a_index_lit (by rw [hx]; rfl) (by rw [hy]; rfl) mixV0 rfl
theorem mixTab1 {i j : Nat} (hx : t.get i = mixTab) (hy : t.get j = .lit (.int .i64 1)) : aop Try.prog (tabOf Try.prog NT0) ⟨d, .index 171 (.tmp i) (.tmp j), ty, ps, af, g⟩ t h = some (.val (.agg [.lit (.int .i64 12), .lit (.int .i64 16), .lit (.int .i64 5)]), h) :=
  a_index_lit (by rw [hx]; rfl) (by rw [hy]; rfl) mixV1 rfl
theorem mixTab2 {i j : Nat} (hx : t.get i = mixTab) (hy : t.get j = .lit (.int .i64 2)) : aop Try.prog (tabOf Try.prog NT0) ⟨d, .index 171 (.tmp i) (.tmp j), ty, ps, af, g⟩ t h = some (.val (.agg [.lit (.int .i64 3), .lit (.int .i64 10), .lit (.int .i64 15)]), h) :=
  a_index_lit (by rw [hx]; rfl) (by rw [hy]; rfl) mixV2 rfl
end
theorem trio_x {H : AH} {p : Nat} {x : I3} (hp : H.at p = some (.cells [.lit (.int .u32 x.1), .lit (.int .u32 x.2.1), .lit (.int .u32 x.2.2)] 159)) :
    WC Try.prog (tabOf Try.prog NT0) S00 57 [.ptr p 0] H fun r h' => h'.at p = some (.cells [.lit (.int .u32 (mix3 x).1), .lit (.int .u32 (mix3 x).2.1), .lit (.int .u32 (mix3 x).2.2)] 159) ∧ H.n ≤ h'.n ∧ ∀ q, q < H.n → q ≠ p → h'.at q = H.at q := by
  refine WC_fn Try.func57 rfl rfl ?_
  have hlt := at_lt hp
  have L0 := fun e off => ld_at (T := tabOf Try.prog NT0) hp e off
  simp only [core, zrA, zrS, zrM, zrL, zrE, reduceCtorEq, zrD, ziE, ziL, ziN, Try.ntmps57]
  rw [WB_regionD [0, 1, 2, 3, 4, 5, 6, 7, 8, 9, 10, 11, 12, 13, 14] 26958519655973595170767904528538414010378582634470141901892646633472 (by kernel_rfl)]
  repeat ((with_reducible refine WDM_cons ?_; simp only [dw1]; try simp only [dw2, zrA, zrM, zrR, zrO, zrE]); simp only [core, zrA, zrS, zrM, zrL, zrE, reduceCtorEq, zrD, ziE, ziL, ziN, cored, L0])
  refine WB_for 3 (fun i t h => Ext H.n H h ∧ t.n = 63 ∧ t.get 0 = .ptr p 0 ∧ t.get 2 = .lit (.int .u32 (mixN i x).1) ∧ t.get 3 = .lit (.int .u32 (mixN i x).2.1) ∧ t.get 4 = .lit (.int .u32 (mixN i x).2.2) ∧ t.get 22 = mixTab ∧ t.get 23 = .lit (.int .i64 i)) ?_ ?_ _ _ ?_
  · rintro i t h hi hc ⟨he, hn, g0, g2, g3, g4, g22, g23⟩ ih
    have hi3 : i = 0 ∨ i = 1 ∨ i = 2 := by omega
    rcases hi3 with rfl | rfl | rfl
    · have g23 : t.get 23 = .lit (.int .i64 0) := g23
      have hw : IntKind.i64.wrap ((0 : Int) + 1) = ((0 + 1 : Nat) : Int) := by decide
      have hc : ((0 : Int) < 3) = True := by decide
      simp only [core, zrA, zrS, zrM, zrL, zrE, reduceCtorEq, zrD, ziE, ziL, ziN, hn, g0, g2, g3, g4, g22, g23, hc, hw, mixTab0]
      refine ih _ _ ?_
      simp only [core, zrA, zrS, zrM, zrL, zrE, reduceCtorEq, zrD, ziE, ziL, ziN, hn, g0, g2, g3, g4, g22, g23]
      refine ⟨he.push _ he.1, ?_⟩
      (repeat' apply And.intro) <;> first | rfl | trivial
    · have g23 : t.get 23 = .lit (.int .i64 1) := g23
      have hw : IntKind.i64.wrap ((1 : Int) + 1) = ((1 + 1 : Nat) : Int) := by decide
      have hc : ((1 : Int) < 3) = True := by decide
      simp only [core, zrA, zrS, zrM, zrL, zrE, reduceCtorEq, zrD, ziE, ziL, ziN, hn, g0, g2, g3, g4, g22, g23, hc, hw, mixTab1]
      refine ih _ _ ?_
      simp only [core, zrA, zrS, zrM, zrL, zrE, reduceCtorEq, zrD, ziE, ziL, ziN, hn, g0, g2, g3, g4, g22, g23]
      refine ⟨he.push _ he.1, ?_⟩
      (repeat' apply And.intro) <;> first | rfl | trivial
    · have g23 : t.get 23 = .lit (.int .i64 2) := g23
      have hw : IntKind.i64.wrap ((2 : Int) + 1) = ((2 + 1 : Nat) : Int) := by decide
      have hc : ((2 : Int) < 3) = True := by decide
      simp only [core, zrA, zrS, zrM, zrL, zrE, reduceCtorEq, zrD, ziE, ziL, ziN, hn, g0, g2, g3, g4, g22, g23, hc, hw, mixTab2]
      refine ih _ _ ?_
      simp only [core, zrA, zrS, zrM, zrL, zrE, reduceCtorEq, zrD, ziE, ziL, ziN, hn, g0, g2, g3, g4, g22, g23]
      refine ⟨he.push _ he.1, ?_⟩
      (repeat' apply And.intro) <;> first | rfl | trivial
  · rintro t h hc ⟨he, hn, g0, g2, g3, g4, g22, g23⟩
    have g23 : t.get 23 = .lit (.int .i64 3) := g23
    have hc : ((3 : Int) < 3) = False := by decide
    have hp2 : h.at p = some (.cells [.lit (.int .u32 x.1), .lit (.int .u32 x.2.1), .lit (.int .u32 x.2.2)] 159) := (he.2 p hlt).trans hp
    have hlt2 : p < h.n := at_lt hp2
    simp only [core, zrA, zrS, zrM, zrL, zrE, reduceCtorEq, zrD, ziE, ziL, ziN, hn, g0, g2, g3, g4, g22, g23, hc, hp2]
    refine ⟨.inl trivial, at_put_same _ hlt2, he.1, fun q hq hqp => ?_⟩
    rw [at_put_ne _ (Ne.symm hqp)]
    exact he.2 q hq
  · simp only [core, zrA, zrS, zrM, zrL, zrE, reduceCtorEq, zrD, ziE, ziL, ziN]
    refine ⟨Ext.refl _ _, ?_⟩
    (repeat' apply And.intro) <;> first | rfl | trivial
/-- A number in a block of its own. -/
def Bx (h : AH) (p : Nat) (a : Int) : Prop := h.at p = some (.cells [.lit (.int .u32 a)] 137)
theorem mix_x {H : AH} {p q r : Nat} {x : I3} (hp : Bx H p x.1) (hq : Bx H q x.2.1) (hr : Bx H r x.2.2) (pq : p ≠ q) (pr : p ≠ r) (qr : q ≠ r) :
    WC Try.prog (tabOf Try.prog NT0) S00 61 [.ptr p 0, .ptr q 0, .ptr r 0] H fun _ h' => Bx h' p (mix3 x).1 ∧ Bx h' q (mix3 x).2.1 ∧ Bx h' r (mix3 x).2.2 ∧ H.n ≤ h'.n ∧ ∀ b, b < H.n → b ≠ p → b ≠ q → b ≠ r → h'.at b = H.at b := by
  refine WC_fn Try.func61 rfl rfl ?_
  have lp := at_lt hp
  have lq := at_lt hq
  have lr := at_lt hr
  have Lp := fun e off => ld_at (T := tabOf Try.prog NT0) hp e off
  have Lq := fun e off => ld_at (T := tabOf Try.prog NT0) hq e off
  have Lr := fun e off => ld_at (T := tabOf Try.prog NT0) hr e off
  simp only [core, zrA, zrS, zrM, zrL, zrE, reduceCtorEq, zrD, ziE, ziL, ziN, Try.ntmps61]
  rw [WB_regionD [0, 1, 2, 3, 4, 5, 6, 7, 8, 9, 10, 11] 11144928247238770519951308239364144742010880 (by kernel_rfl)]
  repeat ((with_reducible refine WDM_cons ?_; simp only [dw1]; try simp only [dw2, zrA, zrM, zrR, zrO, zrE]); simp only [core, zrA, zrS, zrM, zrL, zrE, reduceCtorEq, zrD, ziE, ziL, ziN, cored, Lp, Lq, Lr, lp, lq, lr])
  refine (trio_x (x := x) (at_push_n H _)).mono ?_
  rintro _ h1 ⟨h2, h3, h4⟩
  rw [n_push] at h3 h4
  have e1 : ∀ b, b < H.n → h1.at b = H.at b := fun b hb => (h4 b (by omega) (by omega)).trans (at_push_lt _ hb)
  have l0 : H.n < h1.n := by omega
  have lp1 : p < h1.n := by omega
  have lq1 : q < h1.n := by omega
  have lr1 : r < h1.n := by omega
  have L0 := fun e off => ld_at (T := tabOf Try.prog NT0) h2 e off
  have P1 := (e1 p lp).trans hp
  have Q1 := (e1 q lq).trans hq
  have R1 := (e1 r lr).trans hr
  simp only [core, zrA, zrS, zrM, zrL, zrE, reduceCtorEq, zrD, ziE, ziL, ziN, L0, P1, Q1, R1, pq, pr, qr, lp1, lq1, lr1]
  refine ⟨.inl trivial, ?_, ?_, ?_, by omega, fun b hb b1 b2 b3 => ?_⟩
  · unfold Bx
    rw [at_put_ne _ (Ne.symm pr), at_put_ne _ (Ne.symm pq), at_put_same _ lp1]
  · unfold Bx
    rw [at_put_ne _ (Ne.symm qr), at_put_same _ (by rw [n_put]; exact lq1)]
  · unfold Bx
    rw [at_put_same _ (by rw [n_put, n_put]; exact lr1)]
  · rw [at_put_ne _ (Ne.symm b3), at_put_ne _ (Ne.symm b2), at_put_ne _ (Ne.symm b1)]
    exact e1 b hb
theorem Bx.ld {h : AH} {p : Nat} {a : Int} (hb : Bx h p a) (e off : Nat) : loadA (tabOf Try.prog NT0) h e p off = ldL (tabOf Try.prog NT0) e [.lit (.int .u32 a)] off := ld_at hb e off
theorem Bx.new {h : AH} {a : Int} {p : Nat} (hp : p = h.n) : Bx (h.push (.cells [.lit (.int .u32 a)] 137)) p a := by subst hp; exact at_push_n h _
theorem Bx.old {h : AH} {a : Int} {p : Nat} {x : AB} (hb : Bx h p a) : Bx (h.push x) p a := (at_push_lt _ (at_lt hb)).trans hb
theorem Bx.put {h : AH} {a b : Int} {p : Nat} (hb : Bx h p a) : Bx (h.put p (.cells [.lit (.int .u32 b)] 137)) p b := at_put_same _ (at_lt hb)
theorem Bx.keep {h : AH} {a : Int} {p q : Nat} {x : AB} (hb : Bx h p a) (hne : q ≠ p) : Bx (h.put q x) p a := (at_put_ne _ hne).trans hb
theorem Bx.lt {h : AH} {a : Int} {p : Nat} (hb : Bx h p a) : p < h.n := at_lt hb
theorem Bx.after {h h' : AH} {a : Int} {b p q r : Nat} (hb : Bx h b a) (hk : ∀ c, c < h.n → c ≠ p → c ≠ q → c ≠ r → h'.at c = h.at c) (h1 : b ≠ p) (h2 : b ≠ q) (h3 : b ≠ r) : Bx h' b a := (hk b hb.lt h1 h2 h3).trans hb
def hash2F (a b : Int) : Int :=
  let t := mix3 (a, b, xorI .u32 (xorI .u32 1315423911 a) b)
  let u := mix3 (231232, t.1, t.2.2)
  (mix3 (t.2.1, 1232, u.2.2)).2.2
def hash3F (a b c : Int) : Int :=
  let t := mix3 (a, b, xorI .u32 (xorI .u32 (xorI .u32 1315423911 a) b) c)
  let u := mix3 (c, 231232, t.2.2)
  let v := mix3 (1232, t.1, u.2.2)
  let w := mix3 (t.2.1, u.2.1, v.2.2)
  (mix3 (v.1, u.1, w.2.2)).2.2
theorem Ext.of_keep {H h h' : AH} {p q r : Nat} (he : Ext H.n H h) (hn : h.n ≤ h'.n) (hk : ∀ c, c < h.n → c ≠ p → c ≠ q → c ≠ r → h'.at c = h.at c) (h1 : H.n ≤ p) (h2 : H.n ≤ q) (h3 : H.n ≤ r) : Ext H.n H h' :=
  ⟨Nat.le_trans he.1 hn, fun b hb => (hk b (by have := he.1; omega) (by omega) (by omega) (by omega)).trans (he.2 b hb)⟩
theorem hash2_x {H : AH} {be oe : Nat} (a b : Int) : WC Try.prog (tabOf Try.prog NT0) S00 52 [.ptr be oe, .lit (.int .u32 a), .lit (.int .u32 b)] H fun r h' => Ext H.n H h' ∧ r = .lit (.int .u32 (hash2F a b)) := by
  refine WC_fn Try.func52 rfl rfl ?_
  simp only [core, zrA, zrS, zrM, zrL, zrE, reduceCtorEq, zrD, ziE, ziL, ziN, Try.ntmps52]
  refine (mix_x (x := (a, b, xorI .u32 (xorI .u32 1315423911 a) b)) (by repeat (first | exact Bx.new rfl | refine Bx.old ?_)) (by repeat (first | exact Bx.new rfl | refine Bx.old ?_)) (by repeat (first | exact Bx.new rfl | refine Bx.old ?_)) (by omega) (by omega) (by omega)).mono ?_
  rintro _ h1 ⟨A1, B1, C1, n1, k1⟩
  have X1 : Bx h1 (H.n + 1 + 1 + 1) 231232 := Bx.after (by repeat (first | exact Bx.new rfl | refine Bx.old ?_)) k1 (by omega) (by omega) (by omega)
  have Y1 : Bx h1 (H.n + 1 + 1 + 1 + 1) 1232 := Bx.after (by repeat (first | exact Bx.new rfl | refine Bx.old ?_)) k1 (by omega) (by omega) (by omega)
  have E1 : Ext H.n H h1 := Ext.of_keep (by repeat (first | exact Ext.refl _ _ | refine Ext.push _ ?_ (by (try simp only [n_push]); omega))) n1 k1 (by omega) (by omega) (by omega)
  clear n1 k1
  obtain ⟨t, ht⟩ : ∃ t, t = mix3 (a, b, xorI .u32 (xorI .u32 1315423911 a) b) := ⟨_, rfl⟩
  rw [← ht] at A1 B1 C1
  simp only [core, zrA, zrS, zrM, zrL, zrE, reduceCtorEq, zrD, ziE, ziL, ziN]
  refine (mix_x (x := (231232, t.1, t.2.2)) X1 A1 C1 (by omega) (by omega) (by omega)).mono ?_
  rintro _ h2 ⟨X2, A2, C2, n2, k2⟩
  have B2 := B1.after k2 (by omega) (by omega) (by omega)
  have Y2 := Y1.after k2 (by omega) (by omega) (by omega)
  have E2 := Ext.of_keep E1 n2 k2 (by omega) (by omega) (by omega)
  obtain ⟨u, hu⟩ : ∃ u, u = mix3 (231232, t.1, t.2.2) := ⟨_, rfl⟩
  rw [← hu] at X2 A2 C2
  simp only [core, zrA, zrS, zrM, zrL, zrE, reduceCtorEq, zrD, ziE, ziL, ziN]
  refine (mix_x (x := (t.2.1, 1232, u.2.2)) B2 Y2 C2 (by omega) (by omega) (by omega)).mono ?_
  rintro _ h3 ⟨B3, Y3, C3, n3, k3⟩
  have E3 := Ext.of_keep E2 n3 k3 (by omega) (by omega) (by omega)
  have L3 := C3.ld
  simp only [core, zrA, zrS, zrM, zrL, zrE, reduceCtorEq, zrD, ziE, ziL, ziN, L3]
  refine ⟨E3, ?_⟩
  subst hu ht
  rfl
theorem hash3_x {H : AH} {be oe : Nat} (a b c : Int) : WC Try.prog (tabOf Try.prog NT0) S00 87 [.ptr be oe, .lit (.int .u32 a), .lit (.int .u32 b), .lit (.int .u32 c)] H fun r h' => Ext H.n H h' ∧ r = .lit (.int .u32 (hash3F a b c)) := by
  refine WC_fn Try.func87 rfl rfl ?_
  simp only [core, zrA, zrS, zrM, zrL, zrE, reduceCtorEq, zrD, ziE, ziL, ziN, Try.ntmps87]
  obtain ⟨w0, hw0⟩ : ∃ w, w = xorI .u32 (xorI .u32 (xorI .u32 1315423911 a) b) c := ⟨_, rfl⟩
  rw [← hw0]
  refine (mix_x (x := (a, b, w0)) (by repeat (first | exact Bx.new rfl | refine Bx.old ?_)) (by repeat (first | exact Bx.new rfl | refine Bx.old ?_)) (by repeat (first | exact Bx.new rfl | refine Bx.old ?_)) (by omega) (by omega) (by omega)).mono ?_
  rintro _ h1 ⟨A1, B1, W1, n1, k1⟩
  have C1 : Bx h1 (H.n + 1 + 1) c := Bx.after (by repeat (first | exact Bx.new rfl | refine Bx.old ?_)) k1 (by omega) (by omega) (by omega)
  have X1 : Bx h1 (H.n + 1 + 1 + 1 + 1) 231232 := Bx.after (by repeat (first | exact Bx.new rfl | refine Bx.old ?_)) k1 (by omega) (by omega) (by omega)
  have Y1 : Bx h1 (H.n + 1 + 1 + 1 + 1 + 1) 1232 := Bx.after (by repeat (first | exact Bx.new rfl | refine Bx.old ?_)) k1 (by omega) (by omega) (by omega)
  have E1 : Ext H.n H h1 := Ext.of_keep (by repeat (first | exact Ext.refl _ _ | refine Ext.push _ ?_ (by (try simp only [n_push]); omega))) n1 k1 (by omega) (by omega) (by omega)
  clear n1 k1
  obtain ⟨t, ht⟩ : ∃ t, t = mix3 (a, b, w0) := ⟨_, rfl⟩
  rw [← ht] at A1 B1 W1
  simp only [core, zrA, zrS, zrM, zrL, zrE, reduceCtorEq, zrD, ziE, ziL, ziN]
  refine (mix_x (x := (c, 231232, t.2.2)) C1 X1 W1 (by omega) (by omega) (by omega)).mono ?_
  rintro _ h2 ⟨C2, X2, W2, n2, k2⟩
  have A2 := A1.after k2 (by omega) (by omega) (by omega)
  have B2 := B1.after k2 (by omega) (by omega) (by omega)
  have Y2 := Y1.after k2 (by omega) (by omega) (by omega)
  have E2 := Ext.of_keep E1 n2 k2 (by omega) (by omega) (by omega)
  obtain ⟨u, hu⟩ : ∃ u, u = mix3 (c, 231232, t.2.2) := ⟨_, rfl⟩
  rw [← hu] at C2 X2 W2
  simp only [core, zrA, zrS, zrM, zrL, zrE, reduceCtorEq, zrD, ziE, ziL, ziN]
  refine (mix_x (x := (1232, t.1, u.2.2)) Y2 A2 W2 (by omega) (by omega) (by omega)).mono ?_
  rintro _ h3 ⟨Y3, A3, W3, n3, k3⟩
  have B3 := B2.after k3 (by omega) (by omega) (by omega)
  have X3 := X2.after k3 (by omega) (by omega) (by omega)
  have C3 := C2.after k3 (by omega) (by omega) (by omega)
  have E3 := Ext.of_keep E2 n3 k3 (by omega) (by omega) (by omega)
  obtain ⟨v, hv⟩ : ∃ v, v = mix3 (1232, t.1, u.2.2) := ⟨_, rfl⟩
  rw [← hv] at Y3 A3 W3
  simp only [core, zrA, zrS, zrM, zrL, zrE, reduceCtorEq, zrD, ziE, ziL, ziN]
  refine (mix_x (x := (t.2.1, u.2.1, v.2.2)) B3 X3 W3 (by omega) (by omega) (by omega)).mono ?_
  rintro _ h4 ⟨B4, X4, W4, n4, k4⟩
  have Y4 := Y3.after k4 (by omega) (by omega) (by omega)
  have C4 := C3.after k4 (by omega) (by omega) (by omega)
  have E4 := Ext.of_keep E3 n4 k4 (by omega) (by omega) (by omega)
  obtain ⟨z, hz⟩ : ∃ z, z = mix3 (t.2.1, u.2.1, v.2.2) := ⟨_, rfl⟩
  rw [← hz] at B4 X4 W4
  simp only [core, zrA, zrS, zrM, zrL, zrE, reduceCtorEq, zrD, ziE, ziL, ziN]
  refine (mix_x (x := (v.1, u.1, z.2.2)) Y4 C4 W4 (by omega) (by omega) (by omega)).mono ?_
  rintro _ h5 ⟨Y5, C5, W5, n5, k5⟩
  have E5 := Ext.of_keep E4 n5 k5 (by omega) (by omega) (by omega)
  have L5 := W5.ld
  simp only [core, zrA, zrS, zrM, zrL, zrE, reduceCtorEq, zrD, ziE, ziL, ziN, L5]
  refine ⟨E5, ?_⟩
  subst hz hv hu ht hw0
  rfl
section
variable {t : TM} {h : AH} {d : Option Tmp} {ty : TypeId} {ps : String} {af : Array Edge} {g : Option (Nat × Bool)}
end
theorem Tri.keep {h h' : AH} {p : Nat} {x : AB} (he : Ext h.n h h') (hp : h.at p = some x) : h'.at p = some x := (he.2 p (at_lt hp)).trans hp
end Go.Proofs.Ytjkmmbfenhhjkaa.Ex
end

section

set_option linter.unusedSimpArgs false
set_option linter.unusedVariables false
set_option maxRecDepth 10000
set_option maxHeartbeats 4000000
namespace Go.Proofs.Ytjkmmbfenhhjkaa.Ex
open Go
def len8 (b : Nat) : Nat := if b = 0 then 0 else Nat.log2 b + 1
def tabOk (s : ByteArray) : Bool := (List.range 256).all (fun b => (s[b]?).map (·.toNat) == some (len8 b))
theorem len8_at {s : ByteArray} (hs : tabOk s = true) {b : Nat} (hb : b < 256) : strAt s (b : Int) = some (len8 b) := by
  unfold strAt
  rw [if_pos (by omega), Int.toNat_natCast]
  have := List.all_eq_true.1 hs b (List.mem_range.2 hb)
  simpa using this
theorem shr_nat (x k : Nat) (hk : k ≤ 64) : shrI .u64 (x : Int) (k : Int) = ((x / 2 ^ k : Nat) : Int) := by
  unfold shrI
  have : min (Int.toNat (k : Int)) (IntKind.bits .u64) = k := by simp [IntKind.bits]; omega
  rw [this]
  have h2 : ((2 ^ k : Nat) : Int) = (2 : Int) ^ k := by exact Int.natCast_pow 2 k
  rw [← h2, Int.fdiv_eq_ediv_of_nonneg _ (Int.natCast_nonneg _)]
  rfl
theorem wrap_u8 {n : Nat} (h : n < 256) : IntKind.u8.wrap (n : Int) = (n : Int) := by
  unfold IntKind.wrap
  simp [IntKind.bits, IntKind.signed]
  omega
theorem log2_div (x : Nat) (h : 256 ≤ x) : Nat.log2 x = Nat.log2 (x / 256) + 8 := by
  have e : ∀ k y, 2 ^ k ≤ y → Nat.log2 y = Nat.log2 (y / 2 ^ k) + k := by
    intro k
    induction k with
    | zero => intro y _; simp
    | succ k ih =>
      intro y hy
      have h2 : 2 ≤ y := by have := Nat.one_le_two_pow (n := k); rw [Nat.pow_succ] at hy; omega
      rw [Nat.log2_def y, if_pos h2, ih (y / 2) (by rw [Nat.pow_succ] at hy; omega), Nat.div_div_eq_div_mul, Nat.pow_succ, Nat.mul_comm 2]
      omega
  exact e 8 x h
theorem len64_x {H : AH} (x : Nat) (h1 : 1 ≤ x) (h2 : x ≤ 65536) : WC Try.prog (tabOf Try.prog NT0) S00 84 [.lit (.int .u64 x)] H fun r h' => h' = H ∧ r = .lit (.int .i64 ((Nat.log2 x + 1 : Nat))) := by
  refine WC_fn Try.func84 rfl rfl ?_
  have c1 : ¬ (4294967296 : Int) ≤ (x : Int) := by omega
  by_cases h3 : x = 65536
  · subst h3
    have c2 : (65536 : Int) ≤ ((65536 : Nat) : Int) := by omega
    have e1 : shrI .u64 ((65536 : Nat) : Int) 16 = 1 := by decide
    have e2 : IntKind.i64.wrap (0 + 16) = 16 := by decide
    have e3 : IntKind.u8.wrap 1 = 1 := by decide
    have e4 : IntKind.i64.wrap (16 + 1) = 17 := by decide
    have c3 : ¬ (256 : Int) ≤ 1 := by omega
    have c4 : ∀ s, tabOk s = true → strAt s 1 = some 1 := fun s hs => len8_at hs (b := 1) (by omega)
    simp only [core, zrA, zrS, zrM, zrL, zrE, reduceCtorEq, zrD, ziE, ziL, ziN, Try.ntmps84, c1, c2, e1, e2, e3, e4, c3]
    rw [c4 _ (by kernel_rfl)]
    simp only [core, zrA, zrS, zrM, zrL, zrE, reduceCtorEq, zrD, ziE, ziL, ziN, e4]
    rfl
  · have c2 : ¬ (65536 : Int) ≤ (x : Int) := by omega
    by_cases h4 : 256 ≤ x
    · have c3 : (256 : Int) ≤ (x : Int) := by omega
      have e1 : shrI .u64 (x : Int) 8 = ((x / 256 : Nat) : Int) := shr_nat x 8 (by omega)
      have e2 : IntKind.i64.wrap (0 + 8) = 8 := by decide
      have e3 : IntKind.u8.wrap ((x / 256 : Nat) : Int) = ((x / 256 : Nat) : Int) := wrap_u8 (by omega)
      have c4 : ∀ s, tabOk s = true → strAt s ((x / 256 : Nat) : Int) = some (len8 (x / 256)) := fun s hs => len8_at hs (by omega)
      simp only [core, zrA, zrS, zrM, zrL, zrE, reduceCtorEq, zrD, ziE, ziL, ziN, Try.ntmps84, c1, c2, e1, e2, e3, c3]
      rw [c4 _ (by kernel_rfl)]
      have h5 : len8 (x / 256) = Nat.log2 (x / 256) + 1 := by unfold len8; rw [if_neg (by omega)]
      have h6 : Nat.log2 (x / 256) < 8 := (Nat.log2_lt (by omega)).2 (by omega)
      have e4 : IntKind.i64.wrap ((len8 (x / 256) : Nat) : Int) = ((Nat.log2 (x / 256) + 1 : Nat) : Int) := by rw [h5]; exact wrap_in (by omega) (by omega)
      have e5 : IntKind.i64.wrap (8 + ((Nat.log2 (x / 256) + 1 : Nat) : Int)) = ((Nat.log2 x + 1 : Nat) : Int) := by rw [log2_div x h4]; exact (wrap_in (by omega) (by omega)).trans (by omega)
      simp only [core, zrA, zrS, zrM, zrL, zrE, reduceCtorEq, zrD, ziE, ziL, ziN, e4, e5]
    · have c3 : ¬ (256 : Int) ≤ (x : Int) := by omega
      have e3 : IntKind.u8.wrap (x : Int) = (x : Int) := wrap_u8 (by omega)
      have c4 : ∀ s, tabOk s = true → strAt s (x : Int) = some (len8 x) := fun s hs => len8_at hs (by omega)
      simp only [core, zrA, zrS, zrM, zrL, zrE, reduceCtorEq, zrD, ziE, ziL, ziN, Try.ntmps84, c1, c2, e3, c3]
      rw [c4 _ (by kernel_rfl)]
      have h5 : len8 x = Nat.log2 x + 1 := by unfold len8; rw [if_neg (by omega)]
      have h6 : Nat.log2 x < 8 := (Nat.log2_lt (by omega)).2 (by omega)
      have e4 : IntKind.i64.wrap ((len8 x : Nat) : Int) = ((Nat.log2 x + 1 : Nat) : Int) := by rw [h5]; exact wrap_in (by omega) (by omega)
      have e5 : IntKind.i64.wrap (0 + ((Nat.log2 x + 1 : Nat) : Int)) = ((Nat.log2 x + 1 : Nat) : Int) := (wrap_in (by omega) (by omega)).trans (by omega)
      simp only [core, zrA, zrS, zrM, zrL, zrE, reduceCtorEq, zrD, ziE, ziL, ziN, e4, e5]
def lnS (k : Int) (x : Int × Int) : Int × Int :=
  let y := shrI .u64 (IntKind.u64.wrap (x.1 * x.1)) 31
  if 4294967296 ≤ y then (shrI .u64 y 1, IntKind.i64.wrap (x.2 + shlI .i64 1 k)) else (y, x.2)
def lnL : Nat → Int × Int → Int × Int
  | 0, x => x
  | n + 1, x => lnL n (lnS n x)
def clampU (u : Int) : Nat := (if u < 0 then 0 else if 65535 < u then 65535 else u).toNat + 1
def lnF (u : Int) : Int := (lnL 44 (shlI .u64 (clampU u) (IntKind.i64.wrap (31 - (Nat.log2 (clampU u) : Int))), shlI .i64 (Nat.log2 (clampU u)) 44)).2
theorem clampU_le (u : Int) : 1 ≤ clampU u ∧ clampU u ≤ 65536 := by unfold clampU; split <;> (try split) <;> omega
theorem ln_x {H : AH} (u : Int) : WC Try.prog (tabOf Try.prog NT0) S00 94 [.lit (.int .i64 u)] H fun r h' => h' = H ∧ r = .lit (.int .i64 (lnF u)) := by
  refine WC_fn Try.func94 rfl rfl ?_
  obtain ⟨X, hX⟩ : ∃ X, X = clampU u := ⟨_, rfl⟩
  obtain ⟨x1, x2⟩ := clampU_le u
  rw [← hX] at x1 x2
  have hcl : ∀ v, v = (if u < 0 then 0 else u) → IntKind.u64.wrap (IntKind.u64.wrap (if 65535 < v then 65535 else v) + 1) = (X : Int) := fun v hv => by
    rw [hX, hv]
    unfold clampU
    by_cases h1 : u < 0
    · rw [if_pos h1, if_neg (by omega), if_pos h1]; decide
    · rw [if_neg h1, if_neg h1]
      by_cases h2 : 65535 < u
      · rw [if_pos h2]; decide
      · rw [if_neg h2]
        rw [wrap_u64 (n := u) (by omega) (by omega), wrap_u64 (by omega) (by omega)]
        omega
  have hcl := hcl _ rfl
  simp only [corem, WB_cond_s, put, ldL, WB_label, List.nil_append, List.drop_zero, List.take_zero, zrA, zrS, zrM, zrL, zrE, reduceCtorEq, zrD, ziE, ziL, ziN, Try.ntmps94, -WB_label, hcl]
  refine (len64_x X x1 x2).mono ?_
  rintro _ h ⟨rfl, rfl⟩
  have hl : Nat.log2 X < 17 := (Nat.log2_lt (by omega)).2 (by omega)
  have hw1 : IntKind.i64.wrap (((Nat.log2 X + 1 : Nat) : Int) - 1) = (Nat.log2 X : Int) := (wrap_in (by omega) (by omega)).trans (by omega)
  have hw2 : (0 : Int) ≤ IntKind.i64.wrap (31 - (Nat.log2 X : Int)) := by rw [wrap_in (by omega) (by omega)]; omega
  simp only [corem, WB_cond_s, put, ldL, WB_label, List.nil_append, List.drop_zero, List.take_zero, zrA, zrS, zrM, zrL, zrE, reduceCtorEq, zrD, ziE, ziL, ziN, Try.ntmps94, -WB_label, hw1, hw2]
  refine WB_lab rfl (fun t h => by simp only [WB_seq, WB_label, WB_skip]) (fun n t h' => ∃ y o : Int, n ≤ 43 ∧ h' = h ∧ (lnL (n + 1) (y, o)).2 = lnF u ∧ t.n = 39 ∧ t.get 5 = .lit (.int .u64 y) ∧ t.get 6 = .lit (.int .i64 o) ∧ t.get 7 = .lit (.int .i64 n)) 43 ?_ _ _ ?_
  · rintro n t h' ⟨y, o, hn43, rfl, hL, hn, g5, g6, g7⟩ ih
    have hn0 : (0 : Int) ≤ (n : Int) := by omega
    have key : lnL (n + 1) (y, o) = lnL n (lnS n (y, o)) := rfl
    rw [key] at hL
    unfold lnS at hL
    simp only at hL
    cases n with
    | zero =>
      have hw3 : IntKind.i64.wrap (((0 : Nat) : Int) - 1) = -1 := by decide
      simp only [corem, WB_cond_s, put, ldL, WB_label, List.nil_append, List.drop_zero, List.take_zero, zrA, zrS, zrM, zrL, zrE, reduceCtorEq, zrD, ziE, ziL, ziN, hn, g5, g6, g7, -WB_label, hw3, hn0]
      refine ⟨fun hq => ?_, fun hq => ?_⟩
      · rw [if_pos (by simpa using hq)] at hL
        rw [← hL]; rfl
      · rw [if_neg (by simpa using hq)] at hL
        rw [← hL]; rfl
    | succ m =>
      have hw3 : IntKind.i64.wrap (((m + 1 : Nat) : Int) - 1) = (m : Int) := (wrap_in (by omega) (by omega)).trans (by omega)
      have hm : (0 : Int) ≤ (m : Int) := by omega
      have hd : decide ((0 : Int) ≤ (m : Int)) = true := by simp
      simp only [corem, WB_cond_s, put, ldL, WB_label, List.nil_append, List.drop_zero, List.take_zero, zrA, zrS, zrM, zrL, zrE, reduceCtorEq, zrD, ziE, ziL, ziN, hn, g5, g6, g7, -WB_label, hw3, hn0, hm]
      refine ⟨fun hq => ?_, fun hq => ?_⟩
      · refine WB_goto ?_
        refine ih m _ _ (by omega) ⟨shrI .u64 (shrI .u64 (IntKind.u64.wrap (y * y)) 31) 1, IntKind.i64.wrap (o + shlI .i64 1 ((m + 1 : Nat) : Int)), by omega, rfl, ?_, ?_⟩
        rotate_left
        · simp only [core, zrA, zrS, zrM, zrL, zrE, reduceCtorEq, zrD, ziE, ziL, ziN, hn, g5, g6, g7]
        · rw [if_pos (by simpa using hq)] at hL
          exact hL
      · refine WB_goto ?_
        refine ih m _ _ (by omega) ⟨shrI .u64 (IntKind.u64.wrap (y * y)) 31, o, by omega, rfl, ?_, ?_⟩
        rotate_left
        · simp only [core, zrA, zrS, zrM, zrL, zrE, reduceCtorEq, zrD, ziE, ziL, ziN, hn, g5, g6, g7]
        · rw [if_neg (by simpa using hq)] at hL
          exact hL
  · refine ⟨shlI .u64 X (IntKind.i64.wrap (31 - (Nat.log2 X : Int))), shlI .i64 (Nat.log2 X) 44, Nat.le_refl _, rfl, ?_, ?_⟩
    · unfold lnF
      rw [← hX]
    · simp only [core, zrA, zrS, zrM, zrL, zrE, reduceCtorEq, zrD, ziE, ziL, ziN]
      rfl
theorem shl_nat (x k : Nat) (hk : k ≤ 64) (e : Int) (he : e = (k : Int)) : shlI .u64 (x : Int) e = IntKind.u64.wrap ((x * 2 ^ k : Nat) : Int) := by
  subst he
  unfold shlI
  have : min (Int.toNat (k : Int)) (IntKind.bits .u64) = k := by simp [IntKind.bits]; omega
  rw [this]
  have h2 : ((2 ^ k : Nat) : Int) = (2 : Int) ^ k := by exact Int.natCast_pow 2 k
  rw [← h2]
  rfl
end Go.Proofs.Ytjkmmbfenhhjkaa.Ex
end

section

set_option linter.unusedSimpArgs false
set_option linter.unusedVariables false
set_option maxRecDepth 10000
namespace Go.Proofs.Ytjkmmbfenhhjkaa.Ex
open Go
/-- A number is computed first. -/
def fN {β : Type} (n : Nat) (k : Nat → β) : β := Nat.rec (motive := fun _ => β) (k 0) (fun m _ => k (Nat.succ m)) n
theorem fN_eq {β : Type} (n : Nat) (k : Nat → β) : fN n k = k n := by cases n <;> rfl
def subN (a b : Nat) : Nat := Nat.mod (Nat.add a (Nat.sub 4294967296 b)) 4294967296
abbrev N3 := Nat × Nat × Nat
def mixRN (s0 s1 s2 a b c : Nat) : N3 :=
  fN (Nat.xor (subN (subN a b) c) (Nat.shiftRight c s0)) fun a =>
  fN (Nat.xor (subN (subN b c) a) (Nat.mod (Nat.shiftLeft a s1) 4294967296)) fun b =>
  fN (Nat.xor (subN (subN c a) b) (Nat.shiftRight b s2)) fun c => (a, b, c)
def mix3N (x : N3) : N3 := match x with
  | (a, b, c) => match mixRN 13 8 13 a b c with
    | (a, b, c) => match mixRN 12 16 5 a b c with
      | (a, b, c) => mixRN 3 10 15 a b c
def toI (x : N3) : I3 := ((x.1 : Int), (x.2.1 : Int), (x.2.2 : Int))
def lt3 (x : N3) : Prop := x.1 < 4294967296 ∧ x.2.1 < 4294967296 ∧ x.2.2 < 4294967296
theorem xorI_nat {a b : Nat} (ha : a < 4294967296) (hb : b < 4294967296) : xorI .u32 (a : Int) (b : Int) = ((Nat.xor a b : Nat) : Int) ∧ Nat.xor a b < 4294967296 := by
  have hx : a ^^^ b < 2 ^ 32 := Nat.xor_lt_two_pow (n := 32) ha hb
  refine ⟨?_, hx⟩
  unfold xorI
  have e1 : (BitVec.ofInt (IntKind.bits .u32) (a : Int)).toNat = a := by
    show (BitVec.ofInt 32 (a : Int)).toNat = a
    rw [BitVec.ofInt_natCast, BitVec.toNat_ofNat, Nat.mod_eq_of_lt ha]
  have e2 : (BitVec.ofInt (IntKind.bits .u32) (b : Int)).toNat = b := by
    show (BitVec.ofInt 32 (b : Int)).toNat = b
    rw [BitVec.ofInt_natCast, BitVec.toNat_ofNat, Nat.mod_eq_of_lt hb]
  rw [BitVec.toNat_xor, e1, e2]
  exact wrap_u32 (by omega) (by have : a ^^^ b < 4294967296 := hx; omega)
theorem subN_lt (a b : Nat) : subN a b < 4294967296 := Nat.mod_lt _ (by decide)
theorem wrap_sub {a b : Nat} (ha : a < 4294967296) (hb : b < 4294967296) : IntKind.u32.wrap ((a : Int) - (b : Int)) = ((subN a b : Nat) : Int) := by
  unfold subN IntKind.wrap
  simp only [IntKind.bits, IntKind.signed, Bool.false_and]
  show ((a : Int) - b) % 4294967296 = (((a + (4294967296 - b)) % 4294967296 : Nat) : Int)
  omega
theorem shr32 {a : Nat} (k : Nat) (hk : k ≤ 32) (ha : a < 4294967296) : shrI .u32 (a : Int) (k : Int) = ((Nat.shiftRight a k : Nat) : Int) ∧ Nat.shiftRight a k < 4294967296 := by
  have e0 : Nat.shiftRight a k = a / 2 ^ k := Nat.shiftRight_eq_div_pow a k
  rw [e0]
  refine ⟨?_, Nat.lt_of_le_of_lt (Nat.div_le_self _ _) ha⟩
  unfold shrI
  have : min (Int.toNat (k : Int)) (IntKind.bits .u32) = k := by simp [IntKind.bits]; omega
  rw [this]
  have h2 : ((2 ^ k : Nat) : Int) = (2 : Int) ^ k := by exact Int.natCast_pow 2 k
  rw [← h2, Int.fdiv_eq_ediv_of_nonneg _ (Int.natCast_nonneg _)]
  rfl
theorem shl32 {a : Nat} (k : Nat) (hk : k ≤ 32) : shlI .u32 (a : Int) (k : Int) = ((Nat.mod (Nat.shiftLeft a k) 4294967296 : Nat) : Int) ∧ Nat.mod (Nat.shiftLeft a k) 4294967296 < 4294967296 := by
  refine ⟨?_, Nat.mod_lt _ (by decide)⟩
  have e0 : Nat.shiftLeft a k = a * 2 ^ k := Nat.shiftLeft_eq a k
  rw [e0]
  unfold shlI
  have : min (Int.toNat (k : Int)) (IntKind.bits .u32) = k := by simp [IntKind.bits]; omega
  rw [this]
  have h2 : ((2 ^ k : Nat) : Int) = (2 : Int) ^ k := by exact Int.natCast_pow 2 k
  rw [← h2]
  generalize 2 ^ k = m
  unfold IntKind.wrap
  simp only [IntKind.bits, IntKind.signed, Bool.false_and]
  show ((a : Int) * (m : Int)) % 4294967296 = ((a * m % 4294967296 : Nat) : Int)
  rw [Int.natCast_emod, Int.natCast_mul]
  rfl
theorem mixRN_ok {s0 s1 s2 a b c : Nat} (h0 : s0 ≤ 32) (h1 : s1 ≤ 32) (h2 : s2 ≤ 32) (ha : a < 4294967296) (hb : b < 4294967296) (hc : c < 4294967296) :
    mixR (s0 : Int) (s1 : Int) (s2 : Int) (toI (a, b, c)) = toI (mixRN s0 s1 s2 a b c) ∧ lt3 (mixRN s0 s1 s2 a b c) := by
  obtain ⟨p1, p2⟩ := shr32 s0 h0 hc
  obtain ⟨a', ha'⟩ : ∃ a', a' = Nat.xor (subN (subN a b) c) (Nat.shiftRight c s0) := ⟨_, rfl⟩
  obtain ⟨q1, q2⟩ := xorI_nat (subN_lt (subN a b) c) p2
  rw [← ha'] at q1 q2
  obtain ⟨p3, p4⟩ := shl32 (a := a') s1 h1
  obtain ⟨b', hb'⟩ : ∃ b', b' = Nat.xor (subN (subN b c) a') (Nat.mod (Nat.shiftLeft a' s1) 4294967296) := ⟨_, rfl⟩
  obtain ⟨q3, q4⟩ := xorI_nat (subN_lt (subN b c) a') p4
  rw [← hb'] at q3 q4
  obtain ⟨p5, p6⟩ := shr32 s2 h2 q4
  obtain ⟨c', hc'⟩ : ∃ c', c' = Nat.xor (subN (subN c a') b') (Nat.shiftRight b' s2) := ⟨_, rfl⟩
  obtain ⟨q5, q6⟩ := xorI_nat (subN_lt (subN c a') b') p6
  rw [← hc'] at q5 q6
  have e : mixRN s0 s1 s2 a b c = (a', b', c') := by
    unfold mixRN
    simp only [fN_eq, ← ha', ← hb', ← hc']
  rw [e]
  refine ⟨?_, q2, q4, q6⟩
  unfold mixR toI
  simp only
  rw [wrap_sub ha hb, wrap_sub (subN_lt a b) hc, p1, q1, wrap_sub hb hc, wrap_sub (subN_lt b c) q2, p3, q3, wrap_sub hc q2, wrap_sub (subN_lt c a') q4, p5, q5]
theorem mix3N_ok {x : N3} (h : lt3 x) : mix3 (toI x) = toI (mix3N x) ∧ lt3 (mix3N x) := by
  obtain ⟨a, b, c⟩ := x
  obtain ⟨e1, l1⟩ := mixRN_ok (s0 := 13) (s1 := 8) (s2 := 13) (by decide) (by decide) (by decide) h.1 h.2.1 h.2.2
  obtain ⟨a1, b1, c1⟩ : N3 := mixRN 13 8 13 a b c
  unfold mix3 mixN mix3N
  simp only
  generalize hx1 : mixRN 13 8 13 a b c = x1 at *
  obtain ⟨a1, b1, c1⟩ := x1
  obtain ⟨e2, l2⟩ := mixRN_ok (s0 := 12) (s1 := 16) (s2 := 5) (by decide) (by decide) (by decide) l1.1 l1.2.1 l1.2.2
  simp only
  generalize hx2 : mixRN 12 16 5 a1 b1 c1 = x2 at *
  obtain ⟨a2, b2, c2⟩ := x2
  obtain ⟨e3, l3⟩ := mixRN_ok (s0 := 3) (s1 := 10) (s2 := 15) (by decide) (by decide) (by decide) l2.1 l2.2.1 l2.2.2
  simp only
  refine ⟨?_, l3⟩
  rw [← e3, ← e2, ← e1]
  rfl
section
variable {M : I3 → I3} {G : N3 → N3}
def GoodG (M : I3 → I3) (G : N3 → N3) : Prop := ∀ x, lt3 x → M (toI x) = toI (G x) ∧ lt3 (G x)
def h2M (M : I3 → I3) (a b w : Int) : Int :=
  let t := M (a, b, w)
  let u := M (231232, t.1, t.2.2)
  (M (t.2.1, 1232, u.2.2)).2.2
def h2G (G : N3 → N3) (a b w : Nat) : Nat := match G (a, b, w) with
  | (ta, tb, tc) => match G (231232, ta, tc) with
    | (_, _, uc) => (G (tb, 1232, uc)).2.2
theorem h2_ok (hG : GoodG M G) {a b w : Nat} (ha : a < 4294967296) (hb : b < 4294967296) (hw : w < 4294967296) : h2M M (a : Int) (b : Int) (w : Int) = ((h2G G a b w : Nat) : Int) ∧ h2G G a b w < 4294967296 := by
  obtain ⟨e1, l1⟩ := hG (a, b, w) ⟨ha, hb, hw⟩
  have f1 : M ((a : Int), (b : Int), (w : Int)) = toI (G (a, b, w)) := e1
  unfold h2M h2G
  rw [f1]
  generalize G (a, b, w) = t at l1
  obtain ⟨ta, tb, tc⟩ := t
  obtain ⟨e2, l2⟩ := hG (231232, ta, tc) ⟨(by decide : 231232 < 4294967296), l1.1, l1.2.2⟩
  have f2 : M (231232, (ta : Int), (tc : Int)) = toI (G (231232, ta, tc)) := e2
  simp only [toI]
  rw [f2]
  generalize G (231232, ta, tc) = u at l2
  obtain ⟨ua, ub, uc⟩ := u
  obtain ⟨e3, l3⟩ := hG (tb, 1232, uc) ⟨l1.2.1, (by decide : 1232 < 4294967296), l2.2.2⟩
  have f3 : M ((tb : Int), 1232, (uc : Int)) = toI (G (tb, 1232, uc)) := e3
  simp only [toI]
  rw [f3]
  exact ⟨rfl, l3.2.2⟩
def h3M (M : I3 → I3) (a b c w : Int) : Int :=
  let t := M (a, b, w)
  let u := M (c, 231232, t.2.2)
  let v := M (1232, t.1, u.2.2)
  let w := M (t.2.1, u.2.1, v.2.2)
  (M (v.1, u.1, w.2.2)).2.2
def h3G (G : N3 → N3) (a b c w : Nat) : Nat := match G (a, b, w) with
  | (ta, tb, tc) => match G (c, 231232, tc) with
    | (ua, ub, uc) => match G (1232, ta, uc) with
      | (va, _, vc) => match G (tb, ub, vc) with
        | (_, _, wc) => (G (va, ua, wc)).2.2
theorem h3_ok (hG : GoodG M G) {a b c w : Nat} (ha : a < 4294967296) (hb : b < 4294967296) (hc : c < 4294967296) (hw : w < 4294967296) : h3M M (a : Int) (b : Int) (c : Int) (w : Int) = ((h3G G a b c w : Nat) : Int) ∧ h3G G a b c w < 4294967296 := by
  obtain ⟨e1, l1⟩ := hG (a, b, w) ⟨ha, hb, hw⟩
  have f1 : M ((a : Int), (b : Int), (w : Int)) = toI (G (a, b, w)) := e1
  unfold h3M h3G
  rw [f1]
  generalize G (a, b, w) = t at l1
  obtain ⟨ta, tb, tc⟩ := t
  obtain ⟨e2, l2⟩ := hG (c, 231232, tc) ⟨hc, (by decide : 231232 < 4294967296), l1.2.2⟩
  have f2 : M ((c : Int), 231232, (tc : Int)) = toI (G (c, 231232, tc)) := e2
  simp only [toI]
  rw [f2]
  generalize G (c, 231232, tc) = u at l2
  obtain ⟨ua, ub, uc⟩ := u
  obtain ⟨e3, l3⟩ := hG (1232, ta, uc) ⟨(by decide : 1232 < 4294967296), l1.1, l2.2.2⟩
  have f3 : M (1232, (ta : Int), (uc : Int)) = toI (G (1232, ta, uc)) := e3
  simp only [toI]
  rw [f3]
  generalize G (1232, ta, uc) = v at l3
  obtain ⟨va, vb, vc⟩ := v
  obtain ⟨e4, l4⟩ := hG (tb, ub, vc) ⟨l1.2.1, l2.2.1, l3.2.2⟩
  have f4 : M ((tb : Int), (ub : Int), (vc : Int)) = toI (G (tb, ub, vc)) := e4
  simp only [toI]
  rw [f4]
  generalize G (tb, ub, vc) = z at l4
  obtain ⟨za, zb, zc⟩ := z
  obtain ⟨e5, l5⟩ := hG (va, ua, zc) ⟨l3.1, l2.1, l4.2.2⟩
  have f5 : M ((va : Int), (ua : Int), (zc : Int)) = toI (G (va, ua, zc)) := e5
  simp only [toI]
  rw [f5]
  exact ⟨rfl, l5.2.2⟩
end
def hash2N (a b : Nat) : Nat := h2G mix3N a b (Nat.xor (Nat.xor 1315423911 a) b)
def hash3N (a b c : Nat) : Nat := h3G mix3N a b c (Nat.xor (Nat.xor (Nat.xor 1315423911 a) b) c)
theorem hash2N_ok {a b : Nat} (ha : a < 4294967296) (hb : b < 4294967296) : hash2F (a : Int) (b : Int) = ((hash2N a b : Nat) : Int) ∧ hash2N a b < 4294967296 := by
  obtain ⟨x1, y1⟩ := xorI_nat (a := 1315423911) (by decide) ha
  obtain ⟨x2, y2⟩ := xorI_nat y1 hb
  have e0 : xorI .u32 (xorI .u32 1315423911 (a : Int)) (b : Int) = ((Nat.xor (Nat.xor 1315423911 a) b : Nat) : Int) := by
    rw [← x2, ← x1]; rfl
  have key := h2_ok (M := mix3) (G := mix3N) (fun x hx => mix3N_ok hx) ha hb y2
  rw [← e0] at key
  exact key
theorem hash3N_ok {a b c : Nat} (ha : a < 4294967296) (hb : b < 4294967296) (hc : c < 4294967296) : hash3F (a : Int) (b : Int) (c : Int) = ((hash3N a b c : Nat) : Int) ∧ hash3N a b c < 4294967296 := by
  obtain ⟨x1, y1⟩ := xorI_nat (a := 1315423911) (by decide) ha
  obtain ⟨x2, y2⟩ := xorI_nat y1 hb
  obtain ⟨x3, y3⟩ := xorI_nat y2 hc
  have e0 : xorI .u32 (xorI .u32 (xorI .u32 1315423911 (a : Int)) (b : Int)) (c : Int) = ((Nat.xor (Nat.xor (Nat.xor 1315423911 a) b) c : Nat) : Int) := by
    rw [← x3, ← x2, ← x1]; rfl
  have key := h3_ok (M := mix3) (G := mix3N) (fun x hx => mix3N_ok hx) ha hb hc y3
  rw [← e0] at key
  exact key
/-! The logarithm. -/
def lnLN : Nat → Nat → Nat → Nat
  | 0, _, o => o
  | n + 1, y, o => fN (Nat.shiftRight (Nat.mul y y) 31) fun y => bif Nat.ble 4294967296 y then fN (Nat.shiftRight y 1) fun y => fN (Nat.add o (Nat.shiftLeft 1 n)) fun o => lnLN n y o else lnLN n y o
def lnN (u : Nat) : Nat := fN (Nat.succ u) fun x => fN (Nat.log2 x) fun e => lnLN 44 (Nat.shiftLeft x (Nat.sub 31 e)) (Nat.shiftLeft e 44)
theorem lnLN_ok : ∀ (n : Nat) (y o : Nat), n ≤ 44 → y < 4294967296 → o + 2 ^ n ≤ 2 ^ 60 → (lnL n ((y : Int), (o : Int))).2 = ((lnLN n y o : Nat) : Int) ∧ lnLN n y o < 2 ^ 60
  | 0, y, o, _, _, ho => ⟨rfl, by have : lnLN 0 y o = o := rfl; rw [this]; simp at ho; omega⟩
  | n + 1, y, o, hn, hy, ho => by
    have hp : (2 : Nat) ^ (n + 1) = 2 ^ n + 2 ^ n := by rw [Nat.pow_succ]; omega
    have h60 : (2 : Nat) ^ 60 = 1152921504606846976 := by decide
    rw [hp, h60] at ho
    obtain ⟨q, hq⟩ : ∃ q, q = (2 : Nat) ^ n := ⟨_, rfl⟩
    rw [← hq] at ho
    have hyy : y * y < 18446744073709551616 := by
      have : y * y ≤ 4294967295 * 4294967295 := Nat.mul_le_mul (by omega) (by omega)
      omega
    have e1 : IntKind.u64.wrap ((y : Int) * (y : Int)) = ((y * y : Nat) : Int) := by
      rw [show ((y : Int) * (y : Int)) = ((y * y : Nat) : Int) from (Int.natCast_mul y y).symm]
      exact wrap_u64 (by omega) (by omega)
    obtain ⟨z, hz⟩ : ∃ z, z = y * y / 2 ^ 31 := ⟨_, rfl⟩
    have e2 : shrI .u64 ((y * y : Nat) : Int) 31 = (z : Int) := by rw [hz]; exact shr_nat (y * y) 31 (by decide)
    have e3 : Nat.shiftRight (Nat.mul y y) 31 = z := by rw [hz]; exact Nat.shiftRight_eq_div_pow _ _
    have hz2 : z < 8589934592 := by rw [hz]; omega
    have key : lnL (n + 1) ((y : Int), (o : Int)) = lnL n (lnS n ((y : Int), (o : Int))) := rfl
    rw [key]
    unfold lnS lnLN
    simp only [e1, e2, e3, fN_eq]
    by_cases hge : 4294967296 ≤ z
    · rw [if_pos (by omega), show Nat.ble 4294967296 z = true from Nat.ble_eq.mpr hge]
      simp only [cond_true]
      have e4 : shrI .u64 (z : Int) 1 = ((z / 2 : Nat) : Int) := shr_nat z 1 (by decide)
      have e5 : Nat.shiftRight z 1 = z / 2 := Nat.shiftRight_eq_div_pow _ _
      have e6 : shlI .i64 1 (n : Int) = (q : Int) := by
        unfold shlI
        have : min (Int.toNat (n : Int)) (IntKind.bits .i64) = n := by simp [IntKind.bits]; omega
        rw [this]
        have h2 : ((2 ^ n : Nat) : Int) = (2 : Int) ^ n := by exact Int.natCast_pow 2 n
        rw [Int.one_mul, ← h2, ← hq]
        exact wrap_in (by omega) (by omega)
      have e7 : Nat.shiftLeft 1 n = q := by rw [show Nat.shiftLeft 1 n = 1 * 2 ^ n from Nat.shiftLeft_eq 1 n, Nat.one_mul, hq]
      have e8 : IntKind.i64.wrap ((o : Int) + (q : Int)) = ((o + q : Nat) : Int) := by
        rw [show ((o : Int) + (q : Int)) = ((o + q : Nat) : Int) from (Int.natCast_add o q).symm]
        exact wrap_in (by omega) (by omega)
      rw [e4, e5, e6, e7, e8]
      exact lnLN_ok n (z / 2) (o + q) (by omega) (by omega) (by rw [← hq, h60]; omega)
    · rw [if_neg (by omega), show Nat.ble 4294967296 z = false from Bool.eq_false_iff.mpr fun h => hge (Nat.ble_eq.mp h)]
      simp only [cond_false]
      exact lnLN_ok n z o (by omega) (by omega) (by rw [← hq, h60]; omega)
theorem lnN_ok {u : Nat} (hu : u ≤ 65535) : lnF (u : Int) = ((lnN u : Nat) : Int) ∧ lnN u < 2 ^ 60 := by
  have hX : clampU (u : Int) = u + 1 := by
    unfold clampU
    rw [if_neg (by omega), if_neg (by omega)]
    rfl
  obtain ⟨e, he⟩ : ∃ e, e = Nat.log2 (u + 1) := ⟨_, rfl⟩
  have hl : e < 17 := by rw [he]; exact (Nat.log2_lt (by omega)).2 (by omega)
  have hlt : u + 1 < 2 ^ (e + 1) := by rw [he]; exact Nat.lt_log2_self
  have he2 : Nat.log2 (Nat.succ u) = e := he.symm
  unfold lnF lnN
  rw [hX]
  simp only [fN_eq]
  rw [he2]
  have e1 : IntKind.i64.wrap (31 - (e : Int)) = ((31 - e : Nat) : Int) := (wrap_in (by omega) (by omega)).trans (by omega)
  have hb : (u + 1) * 2 ^ (31 - e) < 4294967296 := by
    have h1 : (u + 1) * 2 ^ (31 - e) < 2 ^ (e + 1) * 2 ^ (31 - e) := Nat.mul_lt_mul_of_pos_right hlt (Nat.two_pow_pos _)
    rw [← Nat.pow_add, show e + 1 + (31 - e) = 32 by omega] at h1
    exact h1
  have e2 : shlI .u64 ((u + 1 : Nat) : Int) ((31 - e : Nat) : Int) = (((u + 1) * 2 ^ (31 - e) : Nat) : Int) := by
    rw [shl_nat (u + 1) (31 - e) (by omega) _ rfl]
    exact wrap_u64 (by omega) (by omega)
  have e3 : shlI .i64 (e : Int) 44 = ((e * 2 ^ 44 : Nat) : Int) := by
    unfold shlI
    have : min (Int.toNat (44 : Int)) (IntKind.bits .i64) = 44 := by decide
    rw [this, show ((e : Int) * 2 ^ 44) = ((e * 2 ^ 44 : Nat) : Int) by rw [Int.natCast_mul]; rfl]
    exact wrap_in (by omega) (by omega)
  have e4 : Nat.shiftLeft (Nat.succ u) (Nat.sub 31 e) = (u + 1) * 2 ^ (31 - e) := Nat.shiftLeft_eq _ _
  have e5 : Nat.shiftLeft e 44 = e * 2 ^ 44 := Nat.shiftLeft_eq _ _
  rw [e1, e2, e3, e4, e5]
  exact lnLN_ok 44 _ _ (by decide) hb (by omega)
/-! As the sums have them. -/
def okU : Int → Bool
  | .ofNat n => Nat.blt n 4294967296
  | _ => false
theorem okU_out {a : Int} (h : okU a = true) : ∃ n : Nat, a = (n : Int) ∧ n < 4294967296 := by
  cases a with
  | ofNat n => exact ⟨n, rfl, Nat.blt_eq.mp h⟩
  | negSucc n => cases h
def hash2V (a b : Int) : Int := bif okU a && okU b then fN (hash2N a.toNat b.toNat) fun n => Int.ofNat n else hash2F a b
def hash3V (a b c : Int) : Int := bif okU a && (okU b && okU c) then fN (hash3N a.toNat b.toNat c.toNat) fun n => Int.ofNat n else hash3F a b c
def okL : Int → Bool
  | .ofNat n => Nat.ble n 65535
  | _ => false
def lnV (u : Int) : Int := bif okL u then fN (lnN u.toNat) fun n => Int.ofNat n else lnF u
theorem hash2V_eq (a b : Int) : hash2V a b = hash2F a b := by
  unfold hash2V
  cases h : okU a && okU b with
  | false => rfl
  | true =>
    simp only [Bool.and_eq_true] at h
    obtain ⟨n, rfl, hn⟩ := okU_out h.1
    obtain ⟨m, rfl, hm⟩ := okU_out h.2
    rw [cond_true, fN_eq, (hash2N_ok hn hm).1]
    rfl
theorem hash3V_eq (a b c : Int) : hash3V a b c = hash3F a b c := by
  unfold hash3V
  cases h : okU a && (okU b && okU c) with
  | false => rfl
  | true =>
    simp only [Bool.and_eq_true] at h
    obtain ⟨n, rfl, hn⟩ := okU_out h.1
    obtain ⟨m, rfl, hm⟩ := okU_out h.2.1
    obtain ⟨k, rfl, hk⟩ := okU_out h.2.2
    rw [cond_true, fN_eq, (hash3N_ok hn hm hk).1]
    rfl
theorem lnV_eq (u : Int) : lnV u = lnF u := by
  unfold lnV
  cases h : okL u with
  | false => rfl
  | true =>
    cases u with
    | negSucc n => cases h
    | ofNat n =>
      rw [cond_true, fN_eq]
      exact (lnN_ok (Nat.ble_eq.mp h)).1.symm
end Go.Proofs.Ytjkmmbfenhhjkaa.Ex
end

section

set_option linter.unusedSimpArgs false
set_option linter.unusedVariables false
namespace Go.Proofs.Ytjkmmbfenhhjkaa.Ex
open Go Go.RowKit
variable {P : Program} {ρ : Nat → Value} {fl : Nat}
theorem eff_old {μ : Mu} {h : AH} {w w' : World} (hr : HR P ρ fl μ h w) (hs : w'.tape = w.tape ∧ w'.os = w.os ∧ w'.output = w.output) (hsz : w.heap.size ≤ w'.heap.size) (hx : ∀ r, r < w.heap.size → w'.heap[r]? = w.heap[r]?) : Eff P ρ fl μ h w μ h w' := by
  have hlt : ∀ r o, w.heap[r]? = some o → r < w.heap.size := fun r o h => (Array.getElem?_eq_some_iff.1 h).1
  have hg : Grows w w' := fun r cur e fz h => ⟨cur, e, fz, by rw [hx r (hlt r _ h)]; exact h, rfl⟩
  have hr' : HRL P ρ fl μ h.L w := hr
  show EffL P ρ fl μ h.L w μ h.L w'
  exact ⟨More.refl μ, Nat.le_refl _, fun b x h1 h2 => (by rw [h1] at h2; cases h2), fun _ _ _ => rfl, fun _ h => h, fun _ _ _ h => h, hg, hsz, fun b r base h1 h2 => (by rw [h1] at h2; cases h2), fun r h _ => hx r h, hs,
    ⟨Nat.le_trans hr'.floor hsz, hr'.dom, fun b r base ab h1 h2 => let ⟨h3, h4, o, h5, h6⟩ := hr'.obj b r base ab h1 h2; ⟨h3, Nat.lt_of_lt_of_le h4 hsz, o, by rw [hx r h4]; exact h5, h6.mono (More.refl μ) hg⟩, hr'.inj, hr'.pin.more (More.refl μ) hg⟩⟩
theorem eff_kept {μ : Mu} {h : AH} {w w' : World} (hr : HR P ρ fl μ h w) (hk : Go.Proofs.Ytjkmmbfenhhjkaa.Kept (fun _ => False) w w') : Eff P ρ fl μ h w μ h w' :=
  eff_old hr ⟨hk.tape, hk.os, hk.output⟩ hk.size fun r hr => hk.block r hr id
end Go.Proofs.Ytjkmmbfenhhjkaa.Ex
end

section

set_option linter.unusedSimpArgs false
set_option linter.unusedVariables false
namespace Go.Proofs.Ytjkmmbfenhhjkaa
open Go.RowKit
/-- Is it a byte of a name? -/
def okByte (b : UInt8) : Bool := decide (33 ≤ b.toNat) && decide (b.toNat ≤ 126)
/-- Is it a name? -/
def goodB (l : List UInt8) : Bool := l.all okByte && decide (1 ≤ l.length) && decide (l.length ≤ 64)
theorem take_snoc' (s : ByteArray) (k : Nat) (h : k < s.size) : s.data.toList.take (k + 1) = s.data.toList.take k ++ [s[k]] := by
  rw [List.take_succ_eq_append_getElem (by simpa using h)]; rfl
theorem good_bad (s : ByteArray) (k : Nat) (h : k < s.size) (hb : okByte s[k] = false) : goodB s.data.toList = false := by
  unfold goodB
  have : s.data.toList.all okByte = false := by
    rw [List.all_eq_false]
    refine ⟨s[k], ?_, by simp [hb]⟩
    have : s.data.toList[k]'(by simpa using h) ∈ s.data.toList := List.getElem_mem _
    exact this
  simp [this]
theorem good_end (s : ByteArray) (h : (s.data.toList.take s.size).all okByte = true) : goodB s.data.toList = (decide (1 ≤ s.size) && decide (s.size ≤ 64)) := by
  rw [List.take_of_length_le (by simp)] at h
  unfold goodB
  rw [h]
  simp
def GoodRel (s : ByteArray) (i : Value) : Prop := ∃ k : Nat, k ≤ s.size ∧ i = .int .i64 k ∧ (s.data.toList.take k).all okByte = true
set_option maxHeartbeats 800000 in
theorem good_c (s : ByteArray) (w : World) (hs : s.size ≤ 140737488351232) (r : Bool) (hr : goodB s.data.toList = r) :
    Calls Try.prog 21 #[.string s] w fun e w' => e = .returned (.bool r) ∧ w' = w := by
  subst hr
  go_enter Try.func21, Try.ntmps21
  go_wp2
  go_loop [7] (fun i => GoodRel s i) (fun i => s.size - (intOf i).toNat)
  case atStart => exact ⟨0, Nat.zero_le _, rfl, by simp⟩
  case round =>
    obtain ⟨k, hk, rfl, hall⟩ := hrel
    have HA := Lib.hid hall
    clear hall
    by_cases hlt : k < s.size
    · by_cases h1 : (s[k].toNat : Int) < 33
      · go_wp2
        go_ret
        rw [good_bad s k hlt (by unfold okByte; simp; omega)]
        exact ⟨rfl, rfl⟩
      · by_cases h2 : 126 < (s[k].toNat : Int)
        · go_wp2
          go_ret
          rw [good_bad s k hlt (by unfold okByte; simp; omega)]
          exact ⟨rfl, rfl⟩
        · go_wp2
          go_round
          case rel => exact ⟨k + 1, by omega, by go_num, by rw [take_snoc' s k hlt, List.all_append, HA.out]; unfold okByte; simp; omega⟩
          case measure => simp [intOf]; omega
    · obtain rfl : k = s.size := by omega
      have he := good_end s HA.out
      have HE := Lib.hid he
      clear he
      by_cases h0 : s.size = 0
      · have e0 : s.toList = [] := by rw [ByteArray.toList_eq]; exact List.eq_nil_of_length_eq_zero (by simpa using h0)
        go_wp2
        go_ret
        refine ⟨?_, rfl⟩
        rw [HE.out]
        simp [e0, h0]
      · have e0 : ¬ s.toList = [] := by rw [ByteArray.toList_eq]; intro h; exact h0 (by have := congrArg List.length h; simpa using this)
        have e1 : s.toList.isEmpty = false := by simpa using e0
        by_cases h64 : s.size ≤ 64
        · have h64' : decide ((s.size : Int) ≤ 64) = true := by simp; omega
          go_wp2
          go_ret
          refine ⟨?_, rfl⟩
          rw [HE.out]
          simp [e0, h64]
          omega
        · have h64' : decide ((s.size : Int) ≤ 64) = false := by simp; omega
          go_wp2
          go_ret
          refine ⟨?_, rfl⟩
          rw [HE.out]
          simp [h64]
end Go.Proofs.Ytjkmmbfenhhjkaa
end

section

set_option linter.unusedSimpArgs false
set_option linter.unusedVariables false
namespace Go.Proofs.Ytjkmmbfenhhjkaa
open Go.RowKit
/-- The number that bytes spell, the least first. -/
def lew : List UInt8 → Nat
  | [] => 0
  | b :: r => b.toNat + 256 * lew r
theorem lew_append (l r : List UInt8) : lew (l ++ r) = lew l + 256 ^ l.length * lew r := by
  induction l with
  | nil => simp [lew]
  | cons b l ih => rw [List.cons_append, lew, ih, lew, List.length_cons, Nat.pow_succ, Nat.mul_add]; rw [Nat.mul_comm (256 ^ l.length) 256, Nat.mul_assoc]; omega
theorem lew_lt (l : List UInt8) : lew l < 256 ^ l.length := by
  induction l with
  | nil => simp [lew]
  | cons b l ih => rw [lew, List.length_cons, Nat.pow_succ]; have := b.toNat_lt; omega
theorem lew_step (s : ByteArray) (k : Nat) (h : k < s.size) : lew (s.data.toList.take (k + 1)) = lew (s.data.toList.take k) + 256 ^ k * s[k].toNat := by
  rw [take_snoc' s k h, lew_append]
  simp [lew]
  rw [Nat.min_eq_left (by omega)]
theorem or_join (k x b : Nat) (hk : k ≤ 3) (hx : x < 256 ^ k) (hb : b < 256) : bits BinOp.or IntKind.u32 (x : Int) (((256 ^ k * b : Nat)) : Int) = ((x + 256 ^ k * b : Nat) : Int) := by
  have h32 : ∀ n : Int, 0 ≤ n → n < 2 ^ 32 → IntKind.u32.wrap n = n := fun n h0 h1 => by rw [IntKind.wrap_u32]; omega
  obtain rfl | rfl | rfl | rfl : k = 0 ∨ k = 1 ∨ k = 2 ∨ k = 3 := by omega
  all_goals
    rw [(bits_nat .u32 32 (by decide) h32 x _ (by omega) (by omega)).2]
  · simp at hx; subst hx; simp
  · have := Nat.two_pow_add_eq_or_of_lt (i := 8) (b := x) (by simpa using hx) b
    rw [Nat.or_comm, show (256 : Nat) ^ 1 = 2 ^ 8 by decide, ← this]; congr 1; omega
  · have := Nat.two_pow_add_eq_or_of_lt (i := 16) (b := x) (by simpa using hx) b
    rw [Nat.or_comm, show (256 : Nat) ^ 2 = 2 ^ 16 by decide, ← this]; congr 1; omega
  · have := Nat.two_pow_add_eq_or_of_lt (i := 24) (b := x) (by simpa using hx) b
    rw [Nat.or_comm, show (256 : Nat) ^ 3 = 2 ^ 24 by decide, ← this]; congr 1; omega
def WordRel (s : ByteArray) (m : Nat) (i r : Value) : Prop := ∃ k x : Nat, k ≤ m ∧ i = .int .i64 k ∧ r = .int .u32 x ∧ Hid (x = lew (s.data.toList.take k))
set_option maxHeartbeats 800000 in
theorem word_c (s : ByteArray) (w : World) (hs : s.size ≤ 140737488351232) :
    Calls Try.prog 56 #[.string s] w fun e w' => e = .returned (.int .u32 (lew (s.data.toList.take 4))) ∧ w' = w := by
  obtain ⟨m, hm⟩ : ∃ m : Nat, m = min s.size 4 := ⟨_, rfl⟩
  have hmin : ∀ (w : World), (Builtin.min_ #[3, 3] 3 #[.int .i64 s.size, .int .i64 4]).run Try.prog w = .ok (.int .i64 m) w := fun w => by
    rw [show (m : Int) = min (s.size : Int) 4 by omega]; exact Lib.run_min_ints _ _ _ _ _ _ _
  have m4 : m ≤ 4 := by omega
  have ms : m ≤ s.size := by omega
  have HM := Lib.hid hm
  clear hm
  go_enter Try.func56, Try.ntmps56
  go_wp2
  go_loop [8, 3] (fun i r => WordRel s m i r) (fun i _ => m - (intOf i).toNat)
  case atStart => exact ⟨0, 0, Nat.zero_le _, rfl, rfl, Lib.hid (by simp [lew])⟩
  case round =>
    obtain ⟨k, x, hk, rfl, rfl, hx⟩ := hrel
    by_cases hlt : k < m
    · have hks : k < s.size := by omega
      have hk1 : k + 1 ≤ m := hlt
      have hb := (s[k]).toNat_lt
      have hstep := Lib.hid (lew_step s k hks)
      have hx1 : x < 256 ^ k := by rw [hx.out]; have := lew_lt (s.data.toList.take k); rw [List.length_take, Nat.min_eq_left (by simp; omega)] at this; exact this
      have hor := Lib.hid (or_join k x (s[k]).toNat (by omega) hx1 (by omega))
      clear hx1
      obtain rfl | rfl | rfl | rfl : k = 0 ∨ k = 1 ∨ k = 2 ∨ k = 3 := by omega
      all_goals
        go_wp2
        go_round
        case rel =>
          refine ⟨_, x + _, ?_, rfl, ?_, Lib.hid ((congrArg (· + _) hx.out).trans hstep.out.symm)⟩
          · exact hk1
          · refine congrArg (Value.int .u32) ?_
            rw [← hor.out]
            refine congrArg (bits BinOp.or IntKind.u32 _) ?_
            omega
        case measure => simp [intOf]; omega
    · go_wp2
      go_ret
      obtain rfl : k = m := by omega
      refine ⟨?_, rfl⟩
      rw [hx.out, HM.out]
      refine congrArg (fun l => Ending.returned (.int .u32 ((lew l : Nat) : Int))) ?_
      rcases Nat.le_total s.size 4 with h | h
      · rw [Nat.min_eq_left h, List.take_of_length_le (by simp), List.take_of_length_le (by simpa using h)]
      · rw [Nat.min_eq_right h]
end Go.Proofs.Ytjkmmbfenhhjkaa
end

section

set_option linter.unusedSimpArgs false
set_option linter.unusedVariables false
namespace Go.Proofs.Ytjkmmbfenhhjkaa
open Go.RowKit
theorem ix0 (w : World) : (Instr.index 171 (.agg #[.int .i64 13, .int .i64 8, .int .i64 13, .int .i64 12, .int .i64 16, .int .i64 5, .int .i64 3, .int .i64 10, .int .i64 15]) (.int .i64 0)).run Try.prog w = .ok (.agg #[.int .i64 13, .int .i64 8, .int .i64 13]) w := by kernel_rfl
theorem ix1 (w : World) : (Instr.index 171 (.agg #[.int .i64 13, .int .i64 8, .int .i64 13, .int .i64 12, .int .i64 16, .int .i64 5, .int .i64 3, .int .i64 10, .int .i64 15]) (.int .i64 1)).run Try.prog w = .ok (.agg #[.int .i64 12, .int .i64 16, .int .i64 5]) w := by kernel_rfl
theorem ix2 (w : World) : (Instr.index 171 (.agg #[.int .i64 13, .int .i64 8, .int .i64 13, .int .i64 12, .int .i64 16, .int .i64 5, .int .i64 3, .int .i64 10, .int .i64 15]) (.int .i64 2)).run Try.prog w = .ok (.agg #[.int .i64 3, .int .i64 10, .int .i64 15]) w := by kernel_rfl
/-- A trio of words. -/
structure Trio where
  x : Int
  y : Int
  z : Int
/-- One round. -/
def rnd (p q r : Int) (t : Trio) : Trio :=
  let x := bits BinOp.xor IntKind.u32 ((t.x - t.y - t.z) % 4294967296) (t.z / p)
  let y := bits BinOp.xor IntKind.u32 ((t.y - t.z - x) % 4294967296) (x * q % 4294967296)
  let z := bits BinOp.xor IntKind.u32 ((t.z - x - y) % 4294967296) (y / r)
  ⟨x, y, z⟩
def rnds : Nat → Trio → Trio
  | 0, t => t
  | 1, t => rnd 8192 256 8192 t
  | 2, t => rnd 4096 65536 32 (rnd 8192 256 8192 t)
  | _, t => rnd 8 1024 32768 (rnd 4096 65536 32 (rnd 8192 256 8192 t))
def mixT (t : Trio) : Trio := rnds 3 t
def Trio.cells (t : Trio) : Array Value := #[.int .u32 t.x, .int .u32 t.y, .int .u32 t.z]
def MixRel (t : Trio) (i a b c : Value) : Prop := ∃ (k : Nat) (x y z : Int), k ≤ 3 ∧ i = .int .i64 k ∧ a = .int .u32 x ∧ b = .int .u32 y ∧ c = .int .u32 z ∧ Hid (rnds k t = ⟨x, y, z⟩)
set_option maxHeartbeats 1000000 in
theorem mix_c {w : World} (b : Nat) (t : Trio) (hb : w.heap[b]? = some (.cells t.cells 159)) :
    Calls Try.prog 57 #[.pointer (some ⟨b, 0, none⟩)] w fun e w' => e = .returned (.tuple #[]) ∧ Kept (fun k => k = b) w w' ∧ w'.heap[b]? = some (.cells (mixT t).cells 159) := by
  have z0 : w.cell? ⟨b, 0, none⟩ = some (.int .u32 t.x) := cell_in hb
  have z1 : w.cell? ⟨b, 1, none⟩ = some (.int .u32 t.y) := cell_in hb
  have z2 : w.cell? ⟨b, 2, none⟩ = some (.int .u32 t.z) := cell_in hb
  have HB := Lib.hid hb
  clear hb
  go_enter Try.func57, Try.ntmps57
  go_wp2
  go_quiet (fail)
  clear z0 z1 z2
  go_wp2
  go_loopw [23, 2, 3, 4] (fun i a b c w' => MixRel t i a b c ∧ Kept (fun _ => False) w w') (fun i _ _ _ _ => 3 - (intOf i).toNat)
  case atStart => exact ⟨⟨0, _, _, _, by omega, rfl, rfl, rfl, rfl, Lib.hid rfl⟩, Kept.drewN _ _ _⟩
  case round =>
    obtain ⟨⟨k, x, y, z, hk, rfl, rfl, rfl, rfl, hr⟩, hkr⟩ := hrel
    have hz : wr.heap[b]? = _ := (hkr.block b (lt_in HB.out) (fun h => h)).trans HB.out
    have z0 : wr.cell? ⟨b, 0, none⟩ = some (.int .u32 _) := cell_in hz
    have z1 : wr.cell? ⟨b, 1, none⟩ = some (.int .u32 _) := cell_in hz
    have z2 : wr.cell? ⟨b, 2, none⟩ = some (.int .u32 _) := cell_in hz
    have f0 : wr.frozen? ⟨b, 0, none⟩ = false := frozen_in hz
    have f1 : wr.frozen? ⟨b, 1, none⟩ = false := frozen_in hz
    have f2 : wr.frozen? ⟨b, 2, none⟩ = false := frozen_in hz
    have hlb := lt_in hz
    have HZ := Lib.hid hz
    clear hz
    obtain rfl | rfl | rfl | rfl : k = 0 ∨ k = 1 ∨ k = 2 ∨ k = 3 := by omega
    · have i0 := ix0
      go_wp2
      go_roundw
      case rel =>
        refine ⟨⟨1, _, _, _, by omega, rfl, rfl, rfl, rfl, Lib.hid ?_⟩, hkr.al _⟩
        have h := hr.out
        simp only [rnds] at h ⊢
        rw [h]
        rfl
      case measure => simp [intOf]
    · have i0 := ix1
      go_wp2
      go_roundw
      case rel =>
        refine ⟨⟨2, _, _, _, by omega, rfl, rfl, rfl, rfl, Lib.hid ?_⟩, hkr.al _⟩
        have h := hr.out
        simp only [rnds] at h ⊢
        rw [h]
        rfl
      case measure => simp [intOf]
    · have i0 := ix2
      go_wp2
      go_roundw
      case rel =>
        refine ⟨⟨3, _, _, _, by omega, rfl, rfl, rfl, rfl, Lib.hid ?_⟩, hkr.al _⟩
        have h := hr.out
        simp only [rnds] at h ⊢
        rw [h]
        rfl
      case measure => simp [intOf]
    · go_wp2
      refine bodyPost_end (v := .tuple #[]) (by simp [results, Try.results57]) rfl ⟨rfl, ?_, ?_⟩
      · refine Kept.st ?_ _ (.inl rfl)
        refine Kept.st ?_ _ (.inl rfl)
        refine Kept.st ?_ _ (.inl rfl)
        exact hkr.mono (fun _ _ h => h.elim)
      · have h3 := heap_setCell_same (o := 2) (heap_setCell_same (o := 1) (heap_setCell_same (o := 0) HZ.out (.int .u32 x)) (.int .u32 y)) (.int .u32 z)
        refine h3.trans ?_
        have h := hr.out
        unfold mixT
        rw [h]
        rfl
end Go.Proofs.Ytjkmmbfenhhjkaa
end

section

set_option linter.unusedSimpArgs false
set_option linter.unusedVariables false
namespace Go.Proofs.Ytjkmmbfenhhjkaa
open Go.RowKit
theorem ext_toList (s : ByteArray) (i j : Nat) : (s.extract i j).data.toList = (s.data.toList.drop i).take (j - i) := by
  rw [ByteArray.data_extract, Array.toList_extract, List.extract_eq_take_drop]
/-- Words added. -/
def addT (t : Trio) (a b c : Int) : Trio := ⟨(t.x + a) % 4294967296, (t.y + b) % 4294967296, (t.z + c) % 4294967296⟩
/-- One chunk of twelve bytes. -/
def chunk (t : Trio) (l : List UInt8) : Trio := mixT (addT t (lew (l.take 4)) (lew ((l.drop 4).take 4)) (lew ((l.drop 8).take 4)))
/-- The end. -/
def endT (N : Int) (t : Trio) (l : List UInt8) : Int := (mixT ⟨(t.x + lew (l.take 4)) % 4294967296, (t.y + lew ((l.drop 4).take 4)) % 4294967296, ((t.z + N) % 4294967296 + (lew (l.drop 8) * 256 : Nat)) % 4294967296⟩).z
/-- The name's number from a state on. -/
def nameFrom (N : Int) (t : Trio) (l : List UInt8) : Int :=
  if h : 12 ≤ l.length then nameFrom N (chunk t l) (l.drop 12) else endT N t l
termination_by l.length
decreasing_by simp; omega
def trio0 : Trio := ⟨2654435769, 2654435769, 0⟩
def nameN (l : List UInt8) : Int := nameFrom ((l.length : Int) % 4294967296) trio0 l
theorem nameFrom_step {N : Int} {t : Trio} {l : List UInt8} (h : 12 ≤ l.length) : nameFrom N t l = nameFrom N (chunk t l) (l.drop 12) := by
  rw [nameFrom, dif_pos h]
theorem nameFrom_end {N : Int} {t : Trio} {l : List UInt8} (h : ¬ 12 ≤ l.length) : nameFrom N t l = endT N t l := by
  rw [nameFrom, dif_neg h]
theorem toList_len (s : ByteArray) : s.data.toList.length = s.size := by simp
def strLen : Value → Nat
  | .string s => s.size
  | _ => 0
end Go.Proofs.Ytjkmmbfenhhjkaa
end

section

set_option linter.unusedSimpArgs false
set_option linter.unusedVariables false
namespace Go.Proofs.Ytjkmmbfenhhjkaa
open Go.RowKit
/-- Its words are words. -/
def Trio.ok (t : Trio) : Prop := (0 ≤ t.x ∧ t.x < 4294967296) ∧ (0 ≤ t.y ∧ t.y < 4294967296) ∧ 0 ≤ t.z ∧ t.z < 4294967296
theorem bits_u32 (o : BinOp) (a b : Int) (h : o = .xor) : 0 ≤ bits o IntKind.u32 a b ∧ bits o IntKind.u32 a b < 4294967296 := by
  subst h
  simp only [bits, IntKind.wrap_u32]
  omega
theorem mixT_ok (t : Trio) : (mixT t).ok := ⟨bits_u32 _ _ _ rfl, bits_u32 _ _ _ rfl, (bits_u32 _ _ _ rfl).1, (bits_u32 _ _ _ rfl).2⟩
/-- The first k words added. -/
def addK (k : Nat) (t : Trio) (a b c : Int) : Trio := ⟨if 1 ≤ k then (t.x + a) % 4294967296 else t.x, if 2 ≤ k then (t.y + b) % 4294967296 else t.y, if 3 ≤ k then (t.z + c) % 4294967296 else t.z⟩
def NameRelE (N r : Int) (b : Nat) (T : TypeId) (v : Value) (w : World) : Prop := ∃ (s : ByteArray) (t : Trio), v = .string s ∧ s.size ≤ 140737488351232 ∧ w.heap[b]? = some (.cells t.cells T) ∧ Hid t.ok ∧ Hid (nameFrom N t s.data.toList = r)
set_option maxRecDepth 100000 in
set_option maxHeartbeats 2000000 in
theorem name_c (g : Addr) (s : ByteArray) (w : World) (hs : s.size ≤ 140737488351232) :
    Calls Try.prog 50 #[.pointer (some g), .string s] w fun e w' => e = .returned (.int .u32 (nameN s.data.toList)) ∧ Kept (fun _ => False) w w' := by
  go_enter Try.func50, Try.ntmps50
  go_wp2
  obtain ⟨N, hN⟩ : ∃ N : Int, N = (s.size : Int) % 4294967296 := ⟨_, rfl⟩
  rw [← hN]
  have HN := Lib.hid hN
  clear hN
  have HS := Lib.hid hs
  clear hs
  have hx : (w.alloc (Obj.cells trio0.cells 159)).heap[w.heap.size]? = some (Obj.cells trio0.cells 159) := heap_alloc_new' _ _
  have K0 := Kept.alloc (fun _ => False) w (Obj.cells trio0.cells 159)
  go_loopw [1] (fun v w' => NameRelE N (nameN s.data.toList) w.heap.size 159 v w' ∧ Kept (fun _ => False) w w') (fun v _ => strLen v)
  case atStart => exact ⟨⟨s, trio0, rfl, HS.out, hx, Lib.hid (by unfold Trio.ok trio0; decide), Lib.hid (by unfold nameN; rw [toList_len, HN.out])⟩, K0⟩
  case round =>
    obtain ⟨⟨s1, t, rfl, hs1, hh, hok, hr⟩, hkr⟩ := hrel
    have HH := Lib.hid hh
    clear hh
    by_cases h12 : 12 ≤ s1.size
    · have i4 : (4 : Int) ≤ (s1.size : Int) := by omega
      have i8 : (8 : Int) ≤ (s1.size : Int) := by omega
      have i12 : (12 : Int) ≤ (s1.size : Int) := by omega
      go_wp2
      go_loopw [19] (fun i w' => (∃ k : Nat, k ≤ 3 ∧ i = .int .i64 k ∧ w'.heap[w.heap.size]? = some (.cells (addK k t (lew (s1.data.toList.take 4)) (lew ((s1.data.toList.drop 4).take 4)) (lew ((s1.data.toList.drop 8).take 4))).cells 159)) ∧ Kept (fun _ => False) w w') (fun i _ => 3 - (intOf i).toNat)
      case atStart => exact ⟨⟨0, by omega, rfl, HH.out⟩, hkr⟩
      case round =>
        obtain ⟨⟨k, hk, rfl, hh⟩, hkr⟩ := hrel
        clear HH
        have w0 : IntKind.i64.wrap 0 = 0 := by decide
        have w4 : IntKind.i64.wrap 4 = 4 := by decide
        have w8 : IntKind.i64.wrap 8 = 8 := by decide
        have w12 : IntKind.i64.wrap 12 = 12 := by decide
        obtain rfl | rfl | rfl | rfl : k = 0 ∨ k = 1 ∨ k = 2 ∨ k = 3 := by omega
        · have z0 : wr.cell? ⟨w.heap.size, 0, none⟩ = some (.int .u32 t.x) := cell_in hh
          have f0 : wr.frozen? ⟨w.heap.size, 0, none⟩ = false := frozen_in hh
          have hl := lt_in hh
          have HH := Lib.hid hh
          clear hh
          have e1 : (s1.extract 0 4).size ≤ 140737488351232 := by simp; omega
          go_wp2
          refine wp_region_ord [0, 1, 2, 3, 4, 5, 6, 7, 8, 9, 10, 11, 12] [] [13] (by kernel_rfl) (by kernel_rfl) (fun _ _ d _ _ h => by cases d <;> exact h) ?_
          simp only [sel, List.filterMap_cons, List.filterMap_nil, List.getElem?_cons_zero, List.getElem?_cons_succ]
          repeat (quiet_step (fail))
          quiet_step (first | (go_at_call 56; exact Calls.quiet_of_same (word_c _ _ e1)))
          repeat (quiet_step (fail))
          refine wpQuiet_nil ?_
          refine wpIdle_nil ?_
          rintro _ ⟨nr, rfl⟩
          go_wp2
          go_roundw
          case rel =>
            refine ⟨⟨1, by omega, rfl, ?_⟩, ?_⟩
            · refine (heap_setCell_same (w := wr.drewN nr) (o := 0) HH.out _).trans ?_
              simp [addK, Trio.cells, List.take_take]
            · refine Kept.st ?_ _ (.inr (by simp))
              exact hkr.dN nr
          case measure => simp [intOf]
        · have z0 : wr.cell? ⟨w.heap.size, 1, none⟩ = some (.int .u32 t.y) := cell_in hh
          have f0 : wr.frozen? ⟨w.heap.size, 1, none⟩ = false := frozen_in hh
          have hl := lt_in hh
          have HH := Lib.hid hh
          clear hh
          have e1 : (s1.extract 4 8).size ≤ 140737488351232 := by simp; omega
          go_wp2
          refine wp_region_ord [0, 1, 2, 3, 4, 5, 6, 7, 8, 9, 10, 11, 12] [] [13] (by kernel_rfl) (by kernel_rfl) (fun _ _ d _ _ h => by cases d <;> exact h) ?_
          simp only [sel, List.filterMap_cons, List.filterMap_nil, List.getElem?_cons_zero, List.getElem?_cons_succ]
          repeat (quiet_step (fail))
          quiet_step (first | (go_at_call 56; exact Calls.quiet_of_same (word_c _ _ e1)))
          repeat (quiet_step (fail))
          refine wpQuiet_nil ?_
          refine wpIdle_nil ?_
          rintro _ ⟨nr, rfl⟩
          go_wp2
          go_roundw
          case rel =>
            refine ⟨⟨2, by omega, rfl, ?_⟩, ?_⟩
            · refine (heap_setCell_same (w := wr.drewN nr) (o := 1) HH.out _).trans ?_
              simp [addK, Trio.cells, List.take_take]
            · refine Kept.st ?_ _ (.inr (by simp))
              exact hkr.dN nr
          case measure => simp [intOf]
        · have z0 : wr.cell? ⟨w.heap.size, 2, none⟩ = some (.int .u32 t.z) := cell_in hh
          have f0 : wr.frozen? ⟨w.heap.size, 2, none⟩ = false := frozen_in hh
          have hl := lt_in hh
          have HH := Lib.hid hh
          clear hh
          have e1 : (s1.extract 8 12).size ≤ 140737488351232 := by simp; omega
          go_wp2
          refine wp_region_ord [0, 1, 2, 3, 4, 5, 6, 7, 8, 9, 10, 11, 12] [] [13] (by kernel_rfl) (by kernel_rfl) (fun _ _ d _ _ h => by cases d <;> exact h) ?_
          simp only [sel, List.filterMap_cons, List.filterMap_nil, List.getElem?_cons_zero, List.getElem?_cons_succ]
          repeat (quiet_step (fail))
          quiet_step (first | (go_at_call 56; exact Calls.quiet_of_same (word_c _ _ e1)))
          repeat (quiet_step (fail))
          refine wpQuiet_nil ?_
          refine wpIdle_nil ?_
          rintro _ ⟨nr, rfl⟩
          go_wp2
          go_roundw
          case rel =>
            refine ⟨⟨3, by omega, rfl, ?_⟩, ?_⟩
            · refine (heap_setCell_same (w := wr.drewN nr) (o := 2) HH.out _).trans ?_
              simp [addK, Trio.cells, List.take_take]
            · refine Kept.st ?_ _ (.inr (by simp))
              exact hkr.dN nr
          case measure => simp [intOf]
        · have hadd : mixT (addK 3 t (lew (s1.data.toList.take 4)) (lew ((s1.data.toList.drop 4).take 4)) (lew ((s1.data.toList.drop 8).take 4))) = chunk t s1.data.toList := by simp [addK, addT, chunk]
          have HA := Lib.hid hadd
          clear hadd
          go_wp2_with fail
          refine (mix_c w.heap.size _ hh).mono ?_
          rintro e w3 ⟨rfl, hk3, hh3⟩
          rw [HA.out] at hh3
          have H3 := Lib.hid hh3
          clear hh3 hh
          go_wp2
          go_roundw
          case rel =>
            refine ⟨⟨_, chunk t s1.data.toList, rfl, ?_, H3.out, Lib.hid (mixT_ok _), Lib.hid ?_⟩, ?_⟩
            · simp; omega
            · rw [← hr.out, nameFrom_step (l := s1.data.toList) (by simpa using h12), ext_toList, List.take_of_length_le (by simp)]
            · exact hkr.thn hk3 (fun i hi => .inr (by omega))
          case measure => simp [strLen]; omega
    · have z2 : wr.cell? ⟨w.heap.size, 2, none⟩ = some (.int .u32 t.z) := cell_in HH.out
      have f2 : wr.frozen? ⟨w.heap.size, 2, none⟩ = false := frozen_in HH.out
      have hl := lt_in HH.out
      go_wp2
      have h1 := heap_setCell_same (o := 2) HH.out (.int .u32 ((t.z + N) % 4294967296))
      have K1 : Kept (fun _ => False) w (wr.setCell ⟨w.heap.size, 2, none⟩ (.int .u32 ((t.z + N) % 4294967296))) := Kept.st hkr _ (.inr (by simp))
      generalize wr.setCell ⟨w.heap.size, 2, none⟩ (.int .u32 ((t.z + N) % 4294967296)) = w1 at h1 K1 ⊢
      go_loopw [44] (fun i w' => (∃ k : Nat, k ≤ 3 ∧ i = .int .i64 k ∧ w'.heap[w.heap.size]? = some (.cells (addK k ⟨t.x, t.y, (t.z + N) % 4294967296⟩ (lew (s1.data.toList.take 4)) (lew ((s1.data.toList.drop 4).take 4)) ((lew (s1.data.toList.drop 8) : Int) * 256)).cells 159)) ∧ Kept (fun _ => False) w w') (fun i _ => 3 - (intOf i).toNat)
      case atStart => exact ⟨⟨0, by omega, rfl, h1⟩, K1⟩
      case round =>
        obtain ⟨⟨k, hk, rfl, hh⟩, hkr⟩ := hrel
        clear HH z2 f2 h1
        obtain rfl | rfl | rfl | rfl : k = 0 ∨ k = 1 ∨ k = 2 ∨ k = 3 := by omega
        · have z0 : wr.cell? ⟨w.heap.size, 0, none⟩ = some (.int .u32 t.x) := cell_in hh
          have f0 : wr.frozen? ⟨w.heap.size, 0, none⟩ = false := frozen_in hh
          have hl := lt_in hh
          have HH := Lib.hid hh
          clear hh
          by_cases hlen : 0 < s1.size
          · have e1 : (s1.extract 0 s1.size).size ≤ 140737488351232 := by simp; omega
            go_wp2_with fail
            refine (word_c _ _ hs1).mono ?_
            rintro e _ ⟨rfl, rfl⟩
            go_wp2
            go_roundw
            case rel =>
              refine ⟨⟨1, by omega, rfl, ?_⟩, ?_⟩
              · refine (heap_setCell_same (o := 0) HH.out _).trans ?_
                skip
                skip
                skip
                simp [addK, Trio.cells, List.take_take]
                
              · refine Kept.st ?_ _ (.inr (by simp))
                exact hkr
            case measure => simp [intOf]
          · have hz : s1.data.toList.drop 0 = [] := List.drop_of_length_le (by rw [toList_len]; omega)
            have HZ := Lib.hid hz
            clear hz
            go_wp2
            go_roundw
            case rel =>
              refine ⟨⟨1, by omega, rfl, HH.out.trans ?_⟩, hkr⟩
              obtain ⟨⟨o1, o2⟩, ⟨o3, o4⟩, o5, o6⟩ := hok.out
              have hz := HZ.out
              try simp only [List.drop_zero] at hz
              simp [addK, Trio.cells, hz, lew]
              omega
            case measure => simp [intOf]
        · have z0 : wr.cell? ⟨w.heap.size, 1, none⟩ = some (.int .u32 t.y) := cell_in hh
          have f0 : wr.frozen? ⟨w.heap.size, 1, none⟩ = false := frozen_in hh
          have hl := lt_in hh
          have HH := Lib.hid hh
          clear hh
          by_cases hlen : 4 < s1.size
          · have e1 : (s1.extract 4 s1.size).size ≤ 140737488351232 := by simp; omega
            go_wp2_with fail
            refine (word_c _ _ e1).mono ?_
            rintro e _ ⟨rfl, rfl⟩
            go_wp2
            go_roundw
            case rel =>
              refine ⟨⟨2, by omega, rfl, ?_⟩, ?_⟩
              · refine (heap_setCell_same (o := 1) HH.out _).trans ?_
                have e0 : (s1.data.toList.drop 4).take (s1.size - 4) = s1.data.toList.drop 4 := List.take_of_length_le (by rw [List.length_drop, toList_len]; omega)
                try simp only [e0]
                skip
                skip
                simp [addK, Trio.cells]
              · refine Kept.st ?_ _ (.inr (by simp))
                exact hkr
            case measure => simp [intOf]
          · have hz : s1.data.toList.drop 4 = [] := List.drop_of_length_le (by rw [toList_len]; omega)
            have HZ := Lib.hid hz
            clear hz
            go_wp2
            go_roundw
            case rel =>
              refine ⟨⟨2, by omega, rfl, HH.out.trans ?_⟩, hkr⟩
              obtain ⟨⟨o1, o2⟩, ⟨o3, o4⟩, o5, o6⟩ := hok.out
              have hz := HZ.out
              try simp only [List.drop_zero] at hz
              simp [addK, Trio.cells, hz, lew]
              omega
            case measure => simp [intOf]
        · have z0 : wr.cell? ⟨w.heap.size, 2, none⟩ = some (.int .u32 ((t.z + N) % 4294967296)) := cell_in hh
          have f0 : wr.frozen? ⟨w.heap.size, 2, none⟩ = false := frozen_in hh
          have hl := lt_in hh
          have HH := Lib.hid hh
          clear hh
          by_cases hlen : 8 < s1.size
          · have e1 : (s1.extract 8 s1.size).size ≤ 140737488351232 := by simp; omega
            go_wp2_with fail
            refine (word_c _ _ e1).mono ?_
            rintro e _ ⟨rfl, rfl⟩
            go_wp2
            go_roundw
            case rel =>
              refine ⟨⟨3, by omega, rfl, ?_⟩, ?_⟩
              · refine (heap_setCell_same (o := 2) HH.out _).trans ?_
                have e0 : (s1.data.toList.drop 8).take (s1.size - 8) = s1.data.toList.drop 8 := List.take_of_length_le (by rw [List.length_drop, toList_len]; omega)
                have e0' : (s1.data.toList.drop 8).take 4 = s1.data.toList.drop 8 := List.take_of_length_le (by rw [List.length_drop, toList_len]; omega)
                simp only [e0, e0']
                have e2 := lew_lt (s1.data.toList.drop 8)
                have e3 : (256 : Nat) ^ (s1.data.toList.drop 8).length ≤ 256 ^ 3 := Nat.pow_le_pow_right (by omega) (by rw [List.length_drop, toList_len]; omega)
                simp [addK, Trio.cells]
                skip
              · refine Kept.st ?_ _ (.inr (by simp))
                exact hkr
            case measure => simp [intOf]
          · have hz : s1.data.toList.drop 8 = [] := List.drop_of_length_le (by rw [toList_len]; omega)
            have HZ := Lib.hid hz
            clear hz
            go_wp2
            go_roundw
            case rel =>
              refine ⟨⟨3, by omega, rfl, HH.out.trans ?_⟩, hkr⟩
              obtain ⟨⟨o1, o2⟩, ⟨o3, o4⟩, o5, o6⟩ := hok.out
              have hz := HZ.out
              try simp only [List.drop_zero] at hz
              simp [addK, Trio.cells, hz, lew]
              try omega
            case measure => simp [intOf]
        · have hend := nameFrom_end (N := N) (t := t) (l := s1.data.toList) (by rw [toList_len]; omega)
          rw [hr.out] at hend
          have hadd : (mixT (addK 3 ⟨t.x, t.y, (t.z + N) % 4294967296⟩ (lew (s1.data.toList.take 4)) (lew ((s1.data.toList.drop 4).take 4)) ((lew (s1.data.toList.drop 8) : Int) * 256))).z = nameN s.data.toList := by
            rw [hend]
            simp [addK, endT]
          have HA := Lib.hid hadd
          clear hadd hend
          go_wp2_with fail
          refine (mix_c w.heap.size _ hh).mono ?_
          rintro e w3 ⟨rfl, hk3, hh3⟩
          have z3 : w3.cell? ⟨w.heap.size, 2, none⟩ = some (.int .u32 _) := cell_in hh3
          have hl3 := lt_in hh3
          rw [HA.out] at z3
          have H3 := Lib.hid hh3
          clear hh3 hh
          go_wp2
          go_ret
          exact ⟨rfl, hkr.thn hk3 (fun i hi => .inr (by omega))⟩
end Go.Proofs.Ytjkmmbfenhhjkaa
end

section

set_option linter.unusedSimpArgs false
set_option linter.unusedVariables false
namespace Go.Proofs.Ytjkmmbfenhhjkaa.Ex
open Go Go.RowKit
def sGood : List AV → AH → Option (AV × AH)
  | [.lit (.string s)], h => bif decide (s.size ≤ 140737488351232) then some (.lit (.bool (goodB s.data.toList)), h) else none
  | _, _ => none
def sName : List AV → AH → Option (AV × AH)
  | [.ptr b off, .lit (.string s)], h => bif decide (s.size ≤ 140737488351232) then some (.lit (.int .u32 (nameN s.data.toList)), h) else none
  | _, _ => none
variable {ρ : Nat → Value} {fl : Nat}
theorem sGood_ok {μ : Mu} {h h' : AH} {w : World} {v : AV} {args : List AV} {args' : List Value} (hg : sGood args h = some (v, h')) (hr : HR Try.prog ρ fl μ h w) (ha : rels ρ μ w args args') :
    Calls Try.prog 21 args'.toArray w fun e w' => ∃ μ' v', e = .returned v' ∧ Eff Try.prog ρ fl μ h w μ' h' w' ∧ rel ρ μ' w' v v' := by
  unfold sGood at hg
  split at hg
  case h_2 => cases hg
  rename_i s
  cases hc : decide (s.size ≤ 140737488351232) with
  | false => rw [hc] at hg; cases hg
  | true =>
  rw [hc] at hg
  cases hg
  obtain ⟨v1, vs, rfl, r1, r2⟩ := rels_cons_inv ha
  obtain rfl := rels_nil_inv r2
  obtain rfl : v1 = .string s := rel_lit_inv r1
  refine (good_c s w (of_decide_eq_true hc) _ rfl).mono fun e w' hy => ?_
  obtain ⟨rfl, rfl⟩ := hy
  exact ⟨μ, _, rfl, Eff.refl hr, rel_lit rfl⟩
theorem sName_ok {μ : Mu} {h h' : AH} {w : World} {v : AV} {args : List AV} {args' : List Value} (hg : sName args h = some (v, h')) (hr : HR Try.prog ρ fl μ h w) (ha : rels ρ μ w args args') :
    Calls Try.prog 50 args'.toArray w fun e w' => ∃ μ' v', e = .returned v' ∧ Eff Try.prog ρ fl μ h w μ' h' w' ∧ rel ρ μ' w' v v' := by
  unfold sName at hg
  split at hg
  case h_2 => cases hg
  rename_i b off s
  cases hc : decide (s.size ≤ 140737488351232) with
  | false => rw [hc] at hg; cases hg
  | true =>
  rw [hc] at hg
  cases hg
  obtain ⟨vp, vs, rfl, r1, r2⟩ := rels_cons_inv ha
  obtain ⟨v1, vs, rfl, r3, r4⟩ := rels_cons_inv r2
  obtain rfl := rels_nil_inv r4
  obtain rfl : v1 = .string s := rel_lit_inv r3
  obtain ⟨r, base, m1, rfl⟩ := rel_ptr_inv r1
  refine (name_c _ s w (of_decide_eq_true hc)).mono fun e w' hy => ?_
  obtain ⟨rfl, hk⟩ := hy
  exact ⟨μ, _, rfl, eff_kept hr hk, rel_lit rfl⟩
end Go.Proofs.Ytjkmmbfenhhjkaa.Ex
end

section

set_option linter.unusedSimpArgs false
set_option linter.unusedVariables false
namespace Go.Proofs.Ytjkmmbfenhhjkaa.Ex
open Go Go.RowKit
theorem follows_mixed : Try.prog.follows .mixedOrders = true := by kernel_rfl
def sHash2 : List AV → AH → Option (AV × AH)
  | [.ptr _ _, .lit (.int .u32 a), .lit (.int .u32 b)], h => some (.lit (.int .u32 (hash2V a b)), h)
  | _, _ => none
def sHash3 : List AV → AH → Option (AV × AH)
  | [.ptr _ _, .lit (.int .u32 a), .lit (.int .u32 b), .lit (.int .u32 c)], h => some (.lit (.int .u32 (hash3V a b c)), h)
  | _, _ => none
def sLn : List AV → AH → Option (AV × AH)
  | [.lit (.int .i64 u)], h => some (.lit (.int .i64 (lnV u)), h)
  | _, _ => none
theorem bif_some {α : Type} {b : Bool} {x : α} {y : Option α} {z : α} (h : (bif b then some x else y) = some z) : (b = true ∧ x = z) ∨ y = some z := by
  cases b
  · exact .inr h
  · exact .inl ⟨rfl, Option.some.inj h⟩
/-- What the sums of the first kind know: the atomic addition, hashes, the logarithm. -/
def S01 : Sums := fun f =>
  bif Nat.beq f 28 then some sAdd else
  bif Nat.beq f 52 then some sHash2 else
  bif Nat.beq f 87 then some sHash3 else
  bif Nat.beq f 94 then some sLn else none
theorem sums_ok01 (ρ : Nat → Value) (fl : Nat) : SumsOK Try.prog ρ fl S01 := by
  intro f g args h v h' hs hg μ w args' hr ha
  unfold S01 at hs
  have key : ∀ (f : FuncId) (x : Value), scal x = true → (WC Try.prog (tabOf Try.prog NT0) S00 f args h fun r h' => Ext h.n h h' ∧ r = .lit x) → Calls Try.prog f args'.toArray w fun e w' => ∃ μ' v', e = .returned v' ∧ Eff Try.prog ρ fl μ h w μ' h w' ∧ rel ρ μ' w' (.lit x) v' :=
    fun f x hx hw => sum_of_wc tab_sound noNG follows_mixed (sums_ok00 ρ fl) hx hw hr ha
  rcases bif_some hs with ⟨h1, rfl⟩ | hs
  · obtain rfl := Nat.eq_of_beq_eq_true h1
    exact sAdd_ok hg hr ha
  rcases bif_some hs with ⟨h1, rfl⟩ | hs
  · obtain rfl := Nat.eq_of_beq_eq_true h1
    unfold sHash2 at hg
    split at hg
    case h_2 => cases hg
    cases hg
    rw [hash2V_eq]; exact key _ _ rfl (hash2_x _ _)
  rcases bif_some hs with ⟨h1, rfl⟩ | hs
  · obtain rfl := Nat.eq_of_beq_eq_true h1
    unfold sHash3 at hg
    split at hg
    case h_2 => cases hg
    cases hg
    rw [hash3V_eq]; exact key _ _ rfl (hash3_x _ _ _)
  rcases bif_some hs with ⟨h1, rfl⟩ | hs
  · obtain rfl := Nat.eq_of_beq_eq_true h1
    unfold sLn at hg
    split at hg
    case h_2 => cases hg
    cases hg
    rw [lnV_eq]; exact key _ _ rfl ((ln_x _).mono fun r h' ⟨e, q⟩ => ⟨e ▸ Ext.refl _ _, q⟩)
  cases hs
theorem closed_c {f n : Nat} (hrun : isTrue (ex Try.prog (tabOf Try.prog NT0) S01 n (.call f [] none) .nil) = true) (w : World) : Calls Try.prog f #[] w fun e w' => e = .returned (.bool true) ∧ Below w.heap.size w w' := by
  obtain ⟨h', hx⟩ := isTrue_inv hrun
  refine (ex_calls (ρ := fun _ => default) (args' := []) tab_sound noNG follows_mixed (sums_ok01 _ _) hx rels_nil).mono fun e w' hy => ?_
  obtain ⟨v', μ', rfl, hb, hv⟩ := hy
  exact ⟨by rw [rel_bool_inv hv], hb⟩
def capB (z : Nat) : AV → Bool
  | .sl _ _ n (.kn k) => Nat.ble n k
  | .sl _ _ _ (.un z') => Nat.beq z' z
  | _ => true
theorem capB_ok {z : Nat} {v : AV} (h : capB z v = true) : CapOk z v := by
  rintro b off n cap rfl
  cases cap with
  | kn k => exact Nat.ble_eq.mp h
  | un z' => exact Nat.eq_of_beq_eq_true h
/-- A pool put in behind the last one: what append does. -/
def sInsA : List AV → AH → Option (AV × AH)
  | [v, .lit (.int .i64 i), .sl b2 o2 1 _], h => match getR h b2 with
    | some l2 => match cut l2 o2 4 with
      | some new => bif isSl v && capB 4 v && Nat.ble ((lenD v + 1) * 32) 140737488355328 && new.all AV.one && decide (i = (lenD v : Int)) then appendB h 95 4 1 new v else none
      | none => none
    | none => none
  | _, _ => none
theorem insA_app {h h' : AH} {v r : AV} {b2 o2 : Nat} {k2 : Cap} {l2 new : List AV} (hv : isSl v = true) (hbig : (lenD v + 1) * 32 ≤ 140737488355328) (hg2 : getR h b2 = some l2) (hc2 : cut l2 o2 4 = some new) (h1 : new.all AV.one = true) (ha : appendB h 95 4 1 new v = some (r, h')) :
    appendA (tabOf Try.prog NT0) h 69 69 v (.sl b2 o2 1 k2) = some (r, h') := by
  have e1 : und (tabOf Try.prog NT0) 69 = some (.slice 95) := by kernel_rfl
  have h00 : (tabOf Try.prog NT0 95).map (fun i => (i.bytes, i.zero.cells.length, i.size)) = some (32, 4, 4) := by kernel_rfl
  obtain ⟨i0, h0, he⟩ := Option.map_eq_some_iff.1 h00
  obtain ⟨hb, hz, hs⟩ : i0.bytes = 32 ∧ i0.zero.cells.length = 4 ∧ i0.size = 4 := by
    simp only [Prod.mk.injEq] at he
    exact he
  have hlv : lenA v = some (lenD v) := by
    obtain ⟨n, ⟨rfl, _⟩ | ⟨b, off, cap, rfl⟩⟩ := SlN.of hv <;> rfl
  have hsrc : srcA h 4 (.sl b2 o2 1 k2) = some new := by
    simp only [srcA, hg2]
    exact hc2
  have hnl : new.length = 4 := by
    unfold cut at hc2
    split at hc2
    · cases hc2
      rw [List.length_take, List.length_drop]
      omega
    · cases hc2
  unfold appendA
  have f1 : Nat.ble (lenD v + 1) 4611686018427387904 = true := Nat.ble_eq_true_of_le (by omega)
  have f2 : Nat.ble ((lenD v + 1) * 32) 140737488355328 = true := Nat.ble_eq_true_of_le hbig
  have hlu : lenA (.sl b2 o2 1 k2) = some 1 := rfl
  rw [e1, hlv, hlu]
  simp only [h0, hb, hz, hs, hsrc, hnl, h1, f1, f2]
  exact ha
theorem sum_of_wcV {ρ : Nat → Value} {fl : Nat} {S : Sums} (hS : SumsOK Try.prog ρ fl S) {f : FuncId} {args : List AV} {h h' : AH} {r : AV}
    (hw : WC Try.prog (tabOf Try.prog NT0) S f args h fun a b => a = r ∧ b = h') {μ : Mu} {w : World} {args' : List Value} (hr : HR Try.prog ρ fl μ h w) (ha : rels ρ μ w args args') :
    Calls Try.prog f args'.toArray w fun e w' => ∃ μ' v', e = .returned v' ∧ Eff Try.prog ρ fl μ h w μ' h' w' ∧ rel ρ μ' w' r v' := by
  obtain ⟨n, o, h1, hex, v, cm, rfl, rfl, rfl⟩ := hw
  intro cs
  obtain ⟨_, h2⟩ := ex_ok tab_sound noNG follows_mixed hS n _ _ _ _ hex
  obtain ⟨_, μ', w', f', cs', q1, q2, q3, q4⟩ := h2 _ w cs args' hr ha trivial
  cases cm with
  | some m => rename_i h3; cases h3
  | none =>
    have q4 : cs' = cs := q4
    subst q4
    obtain ⟨r1, r2, r3, r4, fn, v', r5, r6, r7⟩ := q3
    exact ⟨.returned v', w', f', ⟨μ', v', rfl, q1, r7⟩, q2, r1, r4, r2, r3, fn, by rw [r1]; exact r5, r6⟩
/-! with slices.Insert[[]thole/api.Pool,thole/api.Pool] -/
set_option maxRecDepth 10000 in
set_option maxHeartbeats 4000000 in
theorem insA_x {h h' : AH} {v u r : AV} (hv : isSl v = true) (hcap : CapOk 4 v) (hu : isSl u = true) (h1 : lenD u = 1) (hrt : isSl r = true) (ha : appendA (tabOf Try.prog NT0) h 69 69 v u = some (r, h')) :
    WC Try.prog (tabOf Try.prog NT0) S01 35 [v, .lit (.int .i64 (lenD v)), u] h fun a b => a = r ∧ b = h' := by
  refine WC_fn Try.func35 rfl rfl ?_
  have hle : ((lenD v : Int) ≤ (lenD v : Int)) = True := by simp
  have h11 : (((1 : Nat) : Int) == 0) = false := rfl
  have hee : ((lenD v : Int) == (lenD v : Int)) = true := by simp
  simp only [core, zrA, zrS, zrM, zrL, zrE, reduceCtorEq, zrD, ziE, ziL, ziN, Try.ntmps35, hv, hu, h1, hle, h11, hcap, hee]
  rw [ha]
  simp only [core, zrA, zrS, zrM, zrL, zrE, reduceCtorEq, zrD, ziE, ziL, ziN, hrt]
def sInsF (args : List AV) (h : AH) : Option (AV × AH) := match sIns args h with
  | some r => some r
  | none => sInsA args h
theorem appendB_sl {h h' : AH} {e : TypeId} {z : Nat} {new : List AV} {v r : AV} (ha : appendB h e z 1 new v = some (r, h')) : isSl r = true := by
  unfold appendB at ha
  rw [show Nat.beq 1 0 = false from rfl] at ha
  simp only [cond_false] at ha
  split at ha
  · cases ha; rfl
  · split at ha
    · split at ha
      · split at ha
        · rename_i q1 q2
          cases hq : (Nat.beq z _ && Nat.beq e _) with
          | false => rw [hq] at ha; cases ha
          | true => rw [hq] at ha; cases ha; rfl
        · cases ha
      · cases ha
    · rename_i off len cap k
      cases hq : Nat.ble (len + 1) k with
      | false =>
        rw [hq] at ha
        simp only [cond_false] at ha
        split at ha
        · split at ha
          · cases ha; rfl
          · cases ha
        · cases ha
      | true =>
        rw [hq] at ha
        simp only [cond_true] at ha
        split at ha
        · obtain ⟨_, _, hh⟩ := Option.map_eq_some_iff.1 ha
          cases hh
          rfl
        · cases ha
  · cases ha
theorem sInsA_ok {ρ : Nat → Value} {fl : Nat} {μ : Mu} {h h' : AH} {w : World} {v : AV} {args : List AV} {args' : List Value} (hg : sInsA args h = some (v, h')) (hr : HR Try.prog ρ fl μ h w) (ha : rels ρ μ w args args') :
    Calls Try.prog 35 args'.toArray w fun e w' => ∃ μ' v', e = .returned v' ∧ Eff Try.prog ρ fl μ h w μ' h' w' ∧ rel ρ μ' w' v v' := by
  unfold sInsA at hg
  split at hg
  case h_2 => cases hg
  rename_i x i b2 o2 k2
  split at hg
  case h_2 => cases hg
  rename_i l2 hg2
  split at hg
  case h_2 => cases hg
  rename_i new hc2
  cases hcc : (isSl x && capB 4 x && Nat.ble ((lenD x + 1) * 32) 140737488355328 && new.all AV.one && decide (i = (lenD x : Int))) with
  | false => rw [hcc] at hg; cases hg
  | true =>
  rw [hcc] at hg
  simp only [Bool.and_eq_true, decide_eq_true_eq] at hcc
  obtain ⟨⟨⟨⟨q1, q2⟩, q3⟩, q4⟩, rfl⟩ := hcc
  exact sum_of_wcV (sums_ok01 ρ fl) (insA_x (u := .sl b2 o2 1 k2) q1 (capB_ok q2) rfl rfl (appendB_sl hg) (insA_app q1 (Nat.ble_eq.mp q3) hg2 hc2 q4 hg)) hr ha
set_option maxRecDepth 100000 in
theorem lives23_run : isTrue (ex Try.prog (tabOf Try.prog NT0) S01 100000 (.call 5 [] none) .nil) = true := by decide +kernel
def S0 : Sums := fun f => bif Nat.beq f 5 then some sTrue else bif Nat.beq f 35 then some sInsF else bif Nat.beq f 64 then some sSort else bif Nat.beq f 66 then some sCompact else bif Nat.beq f 21 then some sGood else bif Nat.beq f 50 then some sName else S01 f
theorem sums_ok (ρ : Nat → Value) (fl : Nat) : SumsOK Try.prog ρ fl S0 := by
  intro f g args h v h' hs hg μ w args' hr ha
  unfold S0 at hs
  rcases bif_some hs with ⟨h1, rfl⟩ | hs
  · obtain rfl := Nat.eq_of_beq_eq_true h1
    exact sTrue_ok (closed_c lives23_run) hg hr ha
  rcases bif_some hs with ⟨h1, rfl⟩ | hs
  · obtain rfl := Nat.eq_of_beq_eq_true h1
    unfold sInsF at hg
    split at hg
    · rename_i r hq
      cases hg
      exact sIns_ok hq hr ha
    · exact sInsA_ok hg hr ha
  rcases bif_some hs with ⟨h1, rfl⟩ | hs
  · obtain rfl := Nat.eq_of_beq_eq_true h1
    exact sSort_ok hg hr ha
  rcases bif_some hs with ⟨h1, rfl⟩ | hs
  · obtain rfl := Nat.eq_of_beq_eq_true h1
    exact sCompact_ok hg hr ha
  rcases bif_some hs with ⟨h1, rfl⟩ | hs
  · obtain rfl := Nat.eq_of_beq_eq_true h1
    exact sGood_ok hg hr ha
  rcases bif_some hs with ⟨h1, rfl⟩ | hs
  · obtain rfl := Nat.eq_of_beq_eq_true h1
    exact sName_ok hg hr ha
  · exact sums_ok01 ρ fl f g args h v h' hs hg μ w args' hr ha
theorem good_s {H : AH} {Q : AV → AH → Prop} {s : ByteArray} (hs : s.size ≤ 140737488351232) (hq : Q (.lit (.bool (goodB s.data.toList))) H) : WC Try.prog (tabOf Try.prog NT0) S0 21 [.lit (.string s)] H Q :=
  WC_sum Try.func21 rfl (g := sGood) rfl (by simp only [sGood, decide_eq_true hs, cond_true]) hq
theorem name_s {H : AH} {Q : AV → AH → Prop} {s : ByteArray} {b off : Nat} (hs : s.size ≤ 140737488351232) (hq : Q (.lit (.int .u32 (nameN s.data.toList))) H) : WC Try.prog (tabOf Try.prog NT0) S0 50 [.ptr b off, .lit (.string s)] H Q :=
  WC_sum Try.func50 rfl (g := sName) rfl (by simp only [sName, decide_eq_true hs, cond_true]) hq
theorem add_s {H : AH} {Q : AV → AH → Prop} {b off : Nat} {x y : Int} {l l' : List AV} {e : TypeId} (hb : getB H b = some (l, e)) (hx : l[off]? = some (.lit (.int .i64 x))) (hp : put l off [.lit (.int .i64 (IntKind.i64.wrap (x + y)))] = some l') (hq : Q (.lit (.int .i64 (IntKind.i64.wrap (x + y)))) (H.put b (.cells l' e))) : WC Try.prog (tabOf Try.prog NT0) S0 28 [.ptr b off, .lit (.int .i64 y)] H Q :=
  WC_sum Try.func28 rfl (g := sAdd) rfl (by simp only [sAdd, hb, hx, hp, Option.map_some]) hq
theorem lives23_c {H : AH} {Q : AV → AH → Prop} (hq : Q (.lit (.bool true)) H) : WC Try.prog (tabOf Try.prog NT0) S0 5 [] H Q := WC_sum Try.func5 rfl (g := sTrue) rfl rfl hq
/-! Calls of what is summed up. -/
section
variable {H : AH} {Q : AV → AH → Prop}
theorem hash2_c {be oe : Nat} {a b : Int} (hq : Q (.lit (.int .u32 (hash2F a b))) H) : WC Try.prog (tabOf Try.prog NT0) S0 52 [.ptr be oe, .lit (.int .u32 a), .lit (.int .u32 b)] H Q :=
  WC_sum Try.func52 rfl (g := sHash2) rfl (by rw [show sHash2 [.ptr be oe, .lit (.int .u32 a), .lit (.int .u32 b)] H = some (.lit (.int .u32 (hash2V a b)), H) from rfl, hash2V_eq]) hq
theorem hash3_c {be oe : Nat} {a b c : Int} (hq : Q (.lit (.int .u32 (hash3F a b c))) H) : WC Try.prog (tabOf Try.prog NT0) S0 87 [.ptr be oe, .lit (.int .u32 a), .lit (.int .u32 b), .lit (.int .u32 c)] H Q :=
  WC_sum Try.func87 rfl (g := sHash3) rfl (by rw [show sHash3 [.ptr be oe, .lit (.int .u32 a), .lit (.int .u32 b), .lit (.int .u32 c)] H = some (.lit (.int .u32 (hash3V a b c)), H) from rfl, hash3V_eq]) hq
theorem ln_c {u : Int} (hq : Q (.lit (.int .i64 (lnF u))) H) : WC Try.prog (tabOf Try.prog NT0) S0 94 [.lit (.int .i64 u)] H Q :=
  WC_sum Try.func94 rfl (g := sLn) rfl (by rw [show sLn [.lit (.int .i64 u)] H = some (.lit (.int .i64 (lnV u)), H) from rfl, lnV_eq]) hq
theorem ins_c {b n i b2 o2 : Nat} {k2 : Cap} {l l2 old new : List AV} {e2 : TypeId} (hb : H.at b = some (.cells l 95)) (hb2 : H.at b2 = some (.cells l2 e2)) (hc : cut l 0 (n * 4) = some old) (hc2 : cut l2 o2 4 = some new)
    (hbig : (n + 1) * 32 ≤ 140737488355328) (hne : b ≠ b2) (h1 : new.all AV.one = true) (h2 : old.all AV.one = true) (hi : i < n) (hq : Q (.sl H.n 0 (n + 1) (.un 4)) ((H.put b .gone).push (.cells (old.take (i * 4) ++ new ++ old.drop (i * 4)) 95))) :
    WC Try.prog (tabOf Try.prog NT0) S0 35 [.sl b 0 n (.un 4), .lit (.int .i64 i), .sl b2 o2 1 k2] H Q := by
  refine WC_sum Try.func35 rfl (g := sInsF) rfl ?_ hq
  have g1 : getB H b = some (l, 95) := by unfold getB; rw [hb]
  have g2 : getB H b2 = some (l2, e2) := by unfold getB; rw [hb2]
  have g3 : Nat.beq b b2 = false := by rw [Bool.eq_false_iff]; exact fun hh => hne (Nat.eq_of_beq_eq_true hh)
  have g4 : Nat.ble ((n + 1) * 32) 140737488355328 = true := Nat.ble_eq_true_of_le hbig
  have g5 : decide ((0 : Int) ≤ (i : Int)) = true := decide_eq_true (by omega)
  have g6 : decide ((i : Int) < (n : Int)) = true := decide_eq_true (by omega)
  have key : sIns [.sl b 0 n (.un 4), .lit (.int .i64 i), .sl b2 o2 1 k2] H = some (.sl H.n 0 (n + 1) (.un 4), (H.put b .gone).push (.cells (old.take (i * 4) ++ new ++ old.drop (i * 4)) 95)) := by
    unfold sIns
    simp only [g1, g2, hc, hc2, g3, g4, g5, g6, h1, h2, Nat.beq_refl, Bool.not_false, Bool.and_self, cond_true, Int.toNat_natCast]
  unfold sInsF
  rw [key]
theorem insA_c {b2 o2 : Nat} {k2 : Cap} {l2 new : List AV} {v r : AV} {H' : AH} (hv : isSl v = true) (hcap : CapOk 4 v) (hg2 : getR H b2 = some l2) (hc2 : cut l2 o2 4 = some new) (hbig : (lenD v + 1) * 32 ≤ 140737488355328) (h1 : new.all AV.one = true)
    (ha : appendB H 95 4 1 new v = some (r, H')) (hq : Q r H') :
    WC Try.prog (tabOf Try.prog NT0) S0 35 [v, .lit (.int .i64 (lenD v)), .sl b2 o2 1 k2] H Q := by
  refine WC_sum Try.func35 rfl (g := sInsF) rfl ?_ hq
  have e1 : sIns [v, .lit (.int .i64 (lenD v)), .sl b2 o2 1 k2] H = none := by
    obtain ⟨n, ⟨rfl, _⟩ | ⟨b, off, cap, rfl⟩⟩ := SlN.of hv
    · rfl
    · cases off with
      | succ off => rfl
      | zero =>
        cases cap with
        | kn k => rfl
        | un z =>
          obtain rfl : z = 4 := hcap b 0 n (.un z) rfl
          show (match getB H b, getB H b2 with
            | some (l, e), some (l2, _) => match cut l 0 (n * 4), cut l2 o2 4 with
              | some old, some new => bif Nat.beq e 95 && Nat.ble ((n + 1) * 32) 140737488355328 && !Nat.beq b b2 && new.all AV.one && old.all AV.one && decide (0 ≤ ((n : Nat) : Int)) && decide (((n : Nat) : Int) < (n : Int)) then
                  some (AV.sl H.n 0 (n + 1) (.un 4), (H.put b .gone).push (.cells (old.take ((n : Int).toNat * 4) ++ new ++ old.drop ((n : Int).toNat * 4)) e)) else none
              | _, _ => none
            | _, _ => none) = none
          have hd : decide (((n : Nat) : Int) < (n : Int)) = false := decide_eq_false (by omega)
          simp only [hd, Bool.and_false, cond_false]
          split
          · split <;> rfl
          · rfl
  have hcb : capB 4 v = true := by
    obtain ⟨n, ⟨rfl, _⟩ | ⟨b, off, cap, rfl⟩⟩ := SlN.of hv
    · rfl
    · have := hcap b off n cap rfl
      cases cap with
      | kn k => exact Nat.ble_eq_true_of_le this
      | un z' => exact Nat.beq_eq.mpr this
  have f2 : Nat.ble ((lenD v + 1) * 32) 140737488355328 = true := Nat.ble_eq_true_of_le hbig
  unfold sInsF
  rw [e1]
  simp only [sInsA, hg2, hc2, hv, hcb, f2, h1, Bool.and_self, decide_true, cond_true]
  exact ha
end
end Go.Proofs.Ytjkmmbfenhhjkaa.Ex
end

section

set_option linter.unusedSimpArgs false
set_option linter.unusedVariables false
set_option maxRecDepth 10000
namespace Go.Proofs.Ytjkmmbfenhhjkaa.Ex
open Go
/-- A number in a list of numbers. -/
theorem IsSl.int {T : TT} {F : Nat → Prop} {h : AH} {v : AV} {xs : List Int} {e : TypeId} (hs : IsSl RInt F h v xs) (hA : isAggT T e = some false) (hS : sizeT T e = some 1) {i : Nat} (hi : i < xs.length) :
    loadA T h e (slB v) (slO v + i) = some (.lit (.int .i64 (xs.getD i 0))) := by
  obtain ⟨c, ⟨rfl, _⟩, h2⟩ := hs.get (T := T) (List.getElem?_eq_getElem hi)
  have := h2 e 1 0 hS (by omega) (by show 0 + 1 ≤ 1; omega)
  simp only [RInt, Nat.mul_one, Nat.add_zero] at this
  rw [this]
  simp [ldL, hA, hS, List.getD_eq_getElem?_getD, List.getElem?_eq_getElem hi]
def idxF (x : Int) : List Int → Int → Int
  | [], _ => -1
  | y :: r, i => if x = y then i else idxF x r (i + 1)
theorem idxF_mem (x : Int) : ∀ (l : List Int) (i : Int), 0 ≤ i → (0 ≤ idxF x l i ↔ x ∈ l)
  | [], i, hi => by simp [idxF]
  | y :: r, i, hi => by
    unfold idxF
    by_cases h : x = y
    · rw [if_pos h]; simp [h, hi]
    · rw [if_neg h, idxF_mem x r (i + 1) (by omega)]; simp [h]
theorem idxF_drop (x : Int) {xs : List Int} {i : Nat} (hi : i < xs.length) : idxF x (xs.drop i) i = if x = xs.getD i 0 then (i : Int) else idxF x (xs.drop (i + 1)) ((i + 1 : Nat) : Int) := by
  rw [List.drop_eq_getElem_cons hi, List.getD_eq_getElem?_getD, List.getElem?_eq_getElem hi, idxF]; rfl
theorem index_x {F : Nat → Prop} {H : AH} {v : AV} {xs : List Int} (x : Int) (hv : IsSl RInt F H v xs) (hl : xs.length < 2 ^ 62) :
    WC Try.prog (tabOf Try.prog NT0) S0 73 [v, .lit (.int .i64 x)] H fun r h' => h' = H ∧ r = .lit (.int .i64 (idxF x xs 0)) := by
  refine WC_fn Try.func73 rfl rfl ?_
  have s1 := hv.isSl
  have s2 := hv.lenD
  simp only [core, zrA, zrS, zrM, zrL, zrE, reduceCtorEq, zrD, ziE, ziL, ziN, Try.ntmps73, s1, s2]
  refine WB_for xs.length (fun i t h => h = H ∧ idxF x (xs.drop i) i = idxF x xs 0 ∧ t.n = 19 ∧ t.get 0 = v ∧ t.get 1 = .lit (.int .i64 x) ∧ t.get 7 = .lit (.int .i64 xs.length) ∧ t.get 8 = .lit (.int .i64 i)) ?_ ?_ _ _ ?_
  · rintro i t h hlt hc ⟨rfl, hx, hn, g0, g1, g7, g8⟩ ih
    have hld := hv.int (T := tabOf Try.prog NT0) (e := 3) (by kernel_rfl) (by kernel_rfl) hlt
    have hw := wrap_succ hlt (by omega)
    simp only [core, zrA, zrS, zrM, zrL, zrE, reduceCtorEq, zrD, ziE, ziL, ziN, s1, s2, hn, g0, g1, g7, g8, hlt, hc, hld, hw]
    rw [idxF_drop x hlt] at hx
    refine ⟨fun he => ?_, fun he => ?_⟩
    · rw [if_pos (by simpa using he)] at hx
      rw [hx]
    · refine ih _ _ ?_
      rw [if_neg (by simpa using he)] at hx
      simp only [core, zrA, zrS, zrM, zrL, zrE, reduceCtorEq, zrD, ziE, ziL, ziN, hn, g0, g1, g7, g8]
      exact hx
  · rintro t h hc ⟨rfl, hx, hn, g0, g1, g7, g8⟩
    simp only [core, zrA, zrS, zrM, zrL, zrE, reduceCtorEq, zrD, ziE, ziL, ziN, s1, s2, hn, g0, g1, g7, g8, hc]
    rw [← hx]
    simp [idxF]
  · simp only [core, zrA, zrS, zrM, zrL, zrE, reduceCtorEq, zrD, ziE, ziL, ziN]
    simp
theorem contains_x {F : Nat → Prop} {H : AH} {v : AV} {xs : List Int} (x : Int) (hv : IsSl RInt F H v xs) (hl : xs.length < 2 ^ 62) :
    WC Try.prog (tabOf Try.prog NT0) S0 68 [v, .lit (.int .i64 x)] H fun r h' => h' = H ∧ r = .lit (.bool (xs.contains x)) := by
  refine WC_fn Try.func68 rfl rfl ?_
  simp only [core, zrA, zrS, zrM, zrL, zrE, reduceCtorEq, zrD, ziE, ziL, ziN, Try.ntmps68]
  refine (index_x x hv hl).mono ?_
  rintro v h ⟨rfl, rfl⟩
  simp only [core, zrA, zrS, zrM, zrL, zrE, reduceCtorEq, zrD, ziE, ziL, ziN, Try.ntmps68]
  have h1 := idxF_mem x xs 0 (by omega)
  congr 2
  rw [Bool.eq_iff_iff]
  simp [h1]
/-- A copy of a slice: its rows are new. -/
theorem fresh_append {α : Type} {R : Rep α} {T : TT} {F : Nat → Prop} {H : AH} {v zv : AV} {xs : List α} {t e by' : Nat} (hu : und T t = some (.slice e)) (hz : sizeT T e = some R.z) (hzv : zeroT T e = some zv) (hb : bytesT T e = some by') (hzl : zv.cells.length = R.z) (h0 : 0 < R.z) (h200 : R.z ≤ 200)
    (hr : IsSl R F H v xs) (hn : xs.length ≤ 4611686018427387904) (hy : xs.length * by' ≤ 140737488355328) {p : Nat} (hp : H.at p = some (.cells [] e)) :
    ∃ s' h', appendA T H t t (.sl p 0 0 (.kn 0)) v = some (s', h') ∧ Ext H.n H h' ∧ IsSl R (fun b => F b ∨ b = p ∨ H.n ≤ b) h' s' xs ∧ SlF (fun b => b = p ∨ H.n ≤ b) s' ∧ isNil s' = false := by
  obtain ⟨L, h1, h2, hc, h3⟩ := hr.out
  have e0 : L.length = xs.length := h3.1
  have hlt := at_lt hp
  rcases append_fresh (T := T) (h := H) (t := t) (tx := t) (e := e) (z := R.z) (by' := by') (zv := zv) (M := L) (p := p) (x := v) hu hu hz hzv hb hzl h0 h200 hp h1.src h1.len h1.1 h3.ones (by rw [e0]; exact hn) (by rw [e0]; exact hy) with ⟨hM, ha⟩ | ⟨hM, ha⟩
  · subst hM
    obtain rfl : xs = [] := List.eq_nil_of_length_eq_zero (by rw [← e0]; rfl)
    refine ⟨_, _, ha, Ext.refl _ _, .mk (L := []) ⟨by simp, .inr ⟨p, 0, _, [], rfl, by unfold getR; rw [hp], by simp [cut]⟩⟩ (fun b off n cap e => by cases e; exact .inr (.inl rfl)) (fun b off n cap e => by cases e; exact Nat.le_refl 0) .nil, fun b off n cap e => by cases e; exact .inl rfl, rfl⟩
  · refine ⟨_, _, ha, (Ext.refl _ _).push _ (Nat.le_refl _), .mk (L := L) ⟨h1.1, .inr ⟨H.n, 0, _, L.flatten, rfl, by unfold getR; rw [at_push_n], ?_⟩⟩ (fun b off n cap e => by cases e; exact .inr (.inr (Nat.le_refl _))) (fun b off n cap e => by cases e; rfl) (h3.lift fun b hb hlt => ⟨at_push_lt _ hlt, .inl hb⟩), fun b off n cap e => by cases e; exact .inr (Nat.le_refl _), rfl⟩
    unfold cut
    rw [if_pos (by rw [flat_len h1.1]; omega), List.drop_zero, ← flat_len h1.1, List.take_length]
theorem IsSl.empty {α : Type} {R : Rep α} {F : Nat → Prop} {H : AH} {v : AV} {xs : List α} (h : IsSl R F H v xs) (hn : isNil v = true) : xs = [] := by
  refine List.eq_nil_of_length_eq_zero ?_
  rw [← h.lenD]
  unfold isNil at hn
  split at hn
  · rfl
  · cases hn
theorem clone_x {F : Nat → Prop} {H : AH} {v : AV} {xs : List Int} (hv : IsSl RInt F H v xs) (hl : xs.length * 8 ≤ 140737488355328) :
    WC Try.prog (tabOf Try.prog NT0) S0 40 [v] H fun r h' => Ext H.n H h' ∧ IsSl RInt (fun b => H.n ≤ b) h' r xs ∧ isNil r = isNil v := by
  refine WC_fn Try.func40 rfl rfl ?_
  have s1 := hv.isSl
  have s2 := hv.lenD
  simp only [core, zrA, zrS, zrM, zrL, zrE, reduceCtorEq, zrD, ziE, ziL, ziN, Try.ntmps40, s1, s2]
  refine ⟨fun he => ?_, fun he => ?_⟩
  · rw [he]
    obtain rfl := hv.empty he
    exact ⟨Ext.refl _ _, IsSl.nil, rfl⟩
  · have hv2 : IsSl RInt F (H.push (.cells [] 3)) v xs := hv.ext ((Ext.refl H.n H).push _ (Nat.le_refl _)) (Nat.le_refl _)
    refine WOp_app (fresh_append (T := tabOf Try.prog NT0) (by kernel_rfl) (by kernel_rfl) (zv := .lit (.int .i64 0)) (by kernel_rfl) (by' := 8) (by kernel_rfl) rfl (by decide) (by decide) hv2 (by omega) hl (at_push_n H _)) ?_
    rintro s' h' ⟨e1, e2, e3, e4⟩
    simp only [core, zrA, zrS, zrM, zrL, zrE, reduceCtorEq, zrD, ziE, ziL, ziN]
    rw [he]
    refine ⟨((Ext.refl H.n H).push _ (Nat.le_refl _)).trans (e1.mono (by rw [n_push]; omega)), ?_, e4⟩
    obtain ⟨L, f1, f2, f3, f4⟩ := e2.out
    refine .mk f1 (fun b off n cap e => ?_) f3 ⟨f4.1, fun i c x h1 h2 => f4.2 i c x h1 h2⟩
    rcases e3 b off n cap e with rfl | hb
    · exact Nat.le_refl _
    · rw [n_push] at hb; omega
end Go.Proofs.Ytjkmmbfenhhjkaa.Ex
end

section

set_option linter.unusedSimpArgs false
set_option linter.unusedVariables false
set_option maxRecDepth 10000
namespace Go.Proofs.Ytjkmmbfenhhjkaa.Ex
open Go
structure OsdD where
  ex : Bool
  up : Bool
  weight : Int
  boot : Int
  upFrom : Int
  upThru : Int
  deriving DecidableEq
structure PoolD where
  id : Int
  size : Int
  min : Int
  pgs : Int
  deriving DecidableEq
structure BktD where
  id : Int
  kind : Int
  items : List Int
  weights : List Int
  deriving DecidableEq
structure MapD where
  epoch : Int
  osds : List OsdD
  pools : List PoolD
  buckets : List BktD
  leaf : Int
  deriving DecidableEq
def ROsd : Rep OsdD := RMap (fun x => (x.ex, x.up, x.weight, x.boot, x.upFrom, x.upThru)) (RPair RBool (RPair RBool (RPair RInt (RPair RInt (RPair RInt RInt)))))
def RPool : Rep PoolD := RMap (fun x => (x.id, x.size, x.min, x.pgs)) (RPair RInt (RPair RInt (RPair RInt RInt)))
def RBkt : Rep BktD := RMap (fun x => (x.id, x.kind, x.items, x.weights)) (RPair RInt (RPair RInt (RPair (RSl RInt) (RSl RInt))))
def RMp : Rep MapD := RMap (fun x => (x.epoch, x.osds, x.pools, x.buckets, x.leaf)) (RPair RInt (RPair (RSl ROsd) (RPair (RSl RPool) (RPair (RSl RBkt) RInt))))
section
variable {F : Nat → Prop} {h : AH} {c : List AV}
theorem RInt_is {x : Int} : RInt.is F h c x ↔ c = [.lit (.int .i64 x)] ∧ I64 x := Iff.rfl
theorem RSl_is {α : Type} {R : Rep α} {xs : List α} : (RSl R).is F h c xs ↔ ∃ v, c = [v] ∧ IsSl R F h v xs :=
  ⟨fun hh => by obtain ⟨v, L, rfl, h1⟩ := hh; exact ⟨v, rfl, v, L, rfl, h1⟩, fun ⟨v, e, hh⟩ => e ▸ hh⟩
theorem ROsd_is {x : OsdD} : ROsd.is F h c x ↔ c = [.lit (.bool x.ex), .lit (.bool x.up), .lit (.int .i64 x.weight), .lit (.int .i64 x.boot), .lit (.int .i64 x.upFrom), .lit (.int .i64 x.upThru)] ∧ I64 x.weight ∧ I64 x.boot ∧ I64 x.upFrom ∧ I64 x.upThru := by
  constructor
  · rintro ⟨_, _, rfl, rfl, _, _, rfl, rfl, _, _, rfl, ⟨rfl, h1⟩, _, _, rfl, ⟨rfl, h2⟩, _, _, rfl, ⟨rfl, h3⟩, rfl, h4⟩
    exact ⟨rfl, h1, h2, h3, h4⟩
  · rintro ⟨rfl, h1, h2, h3, h4⟩
    exact ⟨_, _, rfl, rfl, _, _, rfl, rfl, _, _, rfl, ⟨rfl, h1⟩, _, _, rfl, ⟨rfl, h2⟩, _, _, rfl, ⟨rfl, h3⟩, rfl, h4⟩
theorem RPool_is {x : PoolD} : RPool.is F h c x ↔ c = [.lit (.int .i64 x.id), .lit (.int .i64 x.size), .lit (.int .i64 x.min), .lit (.int .i64 x.pgs)] ∧ I64 x.id ∧ I64 x.size ∧ I64 x.min ∧ I64 x.pgs := by
  constructor
  · rintro ⟨_, _, rfl, ⟨rfl, h1⟩, _, _, rfl, ⟨rfl, h2⟩, _, _, rfl, ⟨rfl, h3⟩, rfl, h4⟩
    exact ⟨rfl, h1, h2, h3, h4⟩
  · rintro ⟨rfl, h1, h2, h3, h4⟩
    exact ⟨_, _, rfl, ⟨rfl, h1⟩, _, _, rfl, ⟨rfl, h2⟩, _, _, rfl, ⟨rfl, h3⟩, rfl, h4⟩
theorem RBkt_is {x : BktD} : RBkt.is F h c x ↔ ∃ va vb, c = [.lit (.int .i64 x.id), .lit (.int .i64 x.kind), va, vb] ∧ IsSl RInt F h va x.items ∧ IsSl RInt F h vb x.weights ∧ I64 x.id ∧ I64 x.kind := by
  constructor
  · rintro ⟨_, _, rfl, ⟨rfl, h1⟩, _, _, rfl, ⟨rfl, h2⟩, _, _, rfl, h3, h4⟩
    obtain ⟨va, rfl, h3⟩ := RSl_is.1 h3
    obtain ⟨vb, rfl, h4⟩ := RSl_is.1 h4
    exact ⟨va, vb, rfl, h3, h4, h1, h2⟩
  · rintro ⟨va, vb, rfl, h3, h4, h1, h2⟩
    exact ⟨_, _, rfl, ⟨rfl, h1⟩, _, _, rfl, ⟨rfl, h2⟩, _, _, rfl, h3, h4⟩
end
theorem ROsd_z : ROsd.z = 6 := rfl
theorem RPool_z : RPool.z = 4 := rfl
theorem RBkt_z : RBkt.z = 4 := rfl
/-- The loads of an element, by place. -/
theorem IsSl.at {α : Type} {R : Rep α} {T : TT} {F : Nat → Prop} {h : AH} {v : AV} {xs : List α} (hs : IsSl R F h v xs) {z : Nat} (hz : R.z = z) {i : Nat} {x : α} (hx : xs[i]? = some x) :
    ∃ c, R.is F h c x ∧ (∀ e n j, sizeT T e = some n → 0 < n → j + n ≤ z → loadA T h e (slB v) (slO v + i * z + j) = ldL T e c j) ∧ (∀ e n, sizeT T e = some n → 0 < n → n ≤ z → loadA T h e (slB v) (slO v + i * z) = ldL T e c 0) := by
  subst hz
  obtain ⟨c, h1, h2⟩ := hs.get (T := T) hx
  exact ⟨c, h1, h2, fun e n hn h0 hle => by have := h2 e n 0 hn h0 (by omega); simpa using this⟩
/-- A list of elements of so many bytes is not too great. -/
def Sm {α : Type} (by' : Nat) (ys : List α) : Prop := ys.length * by' ≤ 140737488351232
/-- The loads of an element in a heap that has grown; what the element is, is told of the heap ahead. -/
theorem IsSl.atE {α : Type} {R : Rep α} {T : TT} {F : Nat → Prop} {H h : AH} {v : AV} {xs : List α} (hs : IsSl R F H v xs) (he : Ext H.n H h) {z : Nat} (hz : R.z = z) {i : Nat} {x : α} (hx : xs[i]? = some x) :
    ∃ c, R.is F H c x ∧ (∀ e n j, sizeT T e = some n → 0 < n → j + n ≤ z → loadA T h e (slB v) (slO v + i * z + j) = ldL T e c j) ∧ (∀ e n, sizeT T e = some n → 0 < n → n ≤ z → loadA T h e (slB v) (slO v + i * z) = ldL T e c 0) := by
  have key : ∀ e off, loadA T h e (slB v) off = loadA T H e (slB v) off := fun e off => by
    obtain ⟨L, h1, _, _, h3⟩ := hs.out
    rcases h1.2 with ⟨rfl, rfl⟩ | ⟨b, o, cap, row, rfl, h4, h5⟩
    · have := h3.1
      have hlt := (List.getElem?_eq_some_iff.1 hx).1
      simp at this
      omega
    · have := he.2 b (getR_lt h4)
      simp only [slB, loadA, getR, this]
  obtain ⟨c, h1, h2, h3⟩ := hs.at (T := T) hz hx
  exact ⟨c, h1, fun e n j a b d => by rw [key]; exact h2 e n j a b d, fun e n a b d => by rw [key]; exact h3 e n a b d⟩
end Go.Proofs.Ytjkmmbfenhhjkaa.Ex
end

section

set_option linter.unusedSimpArgs false
set_option linter.unusedVariables false
set_option maxRecDepth 10000
set_option maxHeartbeats 4000000
namespace Go.Proofs.Ytjkmmbfenhhjkaa.Ex
open Go
/-- Bytes that grow. -/
abbrev OwnB (n0 : Nat) (h : AH) (v : AV) (xs : List UInt8) : Prop := OwnL RByte (fun _ => False) n0 h v 5 xs
/-- What stands beside a row that grows is as it was. -/
def Fr (h : AH) (v : AV) (h' : AH) (v' : AV) : Prop := h.n ≤ h'.n ∧ ∀ b, b < h.n → Apart v b → h'.at b = h.at b ∧ Apart v' b
theorem Fr.refl {h : AH} {v : AV} : Fr h v h v := ⟨Nat.le_refl _, fun b _ ha => ⟨rfl, ha⟩⟩
theorem Fr.trans {h h1 h2 : AH} {v v1 v2 : AV} (a : Fr h v h1 v1) (b : Fr h1 v1 h2 v2) : Fr h v h2 v2 :=
  ⟨Nat.le_trans a.1 b.1, fun k hk ha => let ⟨x, y⟩ := a.2 k hk ha; let ⟨z, u⟩ := b.2 k (Nat.lt_of_lt_of_le hk a.1) y; ⟨z.trans x, u⟩⟩
theorem Fr.ext {h h1 : AH} {v : AV} (e : Ext h.n h h1) : Fr h v h1 v := ⟨e.1, fun b hb ha => ⟨e.2 b hb, ha⟩⟩
theorem Fr.box {h h1 : AH} {v v1 : AV} {b : Nat} {x : AB} (f : Fr h v h1 v1) (hx : h.at b = some x) (ha : Apart v b) : h1.at b = some x ∧ Apart v1 b :=
  let ⟨p, q⟩ := f.2 b (at_lt hx) ha; ⟨p.trans hx, q⟩
theorem OwnB.apart {n0 : Nat} {h : AH} {v : AV} {xs : List UInt8} (ho : OwnB n0 h v xs) {b : Nat} (hb : b < n0 ∨ h.n ≤ b) : Apart v b := by
  intro off len cap hv
  obtain ⟨L, h2, -⟩ := ho
  rcases h2.2 with ⟨rfl, -⟩ | ⟨p, rfl, hp, hat⟩
  · cases hv
  · cases hv
    have := at_lt hat
    omega
end Go.Proofs.Ytjkmmbfenhhjkaa.Ex
end

section

set_option linter.unusedSimpArgs false
set_option linter.unusedVariables false
set_option maxRecDepth 10000
set_option maxHeartbeats 4000000
namespace Go.Proofs.Ytjkmmbfenhhjkaa.Ex
open Go
def drawF (h w : Int) : Int := if w < 1 then -9223372036854775808 else IntKind.i64.wrap ((IntKind.i64.wrap (lnF (IntKind.i64.wrap (andI .u32 h 65535)) - 281474976710656)).tdiv w)
def strawF (x r id w : Int) : Int := drawF (hash3F x (IntKind.u32.wrap id) (IntKind.u32.wrap r)) w
/-- One straw more. -/
def chStep (x r : Int) (s : Int × Int) (i : Nat) (id w : Int) : Int × Int := if w < 1 then s else if s.2 < 0 ∨ s.1 < strawF x r id w then (strawF x r id w, (i : Int)) else s
def chN (ids ws : List Int) (x r : Int) : Nat → Int × Int
  | 0 => (0, -1)
  | n + 1 => chStep x r (chN ids ws x r n) n (ids.getD n 0) (ws.getD n 0)
def chooseF (ids ws : List Int) (x r : Int) : Option Nat := if ids.length = ws.length then (if 0 ≤ (chN ids ws x r ids.length).2 then some (chN ids ws x r ids.length).2.toNat else none) else none
theorem chN_le (ids ws : List Int) (x r : Int) : ∀ n, -1 ≤ (chN ids ws x r n).2 ∧ (chN ids ws x r n).2 < n
  | 0 => by unfold chN; simp
  | n + 1 => by
    have := chN_le ids ws x r n
    unfold chN chStep
    split
    · omega
    · split
      · simp only; omega
      · omega
theorem chooseF_lt {ids ws : List Int} {x r : Int} {k : Nat} (h : chooseF ids ws x r = some k) : k < ids.length ∧ ids.length = ws.length := by
  unfold chooseF at h
  have := chN_le ids ws x r ids.length
  split at h
  case isFalse => cases h
  rename_i he
  split at h
  case isFalse => cases h
  cases h
  exact ⟨by omega, he⟩
def pairV (n : Int) (b : Bool) : AV := .tup [.lit (.int .i64 n), .lit (.bool b)]
def chooseV : Option Nat → AV
  | some k => pairV k true
  | none => pairV 0 false
theorem draw_x {H : AH} (h w : Int) : WC Try.prog (tabOf Try.prog NT0) S0 86 [.lit (.int .u32 h), .lit (.int .i64 w)] H fun r h' => h' = H ∧ r = .lit (.int .i64 (drawF h w)) := by
  refine WC_fn Try.func86 rfl rfl ?_
  simp only [core, zrA, zrS, zrM, zrL, zrE, reduceCtorEq, zrD, ziE, ziL, ziN, Try.ntmps86]
  refine ⟨fun hq => ?_, fun hq => ?_⟩
  · unfold drawF
    rw [if_pos (by simpa using hq)]
  · have hq : ¬ w < 1 := by simpa using hq
    refine ln_c ?_
    have hw : ¬ w = 0 := by omega
    simp only [core, zrA, zrS, zrM, zrL, zrE, reduceCtorEq, zrD, ziE, ziL, ziN, hw]
    unfold drawF
    rw [if_neg hq]
def aggOk : Option AV → Bool
  | some (.agg cs) => cs.all AV.one
  | _ => false
theorem eng_zero : ∃ cs, zeroT (tabOf Try.prog NT0) 157 = some (.agg cs) ∧ cs.all AV.one = true := by
  have h : aggOk (zeroT (tabOf Try.prog NT0) 157) = true := by kernel_rfl
  revert h
  generalize zeroT (tabOf Try.prog NT0) 157 = o
  intro h
  unfold aggOk at h
  split at h
  · exact ⟨_, rfl, h⟩
  · cases h
theorem new_x {H : AH} : WC Try.prog (tabOf Try.prog NT0) S0 49 [] H fun r h' => ∃ p, r = .ptr p 0 ∧ Ext H.n H h' := by
  refine WC_fn Try.func49 rfl rfl ?_
  obtain ⟨cs, hz, h1⟩ := eng_zero
  simp only [core, zrA, zrS, zrM, zrL, zrE, reduceCtorEq, zrD, ziE, ziL, ziN, Try.ntmps49, hz, h1, bdM, fillA, evalParts]
  exact ⟨_, rfl, (Ext.refl _ _).push _ (Nat.le_refl _)⟩
/-- A value in a block of its own. -/
def Bk (h : AH) (p : Nat) (v : AV) (e : TypeId) : Prop := h.at p = some (.cells [v] e)
theorem Bk.ld {h : AH} {p : Nat} {v : AV} {e0 : TypeId} (hb : Bk h p v e0) (e off : Nat) : loadA (tabOf Try.prog NT0) h e p off = ldL (tabOf Try.prog NT0) e [v] off := ld_at hb e off
theorem Bk.new {h : AH} {v : AV} {e p : Nat} (hp : p = h.n) : Bk (h.push (.cells [v] e)) p v e := by subst hp; exact at_push_n h _
theorem Bk.old {h : AH} {v : AV} {e p : Nat} {x : AB} (hb : Bk h p v e) : Bk (h.push x) p v e := (at_push_lt _ (at_lt hb)).trans hb
theorem Bk.ext {h h' : AH} {v : AV} {e p : Nat} (hb : Bk h p v e) (he : Ext h.n h h') : Bk h' p v e := (he.2 p (at_lt hb)).trans hb
theorem Bk.lt {h : AH} {v : AV} {e p : Nat} (hb : Bk h p v e) : p < h.n := at_lt hb
theorem straw1_x {F : Nat → Prop} {H : AH} {vi vw ve : AV} {pe px pi pr pw be oe : Nat} {ids ws : List Int} {x r : Int} (hve : ve = .ptr be oe) (he : Bk H pe ve 138) (hx : Bk H px (.lit (.int .u32 x)) 137) (hpi : Bk H pi vi 91) (hr : Bk H pr (.lit (.int .i64 r)) 3) (hpw : Bk H pw vw 91)
    (hi : IsSl RInt F H vi ids) (hw : IsSl RInt F H vw ws) {i : Nat} (hlt : i < ids.length) (hlt2 : i < ws.length) :
    WC Try.prog (tabOf Try.prog NT0) S0 85 [.lit (.int .i64 i), .ptr pe 0, .ptr px 0, .ptr pi 0, .ptr pr 0, .ptr pw 0] H fun v h' => h' = H ∧ v = .lit (.int .i64 (strawF x r (ids.getD i 0) (ws.getD i 0))) := by
  refine WC_fn Try.func85 rfl rfl ?_
  subst hve
  have s1 := hi.isSl
  have s2 := hi.lenD
  have s3 := hw.isSl
  have s4 := hw.lenD
  have hld := hi.int (T := tabOf Try.prog NT0) (e := 3) (by kernel_rfl) (by kernel_rfl) hlt
  have hld2 := hw.int (T := tabOf Try.prog NT0) (e := 3) (by kernel_rfl) (by kernel_rfl) hlt2
  have L1 := he.ld
  have L2 := hx.ld
  have L3 := hpi.ld
  have L4 := hr.ld
  have L5 := hpw.ld
  simp only [core, zrA, zrS, zrM, zrL, zrE, reduceCtorEq, zrD, ziE, ziL, ziN, Try.ntmps85]
  rw [WB_regionD [0, 1, 2, 3, 4, 5, 6, 7, 8, 10, 11, 12, 13, 9, 14, 15] 57894719459348330706363797571987788653768963364199945496970372284946646564864 (by kernel_rfl)]
  repeat ((with_reducible refine WDM_cons ?_; simp only [dw1]; try simp only [dw2, zrA, zrM, zrR, zrO, zrE]); simp only [core, zrA, zrS, zrM, zrL, zrE, reduceCtorEq, zrD, ziE, ziL, ziN, cored, s1, s2, s3, s4, hlt, hlt2, hld, hld2, L1, L2, L3, L4, L5])
  refine hash3_c ?_
  repeat ((with_reducible refine WDM_cons ?_; simp only [dw1]; try simp only [dw2, zrA, zrM, zrR, zrO, zrE]); simp only [core, zrA, zrS, zrM, zrL, zrE, reduceCtorEq, zrD, ziE, ziL, ziN, cored, s1, s2, s3, s4, hlt, hlt2, hld, hld2, L1, L2, L3, L4, L5])
  refine (draw_x _ _).mono ?_
  rintro _ h2 ⟨rfl, rfl⟩
  repeat ((with_reducible refine WDM_cons ?_; simp only [dw1]; try simp only [dw2, zrA, zrM, zrR, zrO, zrE]); simp only [core, zrA, zrS, zrM, zrL, zrE, reduceCtorEq, zrD, ziE, ziL, ziN, cored, s1, s2, s3, s4, hlt, hlt2, hld, hld2, L1, L2, L3, L4, L5])
  rfl
theorem choose_x {F : Nat → Prop} {H : AH} {vi vw : AV} {ids ws : List Int} (x r : Int) (hi : IsSl RInt F H vi ids) (hw : IsSl RInt F H vw ws) (hl : ids.length * 8 ≤ 140737488355328) :
    WC Try.prog (tabOf Try.prog NT0) S0 71 [vi, vw, .lit (.int .u32 x), .lit (.int .i64 r)] H fun v h' => Ext H.n H h' ∧ v = chooseV (chooseF ids ws x r) := by
  refine WC_fn Try.func71 rfl rfl ?_
  have s1 := hi.isSl
  have s2 := hi.lenD
  have s3 := hw.isSl
  have s4 := hw.lenD
  have o1 := hi.one
  have o2 := hw.one
  simp only [core, zrA, zrS, zrM, zrL, zrE, reduceCtorEq, zrD, ziE, ziL, ziN, Try.ntmps71, s1, s2, s3, s4, o1, o2]
  refine ⟨fun hq => ?_, fun hq => ?_⟩
  · have hq : ¬ ids.length = ws.length := by simp at hq; omega
    unfold chooseF
    rw [if_neg hq]
    exact ⟨by repeat (first | exact Ext.refl _ _ | refine Ext.push _ ?_ (by (try simp only [n_push]); omega)), rfl⟩
  · have hq : ids.length = ws.length := by simp at hq; omega
    refine new_x.mono ?_
    rintro _ h1 ⟨p, rfl, e1⟩
    have B1 : Bk h1 H.n vi 91 := Bk.ext (by repeat (first | exact Bk.new rfl | refine Bk.old ?_)) e1
    have B2 : Bk h1 (H.n + 1) vw 91 := Bk.ext (by repeat (first | exact Bk.new rfl | refine Bk.old ?_)) e1
    have B3 : Bk h1 (H.n + 1 + 1) (.lit (.int .u32 x)) 137 := Bk.ext (by repeat (first | exact Bk.new rfl | refine Bk.old ?_)) e1
    have B4 : Bk h1 (H.n + 1 + 1 + 1) (.lit (.int .i64 r)) 3 := Bk.ext (by repeat (first | exact Bk.new rfl | refine Bk.old ?_)) e1
    have E1 : Ext H.n H h1 := Ext.trans (by repeat (first | exact Ext.refl _ _ | refine Ext.push _ ?_ (by (try simp only [n_push]); omega))) (e1.mono (by simp only [n_push]; omega))
    clear e1
    have L2 := B2.ld
    have l2 := B2.lt
    simp only [core, zrA, zrS, zrM, zrL, zrE, reduceCtorEq, zrD, ziE, ziL, ziN, s3, s4, L2, l2]
    obtain ⟨h2, hh2⟩ : ∃ h2, h2 = h1.push (.cells [.ptr p 0] 138) := ⟨_, rfl⟩
    have C1 : Bk h2 H.n vi 91 := hh2 ▸ B1.old
    have C2 : Bk h2 (H.n + 1) vw 91 := hh2 ▸ B2.old
    have C3 : Bk h2 (H.n + 1 + 1) (.lit (.int .u32 x)) 137 := hh2 ▸ B3.old
    have C4 : Bk h2 (H.n + 1 + 1 + 1) (.lit (.int .i64 r)) 3 := hh2 ▸ B4.old
    have C5 : Bk h2 h1.n (.ptr p 0) 138 := hh2 ▸ Bk.new rfl
    have E2 : Ext H.n H h2 := hh2 ▸ E1.push _ E1.1
    have hi2 := hi.ext E2 (Nat.le_refl _)
    have hw2 := hw.ext E2 (Nat.le_refl _)
    rw [← hh2]
    clear hh2 B1 B2 B3 B4 L2
    refine WB_for ws.length (fun i t h => h = h2 ∧ t.n = 50 ∧ t.get 11 = .fn (.func 85) [] [.ptr h1.n 0, .ptr (H.n + 1 + 1) 0, .ptr H.n 0, .ptr (H.n + 1 + 1 + 1) 0, .ptr (H.n + 1) 0] ∧ t.get 12 = .lit (.int .i64 (chN ids ws x r i).1) ∧ t.get 13 = .lit (.int .i64 (chN ids ws x r i).2) ∧ t.get 24 = vw ∧ t.get 25 = .lit (.int .i64 ws.length) ∧ t.get 26 = .lit (.int .i64 i)) ?_ ?_ _ _ ?_
    · rintro i t h hlt2 hc ⟨rfl, hn, g11, g12, g13, g24, g25, g26⟩ ih
      have hlt : i < ids.length := by omega
      have hld2 := hw2.int (T := tabOf Try.prog NT0) (e := 3) (by kernel_rfl) (by kernel_rfl) hlt2
      have hws := wrap_succ hlt2 (by omega)
      simp only [core, zrA, zrS, zrM, zrL, zrE, reduceCtorEq, zrD, ziE, ziL, ziN, s1, s2, s3, s4, hn, g11, g12, g13, g24, g25, g26, hlt, hlt2, hc, hld2, hws]
      refine ⟨fun hq1 => ?_, fun hq1 => ?_⟩
      · refine ih _ _ ⟨rfl, ?_⟩
        have e : chN ids ws x r (i + 1) = chN ids ws x r i := by rw [chN, chStep, if_pos (by simpa using hq1)]
        simp only [core, zrA, zrS, zrM, zrL, zrE, reduceCtorEq, zrD, ziE, ziL, ziN, hn, g11, g12, g13, g24, g25, g26, e]
      · have hq1 : ¬ ws.getD i 0 < 1 := by simpa using hq1
        refine (straw1_x rfl C5 C3 C1 C4 C2 hi2 hw2 hlt hlt2).mono ?_
        rintro _ h' ⟨rfl, rfl⟩
        have key : chN ids ws x r (i + 1) = if (chN ids ws x r i).2 < 0 ∨ (chN ids ws x r i).1 < strawF x r (ids.getD i 0) (ws.getD i 0) then (strawF x r (ids.getD i 0) (ws.getD i 0), (i : Int)) else chN ids ws x r i := by rw [chN, chStep, if_neg hq1]
        by_cases hp : (chN ids ws x r i).2 < 0
        · simp only [core, zrA, zrS, zrM, zrL, zrE, reduceCtorEq, zrD, ziE, ziL, ziN, hn, g11, g12, g13, g24, g25, g26, hp, hws]
          refine ih _ _ ⟨rfl, ?_⟩
          rw [if_pos (.inl hp)] at key
          simp only [core, zrA, zrS, zrM, zrL, zrE, reduceCtorEq, zrD, ziE, ziL, ziN, hn, g11, g12, g13, g24, g25, g26, key]
        · simp only [core, zrA, zrS, zrM, zrL, zrE, reduceCtorEq, zrD, ziE, ziL, ziN, hn, g11, g12, g13, g24, g25, g26, hp, hws]
          refine ⟨fun hq2 => ?_, fun hq2 => ?_⟩
          · refine ih _ _ ⟨rfl, ?_⟩
            rw [if_pos (.inr (by simpa using hq2))] at key
            simp only [core, zrA, zrS, zrM, zrL, zrE, reduceCtorEq, zrD, ziE, ziL, ziN, hn, g11, g12, g13, g24, g25, g26, key]
          · refine ih _ _ ⟨rfl, ?_⟩
            rw [if_neg (by rintro (h1 | h1); exact hp h1; exact absurd (decide_eq_true h1) (by rw [hq2]; decide))] at key
            simp only [core, zrA, zrS, zrM, zrL, zrE, reduceCtorEq, zrD, ziE, ziL, ziN, hn, g11, g12, g13, g24, g25, g26, key]
    · rintro t h hc ⟨rfl, hn, g11, g12, g13, g24, g25, g26⟩
      have hb := chN_le ids ws x r ids.length
      rw [← hq] at g13
      simp only [core, zrA, zrS, zrM, zrL, zrE, reduceCtorEq, zrD, ziE, ziL, ziN, s1, s2, s3, s4, hn, g11, g12, g13, g24, g25, g26, hc]
      refine ⟨E2, ?_⟩
      unfold chooseF
      rw [if_pos hq]
      by_cases h0 : 0 ≤ (chN ids ws x r ids.length).2
      · rw [if_neg (by omega), if_pos h0, decide_eq_true h0]
        show AV.tup _ = AV.tup _
        rw [Int.toNat_of_nonneg h0]
      · rw [if_pos (by omega), if_neg h0, decide_eq_false h0]
        rfl
    · simp only [core, zrA, zrS, zrM, zrL, zrE, reduceCtorEq, zrD, ziE, ziL, ziN]
      (repeat' apply And.intro) <;> first | rfl | trivial
end Go.Proofs.Ytjkmmbfenhhjkaa.Ex
end

section

set_option linter.unusedSimpArgs false
set_option linter.unusedVariables false
set_option maxRecDepth 10000
set_option maxHeartbeats 4000000
namespace Go.Proofs.Ytjkmmbfenhhjkaa.Ex
open Go
/-- A map's value. -/
def mpV (m : MapD) (vo vp vb : AV) : AV := .agg [.lit (.int .i64 m.epoch), vo, vp, vb, .lit (.int .i64 m.leaf)]
/-- What a map's value reads. -/
structure MpAt (F : Nat → Prop) (h : AH) (m : MapD) (vo vp vb : AV) : Prop where
  o : IsSl ROsd F h vo m.osds
  p : IsSl RPool F h vp m.pools
  b : IsSl RBkt F h vb m.buckets
theorem MpAt.ext {F : Nat → Prop} {h h' : AH} {m : MapD} {vo vp vb : AV} {n0 : Nat} (hm : MpAt F h m vo vp vb) (he : Ext n0 h h') (hn : h.n ≤ n0) : MpAt F h' m vo vp vb := ⟨hm.o.ext he hn, hm.p.ext he hn, hm.b.ext he hn⟩
def bktV (b : BktD) (va vw : AV) : AV := .agg [.lit (.int .i64 b.id), .lit (.int .i64 b.kind), va, vw]
def bkt0 : BktD := ⟨0, 0, [], []⟩
def bucketF (m : MapD) (id : Int) : Option BktD := m.buckets.find? (fun b => b.id == id)
def bucketG (m : MapD) (id : Int) : BktD := (bucketF m id).getD bkt0
theorem find_drop {α : Type} {p : α → Bool} {l : List α} {i : Nat} {x : α} (hx : l[i]? = some x) : (l.drop i).find? p = if p x then some x else (l.drop (i + 1)).find? p := by
  have hlt := (List.getElem?_eq_some_iff.1 hx).1
  rw [List.drop_eq_getElem_cons hlt, List.find?_cons]
  have : l[i] = x := by rw [List.getElem?_eq_getElem hlt] at hx; exact Option.some.inj hx
  rw [this]
  cases p x <;> rfl
end Go.Proofs.Ytjkmmbfenhhjkaa.Ex
end

section

set_option linter.unusedSimpArgs false
set_option linter.unusedVariables false
set_option maxRecDepth 10000
set_option maxHeartbeats 4000000
namespace Go.Proofs.Ytjkmmbfenhhjkaa.Ex
open Go
theorem Ext.step {H h h' : AH} (he : Ext H.n H h) (hk : Ext h.n h h') : Ext H.n H h' := he.trans (hk.mono he.1)
theorem bucket_x {F : Nat → Prop} {H : AH} {m : MapD} {vo vp vb : AV} (id : Int) (hm : MpAt F H m vo vp vb) (hl : Sm 64 m.buckets) (hok : ∀ b ∈ m.buckets, Sm 8 b.items ∧ Sm 8 b.weights) :
    WC Try.prog (tabOf Try.prog NT0) S0 44 [mpV m vo vp vb, .lit (.int .i64 id)] H fun r h' => Ext H.n H h' ∧ ∃ va vw, r = .tup [bktV (bucketG m id) va vw, .lit (.bool (bucketF m id).isSome)] ∧ IsSl RInt (fun b => H.n ≤ b) h' va (bucketG m id).items ∧ IsSl RInt (fun b => H.n ≤ b) h' vw (bucketG m id).weights := by
  refine WC_fn Try.func44 rfl rfl ?_
  unfold Sm at hl
  have s1 := hm.b.isSl
  have s2 := hm.b.lenD
  have o1 := hm.o.one
  have o2 := hm.p.one
  have o3 := hm.b.one
  simp only [core, zrA, zrS, zrM, zrL, zrE, reduceCtorEq, zrD, ziE, ziL, ziN, Try.ntmps44, mpV, s1, s2, o1, o2, o3]
  obtain ⟨h2, hh2⟩ : ∃ h2, h2 = (H.push (.cells [.lit (.int .i64 m.epoch), vo, vp, vb, .lit (.int .i64 m.leaf)] 72)).push (.cells [.lit (.int .i64 0), .lit (.int .i64 0), .lit (.slice none 0 0), .lit (.slice none 0 0)] 93) := ⟨_, rfl⟩
  have E0 : Ext H.n H h2 := hh2 ▸ ((Ext.refl _ _).push _ (Nat.le_refl _)).push _ (by rw [n_push]; omega)
  have A0 : h2.at (H.n + 1) = some (.cells [.lit (.int .i64 0), .lit (.int .i64 0), .lit (.slice none 0 0), .lit (.slice none 0 0)] 93) := hh2 ▸ at_push_n _ _
  have n2 : h2.n = H.n + 2 := by rw [hh2, n_push, n_push]
  rw [← hh2]
  clear hh2
  refine WB_for m.buckets.length (fun i t h => Ext h2.n h2 h ∧ bucketF m id = (m.buckets.drop i).find? (fun b => b.id == id) ∧ t.n = 30 ∧ t.get 1 = .lit (.int .i64 id) ∧ t.get 4 = .ptr (H.n + 1) 0 ∧ t.get 9 = vb ∧ t.get 10 = .lit (.int .i64 m.buckets.length) ∧ t.get 11 = .lit (.int .i64 i)) ?_ ?_ _ _ ?_
  · rintro i t h hlt hc ⟨he, hf, hn, g1, g4, g9, g10, g11⟩ ih
    obtain ⟨x, hx⟩ : ∃ x, m.buckets[i]? = some x := ⟨_, List.getElem?_eq_getElem hlt⟩
    have E1 : Ext H.n H h := E0.trans (he.mono (by omega))
    obtain ⟨c, hc1, hld, hld0⟩ := hm.b.atE (T := tabOf Try.prog NT0) E1 RBkt_z hx
    obtain ⟨va, vw, rfl, ha, hw, i1, i2⟩ := RBkt_is.1 hc1
    obtain ⟨k1, k2⟩ := hok x (List.mem_of_getElem? hx)
    unfold Sm at k1 k2
    have a1 := ha.one
    have w1 := hw.one
    have a2 := ha.isSl
    have w2 := hw.isSl
    have hws := wrap_succ hlt (by omega)
    rw [find_drop hx] at hf
    have A1 : h.at (H.n + 1) = some (.cells [.lit (.int .i64 0), .lit (.int .i64 0), .lit (.slice none 0 0), .lit (.slice none 0 0)] 93) := (he.2 _ (by omega)).trans A0
    have l1 : H.n + 1 < h.n := at_lt A1
    simp only [core, zrA, zrS, zrM, zrL, zrE, reduceCtorEq, zrD, ziE, ziL, ziN, s1, s2, hn, g1, g4, g9, g10, g11, hlt, hc, hld, hld0, hws, a1, w1]
    refine ⟨fun hq => ?_, fun hq => ?_⟩
    · rw [if_pos hq] at hf
      have hG : bucketG m id = x := by unfold bucketG; rw [hf]; rfl
      obtain ⟨hp, hhp⟩ : ∃ hp, hp = h.push (.cells [.lit (.int .i64 x.id), .lit (.int .i64 x.kind), va, vw] 93) := ⟨_, rfl⟩
      have EP : Ext h.n h hp := hhp ▸ (Ext.refl _ _).push _ (Nat.le_refl _)
      have P0 : hp.at h.n = some (.cells [.lit (.int .i64 x.id), .lit (.int .i64 x.kind), va, vw] 93) := hhp ▸ at_push_n h _
      have LP0 := ld_at (T := tabOf Try.prog NT0) P0
      rw [← hhp]
      rw [WB_regionD [0, 1, 3, 4, 2, 6, 5, 7, 8, 9] 632895786129742360360258634752 (by kernel_rfl)]
      repeat ((with_reducible refine WDM_cons ?_; simp only [dw1]; try simp only [dw2, zrA, zrM, zrR, zrO, zrE]); simp only [core, zrA, zrS, zrM, zrL, zrE, reduceCtorEq, zrD, ziE, ziL, ziN, cored, hn, g1, g4, g9, g10, g11, LP0, a2, w2])
      have E2 := E1.step EP
      refine (clone_x (ha.ext E2 (Nat.le_refl _)) (by omega)).mono ?_
      rintro ra h3 ⟨e3, ra1, -⟩
      have P3 := (e3.2 _ (at_lt P0)).trans P0
      have LP3 := ld_at (T := tabOf Try.prog NT0) P3
      have E3 := E2.step e3
      repeat ((with_reducible refine WDM_cons ?_; simp only [dw1]; try simp only [dw2, zrA, zrM, zrR, zrO, zrE]); simp only [core, zrA, zrS, zrM, zrL, zrE, reduceCtorEq, zrD, ziE, ziL, ziN, cored, hn, g1, g4, g9, g10, g11, LP3, a2, w2])
      refine (clone_x (hw.ext E3 (Nat.le_refl _)) (by omega)).mono ?_
      rintro rw1 h4 ⟨e4, rw2, -⟩
      have P4 := (e4.2 _ (at_lt P3)).trans P3
      have LP4 := ld_at (T := tabOf Try.prog NT0) P4
      have E4 := E3.step e4
      have l4 := at_lt P4
      have o4 := ra1.one
      have o5 := rw2.one
      have lh : h.n < hp.n := at_lt P0
      have l3 : hp.n ≤ h3.n := e3.1
      have l5 : h3.n ≤ h4.n := e4.1
      have A4 : h4.at (H.n + 1) = some (.cells [.lit (.int .i64 0), .lit (.int .i64 0), .lit (.slice none 0 0), .lit (.slice none 0 0)] 93) := ((e4.2 _ (by omega)).trans ((e3.2 _ (by omega)).trans (EP.2 _ l1))).trans A1
      have l6 : H.n + 1 < h4.n := at_lt A4
      have hne : ¬ h.n = H.n + 1 := by omega
      repeat ((with_reducible refine WDM_cons ?_; simp only [dw1]; try simp only [dw2, zrA, zrM, zrR, zrO, zrE]); simp only [core, zrA, zrS, zrM, zrL, zrE, reduceCtorEq, zrD, ziE, ziL, ziN, cored, hn, g1, g4, g9, g10, g11, LP4, P4, l4, o4, o5, a2, w2, A4, l6, hne])
      rw [hG, hf]
      have k0 := E1.1
      refine ⟨((E4.put _ (by omega)).put _ (by omega)).put _ (by omega), _, _, rfl, ?_, ?_⟩
      · refine ra1.lift fun b hb hlt => ⟨?_, by omega⟩
        rw [at_put_ne _ (by omega), at_put_ne _ (by omega), at_put_ne _ (by omega)]
        exact e4.2 b hlt
      · refine rw2.lift fun b hb hlt => ⟨?_, by omega⟩
        rw [at_put_ne _ (by omega), at_put_ne _ (by omega), at_put_ne _ (by omega)]
    · rw [if_neg (by rw [hq]; decide)] at hf
      refine ih _ _ ⟨he.push _ he.1, hf, ?_⟩
      simp only [core, zrA, zrS, zrM, zrL, zrE, reduceCtorEq, zrD, ziE, ziL, ziN, hn, g1, g4, g9, g10, g11]
  · rintro t h hc ⟨he, hf, hn, g1, g4, g9, g10, g11⟩
    have A1 : h.at (H.n + 1) = some (.cells [.lit (.int .i64 0), .lit (.int .i64 0), .lit (.slice none 0 0), .lit (.slice none 0 0)] 93) := (he.2 _ (by omega)).trans A0
    have l1 : H.n + 1 < h.n := at_lt A1
    have E1 : Ext H.n H h := E0.trans (he.mono (by omega))
    have hf : bucketF m id = none := by rw [hf, List.drop_length]; rfl
    have hG : bucketG m id = bkt0 := by unfold bucketG; rw [hf]; rfl
    simp only [core, zrA, zrS, zrM, zrL, zrE, reduceCtorEq, zrD, ziE, ziL, ziN, s1, s2, hn, g1, g4, g9, g10, g11, hc, A1, l1, bdM, fillA]
    rw [hG, hf]
    exact ⟨E1.put _ (by omega), _, _, rfl, IsSl.nil, IsSl.nil⟩
  · simp only [core, zrA, zrS, zrM, zrL, zrE, reduceCtorEq, zrD, ziE, ziL, ziN]
    refine ⟨Ext.refl _ _, rfl, ?_⟩
    (repeat' apply And.intro) <;> first | rfl | trivial
end Go.Proofs.Ytjkmmbfenhhjkaa.Ex
end

section

set_option linter.unusedSimpArgs false
set_option linter.unusedVariables false
set_option maxRecDepth 10000
set_option maxHeartbeats 4000000
namespace Go.Proofs.Ytjkmmbfenhhjkaa.Ex
open Go
def kindF (m : MapD) (item : Int) : Int := if 0 ≤ item then (if item < 8 then 0 else -1) else if (bucketF m item).isSome then (bucketG m item).kind else -1
def wOk (w : Int) : Bool := decide (0 ≤ w) && decide (w ≤ 1048576)
def itsTo (m : MapD) (i : Nat) : List Int := (m.buckets.take i).flatMap (·.items)
def itemOk (m : MapD) (its : List Int) (b : BktD) (k : Nat) : Bool := decide (0 ≤ kindF m (b.items.getD k 0)) && decide (kindF m (b.items.getD k 0) < b.kind) && !((its ++ b.items.take k).contains (b.items.getD k 0))
def hdOk (m : MapD) (i : Nat) (b : BktD) : Bool := !((m.buckets.take i).any (fun c => c.id == b.id)) && decide (b.id < 0) && decide (1 ≤ b.kind) && decide (b.kind ≤ 3) && (b.items.length == b.weights.length)
def bOk (m : MapD) (i : Nat) (b : BktD) : Bool := hdOk m i b && b.weights.all wOk && (List.range b.items.length).all (itemOk m (itsTo m i) b)
def goodF (m : MapD) : Bool := decide (0 ≤ m.leaf) && decide (m.leaf ≤ 3) && (List.range m.buckets.length).all (fun i => bOk m i (m.buckets.getD i bkt0))
theorem range_all_succ {p : Nat → Bool} {i : Nat} : (List.range (i + 1)).all p = ((List.range i).all p && p i) := by
  rw [List.range_succ, List.all_append]; simp
theorem range_all_false {p : Nat → Bool} {n i : Nat} (hi : i < n) (hp : p i = false) : (List.range n).all p = false := by
  rw [List.all_eq_false]
  exact ⟨i, List.mem_range.2 hi, by simp [hp]⟩
theorem getD_of {α : Type} {l : List α} {i : Nat} {x d : α} (hx : l[i]? = some x) : l.getD i d = x := by rw [List.getD_eq_getElem?_getD, hx]; rfl
theorem itsTo_succ {m : MapD} {i : Nat} {x : BktD} (hx : m.buckets[i]? = some x) : itsTo m (i + 1) = itsTo m i ++ x.items := by
  unfold itsTo
  rw [List.take_add_one, hx, List.flatMap_append]
  simp
theorem any_take {α : Type} {p : α → Bool} {l : List α} {i : Nat} {x : α} (hx : l[i]? = some x) : (l.take (i + 1)).any p = ((l.take i).any p || p x) := by
  rw [List.take_add_one, hx, List.any_append]; simp
theorem any_true' {α : Type} {p : α → Bool} {l : List α} {i : Nat} {x : α} (hx : l[i]? = some x) (hp : p x = true) : l.any p = true := by
  rw [List.any_eq_true]
  exact ⟨x, List.mem_of_getElem? hx, hp⟩
theorem getD_some' {α : Type} {l : List α} {i : Nat} (d : α) (hi : i < l.length) : l[i]? = some (l.getD i d) := by rw [List.getD_eq_getElem?_getD, List.getElem?_eq_getElem hi]; rfl
theorem IsSl.i64 {F : Nat → Prop} {h : AH} {v : AV} {xs : List Int} (hs : IsSl RInt F h v xs) : ∀ (i : Nat), i < xs.length → I64 (xs.getD i 0) := fun i hi => by
  obtain ⟨L, h1, _, _, h3⟩ := hs.out
  obtain ⟨c, _, hc⟩ := h3.get (getD_some' 0 hi)
  exact hc.2
/-- The items of a map that is not too great. -/
def OkM (m : MapD) : Prop := Sm 64 m.buckets ∧ (∀ b ∈ m.buckets, Sm 8 b.items ∧ Sm 8 b.weights) ∧ True
end Go.Proofs.Ytjkmmbfenhhjkaa.Ex
end

section

set_option linter.unusedSimpArgs false
set_option linter.unusedVariables false
set_option maxRecDepth 10000
set_option maxHeartbeats 4000000
namespace Go.Proofs.Ytjkmmbfenhhjkaa.Ex
open Go
def pool0 : PoolD := ⟨0, 0, 0, 0⟩
def poolV (p : PoolD) : AV := .agg [.lit (.int .i64 p.id), .lit (.int .i64 p.size), .lit (.int .i64 p.min), .lit (.int .i64 p.pgs)]
def poolF (m : MapD) (id : Int) : Option PoolD := m.pools.find? (fun b => b.id == id)
def poolG (m : MapD) (id : Int) : PoolD := (poolF m id).getD pool0
theorem pool_x {F : Nat → Prop} {H : AH} {m : MapD} {vo vp vb : AV} (id : Int) (hm : MpAt F H m vo vp vb) (hl : Sm 32 m.pools) :
    WC Try.prog (tabOf Try.prog NT0) S0 20 [mpV m vo vp vb, .lit (.int .i64 id)] H fun r h' => Ext H.n H h' ∧ r = .tup [poolV (poolG m id), .lit (.bool (poolF m id).isSome)] := by
  refine WC_fn Try.func20 rfl rfl ?_
  unfold Sm at hl
  have s1 := hm.p.isSl
  have s2 := hm.p.lenD
  have o1 := hm.o.one
  have o2 := hm.p.one
  have o3 := hm.b.one
  simp only [core, zrA, zrS, zrM, zrL, zrE, reduceCtorEq, zrD, ziE, ziL, ziN, Try.ntmps20, mpV, s1, s2, o1, o2, o3]
  obtain ⟨h2, hh2⟩ : ∃ h2, h2 = (H.push (.cells [.lit (.int .i64 m.epoch), vo, vp, vb, .lit (.int .i64 m.leaf)] 72)).push (.cells [.lit (.int .i64 0), .lit (.int .i64 0), .lit (.int .i64 0), .lit (.int .i64 0)] 95) := ⟨_, rfl⟩
  have E0 : Ext H.n H h2 := hh2 ▸ ((Ext.refl _ _).push _ (Nat.le_refl _)).push _ (by rw [n_push]; omega)
  have A0 : h2.at (H.n + 1) = some (.cells [.lit (.int .i64 0), .lit (.int .i64 0), .lit (.int .i64 0), .lit (.int .i64 0)] 95) := hh2 ▸ at_push_n _ _
  have B0 : h2.at H.n = some (.cells [.lit (.int .i64 m.epoch), vo, vp, vb, .lit (.int .i64 m.leaf)] 72) := hh2 ▸ (at_push_lt _ (by rw [n_push]; omega)).trans (at_push_n _ _)
  have n2 : h2.n = H.n + 2 := by rw [hh2, n_push, n_push]
  rw [← hh2]
  clear hh2
  refine WB_for m.pools.length (fun i t h => Ext h2.n h2 h ∧ poolF m id = (m.pools.drop i).find? (fun b => b.id == id) ∧ t.n = 28 ∧ t.get 1 = .lit (.int .i64 id) ∧ t.get 2 = .ptr H.n 0 ∧ t.get 4 = .ptr (H.n + 1) 0 ∧ t.get 9 = .lit (.int .i64 m.pools.length) ∧ t.get 10 = .lit (.int .i64 i)) ?_ ?_ _ _ ?_
  · rintro i t h hlt hc ⟨he, hf, hn, g1, g2, g4, g9, g10⟩ ih
    obtain ⟨x, hx⟩ : ∃ x, m.pools[i]? = some x := ⟨_, List.getElem?_eq_getElem hlt⟩
    have E1 : Ext H.n H h := E0.trans (he.mono (by omega))
    obtain ⟨c, hc1, hld, hld0⟩ := hm.p.atE (T := tabOf Try.prog NT0) E1 RPool_z hx
    obtain ⟨rfl, -⟩ := RPool_is.1 hc1
    have hws := wrap_succ hlt (by omega)
    rw [find_drop hx] at hf
    have A1 := (he.2 _ (by omega)).trans A0
    have l1 : H.n + 1 < h.n := at_lt A1
    have B1 := (he.2 _ (by omega)).trans B0
    have LB1 := ld_at (T := tabOf Try.prog NT0) B1
    simp only [core, zrA, zrS, zrM, zrL, zrE, reduceCtorEq, zrD, ziE, ziL, ziN, s1, s2, hn, g1, g2, g4, g9, g10, hlt, hc, hld, hld0, hws, LB1]
    refine ⟨fun hq => ?_, fun hq => ?_⟩
    · rw [if_pos hq] at hf
      have hG : poolG m id = x := by unfold poolG; rw [hf]; rfl
      simp only [core, zrA, zrS, zrM, zrL, zrE, reduceCtorEq, zrD, ziE, ziL, ziN, hn, g1, g2, g4, g9, g10, A1, l1]
      refine ⟨E1.put _ (by omega), ?_⟩
      rw [hG, hf]
      rfl
    · rw [if_neg (by rw [hq]; decide)] at hf
      refine ih _ _ ⟨he, hf, ?_⟩
      simp only [core, zrA, zrS, zrM, zrL, zrE, reduceCtorEq, zrD, ziE, ziL, ziN, hn, g1, g2, g4, g9, g10]
  · rintro t h hc ⟨he, hf, hn, g1, g2, g4, g9, g10⟩
    have A1 := (he.2 _ (by omega)).trans A0
    have l1 : H.n + 1 < h.n := at_lt A1
    have E1 : Ext H.n H h := E0.trans (he.mono (by omega))
    have hf : poolF m id = none := by rw [hf, List.drop_length]; rfl
    have hG : poolG m id = pool0 := by unfold poolG; rw [hf]; rfl
    simp only [core, zrA, zrS, zrM, zrL, zrE, reduceCtorEq, zrD, ziE, ziL, ziN, s1, s2, hn, g1, g2, g4, g9, g10, hc, A1, l1, bdM, fillA]
    rw [hG, hf]
    exact ⟨E1.put _ (by omega), rfl⟩
  · simp only [core, zrA, zrS, zrM, zrL, zrE, reduceCtorEq, zrD, ziE, ziL, ziN]
    refine ⟨Ext.refl _ _, rfl, ?_⟩
    (repeat' apply And.intro) <;> first | rfl | trivial
def ableO (o : OsdD) : Bool := o.ex && o.up && decide (0 < o.weight)
def ableF (m : MapD) (osd : Int) : Bool := if 0 ≤ osd then (match m.osds[osd.toNat]? with | some o => ableO o | none => false) else false
theorem able_x {F : Nat → Prop} {H : AH} {m : MapD} {vo vp vb : AV} (osd : Int) (hm : MpAt F H m vo vp vb) (hl : Sm 40 m.osds) :
    WC Try.prog (tabOf Try.prog NT0) S0 53 [mpV m vo vp vb, .lit (.int .i64 osd)] H fun r h' => Ext H.n H h' ∧ r = .lit (.bool (ableF m osd)) := by
  refine WC_fn Try.func53 rfl rfl ?_
  unfold Sm at hl
  have s1 := hm.o.isSl
  have s2 := hm.o.lenD
  have o1 := hm.o.one
  have o2 := hm.p.one
  have o3 := hm.b.one
  have EP : ∀ x, Ext H.n H (H.push x) := fun x => (Ext.refl _ _).push _ (Nat.le_refl _)
  by_cases h0 : osd < 0
  · simp only [core, zrA, zrS, zrM, zrL, zrE, reduceCtorEq, zrD, ziE, ziL, ziN, Try.ntmps53, mpV, o1, o2, o3, s1, s2, h0]
    refine ⟨EP _, ?_⟩
    unfold ableF
    rw [if_neg (by omega)]
  obtain ⟨k, rfl⟩ : ∃ k : Nat, osd = (k : Int) := ⟨osd.toNat, by omega⟩
  simp only [core, zrA, zrS, zrM, zrL, zrE, reduceCtorEq, zrD, ziE, ziL, ziN, Try.ntmps53, mpV, o1, o2, o3, s1, s2, h0]
  refine ⟨fun hq => ?_, fun hq => ?_⟩
  · refine ⟨EP _, ?_⟩
    have : m.osds[k]? = none := List.getElem?_eq_none (by have := of_decide_eq_true hq; omega)
    unfold ableF
    rw [if_pos (by omega), Int.toNat_natCast, this]
  have hk : k < m.osds.length := by have := of_decide_eq_false hq; omega
  obtain ⟨o, ho⟩ : ∃ o, m.osds[k]? = some o := ⟨_, List.getElem?_eq_getElem hk⟩
  have hres : ableF m (k : Int) = ableO o := by unfold ableF; rw [if_pos (by omega), Int.toNat_natCast, ho]
  obtain ⟨c, hc1, hld, hld0⟩ := hm.o.atE (T := tabOf Try.prog NT0) (EP (.cells [.lit (.int .i64 m.epoch), vo, vp, vb, .lit (.int .i64 m.leaf)] 72)) ROsd_z ho
  obtain ⟨rfl, -⟩ := ROsd_is.1 hc1
  have EA : ∀ y, Ext H.n H ((H.push (.cells [.lit (.int .i64 m.epoch), vo, vp, vb, .lit (.int .i64 m.leaf)] 72)).push y) := fun y => (EP _).push _ (by rw [n_push]; omega)
  unfold ableO at hres
  cases hex : o.ex with
  | false =>
    simp only [core, zrA, zrS, zrM, zrL, zrE, reduceCtorEq, zrD, ziE, ziL, ziN, s1, s2, hk, hld, hld0, hex]
    exact ⟨EA _, by rw [hres, hex]; rfl⟩
  | true =>
  cases hup : o.up with
  | false =>
    simp only [core, zrA, zrS, zrM, zrL, zrE, reduceCtorEq, zrD, ziE, ziL, ziN, s1, s2, hk, hld, hld0, hex, hup]
    exact ⟨EA _, by rw [hres, hex, hup]; rfl⟩
  | true =>
    simp only [core, zrA, zrS, zrM, zrL, zrE, reduceCtorEq, zrD, ziE, ziL, ziN, s1, s2, hk, hld, hld0, hex, hup]
    exact ⟨EA _, by rw [hres, hex, hup]; rfl⟩
end Go.Proofs.Ytjkmmbfenhhjkaa.Ex
end

section

set_option linter.unusedSimpArgs false
set_option linter.unusedVariables false
set_option maxRecDepth 10000
set_option maxHeartbeats 4000000
namespace Go.Proofs.Ytjkmmbfenhhjkaa.Ex
open Go
def osdV (o : OsdD) : AV := .agg [.lit (.bool o.ex), .lit (.bool o.up), .lit (.int .i64 o.weight), .lit (.int .i64 o.boot), .lit (.int .i64 o.upFrom), .lit (.int .i64 o.upThru)]
end Go.Proofs.Ytjkmmbfenhhjkaa.Ex
end

section

set_option linter.unusedSimpArgs false
set_option linter.unusedVariables false
set_option maxRecDepth 10000
set_option maxHeartbeats 4000000
namespace Go.Proofs.Ytjkmmbfenhhjkaa.Ex
open Go
end Go.Proofs.Ytjkmmbfenhhjkaa.Ex
end

section

set_option linter.unusedSimpArgs false
set_option linter.unusedVariables false
set_option maxRecDepth 10000
set_option maxHeartbeats 4000000
namespace Go.Proofs.Ytjkmmbfenhhjkaa.Ex
open Go
end Go.Proofs.Ytjkmmbfenhhjkaa.Ex
end

section

set_option linter.unusedSimpArgs false
set_option linter.unusedVariables false
set_option maxRecDepth 10000
set_option maxHeartbeats 4000000
namespace Go.Proofs.Ytjkmmbfenhhjkaa.Ex
open Go
structure ChD where
  kind : Int
  osd : Int
  value : Int
  pool : PoolD
  bucket : BktD
  deriving DecidableEq
structure IncD where
  epoch : Int
  changes : List ChD
def RCh : Rep ChD := RMap (fun x => (x.kind, x.osd, x.value, x.pool, x.bucket)) (RPair RInt (RPair RInt (RPair RInt (RPair RPool RBkt))))
def RInc : Rep IncD := RMap (fun x => (x.epoch, x.changes)) (RPair RInt (RSl RCh))
theorem RCh_z : RCh.z = 11 := rfl
theorem RCh_is {F : Nat → Prop} {h : AH} {c : List AV} {x : ChD} : RCh.is F h c x ↔ ∃ va vw, c = [.lit (.int .i64 x.kind), .lit (.int .i64 x.osd), .lit (.int .i64 x.value), .lit (.int .i64 x.pool.id), .lit (.int .i64 x.pool.size), .lit (.int .i64 x.pool.min), .lit (.int .i64 x.pool.pgs), .lit (.int .i64 x.bucket.id), .lit (.int .i64 x.bucket.kind), va, vw] ∧ IsSl RInt F h va x.bucket.items ∧ IsSl RInt F h vw x.bucket.weights ∧ (I64 x.kind ∧ I64 x.osd ∧ I64 x.value) ∧ (I64 x.pool.id ∧ I64 x.pool.size ∧ I64 x.pool.min ∧ I64 x.pool.pgs) ∧ I64 x.bucket.id ∧ I64 x.bucket.kind := by
  constructor
  · rintro ⟨_, _, rfl, ⟨rfl, h1⟩, _, _, rfl, ⟨rfl, h2⟩, _, _, rfl, ⟨rfl, h3⟩, _, _, rfl, h4, h5⟩
    obtain ⟨rfl, k4⟩ := RPool_is.1 h4
    obtain ⟨va, vw, rfl, ha, hw, h6⟩ := RBkt_is.1 h5
    exact ⟨va, vw, rfl, ha, hw, ⟨h1, h2, h3⟩, k4, h6⟩
  · rintro ⟨va, vw, rfl, ha, hw, ⟨h1, h2, h3⟩, h4, h6⟩
    exact ⟨_, _, rfl, ⟨rfl, h1⟩, _, _, rfl, ⟨rfl, h2⟩, _, _, rfl, ⟨rfl, h3⟩, _, _, rfl, RPool_is.2 ⟨rfl, h4⟩, RBkt_is.2 ⟨va, vw, rfl, ha, hw, h6⟩⟩
def chV (c : ChD) (va vw : AV) : AV := .agg [.lit (.int .i64 c.kind), .lit (.int .i64 c.osd), .lit (.int .i64 c.value), .lit (.int .i64 c.pool.id), .lit (.int .i64 c.pool.size), .lit (.int .i64 c.pool.min), .lit (.int .i64 c.pool.pgs), .lit (.int .i64 c.bucket.id), .lit (.int .i64 c.bucket.kind), va, vw]
def incV (x : IncD) (vc : AV) : AV := .agg [.lit (.int .i64 x.epoch), vc]
end Go.Proofs.Ytjkmmbfenhhjkaa.Ex
end

section

set_option linter.unusedSimpArgs false
set_option linter.unusedVariables false
set_option maxRecDepth 10000
namespace Go.Proofs.Ytjkmmbfenhhjkaa.Ex
open Go
section
variable {P : Program} {T : TT} {t : TM} {h : AH} {d : Option Tmp} {ty : TypeId} {ps : String} {af : Array Edge} {g : Option (Nat × Bool)}
end
def bL (xs : List UInt8) : List AV := xs.map fun n => .lit (.int .u8 n.toNat)
theorem bytesA_bL : ∀ xs : List UInt8, bytesA (bL xs) = some xs
  | [] => rfl
  | x :: xs => by
    have hlt : Nat.blt x.toNat 256 = true := by rw [Nat.blt_eq]; exact UInt8.toNat_lt x
    show (bif Nat.blt x.toNat 256 then (bytesA (bL xs)).map (UInt8.ofNat x.toNat :: ·) else none) = _
    rw [hlt, bytesA_bL xs]
    simp
theorem OwnL.bytes {G : Nat → Prop} {n0 : Nat} {h : AH} {v : AV} {e : TypeId} {xs : List UInt8} (ho : OwnL RByte G n0 h v e xs) (hne : xs ≠ []) :
    ∃ p, v = .sl p 0 xs.length (.un 1) ∧ n0 ≤ p ∧ h.at p = some (.cells (bL xs) e) ∧ bytesAt h p 0 xs.length = some xs := by
  obtain ⟨L, h1, h2⟩ := ho
  have hL : L.flatten = bL xs := by
    obtain ⟨e1, e2⟩ := h2
    have key : ∀ (L : List (List AV)) (xs : List UInt8), L.length = xs.length → (∀ (i : Nat) c x, L[i]? = some c → xs[i]? = some x → RByte.is (fun b => G b ∧ Apart v b) h c x) → L.flatten = bL xs := by
      intro L
      induction L with
      | nil => intro xs hl _; cases xs with | nil => rfl | cons => cases hl
      | cons a r ih =>
        intro xs hl hh
        cases xs with
        | nil => cases hl
        | cons x xs =>
          have i1 := ih xs (by simpa using hl) (fun i c y a b => hh (i + 1) c y (by simpa using a) (by simpa using b))
          obtain rfl := hh 0 a x rfl rfl
          rw [List.flatten_cons, i1]
          rfl
    exact key L xs e1 e2
  have e0 := h2.1
  rcases h1.2 with ⟨rfl, rfl⟩ | ⟨p, rfl, hp, hat⟩
  · exact absurd (List.eq_nil_of_length_eq_zero (by rw [← e0]; rfl)) hne
  · refine ⟨p, by rw [e0]; rfl, hp, by rw [hat, hL], ?_⟩
    unfold bytesAt getR
    rw [hat, hL]
    show (match cut (bL xs) 0 xs.length with | some cs => bytesA cs | none => none) = _
    unfold cut
    rw [if_pos (by unfold bL; simp)]
    show bytesA (((bL xs).drop 0).take xs.length) = _
    rw [List.drop_zero, List.take_of_length_le (by unfold bL; simp), bytesA_bL]
end Go.Proofs.Ytjkmmbfenhhjkaa.Ex
end

section

set_option linter.unusedSimpArgs false
set_option linter.unusedVariables false
set_option maxRecDepth 10000
set_option maxHeartbeats 4000000
namespace Go.Proofs.Ytjkmmbfenhhjkaa.Ex
open Go
end Go.Proofs.Ytjkmmbfenhhjkaa.Ex
end

section

set_option linter.unusedSimpArgs false
set_option linter.unusedVariables false
set_option maxRecDepth 10000
set_option maxHeartbeats 4000000
namespace Go.Proofs.Ytjkmmbfenhhjkaa.Ex
open Go
/-- Elements that hold no addresses. -/
def FlatR {α : Type} (R : Rep α) : Prop := ∀ (F G : Nat → Prop) (h h' : AH) (c : List AV) (x : α), R.is F h c x → R.is G h' c x
theorem flat_int : FlatR RInt := fun F G h h' c x hh => hh
theorem flat_osd : FlatR ROsd := fun F G h h' c x hh => ROsd_is.2 (ROsd_is.1 hh)
theorem flat_pool : FlatR RPool := fun F G h h' c x hh => RPool_is.2 (RPool_is.1 hh)
section
variable {α : Type} {R : Rep α}
/-- A row of the run's own, or an empty one without room. -/
def OwnE (R : Rep α) (n0 : Nat) (h : AH) (d : AV) (e : TypeId) (xs : List α) : Prop := OwnL R (fun _ => False) n0 h d e xs ∨ (xs = [] ∧ ∃ p, n0 ≤ p ∧ d = .sl p 0 0 (.kn 0) ∧ h.at p = some (.cells [] e))
theorem OwnE.ext {n0 m : Nat} {h h' : AH} {d : AV} {e : TypeId} {xs : List α} (hd : OwnE R n0 h d e xs) (he : Ext m h h') (hm : h.n ≤ m) : OwnE R n0 h' d e xs := by
  rcases hd with ho | ⟨rfl, p, hp, rfl, hat⟩
  · exact .inl (ho.ext he hm)
  · exact .inr ⟨rfl, p, hp, rfl, (he.2 _ (by have := at_lt hat; omega)).trans hat⟩
theorem OwnE.toSl {F : Nat → Prop} {n0 : Nat} {h : AH} {d : AV} {e : TypeId} {xs : List α} (hd : OwnE R n0 h d e xs) (h1 : ∀ b, n0 ≤ b → F b) : IsSl R F h d xs := by
  rcases hd with ho | ⟨rfl, p, hp0, rfl, hp⟩
  · exact ho.toSl (fun _ hf => hf.elim) h1
  · exact .mk (L := []) ⟨by simp, .inr ⟨p, 0, _, [], rfl, by unfold getR; rw [hp], by simp [cut]⟩⟩ (fun b off n cap e => by cases e; exact h1 _ hp0) (fun b off n cap e => by cases e; exact Nat.le_refl 0) .nil
theorem OwnE.apart {n0 : Nat} {h : AH} {d : AV} {e : TypeId} {xs : List α} (hd : OwnE R n0 h d e xs) {b : Nat} (hb : h.n ≤ b) : Apart d b := by
  rcases hd with ho | ⟨rfl, p, hp, rfl, hat⟩
  · exact ho.apart hb
  · have := at_lt hat
    exact fun off n cap e => by cases e; omega
theorem OwnE.mono {n0 n1 : Nat} {h : AH} {d : AV} {e : TypeId} {xs : List α} (hd : OwnE R n0 h d e xs) (hn : n1 ≤ n0) : OwnE R n1 h d e xs := by
  rcases hd with ⟨L, h1, h2⟩ | ⟨rfl, p, hp, rfl, hat⟩
  · refine .inl ⟨L, ⟨h1.1, ?_⟩, h2⟩
    rcases h1.2 with hh | ⟨p, rfl, hp, hat⟩
    · exact .inl hh
    · exact .inr ⟨p, rfl, by omega, hat⟩
  · exact .inr ⟨rfl, p, by omega, rfl, hat⟩
/-- What is appended to an empty slice without room. -/
theorem dn_flat {T : TT} {n0 : Nat} {F : Nat → Prop} {H : AH} {v zv : AV} {t e : TypeId} {by' p : Nat} {xs : List α} (hR : FlatR R) (hu : und T t = some (.slice e)) (hz : sizeT T e = some R.z) (hzv : zeroT T e = some zv) (hb : bytesT T e = some by')
    (hzl : zv.cells.length = R.z) (h0 : 0 < R.z) (h200 : R.z ≤ 200) (hv : IsSl R F H v xs) (hn : xs.length ≤ 4611686018427387904) (hl : xs.length * by' ≤ 140737488355328) (hp : H.at p = some (.cells [] e)) (hp0 : n0 ≤ p) (hn0 : n0 ≤ H.n) :
    ∃ s' h', appendA T H t t (.sl p 0 0 (.kn 0)) v = some (s', h') ∧ OwnE R n0 h' s' e xs ∧ Ext H.n H h' := by
  obtain ⟨L, h1, h2, h3, h4⟩ := hv.out
  have e0 := h4.1
  rcases append_fresh (T := T) (h := H) (t := t) (tx := t) (e := e) (M := L) (p := p) (x := v) hu hu hz hzv hb hzl h0 h200 hp h1.src h1.len h4.lens h4.ones (by omega) (by rw [e0]; exact hl) with ⟨hM, ha⟩ | ⟨hM, ha⟩
  · subst hM
    obtain rfl : xs = [] := List.eq_nil_of_length_eq_zero (by rw [← e0]; rfl)
    exact ⟨_, _, ha, .inr ⟨rfl, p, hp0, rfl, hp⟩, Ext.refl _ _⟩
  · refine ⟨_, _, ha, .inl ⟨L, ⟨h4.lens, .inr ⟨H.n, ?_, hn0, at_push_n _ _⟩⟩, ⟨e0, fun i c x a b => hR _ _ _ _ _ _ (h4.2 i c x a b)⟩⟩, (Ext.refl _ _).push _ (Nat.le_refl _)⟩
    rfl
end
theorem cloneI_o {F : Nat → Prop} {H : AH} {v : AV} {xs : List Int} (hv : IsSl RInt F H v xs) (hl : Sm 8 xs) :
    WC Try.prog (tabOf Try.prog NT0) S0 40 [v] H fun r h' => Ext H.n H h' ∧ OwnE RInt H.n h' r 3 xs := by
  refine WC_fn Try.func40 rfl rfl ?_
  unfold Sm at hl
  have s1 := hv.isSl
  have s2 := hv.lenD
  simp only [core, zrA, zrS, zrM, zrL, zrE, reduceCtorEq, zrD, ziE, ziL, ziN, Try.ntmps40, s1, s2]
  refine ⟨fun he => ?_, fun he => ?_⟩
  · obtain rfl := hv.empty he
    exact ⟨Ext.refl _ _, .inl OwnL.nil⟩
  · have hv2 : IsSl RInt F (H.push (.cells [] 3)) v xs := hv.ext ((Ext.refl H.n H).push _ (Nat.le_refl _)) (Nat.le_refl _)
    refine WOp_app (dn_flat (n0 := H.n) flat_int (by kernel_rfl) (by kernel_rfl) (zv := .lit (.int .i64 0)) (by kernel_rfl) (by' := 8) (by kernel_rfl) rfl (by decide) (by decide) hv2 (by omega) (by omega) (at_push_n H _) (Nat.le_refl _) (by rw [n_push]; omega)) ?_
    rintro s' h' ⟨e1, e2⟩
    have v1 := (e1.toSl (F := fun _ => True) (fun _ _ => trivial)).isSl
    simp only [core, zrA, zrS, zrM, zrL, zrE, reduceCtorEq, zrD, ziE, ziL, ziN, v1]
    exact ⟨((Ext.refl H.n H).push _ (Nat.le_refl _)).trans (e2.mono (by rw [n_push]; omega)), e1⟩
theorem cloneO_o {F : Nat → Prop} {H : AH} {v : AV} {xs : List OsdD} (hv : IsSl ROsd F H v xs) (hl : Sm 40 xs) :
    WC Try.prog (tabOf Try.prog NT0) S0 29 [v] H fun r h' => Ext H.n H h' ∧ OwnE ROsd H.n h' r 113 xs := by
  refine WC_fn Try.func29 rfl rfl ?_
  unfold Sm at hl
  have s1 := hv.isSl
  have s2 := hv.lenD
  simp only [core, zrA, zrS, zrM, zrL, zrE, reduceCtorEq, zrD, ziE, ziL, ziN, Try.ntmps29, s1, s2]
  refine ⟨fun he => ?_, fun he => ?_⟩
  · obtain rfl := hv.empty he
    exact ⟨Ext.refl _ _, .inl OwnL.nil⟩
  · have hv2 : IsSl ROsd F (H.push (.cells [] 113)) v xs := hv.ext ((Ext.refl H.n H).push _ (Nat.le_refl _)) (Nat.le_refl _)
    refine WOp_app (dn_flat (n0 := H.n) flat_osd (by kernel_rfl) (by kernel_rfl) (zv := .agg [.lit (.bool false), .lit (.bool false), .lit (.int .i64 0), .lit (.int .i64 0), .lit (.int .i64 0), .lit (.int .i64 0)]) (by kernel_rfl) (by' := 40) (by kernel_rfl) rfl (by decide) (by decide) hv2 (by omega) (by omega) (at_push_n H _) (Nat.le_refl _) (by rw [n_push]; omega)) ?_
    rintro s' h' ⟨e1, e2⟩
    have v1 := (e1.toSl (F := fun _ => True) (fun _ _ => trivial)).isSl
    simp only [core, zrA, zrS, zrM, zrL, zrE, reduceCtorEq, zrD, ziE, ziL, ziN, v1]
    exact ⟨((Ext.refl H.n H).push _ (Nat.le_refl _)).trans (e2.mono (by rw [n_push]; omega)), e1⟩
theorem cloneP_o {F : Nat → Prop} {H : AH} {v : AV} {xs : List PoolD} (hv : IsSl RPool F H v xs) (hl : Sm 32 xs) :
    WC Try.prog (tabOf Try.prog NT0) S0 30 [v] H fun r h' => Ext H.n H h' ∧ OwnE RPool H.n h' r 95 xs := by
  refine WC_fn Try.func30 rfl rfl ?_
  unfold Sm at hl
  have s1 := hv.isSl
  have s2 := hv.lenD
  simp only [core, zrA, zrS, zrM, zrL, zrE, reduceCtorEq, zrD, ziE, ziL, ziN, Try.ntmps30, s1, s2]
  refine ⟨fun he => ?_, fun he => ?_⟩
  · obtain rfl := hv.empty he
    exact ⟨Ext.refl _ _, .inl OwnL.nil⟩
  · have hv2 : IsSl RPool F (H.push (.cells [] 95)) v xs := hv.ext ((Ext.refl H.n H).push _ (Nat.le_refl _)) (Nat.le_refl _)
    refine WOp_app (dn_flat (n0 := H.n) flat_pool (by kernel_rfl) (by kernel_rfl) (zv := .agg [.lit (.int .i64 0), .lit (.int .i64 0), .lit (.int .i64 0), .lit (.int .i64 0)]) (by kernel_rfl) (by' := 32) (by kernel_rfl) rfl (by decide) (by decide) hv2 (by omega) (by omega) (at_push_n H _) (Nat.le_refl _) (by rw [n_push]; omega)) ?_
    rintro s' h' ⟨e1, e2⟩
    have v1 := (e1.toSl (F := fun _ => True) (fun _ _ => trivial)).isSl
    simp only [core, zrA, zrS, zrM, zrL, zrE, reduceCtorEq, zrD, ziE, ziL, ziN, v1]
    exact ⟨((Ext.refl H.n H).push _ (Nat.le_refl _)).trans (e2.mono (by rw [n_push]; omega)), e1⟩
end Go.Proofs.Ytjkmmbfenhhjkaa.Ex
end

section

set_option linter.unusedSimpArgs false
set_option linter.unusedVariables false
set_option maxRecDepth 10000
set_option maxHeartbeats 4000000
namespace Go.Proofs.Ytjkmmbfenhhjkaa.Ex
open Go
def osd0 : OsdD := ⟨false, false, 0, 0, 0, 0⟩
def osdG (m : MapD) (n : Int) : OsdD := if 0 ≤ n then m.osds.getD n.toNat osd0 else osd0
theorem empty_x {H : AH} : WC Try.prog (tabOf Try.prog NT0) S0 12 [] H fun r h' => Ext H.n H h' ∧ r = mpV ⟨0, [], [], [], 0⟩ (.lit (.slice none 0 0)) (.lit (.slice none 0 0)) (.lit (.slice none 0 0)) := by
  refine WC_fn Try.func12 rfl rfl ?_
  simp only [core, zrA, zrS, zrM, zrL, zrE, reduceCtorEq, zrD, ziE, ziL, ziN, Try.ntmps12]
  exact ⟨(Ext.refl _ _).push _ (Nat.le_refl _), rfl⟩
theorem osd_x {F : Nat → Prop} {H : AH} {m : MapD} {vo vp vb : AV} (n : Int) (hm : MpAt F H m vo vp vb) (hl : Sm 40 m.osds) :
    WC Try.prog (tabOf Try.prog NT0) S0 41 [mpV m vo vp vb, .lit (.int .i64 n)] H fun r h' => Ext H.n H h' ∧ r = osdV (osdG m n) := by
  refine WC_fn Try.func41 rfl rfl ?_
  unfold Sm at hl
  have s1 := hm.o.isSl
  have s2 := hm.o.lenD
  have o1 := hm.o.one
  have o2 := hm.p.one
  have o3 := hm.b.one
  have E0 : Ext H.n H ((H.push (.cells [.lit (.int .i64 m.epoch), vo, vp, vb, .lit (.int .i64 m.leaf)] 72)).push (.cells [.lit (.bool false), .lit (.bool false), .lit (.int .i64 0), .lit (.int .i64 0), .lit (.int .i64 0), .lit (.int .i64 0)] 113)) := ((Ext.refl _ _).push _ (Nat.le_refl _)).push _ (by rw [n_push]; omega)
  by_cases h0 : n < 0
  · have hG : osdG m n = osd0 := by unfold osdG; rw [if_neg (by omega)]
    simp only [core, zrA, zrS, zrM, zrL, zrE, reduceCtorEq, zrD, ziE, ziL, ziN, Try.ntmps41, mpV, s1, s2, o1, o2, o3, h0]
    rw [hG]
    exact ⟨((Ext.refl _ _).push _ (Nat.le_refl _)).push _ (by rw [n_push]; omega), rfl⟩
  · obtain ⟨k, rfl⟩ : ∃ k : Nat, n = (k : Int) := ⟨n.toNat, by omega⟩
    by_cases h1 : (m.osds.length : Int) ≤ (k : Int)
    · have hG : osdG m (k : Int) = osd0 := by
        unfold osdG
        rw [if_pos (by omega), List.getD_eq_getElem?_getD, List.getElem?_eq_none (by simp only [Int.toNat_natCast]; omega)]
        rfl
      simp only [core, zrA, zrS, zrM, zrL, zrE, reduceCtorEq, zrD, ziE, ziL, ziN, Try.ntmps41, mpV, s1, s2, o1, o2, o3, h0, h1]
      rw [hG]
      exact ⟨((Ext.refl _ _).push _ (Nat.le_refl _)).push _ (by rw [n_push]; omega), rfl⟩
    · have hlt : k < m.osds.length := by omega
      obtain ⟨x, hx⟩ : ∃ x, m.osds[k]? = some x := ⟨_, List.getElem?_eq_getElem hlt⟩
      have hG : osdG m (k : Int) = x := by
        unfold osdG
        rw [if_pos (by omega), List.getD_eq_getElem?_getD, Int.toNat_natCast, hx]
        rfl
      obtain ⟨c, hc1, hld, hld0⟩ := hm.o.atE (T := tabOf Try.prog NT0) E0 ROsd_z hx
      obtain ⟨rfl, -⟩ := ROsd_is.1 hc1
      simp only [core, zrA, zrS, zrM, zrL, zrE, reduceCtorEq, zrD, ziE, ziL, ziN, Try.ntmps41, mpV, s1, s2, o1, o2, o3, h0, h1, hlt, hld, hld0]
      rw [hG]
      exact ⟨((Ext.refl _ _).push _ (Nat.le_refl _)).push _ (by rw [n_push]; omega), rfl⟩
end Go.Proofs.Ytjkmmbfenhhjkaa.Ex
end

section

set_option linter.unusedSimpArgs false
set_option linter.unusedVariables false
set_option maxRecDepth 10000
set_option maxHeartbeats 4000000
namespace Go.Proofs.Ytjkmmbfenhhjkaa.Ex
open Go
def mayOs (epoch : Int) (o : OsdD) (kind value : Int) : Int :=
  if kind = 1 then (if value < 1 then 22 else if o.ex = true ∧ value ≤ o.boot then 126 else 0)
  else if kind = 2 then (if o.ex = false then 2 else if o.up = false ∨ value ≠ o.boot then 126 else 0)
  else if kind = 3 then (if o.ex = false then 2 else if value < 0 ∨ 65536 < value then 22 else 0)
  else (if o.ex = false ∨ o.up = false then 2 else if value < 0 ∨ epoch < value then 22 else if value ≤ o.upThru then 126 else 0)
def mayOsdF (m : MapD) (c : ChD) : Int := mayOs m.epoch (osdG m c.osd) c.kind c.value
theorem mayOsd_x {F : Nat → Prop} {H : AH} {m : MapD} {vo vp vb va vw : AV} (c : ChD) (hm : MpAt F H m vo vp vb) (hl : Sm 40 m.osds) (a1 : va.one = true) (w1 : vw.one = true) :
    WC Try.prog (tabOf Try.prog NT0) S0 32 [mpV m vo vp vb, chV c va vw] H fun r h' => Ext H.n H h' ∧ r = .lit (.int .i64 (mayOsdF m c)) := by
  refine WC_fn Try.func32 rfl rfl ?_
  have o1 := hm.o.one
  have o2 := hm.p.one
  have o3 := hm.b.one
  simp only [core, zrA, zrS, zrM, zrL, zrE, reduceCtorEq, zrD, ziE, ziL, ziN, Try.ntmps32, mpV, chV, o1, o2, o3, a1, w1]
  obtain ⟨h0, hh0⟩ : ∃ h0, h0 = (H.push (.cells [.lit (.int .i64 m.epoch), vo, vp, vb, .lit (.int .i64 m.leaf)] 72)).push (.cells [.lit (.int .i64 c.kind), .lit (.int .i64 c.osd), .lit (.int .i64 c.value), .lit (.int .i64 c.pool.id), .lit (.int .i64 c.pool.size), .lit (.int .i64 c.pool.min), .lit (.int .i64 c.pool.pgs), .lit (.int .i64 c.bucket.id), .lit (.int .i64 c.bucket.kind), va, vw] 97) := ⟨_, rfl⟩
  have E0 : Ext H.n H h0 := hh0 ▸ ((Ext.refl _ _).push _ (Nat.le_refl _)).push _ (by rw [n_push]; omega)
  have A1 : h0.at H.n = some (.cells [.lit (.int .i64 m.epoch), vo, vp, vb, .lit (.int .i64 m.leaf)] 72) := hh0 ▸ (at_push_lt _ (by rw [n_push]; omega)).trans (at_push_n _ _)
  have A2 : h0.at (H.n + 1) = some (.cells [.lit (.int .i64 c.kind), .lit (.int .i64 c.osd), .lit (.int .i64 c.value), .lit (.int .i64 c.pool.id), .lit (.int .i64 c.pool.size), .lit (.int .i64 c.pool.min), .lit (.int .i64 c.pool.pgs), .lit (.int .i64 c.bucket.id), .lit (.int .i64 c.bucket.kind), va, vw] 97) := hh0 ▸ at_push_n _ _
  rw [← hh0]
  clear hh0
  refine (osd_x c.osd (hm.ext E0 (Nat.le_refl _)) hl).mono ?_
  rintro r h ⟨e, rfl⟩
  have B1 := (e.2 _ (at_lt A1)).trans A1
  have B2 := (e.2 _ (at_lt A2)).trans A2
  have EH : Ext H.n H h := E0.trans (e.mono E0.1)
  have LB1 := ld_at (T := tabOf Try.prog NT0) B1
  have LB2 := ld_at (T := tabOf Try.prog NT0) B2
  have lb1 := at_lt B1
  have lb2 := at_lt B2
  unfold mayOsdF
  obtain ⟨o, ho⟩ : ∃ o, o = osdG m c.osd := ⟨_, rfl⟩
  rw [← ho]
  clear ho A1 A2 e
  obtain ⟨ex, up, w, b, uf, ut⟩ := o
  simp only [osdV]
  by_cases k1 : c.kind = 1
  · have k1e : (c.kind == 1) = true := by simp [k1]
    have k1n : (c.kind != 1) = false := by simp [k1]
    by_cases c1 : c.value < 1
    · simp only [core, zrA, zrS, zrM, zrL, zrE, reduceCtorEq, zrD, ziE, ziL, ziN, LB1, LB2, lb1, lb2, k1e, k1n, c1]
      exact ⟨EH.push _ EH.1, by simp [mayOs, k1, k1e, k1n, c1]⟩
    · cases ex with
      | false =>
        simp only [core, zrA, zrS, zrM, zrL, zrE, reduceCtorEq, zrD, ziE, ziL, ziN, LB1, LB2, lb1, lb2, k1e, k1n, c1]
        exact ⟨EH.push _ EH.1, by simp [mayOs, k1, k1e, k1n, c1]⟩
      | true =>
        by_cases c2 : c.value ≤ b
        · simp only [core, zrA, zrS, zrM, zrL, zrE, reduceCtorEq, zrD, ziE, ziL, ziN, LB1, LB2, lb1, lb2, k1e, k1n, c1, c2]
          exact ⟨EH.push _ EH.1, by simp [mayOs, k1, k1e, k1n, c1, c2]⟩
        · simp only [core, zrA, zrS, zrM, zrL, zrE, reduceCtorEq, zrD, ziE, ziL, ziN, LB1, LB2, lb1, lb2, k1e, k1n, c1, c2]
          exact ⟨EH.push _ EH.1, by simp [mayOs, k1, k1e, k1n, c1, c2]⟩
  · have k1e : (c.kind == 1) = false := by simp [k1]
    have k1n : (c.kind != 1) = true := by simp [k1]
    by_cases k2 : c.kind = 2
    · have k2e : (c.kind == 2) = true := by simp [k2]
      have k2n : (c.kind != 2) = false := by simp [k2]
      cases ex with
      | false =>
        simp only [core, zrA, zrS, zrM, zrL, zrE, reduceCtorEq, zrD, ziE, ziL, ziN, LB1, LB2, lb1, lb2, k1e, k1n, k2e, k2n]
        exact ⟨EH.push _ EH.1, by simp [mayOs, k1, k1e, k1n, k2, k2e, k2n]⟩
      | true =>
        cases up with
        | false =>
          simp only [core, zrA, zrS, zrM, zrL, zrE, reduceCtorEq, zrD, ziE, ziL, ziN, LB1, LB2, lb1, lb2, k1e, k1n, k2e, k2n]
          exact ⟨EH.push _ EH.1, by simp [mayOs, k1, k1e, k1n, k2, k2e, k2n]⟩
        | true =>
          by_cases c2 : c.value = b
          · have c2e : (c.value == b) = true := by simp [c2]
            have c2n : (c.value != b) = false := by simp [c2]
            simp only [core, zrA, zrS, zrM, zrL, zrE, reduceCtorEq, zrD, ziE, ziL, ziN, LB1, LB2, lb1, lb2, k1e, k1n, k2e, k2n, c2e, c2n]
            exact ⟨EH.push _ EH.1, by simp [mayOs, k1, k1e, k1n, k2, k2e, k2n, c2, c2e, c2n]⟩
          · have c2e : (c.value == b) = false := by simp [c2]
            have c2n : (c.value != b) = true := by simp [c2]
            simp only [core, zrA, zrS, zrM, zrL, zrE, reduceCtorEq, zrD, ziE, ziL, ziN, LB1, LB2, lb1, lb2, k1e, k1n, k2e, k2n, c2e, c2n]
            exact ⟨EH.push _ EH.1, by simp [mayOs, k1, k1e, k1n, k2, k2e, k2n, c2, c2e, c2n]⟩
    · have k2e : (c.kind == 2) = false := by simp [k2]
      have k2n : (c.kind != 2) = true := by simp [k2]
      by_cases k3 : c.kind = 3
      · have k3e : (c.kind == 3) = true := by simp [k3]
        have k3n : (c.kind != 3) = false := by simp [k3]
        cases ex with
        | false =>
          simp only [core, zrA, zrS, zrM, zrL, zrE, reduceCtorEq, zrD, ziE, ziL, ziN, LB1, LB2, lb1, lb2, k1e, k1n, k2e, k2n, k3e, k3n]
          exact ⟨EH.push _ EH.1, by simp [mayOs, k1, k1e, k1n, k2, k2e, k2n, k3, k3e, k3n]⟩
        | true =>
          by_cases c1 : c.value < 0
          · simp only [core, zrA, zrS, zrM, zrL, zrE, reduceCtorEq, zrD, ziE, ziL, ziN, LB1, LB2, lb1, lb2, k1e, k1n, k2e, k2n, k3e, k3n, c1]
            exact ⟨EH.push _ EH.1, by simp [mayOs, k1, k1e, k1n, k2, k2e, k2n, k3, k3e, k3n, c1]⟩
          · by_cases c2 : 65536 < c.value
            · simp only [core, zrA, zrS, zrM, zrL, zrE, reduceCtorEq, zrD, ziE, ziL, ziN, LB1, LB2, lb1, lb2, k1e, k1n, k2e, k2n, k3e, k3n, c1, c2]
              exact ⟨EH.push _ EH.1, by simp [mayOs, k1, k1e, k1n, k2, k2e, k2n, k3, k3e, k3n, c1, c2]⟩
            · simp only [core, zrA, zrS, zrM, zrL, zrE, reduceCtorEq, zrD, ziE, ziL, ziN, LB1, LB2, lb1, lb2, k1e, k1n, k2e, k2n, k3e, k3n, c1, c2]
              exact ⟨EH.push _ EH.1, by simp [mayOs, k1, k1e, k1n, k2, k2e, k2n, k3, k3e, k3n, c1, c2]⟩
      · have k3e : (c.kind == 3) = false := by simp [k3]
        have k3n : (c.kind != 3) = true := by simp [k3]
        cases ex with
        | false =>
          simp only [core, zrA, zrS, zrM, zrL, zrE, reduceCtorEq, zrD, ziE, ziL, ziN, LB1, LB2, lb1, lb2, k1e, k1n, k2e, k2n, k3e, k3n]
          exact ⟨EH.push _ EH.1, by simp [mayOs, k1, k1e, k1n, k2, k2e, k2n, k3, k3e, k3n]⟩
        | true =>
          cases up with
          | false =>
            simp only [core, zrA, zrS, zrM, zrL, zrE, reduceCtorEq, zrD, ziE, ziL, ziN, LB1, LB2, lb1, lb2, k1e, k1n, k2e, k2n, k3e, k3n]
            exact ⟨EH.push _ EH.1, by simp [mayOs, k1, k1e, k1n, k2, k2e, k2n, k3, k3e, k3n]⟩
          | true =>
            by_cases c1 : c.value < 0
            · simp only [core, zrA, zrS, zrM, zrL, zrE, reduceCtorEq, zrD, ziE, ziL, ziN, LB1, LB2, lb1, lb2, k1e, k1n, k2e, k2n, k3e, k3n, c1]
              exact ⟨EH.push _ EH.1, by simp [mayOs, k1, k1e, k1n, k2, k2e, k2n, k3, k3e, k3n, c1]⟩
            · by_cases c2 : m.epoch < c.value
              · simp only [core, zrA, zrS, zrM, zrL, zrE, reduceCtorEq, zrD, ziE, ziL, ziN, LB1, LB2, lb1, lb2, k1e, k1n, k2e, k2n, k3e, k3n, c1, c2]
                exact ⟨EH.push _ EH.1, by simp [mayOs, k1, k1e, k1n, k2, k2e, k2n, k3, k3e, k3n, c1, c2]⟩
              · by_cases c3 : c.value ≤ ut
                · simp only [core, zrA, zrS, zrM, zrL, zrE, reduceCtorEq, zrD, ziE, ziL, ziN, LB1, LB2, lb1, lb2, k1e, k1n, k2e, k2n, k3e, k3n, c1, c2, c3]
                  exact ⟨EH.push _ EH.1, by simp [mayOs, k1, k1e, k1n, k2, k2e, k2n, k3, k3e, k3n, c1, c2, c3]⟩
                · simp only [core, zrA, zrS, zrM, zrL, zrE, reduceCtorEq, zrD, ziE, ziL, ziN, LB1, LB2, lb1, lb2, k1e, k1n, k2e, k2n, k3e, k3n, c1, c2, c3]
                  exact ⟨EH.push _ EH.1, by simp [mayOs, k1, k1e, k1n, k2, k2e, k2n, k3, k3e, k3n, c1, c2, c3]⟩
end Go.Proofs.Ytjkmmbfenhhjkaa.Ex
end

section

set_option linter.unusedSimpArgs false
set_option linter.unusedVariables false
set_option maxRecDepth 10000
set_option maxHeartbeats 4000000
namespace Go.Proofs.Ytjkmmbfenhhjkaa.Ex
open Go
theorem OwnE.put {α : Type} {R : Rep α} {n0 p : Nat} {h : AH} {d : AV} {e : TypeId} {xs : List α} {x : AB} (hd : OwnE R n0 h d e xs) (hp : p < n0) : OwnE R n0 (h.put p x) d e xs := by
  rcases hd with ho | ⟨rfl, q, hq, rfl, hat⟩
  · refine .inl (ho.lift (fun b off n cap ev => ?_) (fun b hb => hb.elim))
    obtain ⟨L, h1, h2⟩ := ho
    rcases h1.2 with ⟨hh, _⟩ | ⟨q, hh, hq, hat⟩
    · rw [hh] at ev; cases ev
    · rw [hh] at ev
      cases ev
      exact at_put_ne _ (by omega)
  · exact .inr ⟨rfl, q, hq, rfl, (at_put_ne _ (by omega)).trans hat⟩
theorem bkt_x {F : Nat → Prop} {H : AH} {va vw : AV} (x : BktD) (ha : IsSl RInt F H va x.items) (hw : IsSl RInt F H vw x.weights) (la : Sm 8 x.items) (lw : Sm 8 x.weights) :
    WC Try.prog (tabOf Try.prog NT0) S0 31 [bktV x va vw] H fun r h' => Ext H.n H h' ∧ ∃ ra rw1, r = bktV x ra rw1 ∧ OwnE RInt H.n h' ra 3 x.items ∧ OwnE RInt H.n h' rw1 3 x.weights := by
  refine WC_fn Try.func31 rfl rfl ?_
  have a1 := ha.one
  have w1 := hw.one
  have a2 := ha.isSl
  have w2 := hw.isSl
  simp only [core, zrA, zrS, zrM, zrL, zrE, reduceCtorEq, zrD, ziE, ziL, ziN, Try.ntmps31, bktV, a1, w1]
  obtain ⟨hp, hhp⟩ : ∃ hp, hp = (H.push (.cells [.lit (.int .i64 x.id), .lit (.int .i64 x.kind), va, vw] 93)).push (.cells [.lit (.int .i64 0), .lit (.int .i64 0), .lit (.slice none 0 0), .lit (.slice none 0 0)] 93) := ⟨_, rfl⟩
  have EP : Ext H.n H hp := hhp ▸ ((Ext.refl _ _).push _ (Nat.le_refl _)).push _ (by rw [n_push]; omega)
  have P0 : hp.at H.n = some (.cells [.lit (.int .i64 x.id), .lit (.int .i64 x.kind), va, vw] 93) := hhp ▸ (at_push_lt _ (by rw [n_push]; omega)).trans (at_push_n _ _)
  have Z0 : hp.at (H.n + 1) = some (.cells [.lit (.int .i64 0), .lit (.int .i64 0), .lit (.slice none 0 0), .lit (.slice none 0 0)] 93) := hhp ▸ at_push_n _ _
  have nP : hp.n = H.n + 2 := by rw [hhp, n_push, n_push]
  have LP0 := ld_at (T := tabOf Try.prog NT0) P0
  rw [← hhp]
  clear hhp
  rw [WB_regionD [0, 1, 3, 4, 2, 6, 5, 7, 8, 9] 632895786129742360360258634752 (by kernel_rfl)]
  repeat ((with_reducible refine WDM_cons ?_; simp only [dw1]; try simp only [dw2, zrA, zrM, zrR, zrO, zrE]); simp only [core, zrA, zrS, zrM, zrL, zrE, reduceCtorEq, zrD, ziE, ziL, ziN, cored, LP0, a2, w2])
  refine (cloneI_o (ha.ext EP (Nat.le_refl _)) la).mono ?_
  rintro ra h3 ⟨e3, ra1⟩
  have P3 := (e3.2 _ (at_lt P0)).trans P0
  have Z3 := (e3.2 _ (at_lt Z0)).trans Z0
  have LP3 := ld_at (T := tabOf Try.prog NT0) P3
  have E3 := EP.step e3
  have r1 := (ra1.toSl (F := fun _ => True) (fun _ _ => trivial)).isSl
  have r2 := (ra1.toSl (F := fun _ => True) (fun _ _ => trivial)).one
  repeat ((with_reducible refine WDM_cons ?_; simp only [dw1]; try simp only [dw2, zrA, zrM, zrR, zrO, zrE]); simp only [core, zrA, zrS, zrM, zrL, zrE, reduceCtorEq, zrD, ziE, ziL, ziN, cored, LP3, a2, w2, r1, r2])
  refine (cloneI_o (hw.ext E3 (Nat.le_refl _)) lw).mono ?_
  rintro rw1 h4 ⟨e4, rw2⟩
  have P4 := (e4.2 _ (at_lt P3)).trans P3
  have Z4 := (e4.2 _ (at_lt Z3)).trans Z3
  have LP4 := ld_at (T := tabOf Try.prog NT0) P4
  have E4 := E3.step e4
  have l4 := at_lt P4
  have l6 := at_lt Z4
  have l3 : hp.n ≤ h3.n := e3.1
  have l5 : h3.n ≤ h4.n := e4.1
  have q1 := (rw2.toSl (F := fun _ => True) (fun _ _ => trivial)).isSl
  have q2 := (rw2.toSl (F := fun _ => True) (fun _ _ => trivial)).one
  have hne : ¬ H.n = H.n + 1 := by omega
  repeat ((with_reducible refine WDM_cons ?_; simp only [dw1]; try simp only [dw2, zrA, zrM, zrR, zrO, zrE]); simp only [core, zrA, zrS, zrM, zrL, zrE, reduceCtorEq, zrD, ziE, ziL, ziN, cored, LP4, P4, l4, r1, r2, q1, q2, a2, w2, Z4, l6, hne])
  refine ⟨((E4.put _ (by omega)).put _ (by omega)).put _ (by omega), _, _, rfl, ?_, ?_⟩
  · exact ((((ra1.ext e4 (Nat.le_refl _)).put (by omega)).put (by omega)).put (by omega)).mono (by omega)
  · exact (((rw2.put (by omega)).put (by omega)).put (by omega)).mono (by omega)
end Go.Proofs.Ytjkmmbfenhhjkaa.Ex
end

section

set_option linter.unusedSimpArgs false
set_option linter.unusedVariables false
set_option maxRecDepth 10000
set_option maxHeartbeats 4000000
namespace Go.Proofs.Ytjkmmbfenhhjkaa.Ex
open Go
def parentF (m : MapD) (item : Int) : Option BktD := m.buckets.find? (fun b => b.items.contains item)
def parentG (m : MapD) (item : Int) : BktD := (parentF m item).getD bkt0
theorem parent_x {F : Nat → Prop} {H : AH} {m : MapD} {vo vp vb : AV} (item : Int) (hm : MpAt F H m vo vp vb) (hl : Sm 64 m.buckets) (hbs : ∀ b ∈ m.buckets, Sm 8 b.items ∧ Sm 8 b.weights) :
    WC Try.prog (tabOf Try.prog NT0) S0 63 [mpV m vo vp vb, .lit (.int .i64 item)] H fun r h' => Ext H.n H h' ∧ ∃ va vw, r = .tup [bktV (parentG m item) va vw, .lit (.bool (parentF m item).isSome)] ∧ IsSl RInt F h' va (parentG m item).items ∧ IsSl RInt F h' vw (parentG m item).weights := by
  refine WC_fn Try.func63 rfl rfl ?_
  unfold Sm at hl
  have s1 := hm.b.isSl
  have s2 := hm.b.lenD
  have o1 := hm.o.one
  have o2 := hm.p.one
  have o3 := hm.b.one
  simp only [core, zrA, zrS, zrM, zrL, zrE, reduceCtorEq, zrD, ziE, ziL, ziN, Try.ntmps63, mpV, s1, s2, o1, o2, o3]
  obtain ⟨h2, hh2⟩ : ∃ h2, h2 = (H.push (.cells [.lit (.int .i64 m.epoch), vo, vp, vb, .lit (.int .i64 m.leaf)] 72)).push (.cells [.lit (.int .i64 0), .lit (.int .i64 0), .lit (.slice none 0 0), .lit (.slice none 0 0)] 93) := ⟨_, rfl⟩
  have E0 : Ext H.n H h2 := hh2 ▸ ((Ext.refl _ _).push _ (Nat.le_refl _)).push _ (by rw [n_push]; omega)
  have A0 : h2.at (H.n + 1) = some (.cells [.lit (.int .i64 0), .lit (.int .i64 0), .lit (.slice none 0 0), .lit (.slice none 0 0)] 93) := hh2 ▸ at_push_n _ _
  have n2 : h2.n = H.n + 2 := by rw [hh2, n_push, n_push]
  rw [← hh2]
  clear hh2
  refine WB_for m.buckets.length (fun i t h => Ext h2.n h2 h ∧ parentF m item = (m.buckets.drop i).find? (fun b => b.items.contains item) ∧ t.n = 22 ∧ t.get 1 = .lit (.int .i64 item) ∧ t.get 4 = .ptr (H.n + 1) 0 ∧ t.get 9 = vb ∧ t.get 10 = .lit (.int .i64 m.buckets.length) ∧ t.get 11 = .lit (.int .i64 i)) ?_ ?_ _ _ ?_
  · rintro i t h hlt hc ⟨he, hf, hn, g1, g4, g9, g10, g11⟩ ih
    obtain ⟨x, hx⟩ : ∃ x, m.buckets[i]? = some x := ⟨_, List.getElem?_eq_getElem hlt⟩
    have E1 : Ext H.n H h := E0.trans (he.mono (by omega))
    obtain ⟨c, hc1, hld, hld0⟩ := hm.b.atE (T := tabOf Try.prog NT0) E1 RBkt_z hx
    obtain ⟨va, vw, rfl, ha, hw, i1, i2⟩ := RBkt_is.1 hc1
    have a1 := ha.one
    have w1 := hw.one
    have hws := wrap_succ hlt (by omega)
    rw [find_drop hx] at hf
    have A1 : h.at (H.n + 1) = some (.cells [.lit (.int .i64 0), .lit (.int .i64 0), .lit (.slice none 0 0), .lit (.slice none 0 0)] 93) := (he.2 _ (by omega)).trans A0
    have l1 : H.n + 1 < h.n := at_lt A1
    obtain ⟨k1, k2⟩ := hbs x (List.mem_of_getElem? hx)
    unfold Sm at k1
    simp only [core, zrA, zrS, zrM, zrL, zrE, reduceCtorEq, zrD, ziE, ziL, ziN, s1, s2, hn, g1, g4, g9, g10, g11, hlt, hc, hld, hld0, hws, a1, w1]
    have EQ : ∀ y, Ext H.n H (h.push y) := fun y => E1.push _ E1.1
    refine (contains_x item (ha.ext (EQ _) (Nat.le_refl _)) (by omega)).mono ?_
    rintro _ h9 ⟨rfl, rfl⟩
    simp only [core, zrA, zrS, zrM, zrL, zrE, reduceCtorEq, zrD, ziE, ziL, ziN, s1, s2, hn, g1, g4, g9, g10, g11, hlt, hc, hld, hld0, hws, a1, w1]
    refine ⟨fun hq => ?_, fun hq => ?_⟩
    · rw [if_pos hq] at hf
      have hG : parentG m item = x := by unfold parentG; rw [hf]; rfl
      simp only [core, zrA, zrS, zrM, zrL, zrE, reduceCtorEq, zrD, ziE, ziL, ziN, hn, g1, g4, g9, g10, g11, a1, w1, A1, l1]
      have EF : Ext H.n H ((h.put (H.n + 1) (.cells [.lit (.int .i64 x.id), .lit (.int .i64 x.kind), va, vw] 93)).push (.cells [.lit (.int .i64 x.id), .lit (.int .i64 x.kind), va, vw] 93)) := (E1.put _ (by omega)).push _ (by rw [n_put]; omega)
      rw [hG, hf]
      exact ⟨EF, va, vw, rfl, ha.ext EF (Nat.le_refl _), hw.ext EF (Nat.le_refl _)⟩
    · rw [if_neg (by rw [hq]; decide)] at hf
      refine ih _ _ ⟨he.push _ he.1, hf, ?_⟩
      simp only [core, zrA, zrS, zrM, zrL, zrE, reduceCtorEq, zrD, ziE, ziL, ziN, hn, g1, g4, g9, g10, g11]
  · rintro t h hc ⟨he, hf, hn, g1, g4, g9, g10, g11⟩
    have A1 : h.at (H.n + 1) = some (.cells [.lit (.int .i64 0), .lit (.int .i64 0), .lit (.slice none 0 0), .lit (.slice none 0 0)] 93) := (he.2 _ (by omega)).trans A0
    have l1 : H.n + 1 < h.n := at_lt A1
    have E1 : Ext H.n H h := E0.trans (he.mono (by omega))
    have hf : parentF m item = none := by rw [hf, List.drop_length]; rfl
    have hG : parentG m item = bkt0 := by unfold parentG; rw [hf]; rfl
    simp only [core, zrA, zrS, zrM, zrL, zrE, reduceCtorEq, zrD, ziE, ziL, ziN, s1, s2, hn, g1, g4, g9, g10, g11, hc, A1, l1, bdM, fillA]
    rw [hG, hf]
    exact ⟨E1.put _ (by omega), _, _, rfl, IsSl.nil, IsSl.nil⟩
  · simp only [core, zrA, zrS, zrM, zrL, zrE, reduceCtorEq, zrD, ziE, ziL, ziN]
    refine ⟨Ext.refl _ _, rfl, ?_⟩
    (repeat' apply And.intro) <;> first | rfl | trivial
end Go.Proofs.Ytjkmmbfenhhjkaa.Ex
end

section

set_option linter.unusedSimpArgs false
set_option linter.unusedVariables false
set_option maxRecDepth 10000
set_option maxHeartbeats 4000000
namespace Go.Proofs.Ytjkmmbfenhhjkaa.Ex
open Go
def fitF (m : MapD) (b : BktD) (id : Int) : Bool := if 0 ≤ id then decide (id < 8) else (bucketF m id).isSome && decide ((bucketG m id).kind < b.kind)
theorem may_x {F : Nat → Prop} {H : AH} {m : MapD} {vo vp vb va vw : AV} {b : BktD} (id : Int) (hm : MpAt F H m vo vp vb) (hl : Sm 64 m.buckets) (hbs : ∀ b ∈ m.buckets, Sm 8 b.items ∧ Sm 8 b.weights) (hva : va.one = true) (hvw : vw.one = true) :
    WC Try.prog (tabOf Try.prog NT0) S0 54 [mpV m vo vp vb, bktV b va vw, .lit (.int .i64 id)] H fun r h' => Ext H.n H h' ∧ r = .lit (.bool (fitF m b id)) := by
  refine WC_fn Try.func54 rfl rfl ?_
  have o1 := hm.o.one
  have o2 := hm.p.one
  have o3 := hm.b.one
  simp only [core, zrA, zrS, zrM, zrL, zrE, reduceCtorEq, zrD, ziE, ziL, ziN, Try.ntmps54, mpV, bktV, o1, o2, o3, hva, hvw]
  obtain ⟨h1, hh1⟩ : ∃ h1, h1 = (H.push (.cells [.lit (.int .i64 m.epoch), vo, vp, vb, .lit (.int .i64 m.leaf)] 72)).push (.cells [.lit (.int .i64 b.id), .lit (.int .i64 b.kind), va, vw] 93) := ⟨_, rfl⟩
  have E1 : Ext H.n H h1 := hh1 ▸ ((Ext.refl _ _).push _ (Nat.le_refl _)).push _ (by rw [n_push]; omega)
  have n1 : h1.n = H.n + 2 := by rw [hh1, n_push, n_push]
  have A1 : h1.at (H.n + 1) = some (.cells [.lit (.int .i64 b.id), .lit (.int .i64 b.kind), va, vw] 93) := by
    rw [hh1]
    have := at_push_n (H.push (.cells [.lit (.int .i64 m.epoch), vo, vp, vb, .lit (.int .i64 m.leaf)] 72)) (.cells [.lit (.int .i64 b.id), .lit (.int .i64 b.kind), va, vw] 93)
    rw [n_push] at this
    exact this
  try rw [← hh1]
  clear hh1
  by_cases h0 : 0 ≤ id
  · simp only [core, zrA, zrS, zrM, zrL, zrE, reduceCtorEq, zrD, ziE, ziL, ziN, h0]
    refine ⟨E1, ?_⟩
    unfold fitF
    rw [if_pos h0]
  · simp only [core, zrA, zrS, zrM, zrL, zrE, reduceCtorEq, zrD, ziE, ziL, ziN, h0]
    refine (bucket_x id (hm.ext E1 (Nat.le_refl _)) hl hbs).mono ?_
    rintro _ h2 ⟨e2, v1, v2, rfl, b1, b2⟩
    have o4 := b1.one
    have o5 := b2.one
    have E2 := E1.step e2
    have A2 := (e2.2 _ (by omega)).trans A1
    have l2 := at_lt A2
    have LA2 := ld_at (T := tabOf Try.prog NT0) A2
    simp only [core, zrA, zrS, zrM, zrL, zrE, reduceCtorEq, zrD, ziE, ziL, ziN, bktV, o4, o5, A2, l2, LA2]
    obtain ⟨h3, hh3⟩ : ∃ h3, h3 = h2.push (.cells [.lit (.int .i64 (bucketG m id).id), .lit (.int .i64 (bucketG m id).kind), v1, v2] 93) := ⟨_, rfl⟩
    have e3 : Ext h2.n h2 h3 := hh3 ▸ (Ext.refl _ _).push _ (Nat.le_refl _)
    have B3 : h3.at h2.n = some (.cells [.lit (.int .i64 (bucketG m id).id), .lit (.int .i64 (bucketG m id).kind), v1, v2] 93) := hh3 ▸ at_push_n _ _
    rw [← hh3]
    clear hh3
    have E3 := E2.step e3
    have A3 := (e3.2 _ l2).trans A2
    have l3 := at_lt A3
    have LA3 := ld_at (T := tabOf Try.prog NT0) A3
    have LB3 := ld_at (T := tabOf Try.prog NT0) B3
    have b3 := at_lt B3
    cases hb : (bucketF m id).isSome with
    | false =>
      simp only [core, zrA, zrS, zrM, zrL, zrE, reduceCtorEq, zrD, ziE, ziL, ziN]
      refine ⟨E3, ?_⟩
      unfold fitF
      rw [if_neg h0, hb]
      rfl
    | true =>
      simp only [core, zrA, zrS, zrM, zrL, zrE, reduceCtorEq, zrD, ziE, ziL, ziN, LA3, LB3, l3, b3]
      refine ⟨E3, ?_⟩
      unfold fitF
      rw [if_neg h0, hb]
      rfl
end Go.Proofs.Ytjkmmbfenhhjkaa.Ex
end

section

set_option linter.unusedSimpArgs false
set_option linter.unusedVariables false
set_option maxRecDepth 10000
set_option maxHeartbeats 4000000
namespace Go.Proofs.Ytjkmmbfenhhjkaa.Ex
open Go
/-- A map whose keys are these, each with 1. -/
def Ones (es : List AE) (ks : List Int) : Prop := es.map (fun e => (e.key, e.val)) = ks.map (fun k => (.int .i64 k, .lit (.int .i64 1)))
theorem findA_int (d : Int) : ∀ (ks : List Int) (es : List AE) (i : Nat), Ones es ks → (d ∉ ks → findA (.int .i64) (.int .i64 d) es i = some none) ∧ (d ∈ ks → ∃ j, j < es.length ∧ findA (.int .i64) (.int .i64 d) es i = some (some (i + j, .lit (.int .i64 1))) ∧ ∀ x, findA (.int .i64) (.int .i64 d) (es.modify j fun e => { e with key := .int .i64 d, val := x }) i = some (some (i + j, x)))
  | [], es, i, h => by
    have : es = [] := by unfold Ones at h; simpa using h
    subst this
    exact ⟨fun _ => rfl, fun h => by cases h⟩
  | k :: ks, es, i, h => by
    cases es with
    | nil => unfold Ones at h; simp at h
    | cons e es =>
    unfold Ones at h
    simp only [List.map_cons, List.cons.injEq, Prod.mk.injEq] at h
    obtain ⟨⟨h1, h2⟩, h3⟩ := h
    obtain ⟨r1, r2⟩ := findA_int d ks es (i + 1) h3
    have hs : Instr.sameNow (.int .i64) (.int .i64 d) e.key = some (d == k) := by rw [h1]; rfl
    have hd : Instr.sameNow (.int .i64) (.int .i64 d) (.int .i64 d) = some (d == d) := rfl
    by_cases hk : d = k
    · subst hk
      refine ⟨fun hn => absurd (List.mem_cons_self ..) hn, fun _ => ⟨0, by simp, ?_, fun x => ?_⟩⟩
      · unfold findA
        rw [hs, beq_self_eq_true, h2]
        rfl
      · simp only [List.modify_zero_cons]
        unfold findA
        simp only [hd, beq_self_eq_true]
        rfl
    · have hkb : (d == k) = false := by simpa using hk
      refine ⟨fun hn => ?_, fun hm => ?_⟩
      · unfold findA
        rw [hs, hkb]
        exact r1 (fun hh => hn (List.mem_cons_of_mem _ hh))
      · obtain ⟨j, hj, q1, q2⟩ := r2 (by rcases List.mem_cons.1 hm with h | h; exact absurd h hk; exact h)
        refine ⟨j + 1, by simpa using hj, ?_, fun x => ?_⟩
        · unfold findA
          rw [hs, hkb]
          simp only
          rw [q1]
          congr 3
          omega
        · rw [List.modify_succ_cons]
          unfold findA
          rw [hs, hkb]
          simp only
          rw [q2 x]
          congr 3
          omega
theorem Ones.snoc {es : List AE} {ks : List Int} {k : Int} {c : Nat} (h : Ones es ks) : Ones (es ++ [{ key := .int .i64 k, val := .lit (.int .i64 1), born := c }]) (ks ++ [k]) := by
  unfold Ones at *
  rw [List.map_append, List.map_append, h]
  rfl
section
variable {P : Program} {T : TT} {t : TM} {h : AH} {d : Option Tmp} {ty e : TypeId} {ps : String} {af : Array Edge} {g : Option (Nat × Bool)}
theorem a_mkm : aop P T ⟨d, .makeMap e none, ty, ps, af, g⟩ t h = some (.val (.mp h.n), h.push (.map [] 0)) := rfl
theorem a_look {m k : Operand} {ok : Bool} : aop P T ⟨d, .lookup e m k ok, ty, ps, af, g⟩ t h = aLookup T t h e m k ok := rfl
theorem a_mupd {m k x : Operand} : aop P T ⟨d, .mapUpdate e m k x, ty, ps, af, g⟩ t h = aUpdate T t h e m k x := rfl
end
section
variable {T : TT} {t kt et : TypeId} {h : AH} {b : Nat} {es : List AE} {c : Nat} {ks : List Int} {d : Int}
theorem findT_int (hu : und T t = some (.map kt et)) (hi : und T kt = some (.int .i64)) : findT T t (.int .i64 d) es = findA (.int .i64) (.int .i64 d) es 0 := by
  unfold findT
  rw [hu]
  simp only
  unfold und at hi
  cases hT : T kt with
  | none => rw [hT] at hi; cases hi
  | some i =>
    rw [hT] at hi
    simp only [Option.map_some, Option.some.injEq] at hi
    simp only [hi]
    rfl
theorem look_new (hu : und T t = some (.map kt et)) (hi : und T kt = some (.int .i64)) (hz : zeroT T et = some (.lit (.int .i64 0))) (hb : h.at b = some (.map es c)) (ho : Ones es ks) (hd : d ∉ ks) :
    lookupA T h t (.mp b) (.lit (.int .i64 d)) false = some (.lit (.int .i64 0)) := by
  unfold lookupA
  simp only [keyOf, entsA, hb, elemT, hu, findT_int hu hi, (findA_int d ks es 0 ho).1 hd, hz]
  rfl
theorem look_old (hu : und T t = some (.map kt et)) (hi : und T kt = some (.int .i64)) (hz : zeroT T et = some (.lit (.int .i64 0))) (hb : h.at b = some (.map es c)) (ho : Ones es ks) (hd : d ∈ ks) :
    lookupA T h t (.mp b) (.lit (.int .i64 d)) false = some (.lit (.int .i64 1)) := by
  obtain ⟨j, hj, q1, q2⟩ := (findA_int d ks es 0 ho).2 hd
  unfold lookupA
  simp only [keyOf, entsA, hb, elemT, hu, findT_int hu hi, q1, hz]
  rfl
theorem upd_new {x : AV} (hu : und T t = some (.map kt et)) (hi : und T kt = some (.int .i64)) (hb : h.at b = some (.map es c)) (ho : Ones es ks) (hd : d ∉ ks) :
    updateA T h t (.mp b) (.lit (.int .i64 d)) x = some (h.put b (.map (es ++ [{ key := .int .i64 d, val := x, born := c }]) (c + 1))) := by
  unfold updateA
  simp only [keyOf, hb, findT_int hu hi, (findA_int d ks es 0 ho).1 hd]
theorem upd_old {x : AV} (hu : und T t = some (.map kt et)) (hi : und T kt = some (.int .i64)) (hz : zeroT T et = some (.lit (.int .i64 0))) (hb : h.at b = some (.map es c)) (ho : Ones es ks) (hd : d ∈ ks) :
    ∃ es', updateA T h t (.mp b) (.lit (.int .i64 d)) x = some (h.put b (.map es' c)) ∧ ∀ h', h'.at b = some (.map es' c) → lookupA T h' t (.mp b) (.lit (.int .i64 d)) false = some x := by
  obtain ⟨j, hj, q1, q2⟩ := (findA_int d ks es 0 ho).2 hd
  refine ⟨es.modify (0 + j) fun e => { e with key := .int .i64 d, val := x }, ?_, fun h' hb' => ?_⟩
  · unfold updateA
    simp only [keyOf, hb, findT_int hu hi, q1]
  · unfold lookupA
    rw [Nat.zero_add] at hb'
    simp only [keyOf, entsA, hb', elemT, hu, findT_int hu hi, q2 x, hz]
    rfl
/-- What a new key gives, and the next look. -/
theorem look_put {cc : Nat} (hu : und T t = some (.map kt et)) (hi : und T kt = some (.int .i64)) (hz : zeroT T et = some (.lit (.int .i64 0))) (ho : Ones es ks) (hb : h.at b = some (.map (es ++ [{ key := .int .i64 d, val := .lit (.int .i64 1), born := c }]) cc)) :
    lookupA T h t (.mp b) (.lit (.int .i64 d)) false = some (.lit (.int .i64 1)) :=
  look_old hu hi hz hb ho.snoc (List.mem_append.2 (.inr (List.mem_cons_self ..)))
end
end Go.Proofs.Ytjkmmbfenhhjkaa.Ex
end

section

set_option linter.unusedSimpArgs false
set_option linter.unusedVariables false
set_option maxRecDepth 10000
set_option maxHeartbeats 4000000
namespace Go.Proofs.Ytjkmmbfenhhjkaa.Ex
open Go
def itemC (m : MapD) (its : List Int) (b : BktD) (k : Nat) : Bool := !((its ++ b.items.take k).contains (b.items.getD k 0)) && fitF m b (b.items.getD k 0) && wOk (b.weights.getD k 0)
def bC (m : MapD) (i : Nat) (b : BktD) : Bool := hdOk m i b && (List.range b.items.length).all (itemC m (itsTo m i) b)
def checkF (m : MapD) : Bool := decide (0 ≤ m.leaf) && decide (m.leaf ≤ 3) && (List.range m.buckets.length).all (fun i => bC m i (m.buckets.getD i bkt0))
theorem check_false {m : MapD} {i : Nat} {x : BktD} (hx : m.buckets[i]? = some x) (h : bC m i x = false) : checkF m = false := by
  unfold checkF
  rw [range_all_false (i := i) (List.getElem?_eq_some_iff.1 hx).1 (by simp only [getD_of hx]; exact h), Bool.and_false]
def errC (m : MapD) : Int := if checkF m then 0 else 22
theorem check_x {F : Nat → Prop} {H : AH} {m : MapD} {vo vp vb : AV} (hm : MpAt F H m vo vp vb) (hok : OkM m) :
    WC Try.prog (tabOf Try.prog NT0) S0 45 [mpV m vo vp vb] H fun r h' => Ext H.n H h' ∧ r = .lit (.int .i64 (errC m)) := by
  refine WC_fn Try.func45 rfl rfl ?_
  obtain ⟨hl, hbs, hit⟩ := hok
  have hl0 := hl
  unfold Sm at hl
  have s1 := hm.b.isSl
  have s2 := hm.b.lenD
  have o1 := hm.o.one
  have o2 := hm.p.one
  have o3 := hm.b.one
  have hcap : CapOk 4 vb := by obtain ⟨L, -, -, hc, -⟩ := hm.b.out; exact hc
  have EP : ∀ x, Ext H.n H (H.push x) := fun x => (Ext.refl _ _).push _ (Nat.le_refl _)
  have hbad0 : ∀ h', Ext H.n H h' → checkF m = false → Ext H.n H h' ∧ AV.lit (.int .i64 22) = .lit (.int .i64 (errC m)) := fun h' e hf => ⟨e, by unfold errC; rw [hf]; rfl⟩
  simp only [core, zrA, zrS, zrM, zrL, zrE, reduceCtorEq, zrD, ziE, ziL, ziN, Try.ntmps45, mpV, o1, o2, o3]
  by_cases hl1 : m.leaf < 0
  · simp only [core, zrA, zrS, zrM, zrL, zrE, reduceCtorEq, zrD, ziE, ziL, ziN, hl1]
    refine hbad0 _ (EP _) ?_
    unfold checkF
    rw [decide_eq_false (show ¬ 0 ≤ m.leaf by omega)]
    rfl
  by_cases hl2 : 3 < m.leaf
  · simp only [core, zrA, zrS, zrM, zrL, zrE, reduceCtorEq, zrD, ziE, ziL, ziN, hl1, hl2]
    refine hbad0 _ (EP _) ?_
    unfold checkF
    rw [decide_eq_false (show ¬ m.leaf ≤ 3 by omega), Bool.and_false]
    rfl
  have hg0 : checkF m = (List.range m.buckets.length).all (fun i => bC m i (m.buckets.getD i bkt0)) := by
    unfold checkF
    rw [decide_eq_true (show 0 ≤ m.leaf by omega), decide_eq_true (show m.leaf ≤ 3 by omega)]
    rfl
  simp only [core, zrA, zrS, zrM, zrL, zrE, reduceCtorEq, zrD, ziE, ziL, ziN, a_mkm, hl1, hl2, s1, s2]
  obtain ⟨h1, hh1⟩ : ∃ h1, h1 = (H.push (.cells [.lit (.int .i64 m.epoch), vo, vp, vb, .lit (.int .i64 m.leaf)] 72)).push (.map [] 0) := ⟨_, rfl⟩
  have E0 : Ext H.n H h1 := hh1 ▸ (EP _).push _ (by rw [n_push]; omega)
  have A0 : h1.at H.n = some (.cells [.lit (.int .i64 m.epoch), vo, vp, vb, .lit (.int .i64 m.leaf)] 72) := by
    rw [hh1, at_push_lt _ (by rw [n_push]; omega)]
    exact at_push_n _ _
  have M0 : h1.at (H.n + 1) = some (.map [] 0) := by
    rw [hh1]
    have := at_push_n (H.push (.cells [.lit (.int .i64 m.epoch), vo, vp, vb, .lit (.int .i64 m.leaf)] 72)) (.map [] 0)
    rw [n_push] at this
    exact this
  have n1 : h1.n = H.n + 2 := by rw [hh1, n_push, n_push]
  rw [← hh1]
  clear hh1
  refine WB_for m.buckets.length (fun i t h => ∃ es c, h.at (H.n + 1) = some (.map es c) ∧ Ones es (itsTo m i) ∧ Ext H.n H h ∧ h.at H.n = some (.cells [.lit (.int .i64 m.epoch), vo, vp, vb, .lit (.int .i64 m.leaf)] 72) ∧ (List.range i).all (fun i => bC m i (m.buckets.getD i bkt0)) = true ∧ t.n = 105 ∧ t.get 1 = .ptr H.n 0 ∧ t.get 3 = .mp (H.n + 1) ∧ t.get 20 = vb ∧ t.get 21 = .lit (.int .i64 m.buckets.length) ∧ t.get 22 = .lit (.int .i64 i)) ?_ ?_ _ _ ?_
  · rintro i t h hlt hc ⟨es, cl, M1, ho, E1, A1, hall, hn, g1, g3, g20, g21, g22⟩ ih
    obtain ⟨x, hx⟩ : ∃ x, m.buckets[i]? = some x := ⟨_, List.getElem?_eq_getElem hlt⟩
    obtain ⟨c, hc1, hld, hld0⟩ := hm.b.atE (T := tabOf Try.prog NT0) E1 RBkt_z hx
    obtain ⟨va, vw, rfl, ha, hw, i1, i2⟩ := RBkt_is.1 hc1
    obtain ⟨k1, k2⟩ := hbs x (List.mem_of_getElem? hx)
    unfold Sm at k1 k2
    have a1 := ha.one
    have w1 := hw.one
    have a2 := ha.isSl
    have w2 := hw.isSl
    have a3 := ha.lenD
    have w3 := hw.lenD
    have hws := wrap_succ hlt (by omega)
    have l1 : H.n < h.n := at_lt A1
    have lm : H.n + 1 < h.n := at_lt M1
    have LA1 := ld_at (T := tabOf Try.prog NT0) A1
    have hno : i ≤ m.buckets.length := by omega
    have hno2 : (i : Int) ≤ (m.buckets.length : Int) := by omega
    have hsub : IsSl RBkt F H (subSl 4 0 i vb) (m.buckets.take i) := by have := hm.b.sub (l := 0) (r := i) (by omega) hno; rw [List.drop_zero] at this; exact this
    have s3 := hsub.isSl
    have s4 : lenD (subSl 4 0 i vb) = i := by rw [hsub.lenD, List.length_take]; omega
    have hbk : bC m i x = (hdOk m i x && (List.range x.items.length).all (itemC m (itsTo m i) x)) := rfl
    have hbad : ∀ h', Ext H.n H h' → bC m i x = false → Ext H.n H h' ∧ AV.lit (.int .i64 22) = .lit (.int .i64 (errC m)) := fun h' e hf => hbad0 _ e (check_false hx hf)
    obtain ⟨hA, hhA⟩ : ∃ hA, hA = h.push (.cells [.lit (.int .i64 x.id), .lit (.int .i64 x.kind), va, vw] 93) := ⟨_, rfl⟩
    have EA : Ext h.n h hA := hhA ▸ (Ext.refl _ _).push _ (Nat.le_refl _)
    have PA : hA.at h.n = some (.cells [.lit (.int .i64 x.id), .lit (.int .i64 x.kind), va, vw] 93) := hhA ▸ at_push_n h _
    have AA := (EA.2 _ l1).trans A1
    have LAA := ld_at (T := tabOf Try.prog NT0) AA
    have lA := at_lt AA
    have LPA := ld_at (T := tabOf Try.prog NT0) PA
    have lPA := at_lt PA
    have EHA := E1.step EA
    by_cases c1 : 0 ≤ x.id
    · simp only [core, zrA, zrS, zrM, zrL, zrE, reduceCtorEq, zrD, ziE, ziL, ziN, s1, s2, hn, g1, g3, g20, g21, g22, hlt, hc, hld, hld0, a1, w1, ← hhA, LPA, lPA, c1]
      refine hbad _ EHA ?_
      rw [hbk]; unfold hdOk
      rw [decide_eq_false (show ¬ x.id < 0 by omega)]; simp
    by_cases c2 : x.kind < 1
    · simp only [core, zrA, zrS, zrM, zrL, zrE, reduceCtorEq, zrD, ziE, ziL, ziN, s1, s2, hn, g1, g3, g20, g21, g22, hlt, hc, hld, hld0, a1, w1, ← hhA, LPA, lPA, c1, c2]
      refine hbad _ EHA ?_
      rw [hbk]; unfold hdOk
      rw [decide_eq_false (show ¬ 1 ≤ x.kind by omega)]; simp
    by_cases c3 : 3 < x.kind
    · simp only [core, zrA, zrS, zrM, zrL, zrE, reduceCtorEq, zrD, ziE, ziL, ziN, s1, s2, hn, g1, g3, g20, g21, g22, hlt, hc, hld, hld0, a1, w1, ← hhA, LPA, lPA, c1, c2, c3]
      refine hbad _ EHA ?_
      rw [hbk]; unfold hdOk
      rw [decide_eq_false (show ¬ x.kind ≤ 3 by omega)]; simp
    simp only [core, zrA, zrS, zrM, zrL, zrE, reduceCtorEq, zrD, ziE, ziL, ziN, s1, s2, hn, g1, g3, g20, g21, g22, hlt, hc, hld, hld0, a1, w1, ← hhA, LPA, lPA, c1, c2, c3, a2, w2, a3, w3]
    refine ⟨fun hq => ?_, fun hq => ?_⟩
    · refine hbad _ EHA ?_
      rw [hbk]; unfold hdOk
      have : ¬ x.items.length = x.weights.length := by simp at hq; omega
      simp [this]
    have hlen : x.items.length = x.weights.length := by simp at hq; omega
    simp only [core, zrA, zrS, zrM, zrL, zrE, reduceCtorEq, zrD, ziE, ziL, ziN, s1, s2, hn, g1, g3, g20, g21, g22, LAA, lA, hcap, hno, hno2, s3, s4]
    have MA : hA.at (H.n + 1) = some (.map es cl) := (EA.2 _ lm).trans M1
    refine WB_for i (fun j t h' => Ext hA.n hA h' ∧ (m.buckets.take j).any (fun c => c.id == x.id) = false ∧ t.n = 105 ∧ t.get 1 = .ptr H.n 0 ∧ t.get 3 = .mp (H.n + 1) ∧ t.get 4 = .lit (.int .i64 i) ∧ t.get 5 = .ptr h.n 0 ∧ t.get 20 = vb ∧ t.get 21 = .lit (.int .i64 m.buckets.length) ∧ t.get 22 = .lit (.int .i64 i) ∧ t.get 52 = subSl 4 0 i vb ∧ t.get 53 = .lit (.int .i64 i) ∧ t.get 54 = .lit (.int .i64 j)) ?_ ?_ _ _ ?_
    · rintro j t h' hj hc ⟨he2, hany, hn, g1, g3, g4, g5, g20, g21, g22, g52, g53, g54⟩ ih2
      have hjl : j < m.buckets.length := by omega
      obtain ⟨y, hy⟩ : ∃ y, m.buckets[j]? = some y := ⟨_, List.getElem?_eq_getElem hjl⟩
      have hy2 : (m.buckets.take i)[j]? = some y := by rw [List.getElem?_take, if_pos hj, hy]
      have E2 : Ext H.n H h' := EHA.step he2
      obtain ⟨c, hc1, hld, hld0⟩ := hsub.atE (T := tabOf Try.prog NT0) E2 RBkt_z hy2
      obtain ⟨ya, yw, rfl, ya1, yw1, -, -⟩ := RBkt_is.1 hc1
      have y1 := ya1.one
      have y2 := yw1.one
      have hws := wrap_succ hj (by omega)
      have P2 := (he2.2 _ lPA).trans PA
      have LP2 := ld_at (T := tabOf Try.prog NT0) P2
      have l2 : h.n < h'.n := at_lt P2
      simp only [core, zrA, zrS, zrM, zrL, zrE, reduceCtorEq, zrD, ziE, ziL, ziN, s1, s2, s3, s4, hn, g1, g3, g4, g5, g20, g21, g22, g52, g53, g54, hj, hc, hld, hld0, hws, y1, y2, LP2, l2]
      refine ⟨fun hq => ?_, fun hq => ?_⟩
      · refine hbad _ (E2.push _ E2.1) ?_
        rw [hbk]
        unfold hdOk
        rw [any_true' hy2 hq]
        rfl
      · refine ih2 _ _ ⟨he2.push _ he2.1, ?_, ?_⟩
        · rw [any_take hy, hany]
          simpa using hq
        · simp only [core, zrA, zrS, zrM, zrL, zrE, reduceCtorEq, zrD, ziE, ziL, ziN, hn, g1, g3, g4, g5, g20, g21, g22, g52, g53, g54]
    · rintro t h' hc ⟨he2, hany, hn, g1, g3, g4, g5, g20, g21, g22, g52, g53, g54⟩
      have E2 : Ext H.n H h' := EHA.step he2
      have P2 := (he2.2 _ lPA).trans PA
      have LP2 := ld_at (T := tabOf Try.prog NT0) P2
      have l2 : h.n < h'.n := at_lt P2
      have A2 := (he2.2 _ lA).trans AA
      have M2 := (he2.2 _ (at_lt MA)).trans MA
      have hhd : hdOk m i x = true := by
        unfold hdOk
        rw [hany, decide_eq_true (show x.id < 0 by omega), decide_eq_true (show 1 ≤ x.kind by omega), decide_eq_true (show x.kind ≤ 3 by omega)]
        simp [hlen]
      rw [hhd, Bool.true_and] at hbk
      simp only [core, zrA, zrS, zrM, zrL, zrE, reduceCtorEq, zrD, ziE, ziL, ziN, s1, s2, s3, s4, hn, g1, g3, g4, g5, g20, g21, g22, g52, g53, g54, hc, LP2, l2, a2, a3]
      refine WB_for x.items.length (fun k t h3 => ∃ es c, h3.at (H.n + 1) = some (.map es c) ∧ Ones es (itsTo m i ++ x.items.take k) ∧ Ext H.n H h3 ∧ h3.at H.n = some (.cells [.lit (.int .i64 m.epoch), vo, vp, vb, .lit (.int .i64 m.leaf)] 72) ∧ h3.at h.n = some (.cells [.lit (.int .i64 x.id), .lit (.int .i64 x.kind), va, vw] 93) ∧ (List.range k).all (itemC m (itsTo m i) x) = true ∧ t.n = 105 ∧ t.get 1 = .ptr H.n 0 ∧ t.get 3 = .mp (H.n + 1) ∧ t.get 5 = .ptr h.n 0 ∧ t.get 20 = vb ∧ t.get 21 = .lit (.int .i64 m.buckets.length) ∧ t.get 22 = .lit (.int .i64 i) ∧ t.get 65 = va ∧ t.get 66 = .lit (.int .i64 x.items.length) ∧ t.get 67 = .lit (.int .i64 k)) ?_ ?_ _ _ ?_
      · rintro k t h3 hk hc ⟨es, cl, M3, ho3, E3, A3, P3, hkall, hn, g1, g3, g5, g20, g21, g22, g65, g66, g67⟩ ih4
        have hlda := (ha.ext E3 (Nat.le_refl _)).int (T := tabOf Try.prog NT0) (e := 3) (by kernel_rfl) (by kernel_rfl) hk
        have hws := wrap_succ hk (by omega)
        have lm3 := at_lt M3
        have l3 := at_lt A3
        have lp3 := at_lt P3
        obtain ⟨d, hd⟩ : ∃ d, d = x.items.getD k 0 := ⟨_, rfl⟩
        have hu : und (tabOf Try.prog NT0) 144 = some (.map 3 3) := by kernel_rfl
        have hi : und (tabOf Try.prog NT0) 3 = some (.int .i64) := by kernel_rfl
        have hz : zeroT (tabOf Try.prog NT0) 3 = some (.lit (.int .i64 0)) := by kernel_rfl
        have w01 : IntKind.i64.wrap (0 + 1) = 1 := by decide
        have w11 : IntKind.i64.wrap (1 + 1) = 2 := by decide
        rw [← hd] at hlda
        by_cases hmem : d ∈ itsTo m i ++ x.items.take k
        · have hL := look_old hu hi hz M3 ho3 hmem
          obtain ⟨es', hU, hL2⟩ := upd_old (x := .lit (.int .i64 2)) hu hi hz M3 ho3 hmem
          obtain ⟨h4, hh4⟩ : ∃ h4, h4 = h3.put (H.n + 1) (.map es' cl) := ⟨_, rfl⟩
          have E4 : Ext H.n H h4 := hh4 ▸ E3.put _ (by omega)
          have hL4 := hL2 h4 (by rw [hh4]; exact at_put_same _ lm3)
          rw [← hh4] at hU
          simp only [core, zrA, zrS, zrM, zrL, zrE, reduceCtorEq, zrD, ziE, ziL, ziN, hn, g1, g3, g5, g20, g21, g22, g65, g66, g67, hc, hk, hlda, a2, a3, a_look, aLookup, a_mupd, aUpdate, hL, hU, hL4, w11]
          refine hbad _ E4 ?_
          rw [hbk, range_all_false hk ?_]
          unfold itemC
          rw [← hd, List.contains_iff_mem.2 hmem]
          rfl
        have hL := look_new hu hi hz M3 ho3 hmem
        have hU := upd_new (x := .lit (.int .i64 1)) hu hi M3 ho3 hmem
        obtain ⟨h4, hh4⟩ : ∃ h4, h4 = h3.put (H.n + 1) (.map (es ++ [{ key := .int .i64 d, val := .lit (.int .i64 1), born := cl }]) (cl + 1)) := ⟨_, rfl⟩
        have E4 : Ext H.n H h4 := hh4 ▸ E3.put _ (by omega)
        have M4 : h4.at (H.n + 1) = some (.map (es ++ [{ key := .int .i64 d, val := .lit (.int .i64 1), born := cl }]) (cl + 1)) := by rw [hh4]; exact at_put_same _ lm3
        have hL4 := look_put hu hi hz ho3 M4
        rw [← hh4] at hU
        have hne : H.n + 1 ≠ h.n := by omega
        have A4 := A3
        rw [← at_put_ne (.map (es ++ [{ key := .int .i64 d, val := .lit (.int .i64 1), born := cl }]) (cl + 1)) (show H.n + 1 ≠ H.n by omega), ← hh4] at A4
        have P4 := P3
        rw [← at_put_ne (.map (es ++ [{ key := .int .i64 d, val := .lit (.int .i64 1), born := cl }]) (cl + 1)) hne, ← hh4] at P4
        have l4 := at_lt A4
        have lp4 := at_lt P4
        have LA4 := ld_at (T := tabOf Try.prog NT0) A4
        have LP4 := ld_at (T := tabOf Try.prog NT0) P4
        simp only [core, zrA, zrS, zrM, zrL, zrE, reduceCtorEq, zrD, ziE, ziL, ziN, hn, g1, g3, g5, g20, g21, g22, g65, g66, g67, hc, hk, hlda, a2, a3, a_look, aLookup, a_mupd, aUpdate, hL, hU, hL4, w01, LA4, l4, LP4, lp4]
        refine (may_x (b := x) d (hm.ext E4 (Nat.le_refl _)) hl0 hbs a1 w1).mono ?_
        rintro _ h5 ⟨e5, rfl⟩
        have E5 := E4.step e5
        have A5 := (e5.2 _ l4).trans A4
        have P5 := (e5.2 _ lp4).trans P4
        have M5 := (e5.2 _ (at_lt M4)).trans M4
        have lp5 := at_lt P5
        have LP5 := ld_at (T := tabOf Try.prog NT0) P5
        have hcon : (itsTo m i ++ x.items.take k).contains d = false := by
          cases hcc : (itsTo m i ++ x.items.take k).contains d with
          | false => rfl
          | true => exact absurd (List.contains_iff_mem.1 hcc) hmem
        have hit : itemC m (itsTo m i) x k = (fitF m x d && wOk (x.weights.getD k 0)) := by
          unfold itemC
          rw [← hd, hcon]
          rfl
        cases hfit : fitF m x d with
        | false =>
          simp only [core, zrA, zrS, zrM, zrL, zrE, reduceCtorEq, zrD, ziE, ziL, ziN, hn, g1, g3, g5, g20, g21, g22, g65, g66, g67]
          refine hbad _ E5 ?_
          rw [hbk, range_all_false hk (by rw [hit, hfit]; rfl)]
        | true =>
        rw [hfit, Bool.true_and] at hit
        have hkw : k < x.weights.length := by omega
        have hldw := (hw.ext E5 (Nat.le_refl _)).int (T := tabOf Try.prog NT0) (e := 3) (by kernel_rfl) (by kernel_rfl) hkw
        by_cases d1 : x.weights.getD k 0 < 0
        · simp only [core, zrA, zrS, zrM, zrL, zrE, reduceCtorEq, zrD, ziE, ziL, ziN, hn, g1, g3, g5, g20, g21, g22, g65, g66, g67, LP5, lp5, w2, w3, hkw, hldw, d1]
          refine hbad _ E5 ?_
          rw [hbk, range_all_false hk (by rw [hit]; unfold wOk; rw [decide_eq_false (by omega)]; rfl)]
        by_cases d2 : 1048576 < x.weights.getD k 0
        · simp only [core, zrA, zrS, zrM, zrL, zrE, reduceCtorEq, zrD, ziE, ziL, ziN, hn, g1, g3, g5, g20, g21, g22, g65, g66, g67, LP5, lp5, w2, w3, hkw, hldw, d1, d2]
          refine hbad _ E5 ?_
          rw [hbk, range_all_false hk (by rw [hit]; unfold wOk; rw [decide_eq_false (show ¬ x.weights.getD k 0 ≤ 1048576 by omega), Bool.and_false])]
        simp only [core, zrA, zrS, zrM, zrL, zrE, reduceCtorEq, zrD, ziE, ziL, ziN, hn, g1, g3, g5, g20, g21, g22, g65, g66, g67, LP5, lp5, w2, w3, hkw, hldw, d1, d2, hws]
        refine ih4 _ _ ⟨_, _, M5, ?_, E5, A5, P5, ?_, ?_⟩
        · rw [List.take_add_one, getD_some' 0 hk, ← hd]
          simpa using ho3.snoc (k := d)
        · rw [range_all_succ, hkall, hit]
          unfold wOk
          rw [decide_eq_true (show 0 ≤ x.weights.getD k 0 by omega), decide_eq_true (show x.weights.getD k 0 ≤ 1048576 by omega)]
          rfl
        · simp only [core, zrA, zrS, zrM, zrL, zrE, reduceCtorEq, zrD, ziE, ziL, ziN, hn, g1, g3, g5, g20, g21, g22, g65, g66, g67]
      · rintro t h3 hc ⟨es, cl, M3, ho3, E3, A3, P3, hkall, hn, g1, g3, g5, g20, g21, g22, g65, g66, g67⟩
        rw [List.take_length] at ho3
        simp only [core, zrA, zrS, zrM, zrL, zrE, reduceCtorEq, zrD, ziE, ziL, ziN, hn, g1, g3, g5, g20, g21, g22, g65, g66, g67, hc, hws]
        refine ih _ _ ⟨es, cl, M3, ?_, E3, A3, ?_, ?_⟩
        · rw [itsTo_succ hx]; exact ho3
        · rw [range_all_succ, hall, getD_of hx, hbk, hkall]; rfl
        · simp only [core, zrA, zrS, zrM, zrL, zrE, reduceCtorEq, zrD, ziE, ziL, ziN, hn, g1, g3, g5, g20, g21, g22, g65, g66, g67]
      · refine ⟨_, _, M2, ?_, E2, A2, P2, rfl, ?_⟩
        · rw [List.take_zero, List.append_nil]; exact ho
        · simp only [core, zrA, zrS, zrM, zrL, zrE, reduceCtorEq, zrD, ziE, ziL, ziN, hn, g1, g3, g4, g5, g20, g21, g22, g52, g53, g54]
          (repeat' apply And.intro) <;> first | rfl | trivial
    · simp only [core, zrA, zrS, zrM, zrL, zrE, reduceCtorEq, zrD, ziE, ziL, ziN, hn, g1, g3, g20, g21, g22]
      refine ⟨Ext.refl _ _, rfl, ?_⟩
      (repeat' apply And.intro) <;> first | rfl | trivial
  · rintro t h hc ⟨es, cl, M1, ho, E1, A1, hall, hn, g1, g3, g20, g21, g22⟩
    simp only [core, zrA, zrS, zrM, zrL, zrE, reduceCtorEq, zrD, ziE, ziL, ziN, s1, s2, hn, g1, g3, g20, g21, g22, hc]
    exact ⟨E1, by unfold errC; rw [hg0, hall]; rfl⟩
  · refine ⟨_, _, M0, rfl, E0, A0, rfl, ?_⟩
    simp only [core, zrA, zrS, zrM, zrL, zrE, reduceCtorEq, zrD, ziE, ziL, ziN]
    (repeat' apply And.intro) <;> first | rfl | trivial
end Go.Proofs.Ytjkmmbfenhhjkaa.Ex
end

section

set_option linter.unusedSimpArgs false
set_option linter.unusedVariables false
set_option maxRecDepth 10000
set_option maxHeartbeats 4000000
namespace Go.Proofs.Ytjkmmbfenhhjkaa.Ex
open Go
theorem wAll {l : List Int} : l.all wOk = (List.range l.length).all (fun k => wOk (l.getD k 0)) := by
  apply Bool.eq_iff_iff.2
  rw [List.all_eq_true, List.all_eq_true]
  constructor
  · intro h k hk
    exact h _ (List.mem_of_getElem? (getD_some' 0 (List.mem_range.1 hk)))
  · intro h y hy
    obtain ⟨j, hj, hjb⟩ := List.mem_iff_getElem.1 hy
    have := h j (List.mem_range.2 hj)
    rw [List.getD_eq_getElem?_getD, List.getElem?_eq_getElem hj, hjb] at this
    exact this
theorem fit_kind {m : MapD} {b : BktD} {d : Int} (hk : ∀ c ∈ m.buckets, 1 ≤ c.kind) (hb : 1 ≤ b.kind) : fitF m b d = (decide (0 ≤ kindF m d) && decide (kindF m d < b.kind)) := by
  unfold fitF kindF
  by_cases h0 : 0 ≤ d
  · rw [if_pos h0, if_pos h0]
    by_cases h8 : d < 8
    · rw [if_pos h8, decide_eq_true h8, decide_eq_true (show (0 : Int) < b.kind by omega)]
      rfl
    · rw [if_neg h8, decide_eq_false h8]
      rfl
  · rw [if_neg h0, if_neg h0]
    unfold bucketG
    cases hf : bucketF m d with
    | none => rfl
    | some c =>
      have := hk c (List.mem_of_find?_eq_some hf)
      simp only [Option.isSome_some, if_true, Option.getD_some, Bool.true_and]
      rw [decide_eq_true (show 0 ≤ c.kind by omega), Bool.true_and]
theorem hd_kind {m : MapD} {i : Nat} {b : BktD} (h : hdOk m i b = true) : 1 ≤ b.kind ∧ b.items.length = b.weights.length := by
  unfold hdOk at h
  simp only [Bool.and_eq_true, decide_eq_true_eq, beq_iff_eq] at h
  exact ⟨h.1.1.2, h.2⟩
theorem bC_bOk {m : MapD} {i : Nat} {b : BktD} (hk : ∀ c ∈ m.buckets, 1 ≤ c.kind) (h : hdOk m i b = true) : bC m i b = bOk m i b := by
  obtain ⟨h1, h2⟩ := hd_kind h
  unfold bC bOk
  rw [h, wAll, ← h2]
  apply Bool.eq_iff_iff.2
  simp only [Bool.true_and, Bool.and_eq_true, List.all_eq_true, List.mem_range]
  unfold itemC itemOk
  simp only [fit_kind hk h1, Bool.and_eq_true]
  constructor
  · intro h
    exact ⟨fun k hk => (h k hk).2, fun k hk => ⟨(h k hk).1.2, (h k hk).1.1⟩⟩
  · intro h k hk
    exact ⟨⟨(h.2 k hk).2, (h.2 k hk).1⟩, h.1 k hk⟩
theorem all_kind {m : MapD} {p : Nat → BktD → Bool} (hp : ∀ i b, p i b = true → hdOk m i b = true) (h : (List.range m.buckets.length).all (fun i => p i (m.buckets.getD i bkt0)) = true) : (∀ c ∈ m.buckets, 1 ≤ c.kind) ∧ ∀ i, i < m.buckets.length → hdOk m i (m.buckets.getD i bkt0) = true := by
  have h2 : ∀ i, i < m.buckets.length → hdOk m i (m.buckets.getD i bkt0) = true := fun i hi => hp _ _ (List.all_eq_true.1 h i (List.mem_range.2 hi))
  refine ⟨fun c hc => ?_, h2⟩
  obtain ⟨j, hj, hjb⟩ := List.mem_iff_getElem.1 hc
  have := (hd_kind (h2 j hj)).1
  rw [List.getD_eq_getElem?_getD, List.getElem?_eq_getElem hj, hjb] at this
  exact this
theorem check_good (m : MapD) : checkF m = goodF m := by
  unfold checkF goodF
  congr 1
  apply Bool.eq_iff_iff.2
  constructor
  · intro h
    obtain ⟨h1, h2⟩ := all_kind (p := bC m) (fun i b hb => by unfold bC at hb; simp only [Bool.and_eq_true] at hb; exact hb.1) h
    rw [List.all_eq_true] at *
    intro i hi
    rw [← bC_bOk h1 (h2 i (List.mem_range.1 hi))]
    exact h i hi
  · intro h
    obtain ⟨h1, h2⟩ := all_kind (p := bOk m) (fun i b hb => by unfold bOk at hb; simp only [Bool.and_eq_true] at hb; exact hb.1.1) h
    rw [List.all_eq_true] at *
    intro i hi
    rw [bC_bOk h1 (h2 i (List.mem_range.1 hi))]
    exact h i hi
theorem goodC_x {F : Nat → Prop} {H : AH} {m : MapD} {vo vp vb : AV} (hm : MpAt F H m vo vp vb) (hok : OkM m) :
    WC Try.prog (tabOf Try.prog NT0) S0 58 [mpV m vo vp vb] H fun r h' => Ext H.n H h' ∧ r = .lit (.bool (goodF m)) := by
  refine WC_fn Try.func58 rfl rfl ?_
  have o1 := hm.o.one
  have o2 := hm.p.one
  have o3 := hm.b.one
  have EP : ∀ x, Ext H.n H (H.push x) := fun x => (Ext.refl _ _).push _ (Nat.le_refl _)
  simp only [core, zrA, zrS, zrM, zrL, zrE, reduceCtorEq, zrD, ziE, ziL, ziN, Try.ntmps58, mpV, o1, o2, o3]
  refine (check_x (hm.ext (EP _) (Nat.le_refl _)) hok).mono ?_
  rintro _ h2 ⟨e2, rfl⟩
  rw [← check_good]
  unfold errC
  cases checkF m with
  | true =>
    simp only [core, zrA, zrS, zrM, zrL, zrE, reduceCtorEq, zrD, ziE, ziL, ziN]
    exact ⟨(EP _).step e2, rfl⟩
  | false =>
    simp only [core, zrA, zrS, zrM, zrL, zrE, reduceCtorEq, zrD, ziE, ziL, ziN]
    exact ⟨(EP _).step e2, rfl⟩
end Go.Proofs.Ytjkmmbfenhhjkaa.Ex
end

section

set_option linter.unusedSimpArgs false
set_option linter.unusedVariables false
namespace Go.Proofs.Ytjkmmbfenhhjkaa.Ex
open Go
/-- A row of cells. -/
def rowO (w : World) (r : Nat) : Option (List Value × TypeId) := match w.heap[r]? with
  | some (.cells cur e _) => some (cur.toList, e)
  | _ => none
theorem rowO_inv {w : World} {r : Nat} {l : List Value} {e : TypeId} (h : rowO w r = some (l, e)) : ∃ cur fz, w.heap[r]? = some (.cells cur e fz) ∧ l = cur.toList := by
  unfold rowO at h
  split at h
  · rename_i cur e' fz hh
    simp only [Option.some.injEq, Prod.mk.injEq] at h
    obtain ⟨rfl, rfl⟩ := h
    exact ⟨cur, fz, hh, rfl⟩
  · cases h
def winsAt (w : World) (r : Nat) : List (Nat × Nat) := match rowO w r with
  | some (l, _) => (List.range (l.length + 1)).map fun off => (r, off)
  | none => []
/-- All windows: a row from a place on. -/
def wins (w : World) : List (Nat × Nat) := (List.range w.heap.size).flatMap (winsAt w)
theorem mem_wins {w : World} {r off : Nat} : (r, off) ∈ wins w ↔ ∃ l e, rowO w r = some (l, e) ∧ off ≤ l.length := by
  unfold wins
  rw [List.mem_flatMap]
  constructor
  · rintro ⟨r', _, h⟩
    unfold winsAt at h
    split at h
    · rename_i l e hl
      obtain ⟨off', h1, h2⟩ := List.mem_map.1 h
      simp only [Prod.mk.injEq] at h2
      obtain ⟨rfl, rfl⟩ := h2
      rw [List.mem_range] at h1
      exact ⟨l, e, hl, by omega⟩
    · cases h
  · rintro ⟨l, e, hl, ho⟩
    refine ⟨r, ?_, ?_⟩
    · obtain ⟨cur, fz, hh, _⟩ := rowO_inv hl
      rw [List.mem_range]
      exact (Array.getElem?_eq_some_iff.1 hh).1
    · unfold winsAt
      rw [hl]
      exact List.mem_map.2 ⟨off, by rw [List.mem_range]; omega, rfl⟩
/-- A window's number. -/
def widx (w : World) (p : Nat × Nat) : Nat := (wins w).idxOf p + 1
def mu0 (w : World) : Mu := fun b => match b with
  | 0 => none
  | k + 1 => (wins w)[k]?
theorem mu0_widx {w : World} {p : Nat × Nat} (h : p ∈ wins w) : mu0 w (widx w p) = some p := by
  show (wins w)[(wins w).idxOf p]? = some p
  have hlt := List.idxOf_lt_length_of_mem h
  rw [List.getElem?_eq_getElem hlt, List.getElem_idxOf hlt]
instance (w : World) (p : Nat × Nat) : Decidable (p ∈ wins w) := inferInstance
def absV (w : World) : Value → AV
  | .pointer (some ⟨r, o, none⟩) => if (r, o) ∈ wins w then .ptr (widx w (r, o)) 0 else .any
  | .slice (some a) len cap => if len = 0 ∧ cap = 0 then .sl 0 0 0 (.kn 0) else match a with
    | ⟨r, o, none⟩ => if (r, o) ∈ wins w ∧ len ≤ cap ∧ cap ≤ maxLen then .sl (widx w (r, o)) 0 len (.kn cap) else .any
    | _ => .any
  | v => bif scal v then .lit v else .any
theorem absV_rel {ρ : Nat → Value} {w : World} {v : Value} (hv : v.oneCell' = true) : rel ρ (mu0 w) w (absV w v) v := by
  unfold absV
  split
  · rename_i r o
    split
    · rename_i hm
      unfold rel
      exact ⟨r, o, mu0_widx hm, rfl⟩
    · unfold rel; exact hv
  · rename_i a len cap
    split
    · rename_i h0
      obtain ⟨rfl, rfl⟩ := h0
      unfold rel
      exact .inr ⟨rfl, rfl, a, rfl⟩
    · split
      · rename_i r o
        split
        · rename_i hm
          unfold rel
          exact .inl ⟨r, o, o, cap, mu0_widx hm.1, rfl, .inr rfl, rfl, hm.2.1, hm.2.2⟩
        · unfold rel; exact hv
      · unfold rel; exact hv
  · cases hs : scal v with
    | false => simp only [cond_false]; unfold rel; exact hv
    | true => simp only [cond_true]; exact rel_lit hs
/-- A window's cells, as far as they are cells. -/
def absB (w : World) (p : Nat × Nat) : AB := match rowO w p.1 with
  | some (l, e) => .frz (((l.drop p.2).takeWhile (·.oneCell')).map (absV w)) e
  | none => .gone
def AH.ofList (l : List AB) : AH := l.foldl AH.push .nil
theorem L_foldl : ∀ (l : List AB) (h : AH), (l.foldl AH.push h).L = h.L ++ l
  | [], h => by simp
  | x :: r, h => by rw [List.foldl_cons, L_foldl r, L_push, List.append_assoc]; rfl
theorem L_ofList (l : List AB) : (AH.ofList l).L = l := by
  unfold AH.ofList
  rw [L_foldl]
  rfl
/-- The abstract heap of a world; block 0 is an empty row. -/
def absH (w : World) : AH := AH.ofList (.frz [] 0 :: (wins w).map (absB w))
theorem absH_L (w : World) : (absH w).L = .frz [] 0 :: (wins w).map (absB w) := L_ofList _
theorem absH_0 (w : World) : (absH w).at 0 = some (.frz [] 0) := by rw [← L_at, absH_L]; rfl
theorem absH_at {w : World} {p : Nat × Nat} (h : p ∈ wins w) : (absH w).at (widx w p) = some (absB w p) := by
  rw [← L_at, absH_L]
  have : (wins w)[(wins w).idxOf p]? = some p := mu0_widx h
  show ((wins w).map (absB w))[(wins w).idxOf p]? = _
  rw [List.getElem?_map, this]
  rfl
theorem absH_wr {w : World} {b : Nat} {ab : AB} (h : (absH w).L[b]? = some ab) : wr ab = false := by
  rw [absH_L] at h
  cases b with
  | zero => simp at h; subst h; rfl
  | succ k =>
    rw [List.getElem?_cons_succ, List.getElem?_map] at h
    obtain ⟨p, _, rfl⟩ := Option.map_eq_some_iff.1 h
    unfold absB
    split <;> rfl
theorem absH_nw (w : World) (b : Nat) (ab : AB) (h : (absH w).at b = some ab) : wr ab = false := absH_wr (by rw [L_at]; exact h)
theorem takeWhile_get {α : Type} {p : α → Bool} : ∀ {l : List α} {i : Nat} {x : α}, (l.takeWhile p)[i]? = some x → l[i]? = some x ∧ p x = true
  | [], i, x, h => by simp at h
  | a :: r, i, x, h => by
    rw [List.takeWhile_cons] at h
    cases ha : p a with
    | false => rw [ha] at h; simp at h
    | true =>
      rw [ha] at h
      cases i with
      | zero => simp at h; subst h; exact ⟨rfl, ha⟩
      | succ i => simp only [if_true, List.getElem?_cons_succ] at h ⊢; exact takeWhile_get h
theorem takeWhile_take {α : Type} {p : α → Bool} : ∀ {l : List α} {n : Nat}, (∀ x ∈ l.take n, p x = true) → (l.takeWhile p).take n = l.take n
  | [], n, _ => by simp
  | a :: r, 0, _ => by simp
  | a :: r, n + 1, h => by
    rw [List.takeWhile_cons, if_pos (h a (by simp)), List.take_succ_cons, List.take_succ_cons, takeWhile_take fun x hx => h x (by simp [hx])]
theorem absH_hr {P : Program} {ρ : Nat → Value} (w : World) (hpin : PinOf ρ (mu0 w) w := by intro r h; cases h) : HR P ρ w.heap.size (mu0 w) (absH w) w := by
  refine ⟨Nat.le_refl _, fun b x hb => ?_, fun b r base ab hb hx => ?_, fun b b' r base base' ab ab' h1 h2 h3 h4 h5 h6 => ?_, hpin⟩
  · rw [absH_L]
    cases b with
    | zero => cases hb
    | succ k =>
      have : k < (wins w).length := (List.getElem?_eq_some_iff.1 (show (wins w)[k]? = some x from hb)).1
      simp only [List.length_cons, List.length_map]
      omega
  · cases b with
    | zero => cases hb
    | succ k =>
      have hk : (wins w)[k]? = some (r, base) := hb
      rw [absH_L, List.getElem?_cons_succ, List.getElem?_map, hk] at hx
      simp only [Option.map_some, Option.some.injEq] at hx
      obtain ⟨l, e, hl, ho⟩ := mem_wins.1 (List.mem_of_getElem? hk)
      obtain ⟨cur, fz, hh, rfl⟩ := rowO_inv hl
      unfold absB at hx
      rw [hl] at hx
      simp only at hx
      subst hx
      refine ⟨fun hw => (by cases hw), (Array.getElem?_eq_some_iff.1 hh).1, _, hh, cur, fz, rfl, ?_, fun i x hi => ?_⟩
      · have h1 := (List.takeWhile_prefix (l := cur.toList.drop base) (·.oneCell')).length_le
        rw [List.length_drop] at h1
        have e0 : cur.toList.length = cur.size := Array.length_toList
        rw [e0] at h1 ho
        rw [List.length_map]
        exact Nat.le_trans (Nat.add_le_add_left h1 base) (by omega)
      · rw [List.getElem?_map] at hi
        obtain ⟨v, hv, rfl⟩ := Option.map_eq_some_iff.1 hi
        obtain ⟨h1, h2⟩ := takeWhile_get hv
        rw [List.getElem?_drop, Array.getElem?_toList] at h1
        exact ⟨v, h1, absV_rel h2⟩
  · have := absH_wr h3
    rw [this] at h5
    cases h5
end Go.Proofs.Ytjkmmbfenhhjkaa.Ex
end

section

set_option linter.unusedSimpArgs false
set_option linter.unusedVariables false
namespace Go.Proofs.Ytjkmmbfenhhjkaa
open Go.RowKit Go.ChangeShapes Go.WideShapes Go.ChangeAt
open Go.ChangeMaps (open_string shut_string)
theorem own : ownKnob Try.prog.godebug = none := by kernel_rfl
theorem laidOut : laidOutB Try.prog = true := by kernel_rfl
section
variable {H : Type} {enc : TypeId × Value → H} {P : Program} {W W' : World}
theorem below_trodAll (hl : laidOutB P = true) (hb : Below W.heap.size W W') : ∀ {ts : List TypeId} {vs : List Value} {ds : List (DataW H)} {ps : List MemPlace},
    ts.all (fun t => P.readableRec t && decide (t < P.types.size)) = true → DataW.TrodAll enc P W 0 (fun _ => true) true ts vs ds ps → DataW.TrodAll enc P W' 0 (fun b => decide (b < W.heap.size)) true ts vs ds ps
  | [], _, _, _, _, h => by obtain ⟨rfl, rfl, rfl⟩ := trodAll_nil h; exact trodAll_mk0
  | t :: ts, vs, ds, ps, hr, h => by
    obtain ⟨v, vs', d, ds', p, q, rfl, rfl, rfl, h1, h2⟩ := trodAll_cons h
    simp only [List.all_cons, Bool.and_eq_true, decide_eq_true_eq] at hr
    refine trodAll_cons_mk (Below.trod hl hr.1.1 hr.1.2 h1 hb ?_) (below_trodAll hl hb (by simpa using hr.2) h2)
    obtain ⟨m, hm⟩ := h1
    exact DataW.trod_lt m _ _ _ hm
theorem weights_le {ts : List TypeId} {ds : List (DataW H)} (hsz : (DataW.weightsEach P ts ds).all (· ≤ reachBytes) = true) {j : Nat} {t : TypeId} {d : DataW H} (hj : ts[j]? = some t) (hd : ds[j]? = some d) : ∀ n ∈ d.weights P t, n ≤ reachBytes := fun n hn => by
  have := List.all_eq_true.1 hsz n (DataW.weights_mem_each hj hd n hn)
  simpa using this
theorem weightsAll_mem {e : TypeId} : ∀ {l : List (DataW H)} {i : Nat} {d : DataW H}, l[i]? = some d → ∀ n ∈ d.weights P e, n ∈ DataW.weightsAll P e l
  | d0 :: l, 0, d, h, n, hn => by simp at h; subst h; simp [DataW.weightsAll, hn]
  | d0 :: l, i + 1, d, h, n, hn => by
    simp only [List.getElem?_cons_succ] at h
    simp only [DataW.weightsAll, List.mem_append]
    exact .inr (weightsAll_mem h n hn)
end
end Go.Proofs.Ytjkmmbfenhhjkaa
end
