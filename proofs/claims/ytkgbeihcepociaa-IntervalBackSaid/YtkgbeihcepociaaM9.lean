/- Part 9 of the proof: Fast, ExcL, Sl2, Ty, Str, Bkt, Bk2, Gd1, Rt1, Rt2, Rev, Dn, Se1, Par, May, Mpc. -/
import Derived.Test.YtkgbeihcepociaaM8
section

set_option linter.unusedSimpArgs false
set_option linter.unusedVariables false
set_option maxRecDepth 10000
namespace Go.Proofs.Ytkgbeihcepociaa.Ex
open Go
/-- A number is computed first. -/
def fN {β : Type} (n : Nat) (k : Nat → β) : β := Nat.rec (motive := fun _ => β) (k 0) (fun m _ => k (Nat.succ m)) n
theorem fN_eq {β : Type} (n : Nat) (k : Nat → β) : fN n k = k n := by cases n <;> rfl
def subN (a b : Nat) : Nat := Nat.mod (Nat.add a (Nat.sub 4294967296 b)) 4294967296
abbrev N3 := Nat × Nat × Nat
def mixRN (s0 s1 s2 a b c : Nat) : N3 :=
  fN (Nat.xor (subN (subN a b) c) (Nat.shiftRight c s0)) fun a =>
  fN (Nat.xor (subN (subN b c) a) (Nat.mod (Nat.shiftLeft a s1) 4294967296)) fun b =>
  fN (Nat.xor (subN (subN c a) b) (Nat.shiftRight b s2)) fun c => (a, b, c)
def mix3N (x : N3) : N3 := match x with
  | (a, b, c) => match mixRN 13 8 13 a b c with
    | (a, b, c) => match mixRN 12 16 5 a b c with
      | (a, b, c) => mixRN 3 10 15 a b c
def toI (x : N3) : I3 := ((x.1 : Int), (x.2.1 : Int), (x.2.2 : Int))
def lt3 (x : N3) : Prop := x.1 < 4294967296 ∧ x.2.1 < 4294967296 ∧ x.2.2 < 4294967296
theorem xorI_nat {a b : Nat} (ha : a < 4294967296) (hb : b < 4294967296) : xorI .u32 (a : Int) (b : Int) = ((Nat.xor a b : Nat) : Int) ∧ Nat.xor a b < 4294967296 := by
  have hx : a ^^^ b < 2 ^ 32 := Nat.xor_lt_two_pow (n := 32) ha hb
  refine ⟨?_, hx⟩
  unfold xorI
  have e1 : (BitVec.ofInt (IntKind.bits .u32) (a : Int)).toNat = a := by
    show (BitVec.ofInt 32 (a : Int)).toNat = a
    rw [BitVec.ofInt_natCast, BitVec.toNat_ofNat, Nat.mod_eq_of_lt ha]
  have e2 : (BitVec.ofInt (IntKind.bits .u32) (b : Int)).toNat = b := by
    show (BitVec.ofInt 32 (b : Int)).toNat = b
    rw [BitVec.ofInt_natCast, BitVec.toNat_ofNat, Nat.mod_eq_of_lt hb]
  rw [BitVec.toNat_xor, e1, e2]
  exact wrap_u32 (by omega) (by have : a ^^^ b < 4294967296 := hx; omega)
theorem subN_lt (a b : Nat) : subN a b < 4294967296 := Nat.mod_lt _ (by decide)
theorem wrap_sub {a b : Nat} (ha : a < 4294967296) (hb : b < 4294967296) : IntKind.u32.wrap ((a : Int) - (b : Int)) = ((subN a b : Nat) : Int) := by
  unfold subN IntKind.wrap
  simp only [IntKind.bits, IntKind.signed, Bool.false_and]
  show ((a : Int) - b) % 4294967296 = (((a + (4294967296 - b)) % 4294967296 : Nat) : Int)
  omega
theorem shr32 {a : Nat} (k : Nat) (hk : k ≤ 32) (ha : a < 4294967296) : shrI .u32 (a : Int) (k : Int) = ((Nat.shiftRight a k : Nat) : Int) ∧ Nat.shiftRight a k < 4294967296 := by
  have e0 : Nat.shiftRight a k = a / 2 ^ k := Nat.shiftRight_eq_div_pow a k
  rw [e0]
  refine ⟨?_, Nat.lt_of_le_of_lt (Nat.div_le_self _ _) ha⟩
  unfold shrI
  have : min (Int.toNat (k : Int)) (IntKind.bits .u32) = k := by simp [IntKind.bits]; omega
  rw [this]
  have h2 : ((2 ^ k : Nat) : Int) = (2 : Int) ^ k := by exact Int.natCast_pow 2 k
  rw [← h2, Int.fdiv_eq_ediv_of_nonneg _ (Int.natCast_nonneg _)]
  rfl
theorem shl32 {a : Nat} (k : Nat) (hk : k ≤ 32) : shlI .u32 (a : Int) (k : Int) = ((Nat.mod (Nat.shiftLeft a k) 4294967296 : Nat) : Int) ∧ Nat.mod (Nat.shiftLeft a k) 4294967296 < 4294967296 := by
  refine ⟨?_, Nat.mod_lt _ (by decide)⟩
  have e0 : Nat.shiftLeft a k = a * 2 ^ k := Nat.shiftLeft_eq a k
  rw [e0]
  unfold shlI
  have : min (Int.toNat (k : Int)) (IntKind.bits .u32) = k := by simp [IntKind.bits]; omega
  rw [this]
  have h2 : ((2 ^ k : Nat) : Int) = (2 : Int) ^ k := by exact Int.natCast_pow 2 k
  rw [← h2]
  generalize 2 ^ k = m
  unfold IntKind.wrap
  simp only [IntKind.bits, IntKind.signed, Bool.false_and]
  show ((a : Int) * (m : Int)) % 4294967296 = ((a * m % 4294967296 : Nat) : Int)
  rw [Int.natCast_emod, Int.natCast_mul]
  rfl
theorem mixRN_ok {s0 s1 s2 a b c : Nat} (h0 : s0 ≤ 32) (h1 : s1 ≤ 32) (h2 : s2 ≤ 32) (ha : a < 4294967296) (hb : b < 4294967296) (hc : c < 4294967296) :
    mixR (s0 : Int) (s1 : Int) (s2 : Int) (toI (a, b, c)) = toI (mixRN s0 s1 s2 a b c) ∧ lt3 (mixRN s0 s1 s2 a b c) := by
  obtain ⟨p1, p2⟩ := shr32 s0 h0 hc
  obtain ⟨a', ha'⟩ : ∃ a', a' = Nat.xor (subN (subN a b) c) (Nat.shiftRight c s0) := ⟨_, rfl⟩
  obtain ⟨q1, q2⟩ := xorI_nat (subN_lt (subN a b) c) p2
  rw [← ha'] at q1 q2
  obtain ⟨p3, p4⟩ := shl32 (a := a') s1 h1
  obtain ⟨b', hb'⟩ : ∃ b', b' = Nat.xor (subN (subN b c) a') (Nat.mod (Nat.shiftLeft a' s1) 4294967296) := ⟨_, rfl⟩
  obtain ⟨q3, q4⟩ := xorI_nat (subN_lt (subN b c) a') p4
  rw [← hb'] at q3 q4
  obtain ⟨p5, p6⟩ := shr32 s2 h2 q4
  obtain ⟨c', hc'⟩ : ∃ c', c' = Nat.xor (subN (subN c a') b') (Nat.shiftRight b' s2) := ⟨_, rfl⟩
  obtain ⟨q5, q6⟩ := xorI_nat (subN_lt (subN c a') b') p6
  rw [← hc'] at q5 q6
  have e : mixRN s0 s1 s2 a b c = (a', b', c') := by
    unfold mixRN
    simp only [fN_eq, ← ha', ← hb', ← hc']
  rw [e]
  refine ⟨?_, q2, q4, q6⟩
  unfold mixR toI
  simp only
  rw [wrap_sub ha hb, wrap_sub (subN_lt a b) hc, p1, q1, wrap_sub hb hc, wrap_sub (subN_lt b c) q2, p3, q3, wrap_sub hc q2, wrap_sub (subN_lt c a') q4, p5, q5]
theorem mix3N_ok {x : N3} (h : lt3 x) : mix3 (toI x) = toI (mix3N x) ∧ lt3 (mix3N x) := by
  obtain ⟨a, b, c⟩ := x
  obtain ⟨e1, l1⟩ := mixRN_ok (s0 := 13) (s1 := 8) (s2 := 13) (by decide) (by decide) (by decide) h.1 h.2.1 h.2.2
  obtain ⟨a1, b1, c1⟩ : N3 := mixRN 13 8 13 a b c
  unfold mix3 mixN mix3N
  simp only
  generalize hx1 : mixRN 13 8 13 a b c = x1 at *
  obtain ⟨a1, b1, c1⟩ := x1
  obtain ⟨e2, l2⟩ := mixRN_ok (s0 := 12) (s1 := 16) (s2 := 5) (by decide) (by decide) (by decide) l1.1 l1.2.1 l1.2.2
  simp only
  generalize hx2 : mixRN 12 16 5 a1 b1 c1 = x2 at *
  obtain ⟨a2, b2, c2⟩ := x2
  obtain ⟨e3, l3⟩ := mixRN_ok (s0 := 3) (s1 := 10) (s2 := 15) (by decide) (by decide) (by decide) l2.1 l2.2.1 l2.2.2
  simp only
  refine ⟨?_, l3⟩
  rw [← e3, ← e2, ← e1]
  rfl
section
variable {M : I3 → I3} {G : N3 → N3}
def GoodG (M : I3 → I3) (G : N3 → N3) : Prop := ∀ x, lt3 x → M (toI x) = toI (G x) ∧ lt3 (G x)
def h2M (M : I3 → I3) (a b w : Int) : Int :=
  let t := M (a, b, w)
  let u := M (231232, t.1, t.2.2)
  (M (t.2.1, 1232, u.2.2)).2.2
def h2G (G : N3 → N3) (a b w : Nat) : Nat := match G (a, b, w) with
  | (ta, tb, tc) => match G (231232, ta, tc) with
    | (_, _, uc) => (G (tb, 1232, uc)).2.2
theorem h2_ok (hG : GoodG M G) {a b w : Nat} (ha : a < 4294967296) (hb : b < 4294967296) (hw : w < 4294967296) : h2M M (a : Int) (b : Int) (w : Int) = ((h2G G a b w : Nat) : Int) ∧ h2G G a b w < 4294967296 := by
  obtain ⟨e1, l1⟩ := hG (a, b, w) ⟨ha, hb, hw⟩
  have f1 : M ((a : Int), (b : Int), (w : Int)) = toI (G (a, b, w)) := e1
  unfold h2M h2G
  rw [f1]
  generalize G (a, b, w) = t at l1
  obtain ⟨ta, tb, tc⟩ := t
  obtain ⟨e2, l2⟩ := hG (231232, ta, tc) ⟨(by decide : 231232 < 4294967296), l1.1, l1.2.2⟩
  have f2 : M (231232, (ta : Int), (tc : Int)) = toI (G (231232, ta, tc)) := e2
  simp only [toI]
  rw [f2]
  generalize G (231232, ta, tc) = u at l2
  obtain ⟨ua, ub, uc⟩ := u
  obtain ⟨e3, l3⟩ := hG (tb, 1232, uc) ⟨l1.2.1, (by decide : 1232 < 4294967296), l2.2.2⟩
  have f3 : M ((tb : Int), 1232, (uc : Int)) = toI (G (tb, 1232, uc)) := e3
  simp only [toI]
  rw [f3]
  exact ⟨rfl, l3.2.2⟩
def h3M (M : I3 → I3) (a b c w : Int) : Int :=
  let t := M (a, b, w)
  let u := M (c, 231232, t.2.2)
  let v := M (1232, t.1, u.2.2)
  let w := M (t.2.1, u.2.1, v.2.2)
  (M (v.1, u.1, w.2.2)).2.2
def h3G (G : N3 → N3) (a b c w : Nat) : Nat := match G (a, b, w) with
  | (ta, tb, tc) => match G (c, 231232, tc) with
    | (ua, ub, uc) => match G (1232, ta, uc) with
      | (va, _, vc) => match G (tb, ub, vc) with
        | (_, _, wc) => (G (va, ua, wc)).2.2
theorem h3_ok (hG : GoodG M G) {a b c w : Nat} (ha : a < 4294967296) (hb : b < 4294967296) (hc : c < 4294967296) (hw : w < 4294967296) : h3M M (a : Int) (b : Int) (c : Int) (w : Int) = ((h3G G a b c w : Nat) : Int) ∧ h3G G a b c w < 4294967296 := by
  obtain ⟨e1, l1⟩ := hG (a, b, w) ⟨ha, hb, hw⟩
  have f1 : M ((a : Int), (b : Int), (w : Int)) = toI (G (a, b, w)) := e1
  unfold h3M h3G
  rw [f1]
  generalize G (a, b, w) = t at l1
  obtain ⟨ta, tb, tc⟩ := t
  obtain ⟨e2, l2⟩ := hG (c, 231232, tc) ⟨hc, (by decide : 231232 < 4294967296), l1.2.2⟩
  have f2 : M ((c : Int), 231232, (tc : Int)) = toI (G (c, 231232, tc)) := e2
  simp only [toI]
  rw [f2]
  generalize G (c, 231232, tc) = u at l2
  obtain ⟨ua, ub, uc⟩ := u
  obtain ⟨e3, l3⟩ := hG (1232, ta, uc) ⟨(by decide : 1232 < 4294967296), l1.1, l2.2.2⟩
  have f3 : M (1232, (ta : Int), (uc : Int)) = toI (G (1232, ta, uc)) := e3
  simp only [toI]
  rw [f3]
  generalize G (1232, ta, uc) = v at l3
  obtain ⟨va, vb, vc⟩ := v
  obtain ⟨e4, l4⟩ := hG (tb, ub, vc) ⟨l1.2.1, l2.2.1, l3.2.2⟩
  have f4 : M ((tb : Int), (ub : Int), (vc : Int)) = toI (G (tb, ub, vc)) := e4
  simp only [toI]
  rw [f4]
  generalize G (tb, ub, vc) = z at l4
  obtain ⟨za, zb, zc⟩ := z
  obtain ⟨e5, l5⟩ := hG (va, ua, zc) ⟨l3.1, l2.1, l4.2.2⟩
  have f5 : M ((va : Int), (ua : Int), (zc : Int)) = toI (G (va, ua, zc)) := e5
  simp only [toI]
  rw [f5]
  exact ⟨rfl, l5.2.2⟩
end
def hash2N (a b : Nat) : Nat := h2G mix3N a b (Nat.xor (Nat.xor 1315423911 a) b)
def hash3N (a b c : Nat) : Nat := h3G mix3N a b c (Nat.xor (Nat.xor (Nat.xor 1315423911 a) b) c)
theorem hash2N_ok {a b : Nat} (ha : a < 4294967296) (hb : b < 4294967296) : hash2F (a : Int) (b : Int) = ((hash2N a b : Nat) : Int) ∧ hash2N a b < 4294967296 := by
  obtain ⟨x1, y1⟩ := xorI_nat (a := 1315423911) (by decide) ha
  obtain ⟨x2, y2⟩ := xorI_nat y1 hb
  have e0 : xorI .u32 (xorI .u32 1315423911 (a : Int)) (b : Int) = ((Nat.xor (Nat.xor 1315423911 a) b : Nat) : Int) := by
    rw [← x2, ← x1]; rfl
  have key := h2_ok (M := mix3) (G := mix3N) (fun x hx => mix3N_ok hx) ha hb y2
  rw [← e0] at key
  exact key
theorem hash3N_ok {a b c : Nat} (ha : a < 4294967296) (hb : b < 4294967296) (hc : c < 4294967296) : hash3F (a : Int) (b : Int) (c : Int) = ((hash3N a b c : Nat) : Int) ∧ hash3N a b c < 4294967296 := by
  obtain ⟨x1, y1⟩ := xorI_nat (a := 1315423911) (by decide) ha
  obtain ⟨x2, y2⟩ := xorI_nat y1 hb
  obtain ⟨x3, y3⟩ := xorI_nat y2 hc
  have e0 : xorI .u32 (xorI .u32 (xorI .u32 1315423911 (a : Int)) (b : Int)) (c : Int) = ((Nat.xor (Nat.xor (Nat.xor 1315423911 a) b) c : Nat) : Int) := by
    rw [← x3, ← x2, ← x1]; rfl
  have key := h3_ok (M := mix3) (G := mix3N) (fun x hx => mix3N_ok hx) ha hb hc y3
  rw [← e0] at key
  exact key
/-! The logarithm. -/
def lnLN : Nat → Nat → Nat → Nat
  | 0, _, o => o
  | n + 1, y, o => fN (Nat.shiftRight (Nat.mul y y) 31) fun y => bif Nat.ble 4294967296 y then fN (Nat.shiftRight y 1) fun y => fN (Nat.add o (Nat.shiftLeft 1 n)) fun o => lnLN n y o else lnLN n y o
def lnN (u : Nat) : Nat := fN (Nat.succ u) fun x => fN (Nat.log2 x) fun e => lnLN 44 (Nat.shiftLeft x (Nat.sub 31 e)) (Nat.shiftLeft e 44)
theorem lnLN_ok : ∀ (n : Nat) (y o : Nat), n ≤ 44 → y < 4294967296 → o + 2 ^ n ≤ 2 ^ 60 → (lnL n ((y : Int), (o : Int))).2 = ((lnLN n y o : Nat) : Int) ∧ lnLN n y o < 2 ^ 60
  | 0, y, o, _, _, ho => ⟨rfl, by have : lnLN 0 y o = o := rfl; rw [this]; simp at ho; omega⟩
  | n + 1, y, o, hn, hy, ho => by
    have hp : (2 : Nat) ^ (n + 1) = 2 ^ n + 2 ^ n := by rw [Nat.pow_succ]; omega
    have h60 : (2 : Nat) ^ 60 = 1152921504606846976 := by decide
    rw [hp, h60] at ho
    obtain ⟨q, hq⟩ : ∃ q, q = (2 : Nat) ^ n := ⟨_, rfl⟩
    rw [← hq] at ho
    have hyy : y * y < 18446744073709551616 := by
      have : y * y ≤ 4294967295 * 4294967295 := Nat.mul_le_mul (by omega) (by omega)
      omega
    have e1 : IntKind.u64.wrap ((y : Int) * (y : Int)) = ((y * y : Nat) : Int) := by
      rw [show ((y : Int) * (y : Int)) = ((y * y : Nat) : Int) from (Int.natCast_mul y y).symm]
      exact wrap_u64 (by omega) (by omega)
    obtain ⟨z, hz⟩ : ∃ z, z = y * y / 2 ^ 31 := ⟨_, rfl⟩
    have e2 : shrI .u64 ((y * y : Nat) : Int) 31 = (z : Int) := by rw [hz]; exact shr_nat (y * y) 31 (by decide)
    have e3 : Nat.shiftRight (Nat.mul y y) 31 = z := by rw [hz]; exact Nat.shiftRight_eq_div_pow _ _
    have hz2 : z < 8589934592 := by rw [hz]; omega
    have key : lnL (n + 1) ((y : Int), (o : Int)) = lnL n (lnS n ((y : Int), (o : Int))) := rfl
    rw [key]
    unfold lnS lnLN
    simp only [e1, e2, e3, fN_eq]
    by_cases hge : 4294967296 ≤ z
    · rw [if_pos (by omega), show Nat.ble 4294967296 z = true from Nat.ble_eq.mpr hge]
      simp only [cond_true]
      have e4 : shrI .u64 (z : Int) 1 = ((z / 2 : Nat) : Int) := shr_nat z 1 (by decide)
      have e5 : Nat.shiftRight z 1 = z / 2 := Nat.shiftRight_eq_div_pow _ _
      have e6 : shlI .i64 1 (n : Int) = (q : Int) := by
        unfold shlI
        have : min (Int.toNat (n : Int)) (IntKind.bits .i64) = n := by simp [IntKind.bits]; omega
        rw [this]
        have h2 : ((2 ^ n : Nat) : Int) = (2 : Int) ^ n := by exact Int.natCast_pow 2 n
        rw [Int.one_mul, ← h2, ← hq]
        exact wrap_in (by omega) (by omega)
      have e7 : Nat.shiftLeft 1 n = q := by rw [show Nat.shiftLeft 1 n = 1 * 2 ^ n from Nat.shiftLeft_eq 1 n, Nat.one_mul, hq]
      have e8 : IntKind.i64.wrap ((o : Int) + (q : Int)) = ((o + q : Nat) : Int) := by
        rw [show ((o : Int) + (q : Int)) = ((o + q : Nat) : Int) from (Int.natCast_add o q).symm]
        exact wrap_in (by omega) (by omega)
      rw [e4, e5, e6, e7, e8]
      exact lnLN_ok n (z / 2) (o + q) (by omega) (by omega) (by rw [← hq, h60]; omega)
    · rw [if_neg (by omega), show Nat.ble 4294967296 z = false from Bool.eq_false_iff.mpr fun h => hge (Nat.ble_eq.mp h)]
      simp only [cond_false]
      exact lnLN_ok n z o (by omega) (by omega) (by rw [← hq, h60]; omega)
theorem lnN_ok {u : Nat} (hu : u ≤ 65535) : lnF (u : Int) = ((lnN u : Nat) : Int) ∧ lnN u < 2 ^ 60 := by
  have hX : clampU (u : Int) = u + 1 := by
    unfold clampU
    rw [if_neg (by omega), if_neg (by omega)]
    rfl
  obtain ⟨e, he⟩ : ∃ e, e = Nat.log2 (u + 1) := ⟨_, rfl⟩
  have hl : e < 17 := by rw [he]; exact (Nat.log2_lt (by omega)).2 (by omega)
  have hlt : u + 1 < 2 ^ (e + 1) := by rw [he]; exact Nat.lt_log2_self
  have he2 : Nat.log2 (Nat.succ u) = e := he.symm
  unfold lnF lnN
  rw [hX]
  simp only [fN_eq]
  rw [he2]
  have e1 : IntKind.i64.wrap (31 - (e : Int)) = ((31 - e : Nat) : Int) := (wrap_in (by omega) (by omega)).trans (by omega)
  have hb : (u + 1) * 2 ^ (31 - e) < 4294967296 := by
    have h1 : (u + 1) * 2 ^ (31 - e) < 2 ^ (e + 1) * 2 ^ (31 - e) := Nat.mul_lt_mul_of_pos_right hlt (Nat.two_pow_pos _)
    rw [← Nat.pow_add, show e + 1 + (31 - e) = 32 by omega] at h1
    exact h1
  have e2 : shlI .u64 ((u + 1 : Nat) : Int) ((31 - e : Nat) : Int) = (((u + 1) * 2 ^ (31 - e) : Nat) : Int) := by
    rw [shl_nat (u + 1) (31 - e) (by omega) _ rfl]
    exact wrap_u64 (by omega) (by omega)
  have e3 : shlI .i64 (e : Int) 44 = ((e * 2 ^ 44 : Nat) : Int) := by
    unfold shlI
    have : min (Int.toNat (44 : Int)) (IntKind.bits .i64) = 44 := by decide
    rw [this, show ((e : Int) * 2 ^ 44) = ((e * 2 ^ 44 : Nat) : Int) by rw [Int.natCast_mul]; rfl]
    exact wrap_in (by omega) (by omega)
  have e4 : Nat.shiftLeft (Nat.succ u) (Nat.sub 31 e) = (u + 1) * 2 ^ (31 - e) := Nat.shiftLeft_eq _ _
  have e5 : Nat.shiftLeft e 44 = e * 2 ^ 44 := Nat.shiftLeft_eq _ _
  rw [e1, e2, e3, e4, e5]
  exact lnLN_ok 44 _ _ (by decide) hb (by omega)
/-! As the sums have them. -/
def okU : Int → Bool
  | .ofNat n => Nat.blt n 4294967296
  | _ => false
theorem okU_out {a : Int} (h : okU a = true) : ∃ n : Nat, a = (n : Int) ∧ n < 4294967296 := by
  cases a with
  | ofNat n => exact ⟨n, rfl, Nat.blt_eq.mp h⟩
  | negSucc n => cases h
def hash2V (a b : Int) : Int := bif okU a && okU b then fN (hash2N a.toNat b.toNat) fun n => Int.ofNat n else hash2F a b
def hash3V (a b c : Int) : Int := bif okU a && (okU b && okU c) then fN (hash3N a.toNat b.toNat c.toNat) fun n => Int.ofNat n else hash3F a b c
def okL : Int → Bool
  | .ofNat n => Nat.ble n 65535
  | _ => false
def lnV (u : Int) : Int := bif okL u then fN (lnN u.toNat) fun n => Int.ofNat n else lnF u
theorem hash2V_eq (a b : Int) : hash2V a b = hash2F a b := by
  unfold hash2V
  cases h : okU a && okU b with
  | false => rfl
  | true =>
    simp only [Bool.and_eq_true] at h
    obtain ⟨n, rfl, hn⟩ := okU_out h.1
    obtain ⟨m, rfl, hm⟩ := okU_out h.2
    rw [cond_true, fN_eq, (hash2N_ok hn hm).1]
    rfl
theorem hash3V_eq (a b c : Int) : hash3V a b c = hash3F a b c := by
  unfold hash3V
  cases h : okU a && (okU b && okU c) with
  | false => rfl
  | true =>
    simp only [Bool.and_eq_true] at h
    obtain ⟨n, rfl, hn⟩ := okU_out h.1
    obtain ⟨m, rfl, hm⟩ := okU_out h.2.1
    obtain ⟨k, rfl, hk⟩ := okU_out h.2.2
    rw [cond_true, fN_eq, (hash3N_ok hn hm hk).1]
    rfl
theorem lnV_eq (u : Int) : lnV u = lnF u := by
  unfold lnV
  cases h : okL u with
  | false => rfl
  | true =>
    cases u with
    | negSucc n => cases h
    | ofNat n =>
      rw [cond_true, fN_eq]
      exact (lnN_ok (Nat.ble_eq.mp h)).1.symm
end Go.Proofs.Ytkgbeihcepociaa.Ex
end

section

set_option linter.unusedSimpArgs false
set_option linter.unusedVariables false
namespace Go.Proofs.Ytkgbeihcepociaa.Ex
open Go Go.RowKit
theorem follows_mixed : Try.prog.follows .mixedOrders = true := by kernel_rfl
def sHash2 : List AV → AH → Option (AV × AH)
  | [.ptr _ _, .lit (.int .u32 a), .lit (.int .u32 b)], h => some (.lit (.int .u32 (hash2V a b)), h)
  | _, _ => none
def sHash3 : List AV → AH → Option (AV × AH)
  | [.ptr _ _, .lit (.int .u32 a), .lit (.int .u32 b), .lit (.int .u32 c)], h => some (.lit (.int .u32 (hash3V a b c)), h)
  | _, _ => none
def sHash2R : List AV → AH → Option (AV × AH)
  | [.lit (.int .u32 a), .lit (.int .u32 b)], h => some (.lit (.int .u32 (hash2V a b)), h)
  | _, _ => none
def sHash3R : List AV → AH → Option (AV × AH)
  | [.lit (.int .u32 a), .lit (.int .u32 b), .lit (.int .u32 c)], h => some (.lit (.int .u32 (hash3V a b c)), h)
  | _, _ => none
def sLn : List AV → AH → Option (AV × AH)
  | [.lit (.int .i64 u)], h => some (.lit (.int .i64 (lnV u)), h)
  | _, _ => none
/-- What the sums of the first kind know. -/
def S01 : Sums := fun f =>
  bif Nat.beq f 96 then some sHash2 else
  bif Nat.beq f 190 then some sHash3 else
  bif Nat.beq f 102 then some sHash2R else
  bif Nat.beq f 185 then some sHash3R else
  bif Nat.beq f 193 then some sLn else
  bif Nat.beq f 192 then some sLn else none
theorem bif_some {α : Type} {b : Bool} {x : α} {y : Option α} {z : α} (h : (bif b then some x else y) = some z) : (b = true ∧ x = z) ∨ y = some z := by
  cases b
  · exact .inr h
  · exact .inl ⟨rfl, Option.some.inj h⟩
theorem sums_ok01 (ρ : Nat → Value) (fl : Nat) : SumsOK Try.prog ρ fl S01 := by
  intro f g args h v h' hs hg μ w args' hr ha
  unfold S01 at hs
  have key : ∀ (f : FuncId) (x : Value), scal x = true → (WC Try.prog (tabOf Try.prog NT0) S00 f args h fun r h' => Ext h.n h h' ∧ r = .lit x) → Calls Try.prog f args'.toArray w fun e w' => ∃ μ' v', e = .returned v' ∧ Eff Try.prog ρ fl μ h w μ' h w' ∧ rel ρ μ' w' (.lit x) v' :=
    fun f x hx hw => sum_of_wc tab_sound noNG follows_mixed (sums_ok00 ρ fl) hx hw hr ha
  rcases bif_some hs with ⟨h1, rfl⟩ | hs
  · obtain rfl := Nat.eq_of_beq_eq_true h1
    unfold sHash2 at hg
    split at hg
    case h_2 => cases hg
    cases hg
    rw [hash2V_eq]; exact key _ _ rfl (hash2_x _ _)
  rcases bif_some hs with ⟨h1, rfl⟩ | hs
  · obtain rfl := Nat.eq_of_beq_eq_true h1
    unfold sHash3 at hg
    split at hg
    case h_2 => cases hg
    cases hg
    rw [hash3V_eq]; exact key _ _ rfl (hash3_x _ _ _)
  rcases bif_some hs with ⟨h1, rfl⟩ | hs
  · obtain rfl := Nat.eq_of_beq_eq_true h1
    unfold sHash2R at hg
    split at hg
    case h_2 => cases hg
    cases hg
    rw [hash2V_eq]; exact key _ _ rfl (hash2Ref_x _ _)
  rcases bif_some hs with ⟨h1, rfl⟩ | hs
  · obtain rfl := Nat.eq_of_beq_eq_true h1
    unfold sHash3R at hg
    split at hg
    case h_2 => cases hg
    cases hg
    rw [hash3V_eq]; exact key _ _ rfl (hash3Ref_x _ _ _)
  rcases bif_some hs with ⟨h1, rfl⟩ | hs
  · obtain rfl := Nat.eq_of_beq_eq_true h1
    unfold sLn at hg
    split at hg
    case h_2 => cases hg
    cases hg
    rw [lnV_eq]; exact key _ _ rfl ((ln_x _).mono fun r h' ⟨e, q⟩ => ⟨e ▸ Ext.refl _ _, q⟩)
  rcases bif_some hs with ⟨h1, rfl⟩ | hs
  · obtain rfl := Nat.eq_of_beq_eq_true h1
    unfold sLn at hg
    split at hg
    case h_2 => cases hg
    cases hg
    rw [lnV_eq]; exact key _ _ rfl ((lnRef_x _).mono fun r h' ⟨e, q⟩ => ⟨e ▸ Ext.refl _ _, q⟩)
  cases hs
theorem closed_c {f n : Nat} (hrun : isTrue (ex Try.prog (tabOf Try.prog NT0) S01 n (.call f [] none) .nil) = true) (w : World) : Calls Try.prog f #[] w fun e w' => e = .returned (.bool true) ∧ Below w.heap.size w w' := by
  obtain ⟨h', hx⟩ := isTrue_inv hrun
  refine (ex_calls (ρ := fun _ => default) (args' := []) tab_sound noNG follows_mixed (sums_ok01 _ _) hx rels_nil).mono fun e w' hy => ?_
  obtain ⟨v', μ', rfl, hb, hv⟩ := hy
  exact ⟨by rw [rel_bool_inv hv], hb⟩
set_option maxRecDepth 100000 in
theorem lives09_run : isTrue (ex Try.prog (tabOf Try.prog NT0) S01 100000 (.call 27 [] none) .nil) = true := by decide +kernel
set_option maxRecDepth 100000 in
theorem awake10_run : isTrue (ex Try.prog (tabOf Try.prog NT0) S01 100000 (.call 15 [] none) .nil) = true := by decide +kernel
def isLives (f : FuncId) : Bool := Nat.beq f 27 || Nat.beq f 15
def S0 : Sums := fun f => bif isLives f then some sTrue else bif Nat.beq f 89 then some sSort else bif Nat.beq f 90 then some sCompact else S01 f
theorem sums_ok (ρ : Nat → Value) (fl : Nat) : SumsOK Try.prog ρ fl S0 := by
  intro f g args h v h' hs hg μ w args' hr ha
  unfold S0 at hs
  rcases bif_some hs with ⟨h0, rfl⟩ | hs
  · unfold isLives at h0
    simp only [Bool.or_eq_true] at h0
    rcases h0 with h1 | h1
    · obtain rfl := Nat.eq_of_beq_eq_true h1
      exact sTrue_ok (closed_c lives09_run) hg hr ha
    · obtain rfl := Nat.eq_of_beq_eq_true h1
      exact sTrue_ok (closed_c awake10_run) hg hr ha
  rcases bif_some hs with ⟨h1, rfl⟩ | hs
  · obtain rfl := Nat.eq_of_beq_eq_true h1
    exact sSort_ok hg hr ha
  rcases bif_some hs with ⟨h1, rfl⟩ | hs
  · obtain rfl := Nat.eq_of_beq_eq_true h1
    exact sCompact_ok hg hr ha
  · exact sums_ok01 ρ fl f g args h v h' hs hg μ w args' hr ha
/-! Calls of what is summed up. -/
section
variable {H : AH} {Q : AV → AH → Prop}
theorem hash2_c {be oe : Nat} {a b : Int} (hq : Q (.lit (.int .u32 (hash2F a b))) H) : WC Try.prog (tabOf Try.prog NT0) S0 96 [.ptr be oe, .lit (.int .u32 a), .lit (.int .u32 b)] H Q :=
  WC_sum Try.func96 rfl (g := sHash2) rfl (by rw [show sHash2 [.ptr be oe, .lit (.int .u32 a), .lit (.int .u32 b)] H = some (.lit (.int .u32 (hash2V a b)), H) from rfl, hash2V_eq]) hq
theorem hash3_c {be oe : Nat} {a b c : Int} (hq : Q (.lit (.int .u32 (hash3F a b c))) H) : WC Try.prog (tabOf Try.prog NT0) S0 190 [.ptr be oe, .lit (.int .u32 a), .lit (.int .u32 b), .lit (.int .u32 c)] H Q :=
  WC_sum Try.func190 rfl (g := sHash3) rfl (by rw [show sHash3 [.ptr be oe, .lit (.int .u32 a), .lit (.int .u32 b), .lit (.int .u32 c)] H = some (.lit (.int .u32 (hash3V a b c)), H) from rfl, hash3V_eq]) hq
theorem ln_c {u : Int} (hq : Q (.lit (.int .i64 (lnF u))) H) : WC Try.prog (tabOf Try.prog NT0) S0 193 [.lit (.int .i64 u)] H Q :=
  WC_sum Try.func193 rfl (g := sLn) rfl (by rw [show sLn [.lit (.int .i64 u)] H = some (.lit (.int .i64 (lnV u)), H) from rfl, lnV_eq]) hq
end
end Go.Proofs.Ytkgbeihcepociaa.Ex
end

section

set_option linter.unusedSimpArgs false
set_option linter.unusedVariables false
set_option maxRecDepth 10000
namespace Go.Proofs.Ytkgbeihcepociaa.Ex
open Go
/-- A number in a list of numbers. -/
theorem IsSl.int {T : TT} {F : Nat → Prop} {h : AH} {v : AV} {xs : List Int} {e : TypeId} (hs : IsSl RInt F h v xs) (hA : isAggT T e = some false) (hS : sizeT T e = some 1) {i : Nat} (hi : i < xs.length) :
    loadA T h e (slB v) (slO v + i) = some (.lit (.int .i64 (xs.getD i 0))) := by
  obtain ⟨c, ⟨rfl, _⟩, h2⟩ := hs.get (T := T) (List.getElem?_eq_getElem hi)
  have := h2 e 1 0 hS (by omega) (by show 0 + 1 ≤ 1; omega)
  simp only [RInt, Nat.mul_one, Nat.add_zero] at this
  rw [this]
  simp [ldL, hA, hS, List.getD_eq_getElem?_getD, List.getElem?_eq_getElem hi]
def idxF (x : Int) : List Int → Int → Int
  | [], _ => -1
  | y :: r, i => if x = y then i else idxF x r (i + 1)
theorem idxF_mem (x : Int) : ∀ (l : List Int) (i : Int), 0 ≤ i → (0 ≤ idxF x l i ↔ x ∈ l)
  | [], i, hi => by simp [idxF]
  | y :: r, i, hi => by
    unfold idxF
    by_cases h : x = y
    · rw [if_pos h]; simp [h, hi]
    · rw [if_neg h, idxF_mem x r (i + 1) (by omega)]; simp [h]
theorem idxF_drop (x : Int) {xs : List Int} {i : Nat} (hi : i < xs.length) : idxF x (xs.drop i) i = if x = xs.getD i 0 then (i : Int) else idxF x (xs.drop (i + 1)) ((i + 1 : Nat) : Int) := by
  rw [List.drop_eq_getElem_cons hi, List.getD_eq_getElem?_getD, List.getElem?_eq_getElem hi, idxF]; rfl
theorem index_x {F : Nat → Prop} {H : AH} {v : AV} {xs : List Int} (x : Int) (hv : IsSl RInt F H v xs) (hl : xs.length < 2 ^ 62) :
    WC Try.prog (tabOf Try.prog NT0) S0 128 [v, .lit (.int .i64 x)] H fun r h' => h' = H ∧ r = .lit (.int .i64 (idxF x xs 0)) := by
  refine WC_fn Try.func128 rfl rfl ?_
  have s1 := hv.isSl
  have s2 := hv.lenD
  simp only [core, Nat.reduceAdd, Nat.reduceSub, Nat.reduceMul, Nat.reduceLT, Nat.reduceEqDiff, reduceCtorEq, Nat.reduceLeDiff, Int.reduceLE, Int.reduceLT, Int.reduceToNat, Try.ntmps128, s1, s2]
  refine WB_for xs.length (fun i t h => h = H ∧ idxF x (xs.drop i) i = idxF x xs 0 ∧ t.n = 19 ∧ t.get 0 = v ∧ t.get 1 = .lit (.int .i64 x) ∧ t.get 7 = .lit (.int .i64 xs.length) ∧ t.get 8 = .lit (.int .i64 i)) ?_ ?_ _ _ ?_
  · rintro i t h hlt hc ⟨rfl, hx, hn, g0, g1, g7, g8⟩ ih
    have hld := hv.int (T := tabOf Try.prog NT0) (e := 3) (by kernel_rfl) (by kernel_rfl) hlt
    have hw := wrap_succ hlt (by omega)
    simp only [core, Nat.reduceAdd, Nat.reduceSub, Nat.reduceMul, Nat.reduceLT, Nat.reduceEqDiff, reduceCtorEq, Nat.reduceLeDiff, Int.reduceLE, Int.reduceLT, Int.reduceToNat, s1, s2, hn, g0, g1, g7, g8, hlt, hc, hld, hw]
    rw [idxF_drop x hlt] at hx
    refine ⟨fun he => ?_, fun he => ?_⟩
    · rw [if_pos (by simpa using he)] at hx
      rw [hx]
    · refine ih _ _ ?_
      rw [if_neg (by simpa using he)] at hx
      simp only [core, Nat.reduceAdd, Nat.reduceSub, Nat.reduceMul, Nat.reduceLT, Nat.reduceEqDiff, reduceCtorEq, Nat.reduceLeDiff, Int.reduceLE, Int.reduceLT, Int.reduceToNat, hn, g0, g1, g7, g8]
      exact hx
  · rintro t h hc ⟨rfl, hx, hn, g0, g1, g7, g8⟩
    simp only [core, Nat.reduceAdd, Nat.reduceSub, Nat.reduceMul, Nat.reduceLT, Nat.reduceEqDiff, reduceCtorEq, Nat.reduceLeDiff, Int.reduceLE, Int.reduceLT, Int.reduceToNat, s1, s2, hn, g0, g1, g7, g8, hc]
    rw [← hx]
    simp [idxF]
  · simp only [core, Nat.reduceAdd, Nat.reduceSub, Nat.reduceMul, Nat.reduceLT, Nat.reduceEqDiff, reduceCtorEq, Nat.reduceLeDiff, Int.reduceLE, Int.reduceLT, Int.reduceToNat]
    simp
theorem contains_x {F : Nat → Prop} {H : AH} {v : AV} {xs : List Int} (x : Int) (hv : IsSl RInt F H v xs) (hl : xs.length < 2 ^ 62) :
    WC Try.prog (tabOf Try.prog NT0) S0 92 [v, .lit (.int .i64 x)] H fun r h' => h' = H ∧ r = .lit (.bool (xs.contains x)) := by
  refine WC_fn Try.func92 rfl rfl ?_
  simp only [core, Nat.reduceAdd, Nat.reduceSub, Nat.reduceMul, Nat.reduceLT, Nat.reduceEqDiff, reduceCtorEq, Nat.reduceLeDiff, Int.reduceLE, Int.reduceLT, Int.reduceToNat, Try.ntmps92]
  refine (index_x x hv hl).mono ?_
  rintro v h ⟨rfl, rfl⟩
  simp only [core, Nat.reduceAdd, Nat.reduceSub, Nat.reduceMul, Nat.reduceLT, Nat.reduceEqDiff, reduceCtorEq, Nat.reduceLeDiff, Int.reduceLE, Int.reduceLT, Int.reduceToNat, Try.ntmps92]
  have h1 := idxF_mem x xs 0 (by omega)
  congr 2
  rw [Bool.eq_iff_iff]
  simp [h1]
/-- A copy of a slice: its rows are new. -/
theorem fresh_append {α : Type} {R : Rep α} {T : TT} {F : Nat → Prop} {H : AH} {v zv : AV} {xs : List α} {t e by' : Nat} (hu : und T t = some (.slice e)) (hz : sizeT T e = some R.z) (hzv : zeroT T e = some zv) (hb : bytesT T e = some by') (hzl : zv.cells.length = R.z) (h0 : 0 < R.z) (h200 : R.z ≤ 200)
    (hr : IsSl R F H v xs) (hn : xs.length ≤ 4611686018427387904) (hy : xs.length * by' ≤ 140737488355328) {p : Nat} (hp : H.at p = some (.cells [] e)) :
    ∃ s' h', appendA T H t t (.sl p 0 0 (.kn 0)) v = some (s', h') ∧ Ext H.n H h' ∧ IsSl R (fun b => F b ∨ b = p ∨ H.n ≤ b) h' s' xs ∧ SlF (fun b => b = p ∨ H.n ≤ b) s' ∧ isNil s' = false := by
  obtain ⟨L, h1, h2, hc, h3⟩ := hr.out
  have e0 : L.length = xs.length := h3.1
  have hlt := at_lt hp
  rcases append_fresh (T := T) (h := H) (t := t) (tx := t) (e := e) (z := R.z) (by' := by') (zv := zv) (M := L) (p := p) (x := v) hu hu hz hzv hb hzl h0 h200 hp h1.src h1.len h1.1 h3.ones (by rw [e0]; exact hn) (by rw [e0]; exact hy) with ⟨hM, ha⟩ | ⟨hM, ha⟩
  · subst hM
    obtain rfl : xs = [] := List.eq_nil_of_length_eq_zero (by rw [← e0]; rfl)
    refine ⟨_, _, ha, Ext.refl _ _, .mk (L := []) ⟨by simp, .inr ⟨p, 0, _, [], rfl, by unfold getR; rw [hp], by simp [cut]⟩⟩ (fun b off n cap e => by cases e; exact .inr (.inl rfl)) (fun b off n cap e => by cases e; exact Nat.le_refl 0) .nil, fun b off n cap e => by cases e; exact .inl rfl, rfl⟩
  · refine ⟨_, _, ha, (Ext.refl _ _).push _ (Nat.le_refl _), .mk (L := L) ⟨h1.1, .inr ⟨H.n, 0, _, L.flatten, rfl, by unfold getR; rw [at_push_n], ?_⟩⟩ (fun b off n cap e => by cases e; exact .inr (.inr (Nat.le_refl _))) (fun b off n cap e => by cases e; rfl) (h3.lift fun b hb hlt => ⟨at_push_lt _ hlt, .inl hb⟩), fun b off n cap e => by cases e; exact .inr (Nat.le_refl _), rfl⟩
    unfold cut
    rw [if_pos (by rw [flat_len h1.1]; omega), List.drop_zero, ← flat_len h1.1, List.take_length]
theorem IsSl.empty {α : Type} {R : Rep α} {F : Nat → Prop} {H : AH} {v : AV} {xs : List α} (h : IsSl R F H v xs) (hn : isNil v = true) : xs = [] := by
  refine List.eq_nil_of_length_eq_zero ?_
  rw [← h.lenD]
  unfold isNil at hn
  split at hn
  · rfl
  · cases hn
theorem clone_x {F : Nat → Prop} {H : AH} {v : AV} {xs : List Int} (hv : IsSl RInt F H v xs) (hl : xs.length * 8 ≤ 140737488355328) :
    WC Try.prog (tabOf Try.prog NT0) S0 88 [v] H fun r h' => Ext H.n H h' ∧ IsSl RInt (fun b => H.n ≤ b) h' r xs ∧ isNil r = isNil v := by
  refine WC_fn Try.func88 rfl rfl ?_
  have s1 := hv.isSl
  have s2 := hv.lenD
  simp only [core, Nat.reduceAdd, Nat.reduceSub, Nat.reduceMul, Nat.reduceLT, Nat.reduceEqDiff, reduceCtorEq, Nat.reduceLeDiff, Int.reduceLE, Int.reduceLT, Int.reduceToNat, Try.ntmps88, s1, s2]
  refine ⟨fun he => ?_, fun he => ?_⟩
  · rw [he]
    obtain rfl := hv.empty he
    exact ⟨Ext.refl _ _, IsSl.nil, rfl⟩
  · have hv2 : IsSl RInt F (H.push (.cells [] 3)) v xs := hv.ext ((Ext.refl H.n H).push _ (Nat.le_refl _)) (Nat.le_refl _)
    refine WOp_app (fresh_append (T := tabOf Try.prog NT0) (by kernel_rfl) (by kernel_rfl) (zv := .lit (.int .i64 0)) (by kernel_rfl) (by' := 8) (by kernel_rfl) rfl (by decide) (by decide) hv2 (by omega) hl (at_push_n H _)) ?_
    rintro s' h' ⟨e1, e2, e3, e4⟩
    simp only [core, Nat.reduceAdd, Nat.reduceSub, Nat.reduceMul, Nat.reduceLT, Nat.reduceEqDiff, reduceCtorEq, Nat.reduceLeDiff, Int.reduceLE, Int.reduceLT, Int.reduceToNat]
    rw [he]
    refine ⟨((Ext.refl H.n H).push _ (Nat.le_refl _)).trans (e1.mono (by rw [n_push]; omega)), ?_, e4⟩
    obtain ⟨L, f1, f2, f3, f4⟩ := e2.out
    refine .mk f1 (fun b off n cap e => ?_) f3 ⟨f4.1, fun i c x h1 h2 => f4.2 i c x h1 h2⟩
    rcases e3 b off n cap e with rfl | hb
    · exact Nat.le_refl _
    · rw [n_push] at hb; omega
theorem equal_x {F G : Nat → Prop} {H : AH} {u v : AV} {xs ys : List Int} (hu : IsSl RInt F H u xs) (hv : IsSl RInt G H v ys) (hl : xs.length < 2 ^ 62) :
    WC Try.prog (tabOf Try.prog NT0) S0 80 [u, v] H fun r h' => h' = H ∧ r = .lit (.bool (xs == ys)) := by
  refine WC_fn Try.func80 rfl rfl ?_
  have s1 := hu.isSl
  have s2 := hu.lenD
  have s3 := hv.isSl
  have s4 := hv.lenD
  simp only [core, Nat.reduceAdd, Nat.reduceSub, Nat.reduceMul, Nat.reduceLT, Nat.reduceEqDiff, reduceCtorEq, Nat.reduceLeDiff, Int.reduceLE, Int.reduceLT, Int.reduceToNat, Try.ntmps80, s1, s2, s3, s4]
  refine ⟨fun he => ?_, fun he => ?_⟩
  · have : ¬ xs = ys := fun hh => by subst hh; simp at he
    congr 2
    simpa using this
  · have he : xs.length = ys.length := by simp at he; omega
    refine WB_for xs.length (fun i t h => h = H ∧ (xs.take i = ys.take i) ∧ t.n = 26 ∧ t.get 0 = u ∧ t.get 1 = v ∧ t.get 12 = .lit (.int .i64 xs.length) ∧ t.get 13 = .lit (.int .i64 i)) ?_ ?_ _ _ ?_
    · rintro i t h hlt hc ⟨rfl, hx, hn, g0, g1, g12, g13⟩ ih
      have hlt2 : i < ys.length := by omega
      have hld := hu.int (T := tabOf Try.prog NT0) (e := 3) (by kernel_rfl) (by kernel_rfl) hlt
      have hld2 := hv.int (T := tabOf Try.prog NT0) (e := 3) (by kernel_rfl) (by kernel_rfl) hlt2
      have hw := wrap_succ hlt (by omega)
      simp only [core, Nat.reduceAdd, Nat.reduceSub, Nat.reduceMul, Nat.reduceLT, Nat.reduceEqDiff, reduceCtorEq, Nat.reduceLeDiff, Int.reduceLE, Int.reduceLT, Int.reduceToNat, s1, s2, s3, s4, hn, g0, g1, g12, g13, hlt, hlt2, hc, hld, hw]
      rw [WB_regionD [0, 1, 2, 3, 4, 5, 6, 7, 8] 1205237335491016659828736 (by kernel_rfl)]
      repeat ((with_reducible refine WDM_cons ?_; simp only [dw1]; try simp only [dw2, Nat.reduceAdd, Nat.reduceMul, Nat.reduceShiftRight, Nat.reduceMod, Nat.reduceEqDiff]); simp only [core, Nat.reduceAdd, Nat.reduceSub, Nat.reduceMul, Nat.reduceLT, Nat.reduceEqDiff, reduceCtorEq, Nat.reduceLeDiff, Int.reduceLE, Int.reduceLT, Int.reduceToNat, cored, s1, s2, s3, s4, hn, g0, g1, g12, g13, hlt, hlt2, hc, hld, hld2, hw])
      have e1 : xs.getD i 0 = xs[i] := by simp [List.getD_eq_getElem?_getD, List.getElem?_eq_getElem hlt]
      have e2 : ys.getD i 0 = ys[i] := by simp [List.getD_eq_getElem?_getD, List.getElem?_eq_getElem hlt2]
      refine ⟨fun hq => ?_, fun hq => ?_⟩
      · have hq : ¬ xs.getD i 0 = ys.getD i 0 := by simpa using hq
        have : ¬ xs = ys := fun hh => by subst hh; exact hq rfl
        congr 2
        simpa using this
      · have hq : xs.getD i 0 = ys.getD i 0 := by simpa using hq
        refine ih _ _ ?_
        simp only [core, Nat.reduceAdd, Nat.reduceSub, Nat.reduceMul, Nat.reduceLT, Nat.reduceEqDiff, reduceCtorEq, Nat.reduceLeDiff, Int.reduceLE, Int.reduceLT, Int.reduceToNat, hn, g0, g1, g12, g13]
        rw [List.take_succ_eq_append_getElem hlt, List.take_succ_eq_append_getElem hlt2, hx, ← e1, ← e2, hq]
    · rintro t h hc ⟨rfl, hx, hn, g0, g1, g12, g13⟩
      simp only [core, Nat.reduceAdd, Nat.reduceSub, Nat.reduceMul, Nat.reduceLT, Nat.reduceEqDiff, reduceCtorEq, Nat.reduceLeDiff, Int.reduceLE, Int.reduceLT, Int.reduceToNat, s1, s2, hn, g0, g1, g12, g13, hc]
      rw [List.take_length, he, List.take_length] at hx
      simp [hx]
    · simp only [core, Nat.reduceAdd, Nat.reduceSub, Nat.reduceMul, Nat.reduceLT, Nat.reduceEqDiff, reduceCtorEq, Nat.reduceLeDiff, Int.reduceLE, Int.reduceLT, Int.reduceToNat]
      simp
end Go.Proofs.Ytkgbeihcepociaa.Ex
end

section

set_option linter.unusedSimpArgs false
set_option linter.unusedVariables false
set_option maxRecDepth 10000
namespace Go.Proofs.Ytkgbeihcepociaa.Ex
open Go
structure IvD where
  first : Int
  last : Int
  acting : List Int
  boots : List Int
  mayRw : Bool
structure PgD where
  pool : Int
  seed : Int
  deriving DecidableEq
structure OsdD where
  ex : Bool
  up : Bool
  weight : Int
  boot : Int
  upFrom : Int
  upThru : Int
  deriving DecidableEq
structure PoolD where
  id : Int
  size : Int
  min : Int
  pgs : Int
  deriving DecidableEq
structure BktD where
  id : Int
  kind : Int
  items : List Int
  weights : List Int
  deriving DecidableEq
structure MapD where
  epoch : Int
  osds : List OsdD
  pools : List PoolD
  buckets : List BktD
  leaf : Int
  deriving DecidableEq
def RIv : Rep IvD := RMap (fun x => (x.first, x.last, x.acting, x.boots, x.mayRw)) (RPair RInt (RPair RInt (RPair (RSl RInt) (RPair (RSl RInt) RBool))))
def RPg : Rep PgD := RMap (fun x => (x.pool, x.seed)) (RPair RInt RInt)
def ROsd : Rep OsdD := RMap (fun x => (x.ex, x.up, x.weight, x.boot, x.upFrom, x.upThru)) (RPair RBool (RPair RBool (RPair RInt (RPair RInt (RPair RInt RInt)))))
def RPool : Rep PoolD := RMap (fun x => (x.id, x.size, x.min, x.pgs)) (RPair RInt (RPair RInt (RPair RInt RInt)))
def RBkt : Rep BktD := RMap (fun x => (x.id, x.kind, x.items, x.weights)) (RPair RInt (RPair RInt (RPair (RSl RInt) (RSl RInt))))
def RMp : Rep MapD := RMap (fun x => (x.epoch, x.osds, x.pools, x.buckets, x.leaf)) (RPair RInt (RPair (RSl ROsd) (RPair (RSl RPool) (RPair (RSl RBkt) RInt))))
section
variable {F : Nat → Prop} {h : AH} {c : List AV}
theorem RInt_is {x : Int} : RInt.is F h c x ↔ c = [.lit (.int .i64 x)] ∧ I64 x := Iff.rfl
theorem RSl_is {α : Type} {R : Rep α} {xs : List α} : (RSl R).is F h c xs ↔ ∃ v, c = [v] ∧ IsSl R F h v xs :=
  ⟨fun hh => by obtain ⟨v, L, rfl, h1⟩ := hh; exact ⟨v, rfl, v, L, rfl, h1⟩, fun ⟨v, e, hh⟩ => e ▸ hh⟩
theorem RIv_is {x : IvD} : RIv.is F h c x ↔ ∃ va vb, c = [.lit (.int .i64 x.first), .lit (.int .i64 x.last), va, vb, .lit (.bool x.mayRw)] ∧ IsSl RInt F h va x.acting ∧ IsSl RInt F h vb x.boots ∧ I64 x.first ∧ I64 x.last := by
  constructor
  · rintro ⟨_, _, rfl, ⟨rfl, h1⟩, _, _, rfl, ⟨rfl, h2⟩, _, _, rfl, h3, _, _, rfl, h4, rfl⟩
    obtain ⟨va, rfl, h3⟩ := RSl_is.1 h3
    obtain ⟨vb, rfl, h4⟩ := RSl_is.1 h4
    exact ⟨va, vb, rfl, h3, h4, h1, h2⟩
  · rintro ⟨va, vb, rfl, h3, h4, h1, h2⟩
    exact ⟨_, _, rfl, ⟨rfl, h1⟩, _, _, rfl, ⟨rfl, h2⟩, _, _, rfl, h3, _, _, rfl, h4, rfl⟩
theorem RPg_is {x : PgD} : RPg.is F h c x ↔ c = [.lit (.int .i64 x.pool), .lit (.int .i64 x.seed)] ∧ I64 x.pool ∧ I64 x.seed := by
  constructor
  · rintro ⟨_, _, rfl, ⟨rfl, h1⟩, rfl, h2⟩
    exact ⟨rfl, h1, h2⟩
  · rintro ⟨rfl, h1, h2⟩
    exact ⟨_, _, rfl, ⟨rfl, h1⟩, rfl, h2⟩
theorem ROsd_is {x : OsdD} : ROsd.is F h c x ↔ c = [.lit (.bool x.ex), .lit (.bool x.up), .lit (.int .i64 x.weight), .lit (.int .i64 x.boot), .lit (.int .i64 x.upFrom), .lit (.int .i64 x.upThru)] ∧ I64 x.weight ∧ I64 x.boot ∧ I64 x.upFrom ∧ I64 x.upThru := by
  constructor
  · rintro ⟨_, _, rfl, rfl, _, _, rfl, rfl, _, _, rfl, ⟨rfl, h1⟩, _, _, rfl, ⟨rfl, h2⟩, _, _, rfl, ⟨rfl, h3⟩, rfl, h4⟩
    exact ⟨rfl, h1, h2, h3, h4⟩
  · rintro ⟨rfl, h1, h2, h3, h4⟩
    exact ⟨_, _, rfl, rfl, _, _, rfl, rfl, _, _, rfl, ⟨rfl, h1⟩, _, _, rfl, ⟨rfl, h2⟩, _, _, rfl, ⟨rfl, h3⟩, rfl, h4⟩
theorem RPool_is {x : PoolD} : RPool.is F h c x ↔ c = [.lit (.int .i64 x.id), .lit (.int .i64 x.size), .lit (.int .i64 x.min), .lit (.int .i64 x.pgs)] ∧ I64 x.id ∧ I64 x.size ∧ I64 x.min ∧ I64 x.pgs := by
  constructor
  · rintro ⟨_, _, rfl, ⟨rfl, h1⟩, _, _, rfl, ⟨rfl, h2⟩, _, _, rfl, ⟨rfl, h3⟩, rfl, h4⟩
    exact ⟨rfl, h1, h2, h3, h4⟩
  · rintro ⟨rfl, h1, h2, h3, h4⟩
    exact ⟨_, _, rfl, ⟨rfl, h1⟩, _, _, rfl, ⟨rfl, h2⟩, _, _, rfl, ⟨rfl, h3⟩, rfl, h4⟩
theorem RBkt_is {x : BktD} : RBkt.is F h c x ↔ ∃ va vb, c = [.lit (.int .i64 x.id), .lit (.int .i64 x.kind), va, vb] ∧ IsSl RInt F h va x.items ∧ IsSl RInt F h vb x.weights ∧ I64 x.id ∧ I64 x.kind := by
  constructor
  · rintro ⟨_, _, rfl, ⟨rfl, h1⟩, _, _, rfl, ⟨rfl, h2⟩, _, _, rfl, h3, h4⟩
    obtain ⟨va, rfl, h3⟩ := RSl_is.1 h3
    obtain ⟨vb, rfl, h4⟩ := RSl_is.1 h4
    exact ⟨va, vb, rfl, h3, h4, h1, h2⟩
  · rintro ⟨va, vb, rfl, h3, h4, h1, h2⟩
    exact ⟨_, _, rfl, ⟨rfl, h1⟩, _, _, rfl, ⟨rfl, h2⟩, _, _, rfl, h3, h4⟩
theorem RMp_is {x : MapD} : RMp.is F h c x ↔ ∃ vo vp vb, c = [.lit (.int .i64 x.epoch), vo, vp, vb, .lit (.int .i64 x.leaf)] ∧ IsSl ROsd F h vo x.osds ∧ IsSl RPool F h vp x.pools ∧ IsSl RBkt F h vb x.buckets ∧ I64 x.epoch ∧ I64 x.leaf := by
  constructor
  · rintro ⟨_, _, rfl, ⟨rfl, h1⟩, _, _, rfl, h2, _, _, rfl, h3, _, _, rfl, h4, rfl, h5⟩
    obtain ⟨vo, rfl, h2⟩ := RSl_is.1 h2
    obtain ⟨vp, rfl, h3⟩ := RSl_is.1 h3
    obtain ⟨vb, rfl, h4⟩ := RSl_is.1 h4
    exact ⟨vo, vp, vb, rfl, h2, h3, h4, h1, h5⟩
  · rintro ⟨vo, vp, vb, rfl, h2, h3, h4, h1, h5⟩
    exact ⟨_, _, rfl, ⟨rfl, h1⟩, _, _, rfl, h2, _, _, rfl, h3, _, _, rfl, h4, rfl, h5⟩
end
theorem RIv_z : RIv.z = 5 := rfl
theorem ROsd_z : ROsd.z = 6 := rfl
theorem RPool_z : RPool.z = 4 := rfl
theorem RBkt_z : RBkt.z = 4 := rfl
theorem RMp_z : RMp.z = 5 := rfl
/-- The loads of an element, by place. -/
theorem IsSl.at {α : Type} {R : Rep α} {T : TT} {F : Nat → Prop} {h : AH} {v : AV} {xs : List α} (hs : IsSl R F h v xs) {z : Nat} (hz : R.z = z) {i : Nat} {x : α} (hx : xs[i]? = some x) :
    ∃ c, R.is F h c x ∧ (∀ e n j, sizeT T e = some n → 0 < n → j + n ≤ z → loadA T h e (slB v) (slO v + i * z + j) = ldL T e c j) ∧ (∀ e n, sizeT T e = some n → 0 < n → n ≤ z → loadA T h e (slB v) (slO v + i * z) = ldL T e c 0) := by
  subst hz
  obtain ⟨c, h1, h2⟩ := hs.get (T := T) hx
  exact ⟨c, h1, h2, fun e n hn h0 hle => by have := h2 e n 0 hn h0 (by omega); simpa using this⟩
/-- A list of elements of so many bytes is not too great. -/
def Sm {α : Type} (by' : Nat) (ys : List α) : Prop := ys.length * by' ≤ 140737488351232
/-- The loads of an element in a heap that has grown; what the element is, is told of the heap ahead. -/
theorem IsSl.atE {α : Type} {R : Rep α} {T : TT} {F : Nat → Prop} {H h : AH} {v : AV} {xs : List α} (hs : IsSl R F H v xs) (he : Ext H.n H h) {z : Nat} (hz : R.z = z) {i : Nat} {x : α} (hx : xs[i]? = some x) :
    ∃ c, R.is F H c x ∧ (∀ e n j, sizeT T e = some n → 0 < n → j + n ≤ z → loadA T h e (slB v) (slO v + i * z + j) = ldL T e c j) ∧ (∀ e n, sizeT T e = some n → 0 < n → n ≤ z → loadA T h e (slB v) (slO v + i * z) = ldL T e c 0) := by
  have key : ∀ e off, loadA T h e (slB v) off = loadA T H e (slB v) off := fun e off => by
    obtain ⟨L, h1, _, _, h3⟩ := hs.out
    rcases h1.2 with ⟨rfl, rfl⟩ | ⟨b, o, cap, row, rfl, h4, h5⟩
    · have := h3.1
      have hlt := (List.getElem?_eq_some_iff.1 hx).1
      simp at this
      omega
    · have := he.2 b (getR_lt h4)
      simp only [slB, loadA, getR, this]
  obtain ⟨c, h1, h2, h3⟩ := hs.at (T := T) hz hx
  exact ⟨c, h1, fun e n j a b d => by rw [key]; exact h2 e n j a b d, fun e n a b d => by rw [key]; exact h3 e n a b d⟩
end Go.Proofs.Ytkgbeihcepociaa.Ex
end

section

set_option linter.unusedSimpArgs false
set_option linter.unusedVariables false
set_option maxRecDepth 10000
set_option maxHeartbeats 4000000
namespace Go.Proofs.Ytkgbeihcepociaa.Ex
open Go
def drawF (h w : Int) : Int := if w < 1 then -9223372036854775808 else IntKind.i64.wrap ((IntKind.i64.wrap (lnF (IntKind.i64.wrap (andI .u32 h 65535)) - 281474976710656)).tdiv w)
def strawF (x r id w : Int) : Int := drawF (hash3F x (IntKind.u32.wrap id) (IntKind.u32.wrap r)) w
/-- One straw more. -/
def chStep (x r : Int) (s : Int × Int) (i : Nat) (id w : Int) : Int × Int := if w < 1 then s else if s.2 < 0 ∨ s.1 < strawF x r id w then (strawF x r id w, (i : Int)) else s
def chN (ids ws : List Int) (x r : Int) : Nat → Int × Int
  | 0 => (0, -1)
  | n + 1 => chStep x r (chN ids ws x r n) n (ids.getD n 0) (ws.getD n 0)
def chooseF (ids ws : List Int) (x r : Int) : Option Nat := if ids.length = ws.length then (if 0 ≤ (chN ids ws x r ids.length).2 then some (chN ids ws x r ids.length).2.toNat else none) else none
theorem chN_le (ids ws : List Int) (x r : Int) : ∀ n, -1 ≤ (chN ids ws x r n).2 ∧ (chN ids ws x r n).2 < n
  | 0 => by unfold chN; simp
  | n + 1 => by
    have := chN_le ids ws x r n
    unfold chN chStep
    split
    · omega
    · split
      · simp only; omega
      · omega
theorem chooseF_lt {ids ws : List Int} {x r : Int} {k : Nat} (h : chooseF ids ws x r = some k) : k < ids.length ∧ ids.length = ws.length := by
  unfold chooseF at h
  have := chN_le ids ws x r ids.length
  split at h
  case isFalse => cases h
  rename_i he
  split at h
  case isFalse => cases h
  cases h
  exact ⟨by omega, he⟩
def pairV (n : Int) (b : Bool) : AV := .tup [.lit (.int .i64 n), .lit (.bool b)]
def chooseV : Option Nat → AV
  | some k => pairV k true
  | none => pairV 0 false
theorem draw_x {H : AH} (h w : Int) : WC Try.prog (tabOf Try.prog NT0) S0 189 [.lit (.int .u32 h), .lit (.int .i64 w)] H fun r h' => h' = H ∧ r = .lit (.int .i64 (drawF h w)) := by
  refine WC_fn Try.func189 rfl rfl ?_
  simp only [core, Nat.reduceAdd, Nat.reduceSub, Nat.reduceMul, Nat.reduceLT, Nat.reduceEqDiff, reduceCtorEq, Nat.reduceLeDiff, Int.reduceLE, Int.reduceLT, Int.reduceToNat, Try.ntmps189]
  refine ⟨fun hq => ?_, fun hq => ?_⟩
  · unfold drawF
    rw [if_pos (by simpa using hq)]
  · have hq : ¬ w < 1 := by simpa using hq
    refine ln_c ?_
    have hw : ¬ w = 0 := by omega
    simp only [core, Nat.reduceAdd, Nat.reduceSub, Nat.reduceMul, Nat.reduceLT, Nat.reduceEqDiff, reduceCtorEq, Nat.reduceLeDiff, Int.reduceLE, Int.reduceLT, Int.reduceToNat, hw]
    unfold drawF
    rw [if_neg hq]
def aggOk : Option AV → Bool
  | some (.agg cs) => cs.all AV.one
  | _ => false
theorem eng_zero : ∃ cs, zeroT (tabOf Try.prog NT0) 187 = some (.agg cs) ∧ cs.all AV.one = true := by
  have h : aggOk (zeroT (tabOf Try.prog NT0) 187) = true := by kernel_rfl
  revert h
  generalize zeroT (tabOf Try.prog NT0) 187 = o
  intro h
  unfold aggOk at h
  split at h
  · exact ⟨_, rfl, h⟩
  · cases h
theorem new_x {H : AH} : WC Try.prog (tabOf Try.prog NT0) S0 95 [] H fun r h' => ∃ p, r = .ptr p 0 ∧ Ext H.n H h' := by
  refine WC_fn Try.func95 rfl rfl ?_
  obtain ⟨cs, hz, h1⟩ := eng_zero
  simp only [core, Nat.reduceAdd, Nat.reduceSub, Nat.reduceMul, Nat.reduceLT, Nat.reduceEqDiff, reduceCtorEq, Nat.reduceLeDiff, Int.reduceLE, Int.reduceLT, Int.reduceToNat, Try.ntmps95, hz, h1, bdM, fillA, evalParts]
  exact ⟨_, rfl, (Ext.refl _ _).push _ (Nat.le_refl _)⟩
/-- A value in a block of its own. -/
def Bk (h : AH) (p : Nat) (v : AV) (e : TypeId) : Prop := h.at p = some (.cells [v] e)
theorem Bk.ld {h : AH} {p : Nat} {v : AV} {e0 : TypeId} (hb : Bk h p v e0) (e off : Nat) : loadA (tabOf Try.prog NT0) h e p off = ldL (tabOf Try.prog NT0) e [v] off := ld_at hb e off
theorem Bk.new {h : AH} {v : AV} {e p : Nat} (hp : p = h.n) : Bk (h.push (.cells [v] e)) p v e := by subst hp; exact at_push_n h _
theorem Bk.old {h : AH} {v : AV} {e p : Nat} {x : AB} (hb : Bk h p v e) : Bk (h.push x) p v e := (at_push_lt _ (at_lt hb)).trans hb
theorem Bk.ext {h h' : AH} {v : AV} {e p : Nat} (hb : Bk h p v e) (he : Ext h.n h h') : Bk h' p v e := (he.2 p (at_lt hb)).trans hb
theorem Bk.lt {h : AH} {v : AV} {e p : Nat} (hb : Bk h p v e) : p < h.n := at_lt hb
theorem straw1_x {F : Nat → Prop} {H : AH} {vi vw ve : AV} {pe px pi pr pw be oe : Nat} {ids ws : List Int} {x r : Int} (hve : ve = .ptr be oe) (he : Bk H pe ve 142) (hx : Bk H px (.lit (.int .u32 x)) 123) (hpi : Bk H pi vi 63) (hr : Bk H pr (.lit (.int .i64 r)) 3) (hpw : Bk H pw vw 63)
    (hi : IsSl RInt F H vi ids) (hw : IsSl RInt F H vw ws) {i : Nat} (hlt : i < ids.length) (hlt2 : i < ws.length) :
    WC Try.prog (tabOf Try.prog NT0) S0 188 [.lit (.int .i64 i), .ptr pe 0, .ptr px 0, .ptr pi 0, .ptr pr 0, .ptr pw 0] H fun v h' => h' = H ∧ v = .lit (.int .i64 (strawF x r (ids.getD i 0) (ws.getD i 0))) := by
  refine WC_fn Try.func188 rfl rfl ?_
  subst hve
  have s1 := hi.isSl
  have s2 := hi.lenD
  have s3 := hw.isSl
  have s4 := hw.lenD
  have hld := hi.int (T := tabOf Try.prog NT0) (e := 3) (by kernel_rfl) (by kernel_rfl) hlt
  have hld2 := hw.int (T := tabOf Try.prog NT0) (e := 3) (by kernel_rfl) (by kernel_rfl) hlt2
  have L1 := he.ld
  have L2 := hx.ld
  have L3 := hpi.ld
  have L4 := hr.ld
  have L5 := hpw.ld
  simp only [core, Nat.reduceAdd, Nat.reduceSub, Nat.reduceMul, Nat.reduceLT, Nat.reduceEqDiff, reduceCtorEq, Nat.reduceLeDiff, Int.reduceLE, Int.reduceLT, Int.reduceToNat, Try.ntmps188]
  rw [WB_regionD [0, 1, 2, 3, 4, 5, 6, 7, 8, 10, 11, 12, 13, 9, 14, 15] 57894719459348330706363797571987788653768963364199945496970372284946646564864 (by kernel_rfl)]
  repeat ((with_reducible refine WDM_cons ?_; simp only [dw1]; try simp only [dw2, Nat.reduceAdd, Nat.reduceMul, Nat.reduceShiftRight, Nat.reduceMod, Nat.reduceEqDiff]); simp only [core, Nat.reduceAdd, Nat.reduceSub, Nat.reduceMul, Nat.reduceLT, Nat.reduceEqDiff, reduceCtorEq, Nat.reduceLeDiff, Int.reduceLE, Int.reduceLT, Int.reduceToNat, cored, s1, s2, s3, s4, hlt, hlt2, hld, hld2, L1, L2, L3, L4, L5])
  refine hash3_c ?_
  repeat ((with_reducible refine WDM_cons ?_; simp only [dw1]; try simp only [dw2, Nat.reduceAdd, Nat.reduceMul, Nat.reduceShiftRight, Nat.reduceMod, Nat.reduceEqDiff]); simp only [core, Nat.reduceAdd, Nat.reduceSub, Nat.reduceMul, Nat.reduceLT, Nat.reduceEqDiff, reduceCtorEq, Nat.reduceLeDiff, Int.reduceLE, Int.reduceLT, Int.reduceToNat, cored, s1, s2, s3, s4, hlt, hlt2, hld, hld2, L1, L2, L3, L4, L5])
  refine (draw_x _ _).mono ?_
  rintro _ h2 ⟨rfl, rfl⟩
  repeat ((with_reducible refine WDM_cons ?_; simp only [dw1]; try simp only [dw2, Nat.reduceAdd, Nat.reduceMul, Nat.reduceShiftRight, Nat.reduceMod, Nat.reduceEqDiff]); simp only [core, Nat.reduceAdd, Nat.reduceSub, Nat.reduceMul, Nat.reduceLT, Nat.reduceEqDiff, reduceCtorEq, Nat.reduceLeDiff, Int.reduceLE, Int.reduceLT, Int.reduceToNat, cored, s1, s2, s3, s4, hlt, hlt2, hld, hld2, L1, L2, L3, L4, L5])
  rfl
theorem choose_x {F : Nat → Prop} {H : AH} {vi vw : AV} {ids ws : List Int} (x r : Int) (hi : IsSl RInt F H vi ids) (hw : IsSl RInt F H vw ws) (hl : ids.length * 8 ≤ 140737488355328) :
    WC Try.prog (tabOf Try.prog NT0) S0 181 [vi, vw, .lit (.int .u32 x), .lit (.int .i64 r)] H fun v h' => Ext H.n H h' ∧ v = chooseV (chooseF ids ws x r) := by
  refine WC_fn Try.func181 rfl rfl ?_
  have s1 := hi.isSl
  have s2 := hi.lenD
  have s3 := hw.isSl
  have s4 := hw.lenD
  have o1 := hi.one
  have o2 := hw.one
  simp only [core, Nat.reduceAdd, Nat.reduceSub, Nat.reduceMul, Nat.reduceLT, Nat.reduceEqDiff, reduceCtorEq, Nat.reduceLeDiff, Int.reduceLE, Int.reduceLT, Int.reduceToNat, Try.ntmps181, s1, s2, s3, s4, o1, o2]
  refine ⟨fun hq => ?_, fun hq => ?_⟩
  · have hq : ¬ ids.length = ws.length := by simp at hq; omega
    unfold chooseF
    rw [if_neg hq]
    exact ⟨by repeat (first | exact Ext.refl _ _ | refine Ext.push _ ?_ (by (try simp only [n_push]); omega)), rfl⟩
  · have hq : ids.length = ws.length := by simp at hq; omega
    refine new_x.mono ?_
    rintro _ h1 ⟨p, rfl, e1⟩
    have B1 : Bk h1 H.n vi 63 := Bk.ext (by repeat (first | exact Bk.new rfl | refine Bk.old ?_)) e1
    have B2 : Bk h1 (H.n + 1) vw 63 := Bk.ext (by repeat (first | exact Bk.new rfl | refine Bk.old ?_)) e1
    have B3 : Bk h1 (H.n + 1 + 1) (.lit (.int .u32 x)) 123 := Bk.ext (by repeat (first | exact Bk.new rfl | refine Bk.old ?_)) e1
    have B4 : Bk h1 (H.n + 1 + 1 + 1) (.lit (.int .i64 r)) 3 := Bk.ext (by repeat (first | exact Bk.new rfl | refine Bk.old ?_)) e1
    have E1 : Ext H.n H h1 := Ext.trans (by repeat (first | exact Ext.refl _ _ | refine Ext.push _ ?_ (by (try simp only [n_push]); omega))) (e1.mono (by simp only [n_push]; omega))
    clear e1
    have L2 := B2.ld
    have l2 := B2.lt
    simp only [core, Nat.reduceAdd, Nat.reduceSub, Nat.reduceMul, Nat.reduceLT, Nat.reduceEqDiff, reduceCtorEq, Nat.reduceLeDiff, Int.reduceLE, Int.reduceLT, Int.reduceToNat, s3, s4, L2, l2]
    obtain ⟨h2, hh2⟩ : ∃ h2, h2 = h1.push (.cells [.ptr p 0] 142) := ⟨_, rfl⟩
    have C1 : Bk h2 H.n vi 63 := hh2 ▸ B1.old
    have C2 : Bk h2 (H.n + 1) vw 63 := hh2 ▸ B2.old
    have C3 : Bk h2 (H.n + 1 + 1) (.lit (.int .u32 x)) 123 := hh2 ▸ B3.old
    have C4 : Bk h2 (H.n + 1 + 1 + 1) (.lit (.int .i64 r)) 3 := hh2 ▸ B4.old
    have C5 : Bk h2 h1.n (.ptr p 0) 142 := hh2 ▸ Bk.new rfl
    have E2 : Ext H.n H h2 := hh2 ▸ E1.push _ E1.1
    have hi2 := hi.ext E2 (Nat.le_refl _)
    have hw2 := hw.ext E2 (Nat.le_refl _)
    rw [← hh2]
    clear hh2 B1 B2 B3 B4 L2
    refine WB_for ws.length (fun i t h => h = h2 ∧ t.n = 50 ∧ t.get 11 = .fn (.func 188) [] [.ptr h1.n 0, .ptr (H.n + 1 + 1) 0, .ptr H.n 0, .ptr (H.n + 1 + 1 + 1) 0, .ptr (H.n + 1) 0] ∧ t.get 12 = .lit (.int .i64 (chN ids ws x r i).1) ∧ t.get 13 = .lit (.int .i64 (chN ids ws x r i).2) ∧ t.get 24 = vw ∧ t.get 25 = .lit (.int .i64 ws.length) ∧ t.get 26 = .lit (.int .i64 i)) ?_ ?_ _ _ ?_
    · rintro i t h hlt2 hc ⟨rfl, hn, g11, g12, g13, g24, g25, g26⟩ ih
      have hlt : i < ids.length := by omega
      have hld2 := hw2.int (T := tabOf Try.prog NT0) (e := 3) (by kernel_rfl) (by kernel_rfl) hlt2
      have hws := wrap_succ hlt2 (by omega)
      simp only [core, Nat.reduceAdd, Nat.reduceSub, Nat.reduceMul, Nat.reduceLT, Nat.reduceEqDiff, reduceCtorEq, Nat.reduceLeDiff, Int.reduceLE, Int.reduceLT, Int.reduceToNat, s1, s2, s3, s4, hn, g11, g12, g13, g24, g25, g26, hlt, hlt2, hc, hld2, hws]
      refine ⟨fun hq1 => ?_, fun hq1 => ?_⟩
      · refine ih _ _ ⟨rfl, ?_⟩
        have e : chN ids ws x r (i + 1) = chN ids ws x r i := by rw [chN, chStep, if_pos (by simpa using hq1)]
        simp only [core, Nat.reduceAdd, Nat.reduceSub, Nat.reduceMul, Nat.reduceLT, Nat.reduceEqDiff, reduceCtorEq, Nat.reduceLeDiff, Int.reduceLE, Int.reduceLT, Int.reduceToNat, hn, g11, g12, g13, g24, g25, g26, e]
      · have hq1 : ¬ ws.getD i 0 < 1 := by simpa using hq1
        refine (straw1_x rfl C5 C3 C1 C4 C2 hi2 hw2 hlt hlt2).mono ?_
        rintro _ h' ⟨rfl, rfl⟩
        have key : chN ids ws x r (i + 1) = if (chN ids ws x r i).2 < 0 ∨ (chN ids ws x r i).1 < strawF x r (ids.getD i 0) (ws.getD i 0) then (strawF x r (ids.getD i 0) (ws.getD i 0), (i : Int)) else chN ids ws x r i := by rw [chN, chStep, if_neg hq1]
        by_cases hp : (chN ids ws x r i).2 < 0
        · simp only [core, Nat.reduceAdd, Nat.reduceSub, Nat.reduceMul, Nat.reduceLT, Nat.reduceEqDiff, reduceCtorEq, Nat.reduceLeDiff, Int.reduceLE, Int.reduceLT, Int.reduceToNat, hn, g11, g12, g13, g24, g25, g26, hp, hws]
          refine ih _ _ ⟨rfl, ?_⟩
          rw [if_pos (.inl hp)] at key
          simp only [core, Nat.reduceAdd, Nat.reduceSub, Nat.reduceMul, Nat.reduceLT, Nat.reduceEqDiff, reduceCtorEq, Nat.reduceLeDiff, Int.reduceLE, Int.reduceLT, Int.reduceToNat, hn, g11, g12, g13, g24, g25, g26, key]
        · simp only [core, Nat.reduceAdd, Nat.reduceSub, Nat.reduceMul, Nat.reduceLT, Nat.reduceEqDiff, reduceCtorEq, Nat.reduceLeDiff, Int.reduceLE, Int.reduceLT, Int.reduceToNat, hn, g11, g12, g13, g24, g25, g26, hp, hws]
          refine ⟨fun hq2 => ?_, fun hq2 => ?_⟩
          · refine ih _ _ ⟨rfl, ?_⟩
            rw [if_pos (.inr (by simpa using hq2))] at key
            simp only [core, Nat.reduceAdd, Nat.reduceSub, Nat.reduceMul, Nat.reduceLT, Nat.reduceEqDiff, reduceCtorEq, Nat.reduceLeDiff, Int.reduceLE, Int.reduceLT, Int.reduceToNat, hn, g11, g12, g13, g24, g25, g26, key]
          · refine ih _ _ ⟨rfl, ?_⟩
            rw [if_neg (by rintro (h1 | h1); exact hp h1; exact absurd (decide_eq_true h1) (by rw [hq2]; decide))] at key
            simp only [core, Nat.reduceAdd, Nat.reduceSub, Nat.reduceMul, Nat.reduceLT, Nat.reduceEqDiff, reduceCtorEq, Nat.reduceLeDiff, Int.reduceLE, Int.reduceLT, Int.reduceToNat, hn, g11, g12, g13, g24, g25, g26, key]
    · rintro t h hc ⟨rfl, hn, g11, g12, g13, g24, g25, g26⟩
      have hb := chN_le ids ws x r ids.length
      rw [← hq] at g13
      simp only [core, Nat.reduceAdd, Nat.reduceSub, Nat.reduceMul, Nat.reduceLT, Nat.reduceEqDiff, reduceCtorEq, Nat.reduceLeDiff, Int.reduceLE, Int.reduceLT, Int.reduceToNat, s1, s2, s3, s4, hn, g11, g12, g13, g24, g25, g26, hc]
      refine ⟨E2, ?_⟩
      unfold chooseF
      rw [if_pos hq]
      by_cases h0 : 0 ≤ (chN ids ws x r ids.length).2
      · rw [if_neg (by omega), if_pos h0, decide_eq_true h0]
        show AV.tup _ = AV.tup _
        rw [Int.toNat_of_nonneg h0]
      · rw [if_pos (by omega), if_neg h0, decide_eq_false h0]
        rfl
    · simp only [core, Nat.reduceAdd, Nat.reduceSub, Nat.reduceMul, Nat.reduceLT, Nat.reduceEqDiff, reduceCtorEq, Nat.reduceLeDiff, Int.reduceLE, Int.reduceLT, Int.reduceToNat]
      (repeat' apply And.intro) <;> first | rfl | trivial
end Go.Proofs.Ytkgbeihcepociaa.Ex
end

section

set_option linter.unusedSimpArgs false
set_option linter.unusedVariables false
set_option maxRecDepth 10000
set_option maxHeartbeats 4000000
namespace Go.Proofs.Ytkgbeihcepociaa.Ex
open Go
/-- A map's value. -/
def mpV (m : MapD) (vo vp vb : AV) : AV := .agg [.lit (.int .i64 m.epoch), vo, vp, vb, .lit (.int .i64 m.leaf)]
/-- What a map's value reads. -/
structure MpAt (F : Nat → Prop) (h : AH) (m : MapD) (vo vp vb : AV) : Prop where
  o : IsSl ROsd F h vo m.osds
  p : IsSl RPool F h vp m.pools
  b : IsSl RBkt F h vb m.buckets
theorem MpAt.ext {F : Nat → Prop} {h h' : AH} {m : MapD} {vo vp vb : AV} {n0 : Nat} (hm : MpAt F h m vo vp vb) (he : Ext n0 h h') (hn : h.n ≤ n0) : MpAt F h' m vo vp vb := ⟨hm.o.ext he hn, hm.p.ext he hn, hm.b.ext he hn⟩
def bktV (b : BktD) (va vw : AV) : AV := .agg [.lit (.int .i64 b.id), .lit (.int .i64 b.kind), va, vw]
def bkt0 : BktD := ⟨0, 0, [], []⟩
def bucketF (m : MapD) (id : Int) : Option BktD := m.buckets.find? (fun b => b.id == id)
def bucketG (m : MapD) (id : Int) : BktD := (bucketF m id).getD bkt0
theorem find_drop {α : Type} {p : α → Bool} {l : List α} {i : Nat} {x : α} (hx : l[i]? = some x) : (l.drop i).find? p = if p x then some x else (l.drop (i + 1)).find? p := by
  have hlt := (List.getElem?_eq_some_iff.1 hx).1
  rw [List.drop_eq_getElem_cons hlt, List.find?_cons]
  have : l[i] = x := by rw [List.getElem?_eq_getElem hlt] at hx; exact Option.some.inj hx
  rw [this]
  cases p x <;> rfl
end Go.Proofs.Ytkgbeihcepociaa.Ex
end

section

set_option linter.unusedSimpArgs false
set_option linter.unusedVariables false
set_option maxRecDepth 10000
set_option maxHeartbeats 4000000
namespace Go.Proofs.Ytkgbeihcepociaa.Ex
open Go
theorem Ext.step {H h h' : AH} (he : Ext H.n H h) (hk : Ext h.n h h') : Ext H.n H h' := he.trans (hk.mono he.1)
theorem bucket_x {F : Nat → Prop} {H : AH} {m : MapD} {vo vp vb : AV} (id : Int) (hm : MpAt F H m vo vp vb) (hl : Sm 64 m.buckets) (hok : ∀ b ∈ m.buckets, Sm 8 b.items ∧ Sm 8 b.weights) :
    WC Try.prog (tabOf Try.prog NT0) S0 109 [mpV m vo vp vb, .lit (.int .i64 id)] H fun r h' => Ext H.n H h' ∧ ∃ va vw, r = .tup [bktV (bucketG m id) va vw, .lit (.bool (bucketF m id).isSome)] ∧ IsSl RInt (fun b => H.n ≤ b) h' va (bucketG m id).items ∧ IsSl RInt (fun b => H.n ≤ b) h' vw (bucketG m id).weights := by
  refine WC_fn Try.func109 rfl rfl ?_
  unfold Sm at hl
  have s1 := hm.b.isSl
  have s2 := hm.b.lenD
  have o1 := hm.o.one
  have o2 := hm.p.one
  have o3 := hm.b.one
  simp only [core, Nat.reduceAdd, Nat.reduceSub, Nat.reduceMul, Nat.reduceLT, Nat.reduceEqDiff, reduceCtorEq, Nat.reduceLeDiff, Int.reduceLE, Int.reduceLT, Int.reduceToNat, Try.ntmps109, mpV, s1, s2, o1, o2, o3]
  obtain ⟨h2, hh2⟩ : ∃ h2, h2 = (H.push (.cells [.lit (.int .i64 m.epoch), vo, vp, vb, .lit (.int .i64 m.leaf)] 31)).push (.cells [.lit (.int .i64 0), .lit (.int .i64 0), .lit (.slice none 0 0), .lit (.slice none 0 0)] 92) := ⟨_, rfl⟩
  have E0 : Ext H.n H h2 := hh2 ▸ ((Ext.refl _ _).push _ (Nat.le_refl _)).push _ (by rw [n_push]; omega)
  have A0 : h2.at (H.n + 1) = some (.cells [.lit (.int .i64 0), .lit (.int .i64 0), .lit (.slice none 0 0), .lit (.slice none 0 0)] 92) := hh2 ▸ at_push_n _ _
  have n2 : h2.n = H.n + 2 := by rw [hh2, n_push, n_push]
  rw [← hh2]
  clear hh2
  refine WB_for m.buckets.length (fun i t h => Ext h2.n h2 h ∧ bucketF m id = (m.buckets.drop i).find? (fun b => b.id == id) ∧ t.n = 30 ∧ t.get 1 = .lit (.int .i64 id) ∧ t.get 4 = .ptr (H.n + 1) 0 ∧ t.get 9 = vb ∧ t.get 10 = .lit (.int .i64 m.buckets.length) ∧ t.get 11 = .lit (.int .i64 i)) ?_ ?_ _ _ ?_
  · rintro i t h hlt hc ⟨he, hf, hn, g1, g4, g9, g10, g11⟩ ih
    obtain ⟨x, hx⟩ : ∃ x, m.buckets[i]? = some x := ⟨_, List.getElem?_eq_getElem hlt⟩
    have E1 : Ext H.n H h := E0.trans (he.mono (by omega))
    obtain ⟨c, hc1, hld, hld0⟩ := hm.b.atE (T := tabOf Try.prog NT0) E1 RBkt_z hx
    obtain ⟨va, vw, rfl, ha, hw, i1, i2⟩ := RBkt_is.1 hc1
    obtain ⟨k1, k2⟩ := hok x (List.mem_of_getElem? hx)
    unfold Sm at k1 k2
    have a1 := ha.one
    have w1 := hw.one
    have a2 := ha.isSl
    have w2 := hw.isSl
    have hws := wrap_succ hlt (by omega)
    rw [find_drop hx] at hf
    have A1 : h.at (H.n + 1) = some (.cells [.lit (.int .i64 0), .lit (.int .i64 0), .lit (.slice none 0 0), .lit (.slice none 0 0)] 92) := (he.2 _ (by omega)).trans A0
    have l1 : H.n + 1 < h.n := at_lt A1
    simp only [core, Nat.reduceAdd, Nat.reduceSub, Nat.reduceMul, Nat.reduceLT, Nat.reduceEqDiff, reduceCtorEq, Nat.reduceLeDiff, Int.reduceLE, Int.reduceLT, Int.reduceToNat, s1, s2, hn, g1, g4, g9, g10, g11, hlt, hc, hld, hld0, hws, a1, w1]
    refine ⟨fun hq => ?_, fun hq => ?_⟩
    · rw [if_pos hq] at hf
      have hG : bucketG m id = x := by unfold bucketG; rw [hf]; rfl
      obtain ⟨hp, hhp⟩ : ∃ hp, hp = h.push (.cells [.lit (.int .i64 x.id), .lit (.int .i64 x.kind), va, vw] 92) := ⟨_, rfl⟩
      have EP : Ext h.n h hp := hhp ▸ (Ext.refl _ _).push _ (Nat.le_refl _)
      have P0 : hp.at h.n = some (.cells [.lit (.int .i64 x.id), .lit (.int .i64 x.kind), va, vw] 92) := hhp ▸ at_push_n h _
      have LP0 := ld_at (T := tabOf Try.prog NT0) P0
      rw [← hhp]
      rw [WB_regionD [0, 1, 3, 4, 2, 6, 5, 7, 8, 9] 632895786129742360360258634752 (by kernel_rfl)]
      repeat ((with_reducible refine WDM_cons ?_; simp only [dw1]; try simp only [dw2, Nat.reduceAdd, Nat.reduceMul, Nat.reduceShiftRight, Nat.reduceMod, Nat.reduceEqDiff]); simp only [core, Nat.reduceAdd, Nat.reduceSub, Nat.reduceMul, Nat.reduceLT, Nat.reduceEqDiff, reduceCtorEq, Nat.reduceLeDiff, Int.reduceLE, Int.reduceLT, Int.reduceToNat, cored, hn, g1, g4, g9, g10, g11, LP0, a2, w2])
      have E2 := E1.step EP
      refine (clone_x (ha.ext E2 (Nat.le_refl _)) (by omega)).mono ?_
      rintro ra h3 ⟨e3, ra1, -⟩
      have P3 := (e3.2 _ (at_lt P0)).trans P0
      have LP3 := ld_at (T := tabOf Try.prog NT0) P3
      have E3 := E2.step e3
      repeat ((with_reducible refine WDM_cons ?_; simp only [dw1]; try simp only [dw2, Nat.reduceAdd, Nat.reduceMul, Nat.reduceShiftRight, Nat.reduceMod, Nat.reduceEqDiff]); simp only [core, Nat.reduceAdd, Nat.reduceSub, Nat.reduceMul, Nat.reduceLT, Nat.reduceEqDiff, reduceCtorEq, Nat.reduceLeDiff, Int.reduceLE, Int.reduceLT, Int.reduceToNat, cored, hn, g1, g4, g9, g10, g11, LP3, a2, w2])
      refine (clone_x (hw.ext E3 (Nat.le_refl _)) (by omega)).mono ?_
      rintro rw1 h4 ⟨e4, rw2, -⟩
      have P4 := (e4.2 _ (at_lt P3)).trans P3
      have LP4 := ld_at (T := tabOf Try.prog NT0) P4
      have E4 := E3.step e4
      have l4 := at_lt P4
      have o4 := ra1.one
      have o5 := rw2.one
      have lh : h.n < hp.n := at_lt P0
      have l3 : hp.n ≤ h3.n := e3.1
      have l5 : h3.n ≤ h4.n := e4.1
      have A4 : h4.at (H.n + 1) = some (.cells [.lit (.int .i64 0), .lit (.int .i64 0), .lit (.slice none 0 0), .lit (.slice none 0 0)] 92) := ((e4.2 _ (by omega)).trans ((e3.2 _ (by omega)).trans (EP.2 _ l1))).trans A1
      have l6 : H.n + 1 < h4.n := at_lt A4
      have hne : ¬ h.n = H.n + 1 := by omega
      repeat ((with_reducible refine WDM_cons ?_; simp only [dw1]; try simp only [dw2, Nat.reduceAdd, Nat.reduceMul, Nat.reduceShiftRight, Nat.reduceMod, Nat.reduceEqDiff]); simp only [core, Nat.reduceAdd, Nat.reduceSub, Nat.reduceMul, Nat.reduceLT, Nat.reduceEqDiff, reduceCtorEq, Nat.reduceLeDiff, Int.reduceLE, Int.reduceLT, Int.reduceToNat, cored, hn, g1, g4, g9, g10, g11, LP4, P4, l4, o4, o5, a2, w2, A4, l6, hne])
      rw [hG, hf]
      have k0 := E1.1
      refine ⟨((E4.put _ (by omega)).put _ (by omega)).put _ (by omega), _, _, rfl, ?_, ?_⟩
      · refine ra1.lift fun b hb hlt => ⟨?_, by omega⟩
        rw [at_put_ne _ (by omega), at_put_ne _ (by omega), at_put_ne _ (by omega)]
        exact e4.2 b hlt
      · refine rw2.lift fun b hb hlt => ⟨?_, by omega⟩
        rw [at_put_ne _ (by omega), at_put_ne _ (by omega), at_put_ne _ (by omega)]
    · rw [if_neg (by rw [hq]; decide)] at hf
      refine ih _ _ ⟨he.push _ he.1, hf, ?_⟩
      simp only [core, Nat.reduceAdd, Nat.reduceSub, Nat.reduceMul, Nat.reduceLT, Nat.reduceEqDiff, reduceCtorEq, Nat.reduceLeDiff, Int.reduceLE, Int.reduceLT, Int.reduceToNat, hn, g1, g4, g9, g10, g11]
  · rintro t h hc ⟨he, hf, hn, g1, g4, g9, g10, g11⟩
    have A1 : h.at (H.n + 1) = some (.cells [.lit (.int .i64 0), .lit (.int .i64 0), .lit (.slice none 0 0), .lit (.slice none 0 0)] 92) := (he.2 _ (by omega)).trans A0
    have l1 : H.n + 1 < h.n := at_lt A1
    have E1 : Ext H.n H h := E0.trans (he.mono (by omega))
    have hf : bucketF m id = none := by rw [hf, List.drop_length]; rfl
    have hG : bucketG m id = bkt0 := by unfold bucketG; rw [hf]; rfl
    simp only [core, Nat.reduceAdd, Nat.reduceSub, Nat.reduceMul, Nat.reduceLT, Nat.reduceEqDiff, reduceCtorEq, Nat.reduceLeDiff, Int.reduceLE, Int.reduceLT, Int.reduceToNat, s1, s2, hn, g1, g4, g9, g10, g11, hc, A1, l1, bdM, fillA]
    rw [hG, hf]
    exact ⟨E1.put _ (by omega), _, _, rfl, IsSl.nil, IsSl.nil⟩
  · simp only [core, Nat.reduceAdd, Nat.reduceSub, Nat.reduceMul, Nat.reduceLT, Nat.reduceEqDiff, reduceCtorEq, Nat.reduceLeDiff, Int.reduceLE, Int.reduceLT, Int.reduceToNat]
    refine ⟨Ext.refl _ _, rfl, ?_⟩
    (repeat' apply And.intro) <;> first | rfl | trivial
end Go.Proofs.Ytkgbeihcepociaa.Ex
end

section

set_option linter.unusedSimpArgs false
set_option linter.unusedVariables false
set_option maxRecDepth 10000
set_option maxHeartbeats 4000000
namespace Go.Proofs.Ytkgbeihcepociaa.Ex
open Go
def kindF (m : MapD) (item : Int) : Int := if 0 ≤ item then (if item < 8 then 0 else -1) else if (bucketF m item).isSome then (bucketG m item).kind else -1
def wOk (w : Int) : Bool := decide (0 ≤ w) && decide (w ≤ 1048576)
def itsTo (m : MapD) (i : Nat) : List Int := (m.buckets.take i).flatMap (·.items)
def itemOk (m : MapD) (its : List Int) (b : BktD) (k : Nat) : Bool := decide (0 ≤ kindF m (b.items.getD k 0)) && decide (kindF m (b.items.getD k 0) < b.kind) && !((its ++ b.items.take k).contains (b.items.getD k 0))
def hdOk (m : MapD) (i : Nat) (b : BktD) : Bool := !((m.buckets.take i).any (fun c => c.id == b.id)) && decide (b.id < 0) && decide (1 ≤ b.kind) && decide (b.kind ≤ 3) && (b.items.length == b.weights.length)
def bOk (m : MapD) (i : Nat) (b : BktD) : Bool := hdOk m i b && b.weights.all wOk && (List.range b.items.length).all (itemOk m (itsTo m i) b)
def goodF (m : MapD) : Bool := decide (0 ≤ m.leaf) && decide (m.leaf ≤ 3) && (List.range m.buckets.length).all (fun i => bOk m i (m.buckets.getD i bkt0))
theorem range_all_succ {p : Nat → Bool} {i : Nat} : (List.range (i + 1)).all p = ((List.range i).all p && p i) := by
  rw [List.range_succ, List.all_append]; simp
theorem range_all_false {p : Nat → Bool} {n i : Nat} (hi : i < n) (hp : p i = false) : (List.range n).all p = false := by
  rw [List.all_eq_false]
  exact ⟨i, List.mem_range.2 hi, by simp [hp]⟩
theorem getD_of {α : Type} {l : List α} {i : Nat} {x d : α} (hx : l[i]? = some x) : l.getD i d = x := by rw [List.getD_eq_getElem?_getD, hx]; rfl
theorem itsTo_succ {m : MapD} {i : Nat} {x : BktD} (hx : m.buckets[i]? = some x) : itsTo m (i + 1) = itsTo m i ++ x.items := by
  unfold itsTo
  rw [List.take_add_one, hx, List.flatMap_append]
  simp
theorem any_take {α : Type} {p : α → Bool} {l : List α} {i : Nat} {x : α} (hx : l[i]? = some x) : (l.take (i + 1)).any p = ((l.take i).any p || p x) := by
  rw [List.take_add_one, hx, List.any_append]; simp
theorem any_true' {α : Type} {p : α → Bool} {l : List α} {i : Nat} {x : α} (hx : l[i]? = some x) (hp : p x = true) : l.any p = true := by
  rw [List.any_eq_true]
  exact ⟨x, List.mem_of_getElem? hx, hp⟩
theorem getD_some' {α : Type} {l : List α} {i : Nat} (d : α) (hi : i < l.length) : l[i]? = some (l.getD i d) := by rw [List.getD_eq_getElem?_getD, List.getElem?_eq_getElem hi]; rfl
theorem IsSl.i64 {F : Nat → Prop} {h : AH} {v : AV} {xs : List Int} (hs : IsSl RInt F h v xs) : ∀ (i : Nat), i < xs.length → I64 (xs.getD i 0) := fun i hi => by
  obtain ⟨L, h1, _, _, h3⟩ := hs.out
  obtain ⟨c, _, hc⟩ := h3.get (getD_some' 0 hi)
  exact hc.2
/-- The items of a map that is not too great. -/
def OkM (m : MapD) : Prop := Sm 64 m.buckets ∧ (∀ b ∈ m.buckets, Sm 8 b.items ∧ Sm 8 b.weights) ∧ True
end Go.Proofs.Ytkgbeihcepociaa.Ex
end

section

set_option linter.unusedSimpArgs false
set_option linter.unusedVariables false
set_option maxRecDepth 10000
set_option maxHeartbeats 4000000
namespace Go.Proofs.Ytkgbeihcepociaa.Ex
open Go
def withinF (m : MapD) (id : Int) : Bool := m.buckets.any (fun b => b.items.contains id)
def twiceF (m : MapD) (i : Nat) : Bool := (m.buckets.take i).any (fun c => c.id == (m.buckets.getD i bkt0).id)
def mayO (o : OsdD) (osd x : Int) : Bool := o.ex && o.up && decide (0 < o.weight) && decide (IntKind.i64.wrap ((hash2F x (IntKind.u32.wrap osd)).tmod 65536) < o.weight)
def mayF (m : MapD) (osd x : Int) : Bool := if 0 ≤ osd then (match m.osds[osd.toNat]? with | some o => mayO o osd x | none => false) else false
end Go.Proofs.Ytkgbeihcepociaa.Ex
end

section

set_option linter.unusedSimpArgs false
set_option linter.unusedVariables false
set_option maxRecDepth 10000
set_option maxHeartbeats 4000000
namespace Go.Proofs.Ytkgbeihcepociaa.Ex
open Go
/-! Own rows of numbers. -/
def iL (xs : List Int) : List AV := xs.map fun n => .lit (.int .i64 n)
theorem iL_len (xs : List Int) : (iL xs).length = xs.length := by simp [iL]
theorem OwnL.ints {G : Nat → Prop} {n0 : Nat} {h : AH} {v : AV} {e : TypeId} {xs : List Int} (ho : OwnL RInt G n0 h v e xs) (hne : xs ≠ []) :
    ∃ p, v = .sl p 0 xs.length (.un 1) ∧ n0 ≤ p ∧ h.at p = some (.cells (iL xs) e) ∧ ∀ x ∈ xs, I64 x := by
  obtain ⟨L, h1, h2⟩ := ho
  have hL : L.flatten = iL xs ∧ ∀ x ∈ xs, I64 x := by
    obtain ⟨e1, e2⟩ := h2
    have key : ∀ (L : List (List AV)) (xs : List Int), L.length = xs.length → (∀ (i : Nat) c x, L[i]? = some c → xs[i]? = some x → RInt.is (fun b => G b ∧ Apart v b) h c x) → L.flatten = iL xs ∧ ∀ x ∈ xs, I64 x := by
      intro L
      induction L with
      | nil => intro xs hl _; cases xs with | nil => exact ⟨rfl, by simp⟩ | cons => cases hl
      | cons a r ih =>
        intro xs hl hh
        cases xs with
        | nil => cases hl
        | cons x xs =>
          obtain ⟨i1, i2⟩ := ih xs (by simpa using hl) (fun i c y a b => hh (i + 1) c y (by simpa using a) (by simpa using b))
          obtain ⟨rfl, j2⟩ := hh 0 a x rfl rfl
          refine ⟨by rw [List.flatten_cons, i1]; rfl, fun y hy => ?_⟩
          rcases List.mem_cons.1 hy with rfl | hy
          · exact j2
          · exact i2 y hy
    exact key L xs e1 e2
  have e0 := h2.1
  rcases h1.2 with ⟨rfl, rfl⟩ | ⟨p, rfl, hp, hat⟩
  · exact absurd (List.eq_nil_of_length_eq_zero (by rw [← e0]; rfl)) hne
  · exact ⟨p, by rw [e0]; rfl, hp, by rw [hat, hL.1], hL.2⟩
theorem OwnL.ofInts {G : Nat → Prop} {n0 : Nat} {h : AH} {e : TypeId} {xs : List Int} {p : Nat} (hp : n0 ≤ p) (hat : h.at p = some (.cells (iL xs) e)) (hx : ∀ x ∈ xs, I64 x) : OwnL RInt G n0 h (.sl p 0 xs.length (.un 1)) e xs := by
  refine ⟨xs.map fun n => [.lit (.int .i64 n)], ⟨?_, .inr ⟨p, ?_, hp, ?_⟩⟩, ?_, fun i c x h1 h2 => ?_⟩
  · intro c hc; obtain ⟨n, _, rfl⟩ := List.mem_map.1 hc; rfl
  · rw [List.length_map]; rfl
  · rw [hat]
    congr 2
    unfold iL
    clear hat hx
    induction xs with
    | nil => rfl
    | cons a r ih => simp only [List.map_cons, List.flatten_cons, ← ih]; rfl
  · simp
  · rw [List.getElem?_map, h2] at h1
    simp only [Option.map_some, Option.some.injEq] at h1
    exact ⟨h1.symm, hx x (List.mem_of_getElem? h2)⟩
theorem ldL_ints {T : TT} {e : TypeId} (hA : isAggT T e = some false) (hS : sizeT T e = some 1) {xs : List Int} {i : Nat} (hi : i < xs.length) : ldL T e (iL xs) i = some (.lit (.int .i64 (xs.getD i 0))) := by
  unfold ldL
  rw [hA, hS]
  simp only [iL, List.getElem?_map, getD_some' 0 hi, Option.map_some]
theorem put_ints {xs : List Int} {i : Nat} {x : Int} (hi : i < xs.length) : put (iL xs) i [.lit (.int .i64 x)] = some (iL (xs.set i x)) := by
  unfold put
  rw [if_pos (by rw [iL_len]; exact hi)]
  congr 1
  unfold iL
  rw [List.map_set, List.set_eq_take_append_cons_drop, if_pos (by rw [List.length_map]; exact hi)]
  simp
def posF (x : Int) (l : List Int) : Nat → Nat
  | 0 => 0
  | n + 1 => if l.getD n 0 < x then posF x l n else n + 1
def insD (x : Int) (l : List Int) : List Int := l.take (posF x l l.length) ++ x :: l.drop (posF x l l.length)
def rootsN (m : MapD) : Nat → List Int
  | 0 => []
  | i + 1 => if withinF m (m.buckets.getD i bkt0).id || twiceF m i then rootsN m i else insD (m.buckets.getD i bkt0).id (rootsN m i)
def rootsR (m : MapD) : List Int := rootsN m m.buckets.length
theorem posF_le (x : Int) (l : List Int) : ∀ n, posF x l n ≤ n
  | 0 => Nat.le_refl 0
  | n + 1 => by unfold posF; split; exact Nat.le_succ_of_le (posF_le x l n); exact Nat.le_refl _
end Go.Proofs.Ytkgbeihcepociaa.Ex
end

section

set_option linter.unusedSimpArgs false
set_option linter.unusedVariables false
set_option maxRecDepth 10000
set_option maxHeartbeats 4000000
namespace Go.Proofs.Ytkgbeihcepociaa.Ex
open Go
theorem getD_set {L : List Int} {i k : Nat} {x : Int} (hi : i < L.length) : (L.set i x).getD k 0 = if k = i then x else L.getD k 0 := by
  rw [List.getD_eq_getElem?_getD, List.getElem?_set]
  by_cases h : i = k
  · subst h; simp [hi]
  · rw [if_neg h, if_neg (fun hh => h hh.symm), List.getD_eq_getElem?_getD]
theorem reverse_x {H : AH} {p : Nat} {xs : List Int} (hat : H.at p = some (.cells (iL xs) 3)) (hl : xs.length < 2 ^ 62) :
    WC Try.prog (tabOf Try.prog NT0) S0 163 [.sl p 0 xs.length (.un 1)] H fun r h' => h'.at p = some (.cells (iL xs.reverse) 3) ∧ h'.n = H.n ∧ ∀ b, b ≠ p → h'.at b = H.at b := by
  refine WC_fn Try.func163 rfl rfl ?_
  obtain ⟨n, hn⟩ : ∃ n, n = xs.length := ⟨_, rfl⟩
  rw [← hn]
  have qs1 : isSl (.sl p 0 n (.un 1)) = true := rfl
  have qs2 : lenD (.sl p 0 n (.un 1)) = n := rfl
  have qs3 : slB (.sl p 0 n (.un 1)) = p := rfl
  have qs4 : slO (.sl p 0 n (.un 1)) = 0 := rfl
  have hw0 : IntKind.i64.wrap ((n : Int) - 1) = (n : Int) - 1 - ((0 : Nat) : Int) := (wrap_in (by omega) (by omega)).trans (by omega)
  simp only [core, Nat.reduceAdd, Nat.reduceSub, Nat.reduceMul, Nat.reduceLT, Nat.reduceEqDiff, reduceCtorEq, Nat.reduceLeDiff, Int.reduceLE, Int.reduceLT, Int.reduceToNat, Try.ntmps163, qs1, qs2, hw0]
  refine WB_ind (fun (i : Nat) t h => ∃ L, h.at p = some (.cells (iL L) 3) ∧ L.length = n ∧ (∀ k, k < n → L.getD k 0 = if k < i ∨ n < k + i + 1 then xs.getD (n - 1 - k) 0 else xs.getD k 0) ∧ h.n = H.n ∧ (∀ b, b ≠ p → h.at b = H.at b) ∧ i ≤ n ∧ t.n = 28 ∧ t.get 0 = .sl p 0 n (.un 1) ∧ t.get 2 = .lit (.int .i64 i) ∧ t.get 3 = .lit (.int .i64 ((n : Int) - 1 - (i : Int)))) (fun i => n - i) ?_ 0 _ _ ?_
  · rintro i t h ⟨L, W1, hL, hk, hhn, hkp, hin, hn, g0, g2, g3⟩ ih
    by_cases hlt : (i : Int) < (n : Int) - 1 - (i : Int)
    · obtain ⟨j, hj⟩ : ∃ j : Nat, (n : Int) - 1 - (i : Int) = (j : Int) := ⟨n - 1 - i, by omega⟩
      have hij : i < j := by omega
      have hjn : j < n := by omega
      have hin' : i < n := by omega
      have hji : n = i + j + 1 := by omega
      have hlt2 : ((i : Int) < (j : Int)) = True := by simp only [eq_iff_iff, iff_true]; omega
      rw [hj] at g3
      have hws : IntKind.i64.wrap ((i : Int) + 1) = ((i + 1 : Nat) : Int) := wrap_succ hin' (by omega)
      have hwj : IntKind.i64.wrap ((j : Int) - 1) = (n : Int) - 1 - ((i + 1 : Nat) : Int) := (wrap_in (by omega) (by omega)).trans (by omega)
      have lp := at_lt W1
      have LW := ld_at (T := tabOf Try.prog NT0) W1
      have hLj := ldL_ints (T := tabOf Try.prog NT0) (e := 3) (by kernel_rfl) (by kernel_rfl) (xs := L) (i := j) (by omega)
      have hLi := ldL_ints (T := tabOf Try.prog NT0) (e := 3) (by kernel_rfl) (by kernel_rfl) (xs := L) (i := i) (by omega)
      have hp1 := put_ints (xs := L) (i := i) (x := L.getD j 0) (by omega)
      have hp2 := put_ints (xs := L.set i (L.getD j 0)) (i := j) (x := L.getD i 0) (by rw [List.length_set]; omega)
      simp only [corem, WB_cond_s, put, ldL, WB_label, List.nil_append, List.drop_zero, List.take_zero, Nat.reduceAdd, Nat.reduceSub, Nat.reduceMul, Nat.reduceLT, Nat.reduceEqDiff, reduceCtorEq, Nat.reduceLeDiff, Int.reduceLE, Int.reduceLT, Int.reduceToNat, -put, -ldL, hn, g0, g2, g3, hlt2]
      rw [WB_regionD [0, 1, 2, 3, 4, 5, 6, 7, 8, 9, 10, 11, 12, 13, 14, 15] 57894719459764238329548227498075550650561006036747800846190911987956708278272 (by kernel_rfl)]
      repeat (first | ((with_reducible refine WDM_cons ?_; simp only [dw1]; try simp only [dw2, Nat.reduceAdd, Nat.reduceMul, Nat.reduceShiftRight, Nat.reduceMod, Nat.reduceEqDiff]); simp only [corem, WB_cond_s, put, ldL, WB_label, List.nil_append, List.drop_zero, List.take_zero, Nat.reduceAdd, Nat.reduceSub, Nat.reduceMul, Nat.reduceLT, Nat.reduceEqDiff, reduceCtorEq, Nat.reduceLeDiff, Int.reduceLE, Int.reduceLT, Int.reduceToNat, cored, -put, -ldL, hn, g0, g2, g3, qs1, qs2, qs3, qs4, hin', hjn, LW, hLj, hLi, W1, lp, hp1, hp2, hws, hwj]) | simp only [corem, WB_cond_s, put, ldL, WB_label, List.nil_append, List.drop_zero, List.take_zero, Nat.reduceAdd, Nat.reduceSub, Nat.reduceMul, Nat.reduceLT, Nat.reduceEqDiff, reduceCtorEq, Nat.reduceLeDiff, Int.reduceLE, Int.reduceLT, Int.reduceToNat, cored, -put, -ldL, hn, g0, g2, g3, qs1, qs2, qs3, qs4, hin', hjn, LW, hLj, hLi, W1, lp, hp1, hp2, hws, hwj])
      refine ih (i + 1) _ _ ⟨(L.set i (L.getD j 0)).set j (L.getD i 0), at_put_same _ (by rw [n_put]; exact lp), by simp [hL], fun k hkn => ?_, by rw [n_put, n_put]; exact hhn, fun b hb => by rw [at_put_ne _ (Ne.symm hb), at_put_ne _ (Ne.symm hb)]; exact hkp b hb, by omega, ?_⟩ (by omega)
      · rw [getD_set (by rw [List.length_set]; omega), getD_set (by omega)]
        have q1 := hk i hin'
        have q2 := hk j hjn
        have q3 := hk k hkn
        rw [if_neg (by omega)] at q1 q2
        by_cases c1 : k = j
        · subst c1
          rw [if_pos rfl, if_pos (by omega), q1]
          congr 1
          omega
        · rw [if_neg c1]
          by_cases c2 : k = i
          · subst c2
            rw [if_pos rfl, if_pos (by omega), q2]
            congr 1
            omega
          · rw [if_neg c2, q3]
            by_cases c3 : k < i ∨ n < k + i + 1
            · rw [if_pos c3, if_pos (by omega)]
            · rw [if_neg c3, if_neg (by omega)]
      · simp only [core, Nat.reduceAdd, Nat.reduceSub, Nat.reduceMul, Nat.reduceLT, Nat.reduceEqDiff, reduceCtorEq, Nat.reduceLeDiff, Int.reduceLE, Int.reduceLT, Int.reduceToNat, hn, g0, g2, g3]
    · have hlt2 : ((i : Int) < (n : Int) - 1 - (i : Int)) = False := by simp only [eq_iff_iff, iff_false]; exact hlt
      simp only [core, Nat.reduceAdd, Nat.reduceSub, Nat.reduceMul, Nat.reduceLT, Nat.reduceEqDiff, reduceCtorEq, Nat.reduceLeDiff, Int.reduceLE, Int.reduceLT, Int.reduceToNat, hn, g0, g2, g3, hlt2]
      refine ⟨Or.inl trivial, ?_, hhn, hkp⟩
      rw [W1]
      congr 3
      refine List.ext_getElem (by rw [List.length_reverse]; omega) fun k h1 h2 => ?_
      have q := hk k (by omega)
      rw [List.getElem_reverse]
      rw [List.getD_eq_getElem?_getD, List.getElem?_eq_getElem h1] at q
      simp only [Option.getD_some] at q
      rw [q]
      have hx : xs.getD (n - 1 - k) 0 = xs[xs.length - 1 - k]'(by omega) := by
        rw [show n - 1 - k = xs.length - 1 - k by omega, List.getD_eq_getElem?_getD, List.getElem?_eq_getElem (by omega)]
        rfl
      split
      · exact hx
      · rw [← hx]
        congr 1
        omega
  · refine ⟨xs, hat, hn.symm, fun k hk => ?_, rfl, fun _ _ => rfl, Nat.zero_le _, ?_⟩
    · rw [if_neg (by omega)]
    · simp only [core, Nat.reduceAdd, Nat.reduceSub, Nat.reduceMul, Nat.reduceLT, Nat.reduceEqDiff, reduceCtorEq, Nat.reduceLeDiff, Int.reduceLE, Int.reduceLT, Int.reduceToNat]
      (repeat' apply And.intro) <;> first | rfl | trivial
end Go.Proofs.Ytkgbeihcepociaa.Ex
end

section

set_option linter.unusedSimpArgs false
set_option linter.unusedVariables false
set_option maxRecDepth 10000
set_option maxHeartbeats 4000000
namespace Go.Proofs.Ytkgbeihcepociaa.Ex
open Go
theorem good_bkt {m : MapD} (hg : goodF m = true) {id : Int} {b : BktD} (hb : bucketF m id = some b) :
    b ∈ m.buckets ∧ b.id = id ∧ 1 ≤ b.kind ∧ b.kind ≤ 3 ∧ b.id < 0 ∧ b.items.length = b.weights.length ∧ (∀ i, i < b.items.length → 0 ≤ kindF m (b.items.getD i 0) ∧ kindF m (b.items.getD i 0) < b.kind) ∧ ∀ i, i < b.weights.length → wOk (b.weights.getD i 0) = true := by
  have hm := List.mem_of_find?_eq_some hb
  have hid := List.find?_some hb
  obtain ⟨j, hj, hjb⟩ := List.mem_iff_getElem.1 hm
  have hx : m.buckets[j]? = some b := by rw [List.getElem?_eq_getElem hj, hjb]
  unfold goodF at hg
  simp only [Bool.and_eq_true] at hg
  have := List.all_eq_true.1 hg.2 j (List.mem_range.2 hj)
  rw [getD_of hx] at this
  unfold bOk hdOk at this
  simp only [Bool.and_eq_true, decide_eq_true_eq, beq_iff_eq] at this
  obtain ⟨⟨⟨⟨⟨⟨a1, a2⟩, a3⟩, a4⟩, a5⟩, a6⟩, a7⟩ := this
  refine ⟨hm, by simpa using hid, a3, a4, a2, a5, fun i hi => ?_, fun i hi => ?_⟩
  · have := List.all_eq_true.1 a7 i (List.mem_range.2 hi)
    unfold itemOk at this
    simp only [Bool.and_eq_true, decide_eq_true_eq] at this
    exact this.1
  · exact List.all_eq_true.1 a6 _ (List.mem_of_getElem? (getD_some' 0 hi))
theorem kind_bkt {m : MapD} {id : Int} (hid : id < 0) {b : BktD} (hb : bucketF m id = some b) : kindF m id = b.kind := by
  unfold kindF bucketG
  rw [if_neg (by omega), hb]
  rfl
def downF (m : MapD) (k x r : Int) : Nat → Int → Option Int
  | 0, _ => none
  | n + 1, at' => match bucketF m at' with
    | none => none
    | some b => match chooseF b.items b.weights x r with
      | none => none
      | some i => if 0 ≤ b.items.getD i 0 ∨ kindF m (b.items.getD i 0) = k then some (b.items.getD i 0) else downF m k x r n (b.items.getD i 0)
end Go.Proofs.Ytkgbeihcepociaa.Ex
end

section

set_option linter.unusedSimpArgs false
set_option linter.unusedVariables false
set_option maxRecDepth 10000
set_option maxHeartbeats 4000000
namespace Go.Proofs.Ytkgbeihcepociaa.Ex
open Go
/-- One try: the osd, and the bucket that it is to have alone. -/
def tryR (m : MapD) (x root : Int) (s : List Int × List Int) (r : Int) : Option (Int × Int) := match downF m m.leaf x r 4 root with
  | none => none
  | some d => if s.2.contains d then none else match (if d < 0 then downF m 0 x r 4 d else some d) with
    | none => none
    | some o => if !mayF m o x || s.1.contains o then none else some (o, d)
def firstR (m : MapD) (x root : Int) (s : List Int × List Int) (k : Nat) : Nat → Option (Int × Int)
  | 0 => none
  | t + 1 => match firstR m x root s k t with
    | some y => some y
    | none => tryR m x root s ((k + t : Nat) : Int)
def copyR (m : MapD) (x root : Int) (s : List Int × List Int) (k : Nat) : List Int × List Int := match firstR m x root s k 50 with
  | some (o, d) => (s.1 ++ [o], s.2 ++ [d])
  | none => s
def selN (m : MapD) (x root : Int) : Nat → List Int × List Int
  | 0 => ([], [])
  | k + 1 => copyR m x root (selN m x root k) k
def cntF (n : Int) : Nat := if 8 < n then 8 else n.toNat
def selectF (m : MapD) (x n : Int) : List Int := if goodF m then (match rootsR m with
  | [] => []
  | root :: _ => (selN m x root (cntF n)).1) else []
theorem selN_len (m : MapD) (x root : Int) : ∀ k, (selN m x root k).1.length ≤ k ∧ (selN m x root k).2.length ≤ k
  | 0 => ⟨Nat.le_refl 0, Nat.le_refl 0⟩
  | k + 1 => by
    obtain ⟨h1, h2⟩ := selN_len m x root k
    unfold selN copyR
    split
    · simp; omega
    · omega
theorem firstR_le {m : MapD} {x root : Int} {s : List Int × List Int} {k i : Nat} {y : Int × Int} (h : firstR m x root s k i = some y) : ∀ j, i ≤ j → firstR m x root s k j = some y
  | 0, hj => by
    have : i = 0 := by omega
    subst this
    exact h
  | j + 1, hj => by
    by_cases hi : i = j + 1
    · subst hi; exact h
    · rw [firstR, firstR_le h j (by omega)]
theorem firstR_zero {m : MapD} {x root : Int} {s : List Int × List Int} {k : Nat} : firstR m x root s k 0 = none := rfl
theorem firstR_next {m : MapD} {x root : Int} {s : List Int × List Int} {k t : Nat} (h : firstR m x root s k t = none) : firstR m x root s k (t + 1) = tryR m x root s ((k + t : Nat) : Int) := by
  rw [firstR, h]
attribute [irreducible] firstR
theorem down_i64 {F : Nat → Prop} {H : AH} {m : MapD} {vo vp vb : AV} {k x r : Int} (hm : MpAt F H m vo vp vb) : ∀ n a d, downF m k x r n a = some d → I64 d
  | 0, a, d, h => by cases h
  | n + 1, a, d, h => by
    unfold downF at h
    cases hb : bucketF m a with
    | none => rw [hb] at h; cases h
    | some b =>
    rw [hb] at h
    simp only at h
    cases hc : chooseF b.items b.weights x r with
    | none => rw [hc] at h; cases h
    | some i =>
    rw [hc] at h
    simp only at h
    split at h
    · cases h
      have hbm := List.mem_of_find?_eq_some hb
      obtain ⟨j, hj, hjb⟩ := List.mem_iff_getElem.1 hbm
      have hx : m.buckets[j]? = some b := by rw [List.getElem?_eq_getElem hj, hjb]
      obtain ⟨c, hc', _⟩ := hm.b.atE (T := tabOf Try.prog NT0) (Ext.refl _ _) (z := 4) rfl hx
      obtain ⟨va, vw, rfl, hi1, _⟩ := RBkt_is.1 hc'
      refine hi1.i64 i ?_
      have hq := chN_le b.items b.weights x r b.items.length
      unfold chooseF at hc
      split at hc
      · split at hc
        · have hc := Option.some.inj hc
          omega
        · cases hc
      · cases hc
    · exact down_i64 hm n _ d h
/-- Two own slices lie in two blocks. -/
def Disj (u v : AV) : Prop := ∀ b o n c o' n' c', u = .sl b o n c → v = .sl b o' n' c' → False
theorem Disj.nil_l {v : AV} : Disj (.lit (.slice none 0 0)) v := fun _ _ _ _ _ _ _ h _ => by cases h
theorem Disj.symm {u v : AV} (h : Disj u v) : Disj v u := fun b o n c o' n' c' h1 h2 => h b o' n' c' o n c h2 h1
theorem Disj.apart {u v : AV} (h : Disj u v) {b o n : Nat} {c : Cap} (hv : v = .sl b o n c) : Apart u b := fun o' n' c' hu => h b o' n' c' o n c hu hv
theorem OwnL.other {α : Type} {R : Rep α} {n0 : Nat} {h h' : AH} {u v s : AV} {e : TypeId} {xs : List α} (ho : OwnL R (fun _ => False) n0 h v e xs) (hd : Disj u v) (hk : ∀ b, b < h.n → Apart u b → h'.at b = h.at b ∧ Apart s b) : OwnL R (fun _ => False) n0 h' v e xs ∧ Disj s v := by
  have key : ∀ b off n cap, v = .sl b off n cap → b < h.n := fun b off n cap hv => by
    obtain ⟨L, h1, h2⟩ := ho
    rcases h1.2 with ⟨hh, _⟩ | ⟨p, hh, hp, hat⟩
    · rw [hh] at hv; cases hv
    · rw [hh] at hv; cases hv; exact at_lt hat
  refine ⟨ho.lift (fun b off n cap hv => (hk b (key _ _ _ _ hv) (hd.apart hv)).1) (fun b hb => hb.elim), fun b o n c o' n' c' hs hv => ?_⟩
  exact (hk b (key _ _ _ _ hv) (hd.apart hv)).2 _ _ _ hs
end Go.Proofs.Ytkgbeihcepociaa.Ex
end

section

set_option linter.unusedSimpArgs false
set_option linter.unusedVariables false
set_option maxRecDepth 10000
set_option maxHeartbeats 4000000
namespace Go.Proofs.Ytkgbeihcepociaa.Ex
open Go
def parentF (m : MapD) (item : Int) : Option BktD := m.buckets.find? (fun b => b.items.contains item)
def parentG (m : MapD) (item : Int) : BktD := (parentF m item).getD bkt0
theorem parent_x {F : Nat → Prop} {H : AH} {m : MapD} {vo vp vb : AV} (item : Int) (hm : MpAt F H m vo vp vb) (hl : Sm 64 m.buckets) (hbs : ∀ b ∈ m.buckets, Sm 8 b.items ∧ Sm 8 b.weights) :
    WC Try.prog (tabOf Try.prog NT0) S0 162 [mpV m vo vp vb, .lit (.int .i64 item)] H fun r h' => Ext H.n H h' ∧ ∃ va vw, r = .tup [bktV (parentG m item) va vw, .lit (.bool (parentF m item).isSome)] ∧ IsSl RInt F h' va (parentG m item).items ∧ IsSl RInt F h' vw (parentG m item).weights := by
  refine WC_fn Try.func162 rfl rfl ?_
  unfold Sm at hl
  have s1 := hm.b.isSl
  have s2 := hm.b.lenD
  have o1 := hm.o.one
  have o2 := hm.p.one
  have o3 := hm.b.one
  simp only [core, Nat.reduceAdd, Nat.reduceSub, Nat.reduceMul, Nat.reduceLT, Nat.reduceEqDiff, reduceCtorEq, Nat.reduceLeDiff, Int.reduceLE, Int.reduceLT, Int.reduceToNat, Try.ntmps162, mpV, s1, s2, o1, o2, o3]
  obtain ⟨h2, hh2⟩ : ∃ h2, h2 = (H.push (.cells [.lit (.int .i64 m.epoch), vo, vp, vb, .lit (.int .i64 m.leaf)] 31)).push (.cells [.lit (.int .i64 0), .lit (.int .i64 0), .lit (.slice none 0 0), .lit (.slice none 0 0)] 92) := ⟨_, rfl⟩
  have E0 : Ext H.n H h2 := hh2 ▸ ((Ext.refl _ _).push _ (Nat.le_refl _)).push _ (by rw [n_push]; omega)
  have A0 : h2.at (H.n + 1) = some (.cells [.lit (.int .i64 0), .lit (.int .i64 0), .lit (.slice none 0 0), .lit (.slice none 0 0)] 92) := hh2 ▸ at_push_n _ _
  have n2 : h2.n = H.n + 2 := by rw [hh2, n_push, n_push]
  rw [← hh2]
  clear hh2
  refine WB_for m.buckets.length (fun i t h => Ext h2.n h2 h ∧ parentF m item = (m.buckets.drop i).find? (fun b => b.items.contains item) ∧ t.n = 22 ∧ t.get 1 = .lit (.int .i64 item) ∧ t.get 4 = .ptr (H.n + 1) 0 ∧ t.get 9 = vb ∧ t.get 10 = .lit (.int .i64 m.buckets.length) ∧ t.get 11 = .lit (.int .i64 i)) ?_ ?_ _ _ ?_
  · rintro i t h hlt hc ⟨he, hf, hn, g1, g4, g9, g10, g11⟩ ih
    obtain ⟨x, hx⟩ : ∃ x, m.buckets[i]? = some x := ⟨_, List.getElem?_eq_getElem hlt⟩
    have E1 : Ext H.n H h := E0.trans (he.mono (by omega))
    obtain ⟨c, hc1, hld, hld0⟩ := hm.b.atE (T := tabOf Try.prog NT0) E1 RBkt_z hx
    obtain ⟨va, vw, rfl, ha, hw, i1, i2⟩ := RBkt_is.1 hc1
    have a1 := ha.one
    have w1 := hw.one
    have hws := wrap_succ hlt (by omega)
    rw [find_drop hx] at hf
    have A1 : h.at (H.n + 1) = some (.cells [.lit (.int .i64 0), .lit (.int .i64 0), .lit (.slice none 0 0), .lit (.slice none 0 0)] 92) := (he.2 _ (by omega)).trans A0
    have l1 : H.n + 1 < h.n := at_lt A1
    obtain ⟨k1, k2⟩ := hbs x (List.mem_of_getElem? hx)
    unfold Sm at k1
    simp only [core, Nat.reduceAdd, Nat.reduceSub, Nat.reduceMul, Nat.reduceLT, Nat.reduceEqDiff, reduceCtorEq, Nat.reduceLeDiff, Int.reduceLE, Int.reduceLT, Int.reduceToNat, s1, s2, hn, g1, g4, g9, g10, g11, hlt, hc, hld, hld0, hws, a1, w1]
    have EQ : ∀ y, Ext H.n H (h.push y) := fun y => E1.push _ E1.1
    refine (contains_x item (ha.ext (EQ _) (Nat.le_refl _)) (by omega)).mono ?_
    rintro _ h9 ⟨rfl, rfl⟩
    simp only [core, Nat.reduceAdd, Nat.reduceSub, Nat.reduceMul, Nat.reduceLT, Nat.reduceEqDiff, reduceCtorEq, Nat.reduceLeDiff, Int.reduceLE, Int.reduceLT, Int.reduceToNat, s1, s2, hn, g1, g4, g9, g10, g11, hlt, hc, hld, hld0, hws, a1, w1]
    refine ⟨fun hq => ?_, fun hq => ?_⟩
    · rw [if_pos hq] at hf
      have hG : parentG m item = x := by unfold parentG; rw [hf]; rfl
      simp only [core, Nat.reduceAdd, Nat.reduceSub, Nat.reduceMul, Nat.reduceLT, Nat.reduceEqDiff, reduceCtorEq, Nat.reduceLeDiff, Int.reduceLE, Int.reduceLT, Int.reduceToNat, hn, g1, g4, g9, g10, g11, a1, w1, A1, l1]
      have EF : Ext H.n H ((h.put (H.n + 1) (.cells [.lit (.int .i64 x.id), .lit (.int .i64 x.kind), va, vw] 92)).push (.cells [.lit (.int .i64 x.id), .lit (.int .i64 x.kind), va, vw] 92)) := (E1.put _ (by omega)).push _ (by rw [n_put]; omega)
      rw [hG, hf]
      exact ⟨EF, va, vw, rfl, ha.ext EF (Nat.le_refl _), hw.ext EF (Nat.le_refl _)⟩
    · rw [if_neg (by rw [hq]; decide)] at hf
      refine ih _ _ ⟨he.push _ he.1, hf, ?_⟩
      simp only [core, Nat.reduceAdd, Nat.reduceSub, Nat.reduceMul, Nat.reduceLT, Nat.reduceEqDiff, reduceCtorEq, Nat.reduceLeDiff, Int.reduceLE, Int.reduceLT, Int.reduceToNat, hn, g1, g4, g9, g10, g11]
  · rintro t h hc ⟨he, hf, hn, g1, g4, g9, g10, g11⟩
    have A1 : h.at (H.n + 1) = some (.cells [.lit (.int .i64 0), .lit (.int .i64 0), .lit (.slice none 0 0), .lit (.slice none 0 0)] 92) := (he.2 _ (by omega)).trans A0
    have l1 : H.n + 1 < h.n := at_lt A1
    have E1 : Ext H.n H h := E0.trans (he.mono (by omega))
    have hf : parentF m item = none := by rw [hf, List.drop_length]; rfl
    have hG : parentG m item = bkt0 := by unfold parentG; rw [hf]; rfl
    simp only [core, Nat.reduceAdd, Nat.reduceSub, Nat.reduceMul, Nat.reduceLT, Nat.reduceEqDiff, reduceCtorEq, Nat.reduceLeDiff, Int.reduceLE, Int.reduceLT, Int.reduceToNat, s1, s2, hn, g1, g4, g9, g10, g11, hc, A1, l1, bdM, fillA]
    rw [hG, hf]
    exact ⟨E1.put _ (by omega), _, _, rfl, IsSl.nil, IsSl.nil⟩
  · simp only [core, Nat.reduceAdd, Nat.reduceSub, Nat.reduceMul, Nat.reduceLT, Nat.reduceEqDiff, reduceCtorEq, Nat.reduceLeDiff, Int.reduceLE, Int.reduceLT, Int.reduceToNat]
    refine ⟨Ext.refl _ _, rfl, ?_⟩
    (repeat' apply And.intro) <;> first | rfl | trivial
end Go.Proofs.Ytkgbeihcepociaa.Ex
end

section

set_option linter.unusedSimpArgs false
set_option linter.unusedVariables false
set_option maxRecDepth 10000
set_option maxHeartbeats 4000000
namespace Go.Proofs.Ytkgbeihcepociaa.Ex
open Go
def fitF (m : MapD) (b : BktD) (id : Int) : Bool := if 0 ≤ id then decide (id < 8) else (bucketF m id).isSome && decide ((bucketG m id).kind < b.kind)
theorem may_x {F : Nat → Prop} {H : AH} {m : MapD} {vo vp vb va vw : AV} {b : BktD} (id : Int) (hm : MpAt F H m vo vp vb) (hl : Sm 64 m.buckets) (hbs : ∀ b ∈ m.buckets, Sm 8 b.items ∧ Sm 8 b.weights) (hva : va.one = true) (hvw : vw.one = true) :
    WC Try.prog (tabOf Try.prog NT0) S0 173 [mpV m vo vp vb, bktV b va vw, .lit (.int .i64 id)] H fun r h' => Ext H.n H h' ∧ r = .lit (.bool (fitF m b id)) := by
  refine WC_fn Try.func173 rfl rfl ?_
  have o1 := hm.o.one
  have o2 := hm.p.one
  have o3 := hm.b.one
  simp only [core, Nat.reduceAdd, Nat.reduceSub, Nat.reduceMul, Nat.reduceLT, Nat.reduceEqDiff, reduceCtorEq, Nat.reduceLeDiff, Int.reduceLE, Int.reduceLT, Int.reduceToNat, Try.ntmps173, mpV, bktV, o1, o2, o3, hva, hvw]
  obtain ⟨h1, hh1⟩ : ∃ h1, h1 = (H.push (.cells [.lit (.int .i64 m.epoch), vo, vp, vb, .lit (.int .i64 m.leaf)] 31)).push (.cells [.lit (.int .i64 b.id), .lit (.int .i64 b.kind), va, vw] 92) := ⟨_, rfl⟩
  have E1 : Ext H.n H h1 := hh1 ▸ ((Ext.refl _ _).push _ (Nat.le_refl _)).push _ (by rw [n_push]; omega)
  have n1 : h1.n = H.n + 2 := by rw [hh1, n_push, n_push]
  have A1 : h1.at (H.n + 1) = some (.cells [.lit (.int .i64 b.id), .lit (.int .i64 b.kind), va, vw] 92) := by
    rw [hh1]
    have := at_push_n (H.push (.cells [.lit (.int .i64 m.epoch), vo, vp, vb, .lit (.int .i64 m.leaf)] 31)) (.cells [.lit (.int .i64 b.id), .lit (.int .i64 b.kind), va, vw] 92)
    rw [n_push] at this
    exact this
  try rw [← hh1]
  clear hh1
  by_cases h0 : 0 ≤ id
  · simp only [core, Nat.reduceAdd, Nat.reduceSub, Nat.reduceMul, Nat.reduceLT, Nat.reduceEqDiff, reduceCtorEq, Nat.reduceLeDiff, Int.reduceLE, Int.reduceLT, Int.reduceToNat, h0]
    refine ⟨E1, ?_⟩
    unfold fitF
    rw [if_pos h0]
  · simp only [core, Nat.reduceAdd, Nat.reduceSub, Nat.reduceMul, Nat.reduceLT, Nat.reduceEqDiff, reduceCtorEq, Nat.reduceLeDiff, Int.reduceLE, Int.reduceLT, Int.reduceToNat, h0]
    refine (bucket_x id (hm.ext E1 (Nat.le_refl _)) hl hbs).mono ?_
    rintro _ h2 ⟨e2, v1, v2, rfl, b1, b2⟩
    have o4 := b1.one
    have o5 := b2.one
    have E2 := E1.step e2
    have A2 := (e2.2 _ (by omega)).trans A1
    have l2 := at_lt A2
    have LA2 := ld_at (T := tabOf Try.prog NT0) A2
    simp only [core, Nat.reduceAdd, Nat.reduceSub, Nat.reduceMul, Nat.reduceLT, Nat.reduceEqDiff, reduceCtorEq, Nat.reduceLeDiff, Int.reduceLE, Int.reduceLT, Int.reduceToNat, bktV, o4, o5, A2, l2, LA2]
    obtain ⟨h3, hh3⟩ : ∃ h3, h3 = h2.push (.cells [.lit (.int .i64 (bucketG m id).id), .lit (.int .i64 (bucketG m id).kind), v1, v2] 92) := ⟨_, rfl⟩
    have e3 : Ext h2.n h2 h3 := hh3 ▸ (Ext.refl _ _).push _ (Nat.le_refl _)
    have B3 : h3.at h2.n = some (.cells [.lit (.int .i64 (bucketG m id).id), .lit (.int .i64 (bucketG m id).kind), v1, v2] 92) := hh3 ▸ at_push_n _ _
    rw [← hh3]
    clear hh3
    have E3 := E2.step e3
    have A3 := (e3.2 _ l2).trans A2
    have l3 := at_lt A3
    have LA3 := ld_at (T := tabOf Try.prog NT0) A3
    have LB3 := ld_at (T := tabOf Try.prog NT0) B3
    have b3 := at_lt B3
    cases hb : (bucketF m id).isSome with
    | false =>
      simp only [core, Nat.reduceAdd, Nat.reduceSub, Nat.reduceMul, Nat.reduceLT, Nat.reduceEqDiff, reduceCtorEq, Nat.reduceLeDiff, Int.reduceLE, Int.reduceLT, Int.reduceToNat]
      refine ⟨E3, ?_⟩
      unfold fitF
      rw [if_neg h0, hb]
      rfl
    | true =>
      simp only [core, Nat.reduceAdd, Nat.reduceSub, Nat.reduceMul, Nat.reduceLT, Nat.reduceEqDiff, reduceCtorEq, Nat.reduceLeDiff, Int.reduceLE, Int.reduceLT, Int.reduceToNat, LA3, LB3, l3, b3]
      refine ⟨E3, ?_⟩
      unfold fitF
      rw [if_neg h0, hb]
      rfl
end Go.Proofs.Ytkgbeihcepociaa.Ex
end

section

set_option linter.unusedSimpArgs false
set_option linter.unusedVariables false
set_option maxRecDepth 10000
set_option maxHeartbeats 4000000
namespace Go.Proofs.Ytkgbeihcepociaa.Ex
open Go
/-- A map whose keys are these, each with 1. -/
def Ones (es : List AE) (ks : List Int) : Prop := es.map (fun e => (e.key, e.val)) = ks.map (fun k => (.int .i64 k, .lit (.int .i64 1)))
theorem findA_int (d : Int) : ∀ (ks : List Int) (es : List AE) (i : Nat), Ones es ks → (d ∉ ks → findA (.int .i64) (.int .i64 d) es i = some none) ∧ (d ∈ ks → ∃ j, j < es.length ∧ findA (.int .i64) (.int .i64 d) es i = some (some (i + j, .lit (.int .i64 1))) ∧ ∀ x, findA (.int .i64) (.int .i64 d) (es.modify j fun e => { e with key := .int .i64 d, val := x }) i = some (some (i + j, x)))
  | [], es, i, h => by
    have : es = [] := by unfold Ones at h; simpa using h
    subst this
    exact ⟨fun _ => rfl, fun h => by cases h⟩
  | k :: ks, es, i, h => by
    cases es with
    | nil => unfold Ones at h; simp at h
    | cons e es =>
    unfold Ones at h
    simp only [List.map_cons, List.cons.injEq, Prod.mk.injEq] at h
    obtain ⟨⟨h1, h2⟩, h3⟩ := h
    obtain ⟨r1, r2⟩ := findA_int d ks es (i + 1) h3
    have hs : Instr.sameNow (.int .i64) (.int .i64 d) e.key = some (d == k) := by rw [h1]; rfl
    have hd : Instr.sameNow (.int .i64) (.int .i64 d) (.int .i64 d) = some (d == d) := rfl
    by_cases hk : d = k
    · subst hk
      refine ⟨fun hn => absurd (List.mem_cons_self ..) hn, fun _ => ⟨0, by simp, ?_, fun x => ?_⟩⟩
      · unfold findA
        rw [hs, beq_self_eq_true, h2]
        rfl
      · simp only [List.modify_zero_cons]
        unfold findA
        simp only [hd, beq_self_eq_true]
        rfl
    · have hkb : (d == k) = false := by simpa using hk
      refine ⟨fun hn => ?_, fun hm => ?_⟩
      · unfold findA
        rw [hs, hkb]
        exact r1 (fun hh => hn (List.mem_cons_of_mem _ hh))
      · obtain ⟨j, hj, q1, q2⟩ := r2 (by rcases List.mem_cons.1 hm with h | h; exact absurd h hk; exact h)
        refine ⟨j + 1, by simpa using hj, ?_, fun x => ?_⟩
        · unfold findA
          rw [hs, hkb]
          simp only
          rw [q1]
          congr 3
          omega
        · rw [List.modify_succ_cons]
          unfold findA
          rw [hs, hkb]
          simp only
          rw [q2 x]
          congr 3
          omega
theorem Ones.snoc {es : List AE} {ks : List Int} {k : Int} {c : Nat} (h : Ones es ks) : Ones (es ++ [{ key := .int .i64 k, val := .lit (.int .i64 1), born := c }]) (ks ++ [k]) := by
  unfold Ones at *
  rw [List.map_append, List.map_append, h]
  rfl
section
variable {P : Program} {T : TT} {t : TM} {h : AH} {d : Option Tmp} {ty e : TypeId} {ps : String} {af : Array Edge} {g : Option (Nat × Bool)}
theorem a_mkm : aop P T ⟨d, .makeMap e none, ty, ps, af, g⟩ t h = some (.val (.mp h.n), h.push (.map [] 0)) := rfl
theorem a_look {m k : Operand} {ok : Bool} : aop P T ⟨d, .lookup e m k ok, ty, ps, af, g⟩ t h = aLookup T t h e m k ok := rfl
theorem a_mupd {m k x : Operand} : aop P T ⟨d, .mapUpdate e m k x, ty, ps, af, g⟩ t h = aUpdate T t h e m k x := rfl
end
section
variable {T : TT} {t kt et : TypeId} {h : AH} {b : Nat} {es : List AE} {c : Nat} {ks : List Int} {d : Int}
theorem findT_int (hu : und T t = some (.map kt et)) (hi : und T kt = some (.int .i64)) : findT T t (.int .i64 d) es = findA (.int .i64) (.int .i64 d) es 0 := by
  unfold findT
  rw [hu]
  simp only
  unfold und at hi
  cases hT : T kt with
  | none => rw [hT] at hi; cases hi
  | some i =>
    rw [hT] at hi
    simp only [Option.map_some, Option.some.injEq] at hi
    simp only [hi]
    rfl
theorem look_new (hu : und T t = some (.map kt et)) (hi : und T kt = some (.int .i64)) (hz : zeroT T et = some (.lit (.int .i64 0))) (hb : h.at b = some (.map es c)) (ho : Ones es ks) (hd : d ∉ ks) :
    lookupA T h t (.mp b) (.lit (.int .i64 d)) false = some (.lit (.int .i64 0)) := by
  unfold lookupA
  simp only [keyOf, entsA, hb, elemT, hu, findT_int hu hi, (findA_int d ks es 0 ho).1 hd, hz]
  rfl
theorem look_old (hu : und T t = some (.map kt et)) (hi : und T kt = some (.int .i64)) (hz : zeroT T et = some (.lit (.int .i64 0))) (hb : h.at b = some (.map es c)) (ho : Ones es ks) (hd : d ∈ ks) :
    lookupA T h t (.mp b) (.lit (.int .i64 d)) false = some (.lit (.int .i64 1)) := by
  obtain ⟨j, hj, q1, q2⟩ := (findA_int d ks es 0 ho).2 hd
  unfold lookupA
  simp only [keyOf, entsA, hb, elemT, hu, findT_int hu hi, q1, hz]
  rfl
theorem upd_new {x : AV} (hu : und T t = some (.map kt et)) (hi : und T kt = some (.int .i64)) (hb : h.at b = some (.map es c)) (ho : Ones es ks) (hd : d ∉ ks) :
    updateA T h t (.mp b) (.lit (.int .i64 d)) x = some (h.put b (.map (es ++ [{ key := .int .i64 d, val := x, born := c }]) (c + 1))) := by
  unfold updateA
  simp only [keyOf, hb, findT_int hu hi, (findA_int d ks es 0 ho).1 hd]
theorem upd_old {x : AV} (hu : und T t = some (.map kt et)) (hi : und T kt = some (.int .i64)) (hz : zeroT T et = some (.lit (.int .i64 0))) (hb : h.at b = some (.map es c)) (ho : Ones es ks) (hd : d ∈ ks) :
    ∃ es', updateA T h t (.mp b) (.lit (.int .i64 d)) x = some (h.put b (.map es' c)) ∧ ∀ h', h'.at b = some (.map es' c) → lookupA T h' t (.mp b) (.lit (.int .i64 d)) false = some x := by
  obtain ⟨j, hj, q1, q2⟩ := (findA_int d ks es 0 ho).2 hd
  refine ⟨es.modify (0 + j) fun e => { e with key := .int .i64 d, val := x }, ?_, fun h' hb' => ?_⟩
  · unfold updateA
    simp only [keyOf, hb, findT_int hu hi, q1]
  · unfold lookupA
    rw [Nat.zero_add] at hb'
    simp only [keyOf, entsA, hb', elemT, hu, findT_int hu hi, q2 x, hz]
    rfl
/-- What a new key gives, and the next look. -/
theorem look_put {cc : Nat} (hu : und T t = some (.map kt et)) (hi : und T kt = some (.int .i64)) (hz : zeroT T et = some (.lit (.int .i64 0))) (ho : Ones es ks) (hb : h.at b = some (.map (es ++ [{ key := .int .i64 d, val := .lit (.int .i64 1), born := c }]) cc)) :
    lookupA T h t (.mp b) (.lit (.int .i64 d)) false = some (.lit (.int .i64 1)) :=
  look_old hu hi hz hb ho.snoc (List.mem_append.2 (.inr (List.mem_cons_self ..)))
end
end Go.Proofs.Ytkgbeihcepociaa.Ex
end
