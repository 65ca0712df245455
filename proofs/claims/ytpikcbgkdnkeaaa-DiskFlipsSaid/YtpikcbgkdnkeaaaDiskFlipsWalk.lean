/- The walk of the law DiskFlips. -/
import Derived.Test.YtpikcbgkdnkeaaaOpen
import Derived.Test.YtpikcbgkdnkeaaaLives03
set_option linter.unusedSimpArgs false
set_option linter.unusedVariables false
namespace Go.Proofs.Ytpikcbgkdnkeaaa
open Go.RowKit Go.ChangeShapes Go.WideShapes Go.ChangeAt
open Go.ChangeMaps (open_string shut_string)

theorem Kept.bel {F : Nat → Prop} {w w' : World} (h : Kept F w w') (hf : ∀ k, F k → w.heap.size ≤ k) : Below w.heap.size w w' := h.below (Nat.le_refl _) hf

set_option maxHeartbeats 1000000 in
theorem flips_core {W : World} {v0 : Value} {bs : List UInt8} {g : Option Nat} (hr : Reads W 1 v0 bs.length (bs.map bv) g) (hg : ∀ k, g = some k → bs ≠ [] → k < W.heap.size) (at_ bit : Int) (ha : 0 ≤ at_) (ha2 : at_ < 18446744073709551616) (hb : 0 ≤ bit) (hb2 : bit < 18446744073709551616)
    (h1 : 0 < bs.length) (h2 : bs.length ≤ 65536) :
    Calls Try.prog 4 #[v0, .int .u64 at_, .int .u64 bit] W fun e w' => e = .returned (.bool true) ∧ Kept (fun _ => False) W w' := by
  obtain ⟨a0, c0, rfl⟩ : ∃ a c, v0 = .slice a bs.length c := by
    obtain ⟨-, ⟨a, c, rfl, hx⟩ | ⟨b, off, c, -, rfl, -⟩⟩ := hr
    · rw [hx]; exact ⟨_, _, rfl⟩
    · exact ⟨_, _, rfl⟩
  have t1 : ((bs.length : Int) == 0) = false := beq_eq_false_iff_ne.2 (by omega)
  have t2 : decide (65536 < (bs.length : Int)) = false := by simp; omega
  have m0 : 0 ≤ at_ % (bs.length : Int) := Int.emod_nonneg _ (by omega)
  have m1 : at_ % (bs.length : Int) < bs.length := Int.emod_lt_of_pos _ (by omega)
  go_enter Try.func4, Try.ntmps4
  go_wp2_with fail
  refine (new_c (by omega) (by omega)).mono ?_
  rintro e w1 ⟨rfl, hd1, hk1⟩
  have hr1 := hr.kept hk1 (fun _ _ h => h)
  go_wp2_with fail
  refine (append_c hd1 hr1 (by simp only [List.length_nil]; omega)).mono ?_
  rintro e w2 ⟨rfl, g2, hd2, hk2, hg2⟩
  simp only [List.nil_append] at hd2
  go_wp2_with fail
  generalize at_ % (bs.length : Int) = k at m0 m1 ⊢
  obtain ⟨n, hn⟩ : ∃ n : Int, n = bit % 8 := ⟨_, rfl⟩
  have n0 : 0 ≤ n := by omega
  have n1 : n ≤ 7 := by omega
  rw [← hn]
  clear hn
  -- Flip
  refine (flip_c hd2 k n (by omega) (by omega) n0 n1).mono ?_
  rintro e w3 ⟨rfl, g3, hd3, hk3, hg3⟩
  rw [Int.sub_zero] at hd3
  obtain ⟨x, hx⟩ : ∃ x, bs[k.toNat]? = some x := ⟨_, List.getElem?_eq_getElem (by omega)⟩
  have hgx : bs.getD k.toNat 0 = x := by rw [List.getD_eq_getElem?_getD, hx]; rfl
  rw [hgx] at hd3
  have HX := Lib.hid hx
  clear hx hgx
  go_wp2_with fail
  -- Read
  refine (read_c hd3 0 bs.length (by omega) (by omega) (by simp)).mono ?_
  rintro e w4 ⟨v4, g4, rfl, hown4, hk4, hg4⟩
  have hpart : part (bs.set k.toNat (flipB x n.toNat)) ((0 : Int) - 0).toNat ((bs.length : Int)).toNat = bs.set k.toNat (flipB x n.toNat) := by
    simp [part, List.take_of_length_le]
  rw [hpart, Int.toNat_natCast] at hown4
  clear hpart
  have hd4 := hd3.kept hk4 (fun _ _ h => h)
  obtain ⟨a4, c4, rfl, -, -⟩ := hown4.shape
  obtain ⟨b4, off4, cur4, rfl, rfl, l1, l2, l3, l4, l5, l6⟩ := hown4.pos h1
  have hb4 : w3.heap.size ≤ b4 := hg4 b4 rfl
  -- the argument's cells
  have s1 := hk1.size
  have s2 := hk2.size
  have s3 := hk3.size
  have s4 := hk4.size
  have G2 : ∀ j, g2 = some j → W.heap.size ≤ j := fun j e => by rcases hg2 j e with e | e; cases e; omega
  have G3 : ∀ j, g3 = some j → W.heap.size ≤ j := fun j e => by have := hg3 j e; omega
  have KW4 : Kept (fun _ => False) W w4 := (((hk1.thn hk2 (fun i hi => .inr (by rcases hi with rfl | e; exact Nat.le_refl _; cases e))).thn hk3 (fun i hi => .inr (by omega)))).trans hk4
  have hr4 := hr.kept KW4 (fun _ _ h => h)
  have hr4' := hr4
  obtain ⟨e0, ⟨aa, cc, ee, hz⟩ | ⟨b0, off0, cc, rfl, ee, q1, q2, q3⟩⟩ := hr4'
  · omega
  simp only [Value.slice.injEq, true_and] at ee
  obtain ⟨rfl, rfl⟩ := ee
  have hb0 : b0 < W.heap.size := hg b0 rfl (by intro e; subst e; simp at h1)
  have d1 : w4.cell? ⟨b0, off0 + k.toNat, none⟩ = some (.int .u8 (x.toNat : Int)) := by
    rw [q3 k.toNat (by simp; omega), List.getElem?_map, HX.out]; rfl
  have d2 : w4.cell? ⟨b4, off4 + k.toNat, none⟩ = some (.int .u8 ((flipB x n.toNat).toNat : Int)) := by
    rw [cell_in l3, l6 k.toNat (by simp; omega), List.getElem?_map, List.getElem?_set, if_pos rfl, if_pos (by omega)]; rfl
  have d3 : w4.frozen? ⟨b4, off4 + k.toNat, none⟩ = false := frozen_in l3
  have d4 : bits BinOp.xor IntKind.u8 (x.toNat : Int) (2 ^ n.toNat % 256) = ((flipB x n.toNat).toNat : Int) := flipB_val x (by omega)
  have e2 : IntKind.u64.wrap n = n := IntWalk.u64_in _ (by omega)
  have e3 : IntKind.u8.wrap (2 ^ n.toNat) = 2 ^ n.toNat % 256 := by simp [IntKind.wrap, IntKind.bits, IntKind.signed]
  have Q6 := Lib.hid l6
  clear l6 q3
  go_wp2_with fail
  go_quiet (fail)
  go_wp2_with fail
  -- x[k] = b[k]
  have K5 : Kept (· = b4) w4 ((w4.drewN nq).setCell ⟨b4, off4 + k.toNat, none⟩ (.int .u8 (x.toNat : Int))) := ((Kept.refl (· = b4) w4).dN nq).st _ (.inl rfl)
  have hne : ∀ j, Fp W.heap.size g3 j → ¬ j = b4 := fun j hj e => by have := hd3.lt j hj; omega
  have hd5 := hd4.kept K5 hne
  have hr5 := hr4.kept K5 (fun j e h => by cases e; omega)
  have KW5 := KW4.thn K5 (fun i hi => .inr (by omega))
  have l3' : (w4.drewN nq).heap[b4]? = some (.cells cur4 5 (0, 0)) := l3
  have hown5 : Own ((w4.drewN nq).setCell ⟨b4, off4 + k.toNat, none⟩ (.int .u8 (x.toNat : Int))) 5 1 (.slice (some ⟨b4, off4, none⟩) bs.length c4) bs.length (bs.map bv) (some b4) := by
    refine ⟨by simp, .inr ⟨b4, off4, c4, _, rfl, rfl, l1, l2, heap_setCell_same l3' _, by simpa using l4, fun j hj => ?_⟩⟩
    simp only [List.length_map] at hj
    rw [Array.getElem?_setIfInBounds]
    by_cases hjk : k.toNat = j
    · subst hjk
      rw [if_pos rfl, if_pos (by omega), List.getElem?_map, HX.out]
      rfl
    · rw [if_neg (by omega), Q6.out j (by simpa using hj), List.getElem?_map, List.getElem?_map, List.getElem?_set, if_neg hjk]
  generalize (w4.drewN nq).setCell ⟨b4, off4 + k.toNat, none⟩ (.int .u8 (x.toNat : Int)) = w5 at K5 hd5 hr5 KW5 hown5 ⊢
  clear d1 d2 d3 d4 e2 e3
  refine (same_c hown5.reads hr5 true (by simp)).mono ?_
  rintro e w5 ⟨rfl, rfl⟩
  go_wp2_with fail
  refine (flip_c hd5 k n (by omega) (by simp; omega) n0 n1).mono ?_
  rintro e w6 ⟨rfl, g6, hd6, hk6, hg6⟩
  have hback : (bs.set k.toNat (flipB x n.toNat)).set (k - 0).toNat (flipB ((bs.set k.toNat (flipB x n.toNat)).getD (k - 0).toNat 0) n.toNat) = bs := by
    have hlt : k.toNat < bs.length := by omega
    rw [Int.sub_zero, List.getD_eq_getElem?_getD, List.getElem?_set, if_pos rfl, if_pos hlt, Option.getD_some, flipB_twice x (by omega), List.set_set]
    refine List.ext_getElem? fun j => ?_
    rw [List.getElem?_set]
    by_cases hj : k.toNat = j
    · rw [if_pos hj, if_pos hlt, ← hj, HX.out]
    · rw [if_neg hj]
  rw [hback] at hd6
  clear hback
  have KW6 := KW5.thn hk6 (fun i hi => .inr (by omega))
  go_wp2_with fail
  refine (flip_no hd6 k 8 (by omega) (by omega) (by omega) (.inr (by omega))).mono ?_
  rintro e w7 ⟨rfl, n7, rfl⟩
  go_wp2_with fail
  refine (flip_no (hd6.drewN _) bs.length 0 (by omega) (by omega) (by omega) (.inl (by omega))).mono ?_
  rintro e w8 ⟨rfl, n8, rfl⟩
  go_wp2_with fail
  have hd8 := hd6.drewN (n7 + n8)
  refine (read_c hd8 0 bs.length (by omega) (by omega) (by omega)).mono ?_
  rintro e w9 ⟨v9, g9, rfl, hown9, hk9, hg9⟩
  have hpart : part bs ((0 : Int) - 0).toNat ((bs.length : Int)).toNat = bs := by simp [part]
  rw [hpart, Int.toNat_natCast] at hown9
  obtain ⟨a9, c9, rfl, -, -⟩ := hown9.shape
  have KW9 := (KW6.dN (n7 + n8)).trans hk9
  have hr9 := hr.kept KW9 (fun _ _ h => h)
  go_wp2_with fail
  refine (same_c hown9.reads hr9 true (by simp)).mono ?_
  rintro e w9 ⟨rfl, rfl⟩
  go_wp2_with fail
  refine lives_c.mono ?_
  rintro e w10 ⟨rfl, hk10⟩
  go_wp2_with fail
  go_ret
  exact ⟨rfl, KW9.trans hk10⟩

set_option maxHeartbeats 1000000 in
theorem flips_short {W : World} {v0 : Value} {bs : List UInt8} {g : Option Nat} (hr : Reads W 1 v0 bs.length (bs.map bv) g) (at_ bit : Int) (h1 : bs.length = 0 ∨ 65536 < bs.length) (hm : bs.length ≤ 140737488351232) :
    Calls Try.prog 4 #[v0, .int .u64 at_, .int .u64 bit] W fun e w' => e = .returned (.bool true) ∧ Kept (fun _ => False) W w' := by
  obtain ⟨a0, c0, rfl⟩ : ∃ a c, v0 = .slice a bs.length c := by
    obtain ⟨-, ⟨a, c, rfl, hx⟩ | ⟨b, off, c, -, rfl, -⟩⟩ := hr
    · rw [hx]; exact ⟨_, _, rfl⟩
    · exact ⟨_, _, rfl⟩
  clear hr
  generalize bs.length = n at h1 hm ⊢
  rcases h1 with rfl | h1
  · go_enter Try.func4, Try.ntmps4
    go_wp2_with (go_at_call 17; refine lives_c.mono ?_; rintro e w10 ⟨rfl, hk10⟩)
    go_ret
    exact ⟨rfl, hk10⟩
  · have t1 : ((n : Int) == 0) = false := beq_eq_false_iff_ne.2 (by omega)
    have t2 : decide (65536 < (n : Int)) = true := by simp; omega
    go_enter Try.func4, Try.ntmps4
    go_wp2_with (go_at_call 17; refine lives_c.mono ?_; rintro e w10 ⟨rfl, hk10⟩)
    go_ret
    exact ⟨rfl, hk10⟩

theorem diskFlips_walk {H : Type} {enc : TypeId × Value → H} {W : World} {base : Nat} {v0 v1 v2 : Value} {d0 d1 d2 : DataW H} {p0 p1 p2 : List MemPlace}
    (k0 : Value.okWide Try.prog W .any base 22 v0) (h0 : DataW.Trod enc Try.prog W 0 (fun _ => true) true 22 v0 d0 p0)
    (k1 : Value.okWide Try.prog W .any base 37 v1) (h1 : DataW.Trod enc Try.prog W 0 (fun _ => true) true 37 v1 d1 p1)
    (k2 : Value.okWide Try.prog W .any base 37 v2) (h2 : DataW.Trod enc Try.prog W 0 (fun _ => true) true 37 v2 d2 p2)
    {ts : List TypeId} {ds : List (DataW H)} (hsz : (DataW.weightsEach Try.prog ([22, 37, 37] ++ ts) ([d0, d1, d2] ++ ds)).all (· ≤ reachBytes) = true) :
    Calls Try.prog 4 #[v0, v1, v2] W fun e w' => e = .returned (.bool true) ∧ Below W.heap.size W w' := by
  obtain ⟨bs, g, hr, hg, hm⟩ := open_bytes Try.underlying22 Try.underlying5 (by kernel_rfl) (by kernel_rfl) k0 h0 hsz (j := 0) rfl rfl
  obtain ⟨x1, rfl, rfl, rfl, wf1⟩ := open_int Try.underlying37 k1 h1
  obtain ⟨x2, rfl, rfl, rfl, wf2⟩ := open_int Try.underlying37 k2 h2
  simp only [Lit.wf, IntKind.min, IntKind.max, IntKind.signed, IntKind.bits] at wf1 wf2
  simp at wf1 wf2
  by_cases hb : 0 < bs.length ∧ bs.length ≤ 65536
  · exact (flips_core hr hg x1 x2 (by omega) (by omega) (by omega) (by omega) hb.1 hb.2).mono fun e w' ⟨he, hk⟩ => ⟨he, hk.bel (fun _ h => h.elim)⟩
  · exact (flips_short hr x1 x2 (by omega) hm).mono fun e w' ⟨he, hk⟩ => ⟨he, hk.bel (fun _ h => h.elim)⟩

end Go.Proofs.Ytpikcbgkdnkeaaa
