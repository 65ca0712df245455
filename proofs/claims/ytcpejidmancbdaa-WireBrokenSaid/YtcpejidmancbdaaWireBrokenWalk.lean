/- The walk of the law WireBroken. -/
import Derived.Test.YtcpejidmancbdaaAwake
import Derived.Test.YtcpejidmancbdaaOpen
set_option linter.unusedSimpArgs false
set_option linter.unusedVariables false
namespace Go.Proofs.Ytcpejidmancbdaa
open Go.RowKit Go.ChangeShapes Go.WideShapes Go.ChangeAt

theorem unfr_eq (n c : Nat) (cs : List UInt8) (hn : n < 4294967296) (hc : c < 4294967296) :
    unfr (leB 4 n ++ leB 4 c ++ cs) = if 524288 < n then ([], 0, 27) else if cs.length < n then ([], 0, 11) else if crcN (cs.take n) ≠ c then ([], 0, 74) else (cs.take n, n + 8, 0) := by
  have l1 := leB_length 4 n
  have l2 := leB_length 4 c
  have e1 : (leB 4 n ++ leB 4 c ++ cs).take 4 = leB 4 n := by rw [List.append_assoc, List.take_append_of_le_length (by omega), List.take_of_length_le (by omega)]
  have e2 : ((leB 4 n ++ leB 4 c ++ cs).drop 4).take 4 = leB 4 c := by
    rw [List.append_assoc, List.drop_left' l1, List.take_append_of_le_length (by omega), List.take_of_length_le (by omega)]
  have e3 : (leB 4 n ++ leB 4 c ++ cs).drop 8 = cs := by
    rw [List.drop_left' (by rw [List.length_append]; omega)]
  rw [unfr, if_neg (by simp only [List.length_append]; omega)]
  simp only [e1, e2, e3, leN_leB]
  rw [Nat.mod_eq_of_lt (by omega : n < 256 ^ 4), Nat.mod_eq_of_lt (by omega : c < 256 ^ 4)]

theorem unfr_short (bs : List UInt8) (j : Nat) (hj : j < bs.length) (hb : bs.length ≤ 524288) : unfr ((frameB bs).take (8 + j)) = ([], 0, 11) := by
  have l1 := leB_length 4 bs.length
  have l2 := leB_length 4 (crcN bs)
  have e : (frameB bs).take (8 + j) = leB 4 bs.length ++ leB 4 (crcN bs) ++ bs.take j := by
    unfold frameB
    rw [List.take_append, List.take_of_length_le (by rw [List.length_append]; omega), List.length_append, l1, l2, show 8 + j - (4 + 4) = j by omega]
  rw [e, unfr_eq _ _ _ (by omega) (crcN_lt bs), if_neg (by omega), if_pos (by rw [List.length_take]; omega)]

theorem unfr_broken (bs : List UInt8) (j : Nat) (y : UInt8) (hj : j < bs.length) (hb : bs.length ≤ 524288) (hy : y ≠ bs[j]) : unfr ((frameB bs).set (8 + j) y) = ([], 0, 74) := by
  have l1 := leB_length 4 bs.length
  have l2 := leB_length 4 (crcN bs)
  have e : (frameB bs).set (8 + j) y = leB 4 bs.length ++ leB 4 (crcN bs) ++ bs.set j y := by
    unfold frameB
    rw [List.set_append_right _ _ (by rw [List.length_append]; omega), List.length_append, l1, l2, show 8 + j - (4 + 4) = j by omega]
  rw [e, unfr_eq _ _ _ (by omega) (crcN_lt bs), if_neg (by omega), if_neg (by rw [List.length_set]; omega), if_pos]
  rw [List.take_of_length_le (by rw [List.length_set]; omega)]
  exact crcN_set hj hy

/-- A byte of an owned row is written. -/
theorem Own.set {w : World} {e : TypeId} {n c : Nat} {a : Option Addr} {g : Option Nat} {l : List Value} (h : Own w e 1 (.slice a n c) n l g) {k : Nat} (hk : k < n) (u : Value) :
    ∃ b off, g = some b ∧ a = some ⟨b, off, none⟩ ∧ w.cell? ⟨b, off + k, none⟩ = l[k]? ∧ w.frozen? ⟨b, off + k, none⟩ = false ∧ Own (w.setCell ⟨b, off + k, none⟩ u) e 1 (.slice a n c) n (l.set k u) g := by
  obtain ⟨h0, ⟨rfl, he, rfl⟩ | ⟨b, off, c', cur, rfl, he, h1, h2, h3, h4, h5⟩⟩ := h
  · omega
  · simp only [Value.slice.injEq, true_and] at he
    obtain ⟨rfl, rfl⟩ := he
    refine ⟨b, off, rfl, rfl, (cell_in h3).trans (h5 k (by omega)), frozen_in h3, by simpa using h0, .inr ⟨b, off, c, _, rfl, rfl, h1, h2, heap_setCell_same h3 u, by simpa using h4, fun j hj => ?_⟩⟩
    rw [List.length_set] at hj
    by_cases hjk : j = k
    · subst hjk
      rw [Array.getElem?_setIfInBounds_self_of_lt (by omega), List.getElem?_set_self hj]
    · rw [Array.getElem?_setIfInBounds_ne (by omega), List.getElem?_set_ne (by omega)]
      exact h5 j hj

theorem idx_ex (at_ : Int) (n : Nat) (hn : 0 < n) : ∃ j : Nat, (IntKind.u64.wrap at_).tmod (n : Int) = (j : Int) ∧ j < n := by
  have hw : 0 ≤ IntKind.u64.wrap at_ := by simp only [IntKind.wrap, IntKind.bits, IntKind.signed]; simp; omega
  rw [Int.tmod_eq_emod_of_nonneg hw]
  generalize IntKind.u64.wrap at_ = x at hw
  have h3 := Int.emod_nonneg x (b := (n : Int)) (by omega)
  have h4 := Int.emod_lt_of_pos x (b := (n : Int)) (by omega)
  exact ⟨(x % (n : Int)).toNat, by omega, by omega⟩

set_option maxRecDepth 100000 in
set_option maxHeartbeats 1600000 in
theorem broken_core {w : World} {v : Value} {bs : List UInt8} {g : Option Nat} (hr : Reads w 1 v bs.length (bs.map bv) g) (hgl : ∀ k, g = some k → k < w.heap.size) (at_ : Int) (ha1 : -9223372036854775808 ≤ at_) (ha2 : at_ ≤ 9223372036854775807) (bit : Nat) (hbit : bit < 256) :
    Calls Try.prog 5 #[v, .int .i64 at_, .int .u8 bit] w fun e w' => e = .returned (.bool true) ∧ Kept (fun _ => False) w w' := by
  obtain ⟨i0, hi, hz0, hz1, hz2⟩ := info_all u8info
  obtain ⟨a, cp, rfl, hc⟩ := hr.shape
  by_cases hb0 : bs.length = 0
  · have h1 : ((bs.length : Int) == 0) = true := by simp [hb0]
    go_enter Try.func5, Try.ntmps5
    go_wp2_with (go_at_call 10; refine awake_c.mono ?_; rintro e w9 ⟨rfl, k9⟩)
    go_ret
    exact ⟨rfl, k9⟩
  by_cases hbig : 524288 < bs.length
  · have h1 : ((bs.length : Int) == 0) = false := beq_eq_false_iff_ne.2 (by omega)
    have h2 : (524288 : Int) < (bs.length : Int) := by omega
    go_enter Try.func5, Try.ntmps5
    go_wp2_with (go_at_call 10; refine awake_c.mono ?_; rintro e w9 ⟨rfl, k9⟩)
    go_ret
    exact ⟨rfl, k9⟩
  have h1 : ((bs.length : Int) == 0) = false := beq_eq_false_iff_ne.2 (by omega)
  have h2 : ¬ (524288 : Int) < (bs.length : Int) := by omega
  go_enter Try.func5, Try.ntmps5
  go_wp2_with fail
  refine (frame_c hr hgl (by omega)).mono ?_
  rintro e w1 ⟨⟨vf, rfl, gf, of, hgf⟩, k1⟩
  obtain ⟨F, hF⟩ : ∃ F, F = frameB bs := ⟨_, rfl⟩
  have hFl : F.length = bs.length + 8 := by rw [hF]; simp [frameB, leB_length]; omega
  rw [← hF] at of
  have HF := Lib.hid hF
  clear hF
  obtain ⟨af, cf, rfl, hcf, -⟩ := of.shape
  have hne : ((F.length : Int) != ((bs.length : Int) + 8)) = false := by simp [hFl]
  have HFl := Lib.hid hFl
  have hFs : F.length ≤ 524296 := by omega
  clear hFl
  obtain ⟨j, hj, hjl⟩ := idx_ex at_ bs.length (by omega)
  have HJ := Lib.hid hj
  clear hj
  have hfr : ∀ k, gf = some k → k < w1.heap.size := of.lt
  have hjF : 8 + j < F.length := by have := HFl.out; omega
  have hjFi : (8 + (j : Int)) < (F.length : Int) := by omega
  have hj0 : ¬ (8 + (j : Int)) < 0 := by omega
  obtain ⟨B, hB⟩ : ∃ B : Nat, B = F[8 + j].toNat := ⟨_, rfl⟩
  have hBl : B < 256 := by rw [hB]; exact UInt8.toNat_lt _
  have HB := Lib.hid hB
  clear hB
  have tn : (8 + (j : Int)).toNat = 8 + j := by omega
  have W8 : Hid (wrap64 (8 + (j : Int)) = 8 + (j : Int)) := Lib.hid (by unfold wrap64; omega)
  have WJ : Hid (wrap64 (j : Int) = (j : Int)) := Lib.hid (by unfold wrap64; omega)
  go_wp2_with (first
    | (at_builtin; refine wpList_append_Own rfl _ _ 25 25 rfl 5 i0 (.int .u8 0) 1 1 Try.underlying25 hi hz0 hz1 hz2 rfl rfl (own_empty w1 5) rfl (by exact Reads.src (of.reads.kept (Kept.alloc (fun _ => False) _ _) (fun _ _ h => h)) Try.underlying25 (bv_one _)) (by unfold maxLen; omega) (by omega) ?_; intro a6 k6 w6 g6 hown6 hk6 hg6; simp only [Nat.zero_add, List.nil_append] at hown6; simp only [Nat.zero_add, HJ.out, WJ.out, W8.out]; obtain ⟨b6, off6, rfl, rfl, c6, f6, -⟩ := hown6.set hjF undef; rw [List.getElem?_map, List.getElem?_eq_getElem hjF] at c6; have c6' : w6.cell? ⟨b6, off6 + (8 + j), none⟩ = some (.int .u8 B) := (by rw [HB.out]; try exact c6); clear c6; have HK6 := Lib.hid hk6; have HG6 := Lib.hid hg6; have HO6 := Lib.hid hown6; have HOF := Lib.hid of; have HR := Lib.hid hr; have HFR := Lib.hid hfr; have HGF := Lib.hid hgf; have HGL := Lib.hid hgl; have HI := Lib.hid hi; clear hk6 hg6 hown6 of hr hfr hgf hgl hi hz0 hz1 hz2 hne h1 h2 ha1 ha2))
  obtain ⟨Y, hY⟩ : ∃ Y : Nat, Y = B ^^^ 2 ^ (bit % 8) := ⟨_, rfl⟩
  have hs8 : (2 : Nat) ^ (bit % 8) < 256 := Nat.lt_of_lt_of_le (Nat.pow_lt_pow_right (by decide) (Nat.mod_lt bit (by decide : 8 > 0))) (by decide)
  have hYl : Y < 256 := by rw [hY]; exact Nat.xor_lt_two_pow (n := 8) hBl hs8
  have ey : bits BinOp.xor IntKind.u8 (B : Int) ((2 : Int) ^ (bit % 8) % 256) = (Y : Int) := by
    have h3 := xor_u8 B (2 ^ (bit % 8)) hBl hs8
    have h4 : (2 : Int) ^ (bit % 8) % 256 = ((2 ^ (bit % 8) : Nat) : Int) := by
      rw [Int.emod_eq_of_lt (by exact_mod_cast Nat.zero_le _) (by exact_mod_cast hs8)]
      exact_mod_cast rfl
    rw [h4, h3, hY]
  have hYB : Y ≠ B := by
    intro h
    rw [hY] at h
    have h5 : 2 ^ (bit % 8) = 0 := xor_cancel_left (c := B) (by rw [h, Nat.xor_zero])
    have := Nat.two_pow_pos (bit % 8)
    omega
  rw [ey]
  obtain ⟨b7, off7, e7, e8, -, -, o7⟩ := HO6.out.set hjF (.int .u8 Y)
  simp only [Option.some.injEq, Addr.mk.injEq, and_true] at e7 e8
  obtain ⟨rfl, rfl⟩ := e8
  clear e7
  obtain ⟨y, hy⟩ : ∃ y : UInt8, y = UInt8.ofNat Y := ⟨_, rfl⟩
  have hbvy : Value.int .u8 (Y : Int) = bv y := by rw [hy, bv_ofNat Y hYl]
  have hyF : y ≠ F[8 + j] := by
    intro h
    have h6 := congrArg UInt8.toNat h
    rw [hy, UInt8.toNat_ofNat', ← HB.out, Nat.mod_eq_of_lt hYl] at h6
    exact hYB h6
  have hset : (F.map bv).set (8 + j) (bv y) = (F.set (8 + j) y).map bv := by rw [List.map_set]
  rw [hbvy, hset] at o7
  rw [hbvy]
  have K6 : Kept (fun _ => False) w w6 := (k1.al _).thn HK6.out (fun i hi => by simp at hi; have := k1.size; exact .inr (by omega))
  have hb6 : w1.heap.size ≤ b6 := by
    rcases HG6.out b6 rfl with h | h
    · simp at h; omega
    · simp at h; omega
  have K7 : Kept (fun _ => False) w (w6.setCell ⟨b6, off6 + (8 + j), none⟩ (bv y)) := K6.st _ (.inr (by have := k1.size; exact Nat.le_trans this hb6))
  have kk : Kept (fun k => w1.heap.size ≤ k) w1 (w6.setCell ⟨b6, off6 + (8 + j), none⟩ (bv y)) := ((Kept.alloc _ w1 _).thn HK6.out (fun i hi => by simp at hi; exact .inl (by omega))).st _ (.inl hb6)
  have of7 := HOF.out.kept kk (fun k hk h => by have := HFR.out k hk; omega)
  generalize w6.setCell ⟨b6, off6 + (8 + j), none⟩ (bv y) = w7 at o7 K7 of7 ⊢
  have hFj : ∀ h : 8 + j < F.length, F[8 + j] = bs[j] := by
    intro h
    have h7 : F[8 + j]? = bs[j]? := by
      rw [HF.out]
      unfold frameB
      rw [List.getElem?_append_right (by rw [List.length_append, leB_length, leB_length]; omega), List.length_append, leB_length, leB_length]
      congr 1
      omega
    rw [List.getElem?_eq_getElem h, List.getElem?_eq_getElem hjl] at h7
    simpa using h7
  have hu1 : unfr (F.set (8 + j) y) = ([], 0, 74) := by
    rw [HF.out]
    exact unfr_broken bs j y hjl (by omega) (by rw [← hFj hjF]; exact hyF)
  have hu2 : unfr (F.take (8 + j)) = ([], 0, 11) := by
    rw [HF.out]
    exact unfr_short bs j hjl (by omega)
  have hsl7 : (F.set (8 + j) y).length = F.length := List.length_set
  obtain ⟨a3, cp3, hsl, hrd⟩ := of7.reads.sliceTo_run (P := Try.prog) (t := 25) (hi := 8 + (j : Int)) (k := 8 + j) Try.underlying25 u8size hcf (by omega) (by omega)
  rw [Nat.mul_one, ← List.map_take] at hrd
  have htl : (F.take (8 + j)).length = 8 + j := by rw [List.length_take]; omega
  have HRD := Lib.hid hrd
  have HKK := Lib.hid K7
  have HU1 := Lib.hid hu1
  have HU2 := Lib.hid hu2
  have O7 := Lib.hid o7
  have OF7 := Lib.hid of7
  have hglf := of7.lt
  have HGLF := Lib.hid hglf
  have HSL7 := Lib.hid hsl7
  have HTL := Lib.hid htl
  clear hrd K7 hu1 hu2 o7 of7 hFj hset hyF ey hY kk K6 f6 c6' hglf hsl7 htl
  refine (unframe_c (bs := F.set (8 + j) y) (g := some b6) (by rw [HSL7.out]; exact O7.out.reads) (fun k hk => O7.out.lt k hk) (by rw [HSL7.out]; omega) _ HU1.out).mono ?_
  rintro e w8 ⟨⟨v8, rfl, -⟩, k8⟩
  go_wp2_with fail
  refine (unframe_c (bs := F.take (8 + j)) (g := gf) (by rw [HTL.out]; exact HRD.out.kept k8 (fun _ _ h => h)) (fun k hk => Nat.lt_of_lt_of_le (HGLF.out k hk) k8.size) (by rw [HTL.out]; omega) _ HU2.out).mono ?_
  rintro e w9 ⟨⟨v9, rfl, -⟩, k9⟩
  go_wp2_with (first
    | (go_at_call 9; refine (num_c _).mono ?_; rintro e w' ⟨rfl, rfl⟩)
    | (go_at_call 10; refine awake_c.mono ?_; rintro e wx ⟨rfl, kx⟩))
  go_ret
  exact ⟨rfl, ((HKK.out.trans k8).trans k9).trans kx⟩

set_option maxRecDepth 100000 in
theorem wireBroken_walk {H : Type} {enc : TypeId × Value → H} {W : World} {base : Nat} {v0 v1 v2 : Value} {d0 d1 d2 : DataW H} {p0 p1 p2 : List MemPlace}
    (k0 : Value.okWide Try.prog W .any base 25 v0) (h0 : DataW.Trod enc Try.prog W 0 (fun _ => true) true 25 v0 d0 p0)
    (k1 : Value.okWide Try.prog W .any base 3 v1) (h1 : DataW.Trod enc Try.prog W 0 (fun _ => true) true 3 v1 d1 p1)
    (k2 : Value.okWide Try.prog W .any base 5 v2) (h2 : DataW.Trod enc Try.prog W 0 (fun _ => true) true 5 v2 d2 p2)
    {ts : List TypeId} {ds : List (DataW H)} (hsz : (DataW.weightsEach Try.prog ([25, 3, 5] ++ ts) ([d0, d1, d2] ++ ds)).all (· ≤ reachBytes) = true) :
    Calls Try.prog 5 #[v0, v1, v2] W fun e w' => e = .returned (.bool true) ∧ Below W.heap.size W w' := by
  obtain ⟨bs, g, hr, hl, hm⟩ := open_bytes Try.underlying25 Try.underlying5 (by kernel_rfl) (by kernel_rfl) k0 h0 hsz (j := 0) rfl rfl
  obtain ⟨n, rfl, rfl, rfl, wf1⟩ := open_int Try.underlying3 k1 h1
  obtain ⟨b, rfl, rfl, rfl, wf2⟩ := open_int Try.underlying5 k2 h2
  simp only [Lit.wf, IntKind.min, IntKind.max, IntKind.signed, IntKind.bits] at wf1 wf2
  simp at wf1 wf2
  obtain ⟨m, rfl⟩ : ∃ m : Nat, b = (m : Int) := ⟨b.toNat, by omega⟩
  by_cases hb : bs = []
  · have hr' : Reads W 1 v0 bs.length (bs.map bv) none := by
      obtain ⟨a, cp, rfl, hc⟩ := hr.shape
      subst hb
      exact ⟨by simp, .inl ⟨_, _, rfl, rfl⟩⟩
    exact (broken_core hr' (fun k hk => by cases hk) n (by omega) (by omega) m (by omega)).mono fun e w' ⟨he, hk⟩ => ⟨he, hk.below (Nat.le_refl _) (fun _ h => h.elim)⟩
  · exact (broken_core hr (fun k hk => hl k hk hb) n (by omega) (by omega) m (by omega)).mono fun e w' ⟨he, hk⟩ => ⟨he, hk.below (Nat.le_refl _) (fun _ h => h.elim)⟩

end Go.Proofs.Ytcpejidmancbdaa
