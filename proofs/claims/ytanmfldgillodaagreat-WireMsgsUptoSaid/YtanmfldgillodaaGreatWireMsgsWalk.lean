/- The walk of the law WireMsgs. -/
import Derived.Test.YtanmfldgillodaaGreatAwake
import Derived.Test.YtanmfldgillodaaGreatCm3
import Derived.Test.YtanmfldgillodaaGreatRr3
import Derived.Test.YtanmfldgillodaaGreatOp3
set_option linter.unusedSimpArgs false
set_option linter.unusedVariables false
namespace Go.Proofs.YtanmfldgillodaaGreat
open Go.RowKit Go.ChangeShapes Go.WideShapes Go.ChangeAt

/-- A byte of an owned row is written. -/
theorem Own.set1 {w : World} {e : TypeId} {n c : Nat} {a : Option Addr} {g : Option Nat} {l : List Value} (h : Own w e 1 (.slice a n c) n l g) {k : Nat} (hk : k < n) (u : Value) :
    ∃ b off, g = some b ∧ a = some ⟨b, off, none⟩ ∧ w.cell? ⟨b, off + k, none⟩ = l[k]? ∧ w.frozen? ⟨b, off + k, none⟩ = false ∧ Own (w.setCell ⟨b, off + k, none⟩ u) e 1 (.slice a n c) n (l.set k u) g := by
  obtain ⟨h0, ⟨rfl, he, rfl⟩ | ⟨b, off, c', cur, rfl, he, h1, h2, h3, h4, h5⟩⟩ := h
  · omega
  · simp only [Value.slice.injEq, true_and] at he
    obtain ⟨rfl, rfl⟩ := he
    refine ⟨b, off, rfl, rfl, (cell_in h3).trans (h5 k (by omega)), frozen_in h3, by simpa using h0, .inr ⟨b, off, c, _, rfl, rfl, h1, h2, heap_setCell_same h3 u, by simpa using h4, fun j hj => ?_⟩⟩
    rw [List.length_set] at hj
    by_cases hjk : j = k
    · subst hjk
      rw [Array.getElem?_setIfInBounds_self_of_lt (by omega), List.getElem?_set_self hj]
    · rw [Array.getElem?_setIfInBounds_ne (by omega), List.getElem?_set_ne (by omega)]
      exact h5 j hj

set_option maxRecDepth 100000 in
theorem spoil_c {w : World} {v : Value} {n : Nat} {l : List Value} {g : Option Nat} (h : Own w 5 1 v n l g) :
    Calls Tryz.prog 10 #[v] w fun e w' => e = .returned (.tuple #[]) ∧ Kept (fun k => g = some k) w w' := by
  obtain ⟨a, c, rfl, hnc, hcm⟩ := h.shape
  have hnm : n ≤ 9223372036854775807 := by unfold maxLen at hcm; omega
  go_enter Tryz.func10, Tryz.ntmps10
  go_wp2
  go_loopw [5] (fun i w' => ∃ (k : Nat) (l' : List Value), k ≤ n ∧ i = .int .i64 k ∧ Own w' 5 1 (.slice a n c) n l' g ∧ l'.length = n ∧ Kept (fun k => g = some k) w w') (fun i _ => n - (intOf i).toNat)
  case atStart => exact ⟨0, l, by omega, rfl, h, by simpa using h.1, Kept.refl _ _⟩
  case round =>
    obtain ⟨k, l', hk, rfl, ho, hl', hkk⟩ := hrel
    by_cases hk2 : k < n
    · rename World => wo
      have hki : (k : Int) < (n : Int) := by omega
      obtain ⟨b, off, rfl, rfl, hcell, hfz, ho'⟩ := ho.set1 hk2 (.int .u8 77)
      obtain ⟨u, hu⟩ : ∃ u, l'[k]? = some u := ⟨_, List.getElem?_eq_getElem (by omega)⟩
      rw [hu] at hcell
      have HO := Lib.hid ho'
      have HK := Lib.hid hkk
      have hkn : k < n := hk2
      have hll : (l'.set k (.int .u8 77)).length = n := by rw [List.length_set]; exact hl'
      have HLL := Lib.hid hll
      clear ho ho' hkk hl' hll hu
      go_wp2
      refine ⟨⟨k + 1, _, by omega, by simp, HO.out, HLL.out, HK.out.st _ (.inl rfl)⟩, by simp [intOf]; omega⟩
    · have hki : ¬ (k : Int) < (n : Int) := by omega
      have HK := Lib.hid hkk
      clear hkk ho
      go_wp2
      exact bodyPost_end (v := .tuple #[]) (by simp [results, Tryz.results10]) rfl ⟨rfl, HK.out⟩

theorem reads_one (w : World) (e : TypeId) (n : UInt8) : Reads (w.alloc (.cells #[bv n] e)) 1 (.slice (some ⟨w.heap.size, 0, none⟩) 1 1) 1 ([n].map bv) (some w.heap.size) := by
  refine ⟨rfl, .inr ⟨w.heap.size, 0, 1, rfl, rfl, Nat.le_refl _, by unfold maxLen; omega, fun j hj => ?_⟩⟩
  rw [Nat.zero_add, cell_in (heap_alloc_new' w (Obj.cells #[bv n] e))]
  simp

theorem pMsg_longer {x : MsgT} {n : UInt8} (ok : x.ok) (y : MsgT) : pMsg (x.enc ++ [n]) ≠ some (y, []) := by
  rw [lawMsg.enc x [n] ok]
  simp

theorem pMsg_shorter {x : MsgT} (ok : x.ok) (y : MsgT) : pMsg (x.enc.take (x.enc.length - 1)) ≠ some (y, []) := by
  intro h
  obtain ⟨e, oy⟩ := lawMsg.dec _ _ _ h
  have hp := lawMsg.pos x
  have hd : x.enc = x.enc.take (x.enc.length - 1) ++ x.enc.drop (x.enc.length - 1) := (List.take_append_drop _ _).symm
  rw [List.append_nil] at e
  rw [e] at hd
  have h1 := lawMsg.enc y (x.enc.drop (x.enc.length - 1)) oy
  rw [← hd] at h1
  have h2 := lawMsg.enc x [] ok
  rw [List.append_nil, h1] at h2
  have h3 : (x.enc.drop (x.enc.length - 1)).length = 0 := by rw [(Prod.mk.inj (Option.some.inj h2)).2]; rfl
  rw [List.length_drop] at h3
  omega

set_option maxRecDepth 100000 in
set_option maxHeartbeats 3200000 in
theorem msgs_core {w : World} {S : Nat → Prop} (hS : ∀ k, S k → k < w.heap.size) (x : MsgT) {cs : List Value} (n : UInt8) (hx : MsgT.Is w S cs x) (hm : x.enc.length ≤ 20000000) :
    Calls Tryz.prog 3 #[.agg cs.toArray, bv n] w fun e w' => e = .returned (.bool true) ∧ Kept (fun _ => False) w w' := by
  have hok := hx.ok (by omega)
  have hpos := lawMsg.pos x
  have okx := lawMsg.enc x [] hok
  rw [List.append_nil] at okx
  have OL := Lib.hid (fun y => pMsg_longer (n := n) hok y)
  have OS := Lib.hid (fun y => pMsg_shorter hok y)
  obtain ⟨EX, hEX⟩ : ∃ E, E = x.enc := ⟨_, rfl⟩
  have hm' := hm
  rw [← hEX] at hm okx OL OS hpos
  have OX := Lib.hid okx
  have HX := Lib.hid hEX
  have HSA : Hid (cs.toArray.size = 46) := Lib.hid (by rw [List.size_toArray]; exact hx.size)
  obtain ⟨im, h1, h2, -⟩ := msg_all
  have H2 := Lib.hid h2
  obtain ⟨i0, hi, hz0, hz1, hz2⟩ := info_all u8info
  have HI := Lib.hid hi
  have HZ0 := Lib.hid hz0
  have HZ1 := Lib.hid hz1
  have HZ2 := Lib.hid hz2
  clear okx hEX h2 hi hz0 hz1 hz2
  have K0 := Kept.alloc (fun _ => False) w (Obj.cells cs.toArray 48)
  have b0 := heap_alloc_new' w (Obj.cells cs.toArray 48)
  have s0 : (w.alloc (Obj.cells cs.toArray 48)).heap.size = w.heap.size + 1 := by simp
  have HB0 := Lib.hid b0
  have x0 := hx.heap (w' := w.alloc (Obj.cells cs.toArray 48)) (S' := S) (fun _ h => h) (fun k hk => K0.block k (hS k hk) (fun h => h))
  have HX0 := Lib.hid x0
  clear b0 x0
  unfold bv
  go_enter Tryz.func3, Tryz.ntmps3
  go_wp2_with (refine wpList_load_block rfl 48 _ rfl rfl HB0.out (Tryz.isAgg48 _) h1 (H2.out.trans HSA.out.symm) ?_)
  have b0 := HB0.out
  have x0 := HX0.out
  clear HB0 HX0
  generalize w.alloc (Obj.cells cs.toArray 48) = w0 at K0 b0 x0 s0 ⊢
  have hS0 : ∀ k, S k → k < w0.heap.size := fun k hk => by have := hS k hk; omega
  refine (encMsg_c hS0 x x0 (by omega)).mono ?_
  rintro e w1 ⟨⟨vA, rfl, FA⟩, k1⟩
  rw [← HX.out] at FA
  obtain ⟨gA, oA, hgA⟩ := FA
  obtain ⟨aA, cA, rfl, hcA, -⟩ := oA.shape
  have ltA := oA.lt
  have s1 := k1.size
  have HB1 := Lib.hid ((k1.block _ (lt_in b0) (fun h => h)).trans b0)
  have x1 := x0.heap (w' := w1) (S' := S) (fun _ h => h) (fun k hk => k1.block k (hS0 k hk) (fun h => h))
  have hS1 : ∀ k, S k → k < w1.heap.size := fun k hk => by have := hS k hk; omega
  have K1 := K0.trans k1
  have HA1 := Lib.hid oA
  have HX1 := Lib.hid x1
  clear b0 x0 oA x1
  go_wp2_with (refine wpList_load_block rfl 48 _ rfl rfl HB1.out (Tryz.isAgg48 _) h1 (H2.out.trans HSA.out.symm) ?_)
  refine (encRefMsg_c hS1 x HX1.out (by omega)).mono ?_
  rintro e w2 ⟨⟨vB, rfl, gB, oB, hgB⟩, k2⟩
  rw [← HX.out] at oB
  obtain ⟨aB, cB, rfl, hcB, -⟩ := oB.shape
  have s2 := k2.size
  have oA2 := HA1.out.kept k2 (fun _ _ h => h)
  have K2 := K1.trans k2
  have HK2 := Lib.hid K2
  have HA2 := Lib.hid oA2
  have HB2 := Lib.hid oB
  clear HA1 HX1 HB1 oA2 oB K0 k1 K1 k2 K2
  go_wp2_with fail
  refine (same_c HA2.out.reads HB2.out.reads).mono ?_
  rintro e _ ⟨rfl, rfl⟩
  rename World => w2
  go_wp2_with fail
  refine (decMsg_c HA2.out.reads HA2.out.lt (by omega)).mono ?_
  rintro e w3 ⟨k3, ⟨x', cs3, hp3, rfl, X3⟩ | ⟨hp3, rfl⟩⟩
  rotate_left
  · exact absurd OX.out (hp3 x)
  rw [OX.out] at hp3
  obtain rfl : x = x' := by simpa using hp3
  clear hp3
  have s3 := k3.size
  have oA3 := HA2.out.kept k3 (fun _ _ h => h)
  have oB3 := HB2.out.kept k3 (fun _ _ h => h)
  have HSB : Hid (cs3.toArray.size = 46) := Lib.hid (by rw [List.size_toArray]; exact X3.size)
  have HONE := Lib.hid X3.one
  have Kz := Kept.alloc (fun _ => False) w3 (Obj.cells msgZ.toArray 48)
  have HBz := Lib.hid (heap_alloc_new' w3 (Obj.cells msgZ.toArray 48))
  have sz : (w3.alloc (Obj.cells msgZ.toArray 48)).heap.size = w3.heap.size + 1 := by simp
  have HX3 := Lib.hid X3
  have HA3 := Lib.hid oA3
  have HB3 := Lib.hid oB3
  have HK3 := Lib.hid (HK2.out.trans k3)
  clear X3 oA3 oB3 HA2 HB2 HK2 k3
  go_wp2_with (first | (go_at_call 9; fail) | (refine wpList_alloc_block rfl 48 rfl (msgZero _) w3.heap.size rfl ?_) | (refine wpList_store_block rfl 48 _ _ rfl rfl rfl HBz.out h1 (H2.out.trans HSB.out.symm) (msgZ_size.trans HSB.out.symm) HONE.out ?_; intro w4 k4 b4 s4; have HB4 := Lib.hid b4; clear b4))
  have X4 : MsgT.Is w4 (New w2 w4) cs3 x := HX3.out.heap (fun k hk => ⟨hk.1, by have := hk.2; omega⟩) (fun k hk => (k4.block k (by have := hk.2; omega) (fun e => by have := hk.2; omega)).trans (Kz.block k hk.2 (fun h => h)))
  have kz4 : Kept (fun _ => False) w3 w4 := Kz.thn k4 (fun i hi => .inr (by omega))
  have oA4 := HA3.out.kept kz4 (fun _ _ h => h)
  have oB4 := HB3.out.kept kz4 (fun _ _ h => h)
  have HK4 := Lib.hid (HK3.out.trans kz4)
  have HX4 := Lib.hid X4
  have HA4 := Lib.hid oA4
  have HBB4 := Lib.hid oB4
  have s34 : w4.heap.size = w3.heap.size + 1 := by omega
  clear X4 oA4 oB4 HX3 HA3 HB3 HK3 Kz k4 kz4 HBz
  refine (num_c 0).mono ?_
  rintro e _ ⟨rfl, rfl⟩
  rename World => w4
  go_wp2_with (refine wpList_load_block rfl 48 _ rfl rfl HB4.out (Tryz.isAgg48 _) h1 (H2.out.trans HSB.out.symm) ?_)
  refine (encRefMsg_c (S := New w2 w4) (fun k hk => hk.2) x HX4.out (by omega)).mono ?_
  rintro e w5 ⟨⟨vC, rfl, gC, oC, hgC⟩, k5⟩
  rw [← HX.out] at oC
  obtain ⟨aC, cC, rfl, hcC, -⟩ := oC.shape
  have s5 := k5.size
  have HA5 := Lib.hid (HA4.out.kept k5 (fun _ _ h => h))
  have HBB5 := Lib.hid (HBB4.out.kept k5 (fun _ _ h => h))
  have HC5 := Lib.hid oC
  have HX5 : Hid (MsgT.Is w5 (New w2 w5) cs3 x) := Lib.hid (HX4.out.heap (fun k hk => ⟨hk.1, by have := hk.2; omega⟩) (fun k hk => k5.block k hk.2 (fun h => h)))
  have HB5 := Lib.hid ((k5.block _ (lt_in HB4.out) (fun h => h)).trans HB4.out)
  have HK5 := Lib.hid (HK4.out.trans k5)
  clear oC HA4 HBB4 HX4 HB4 HK4 k5
  go_wp2_with fail
  refine (same_c HC5.out.reads HBB5.out.reads).mono ?_
  rintro e _ ⟨rfl, rfl⟩
  rename World => w5
  go_wp2_with (first
    | (at_builtin; refine wpList_append_Own rfl _ _ 41 41 rfl 5 i0 (.int .u8 0) 1 1 Tryz.underlying41 HI.out HZ0.out HZ1.out HZ2.out rfl rfl (own_empty w5 5) rfl (by exact Reads.src (HA5.out.reads.kept (Kept.alloc (fun _ => False) _ _) (fun _ _ h => h)) Tryz.underlying41 (bv_one _)) (by unfold maxLen; omega) (by omega) ?_; intro a6 c6 w6 g6 o6 k6 hg6; simp only [Nat.zero_add, List.nil_append] at o6; simp only [Nat.zero_add])
    | (at_builtin; refine wpList_append_Own rfl _ _ 41 41 rfl 5 i0 (.int .u8 0) 1 1 Tryz.underlying41 HI.out HZ0.out HZ1.out HZ2.out rfl rfl (o6.kept (Kept.alloc (fun _ => False) _ _) (fun _ _ h => h)) rfl (by exact Reads.src (reads_one w6 5 n) Tryz.underlying41 (bv_one [n])) (by unfold maxLen; omega) (by omega) ?_; intro a7 c7 w7 g7 o7 k7 hg7))
  have kk6 : Kept (fun _ => False) w5 w6 := (Kept.alloc (fun _ => False) w5 _).thn k6 (fun i hi => .inr (by simp only [Option.some.injEq] at hi; omega))
  have s6 := kk6.size
  have kk7 : Kept (fun _ => False) w5 w7 := (kk6.al _).thn k7 (fun i hi => .inr (by
    rcases hg6 i hi with h | h
    · simp only [Option.some.injEq] at h
      omega
    · have : (w5.alloc (Obj.cells #[] 5)).heap.size = w5.heap.size + 1 := by simp
      omega))
  rw [← List.map_append] at o7
  have hl7 : (EX ++ [n]).length = EX.length + 1 := by simp
  have r7 := o7.reads
  rw [← hl7] at r7 ⊢
  have s7 := kk7.size
  have HA7 := Lib.hid (HA5.out.kept kk7 (fun _ _ h => h))
  have HBB7 := Lib.hid (HBB5.out.kept kk7 (fun _ _ h => h))
  have HX7 : Hid (MsgT.Is w7 (New w2 w7) cs3 x) := Lib.hid (HX5.out.heap (fun k hk => ⟨hk.1, by have := hk.2; omega⟩) (fun k hk => kk7.block k hk.2 (fun h => h)))
  have HB7 := Lib.hid ((kk7.block _ (lt_in HB5.out) (fun h => h)).trans HB5.out)
  have HK7 := Lib.hid (HK5.out.trans kk7)
  clear HA5 HBB5 HC5 HX5 HB5 HK5 k6 k7 hg6 o6 kk6 kk7
  refine (decMsg_c r7 o7.lt (by rw [hl7]; omega)).mono ?_
  rintro e w8 ⟨k8, ⟨y, cs8, hp8, rfl, X8⟩ | ⟨hp8, rfl⟩⟩
  · exact absurd hp8 (OL.out y)
  have s8 := k8.size
  have HA8 := Lib.hid (HA7.out.kept k8 (fun _ _ h => h))
  have HBB8 := Lib.hid (HBB7.out.kept k8 (fun _ _ h => h))
  have HX8 : Hid (MsgT.Is w8 (New w2 w8) cs3 x) := Lib.hid (HX7.out.heap (fun k hk => ⟨hk.1, by have := hk.2; omega⟩) (fun k hk => k8.block k hk.2 (fun h => h)))
  have HB8 := Lib.hid ((k8.block _ (lt_in HB7.out) (fun h => h)).trans HB7.out)
  have HK8 := Lib.hid (HK7.out.trans k8)
  obtain ⟨a9, c9, hsl, r9⟩ := HA8.out.reads.sliceTo_run (P := Tryz.prog) (t := 41) (hi := (EX.length : Int) - 1) (k := EX.length - 1) Tryz.underlying41 u8size hcA (by omega) (by omega)
  rw [Nat.mul_one, ← List.map_take] at r9
  have hl9 : (EX.take (EX.length - 1)).length = EX.length - 1 := by rw [List.length_take]; omega
  obtain ⟨T9, hT9⟩ : ∃ T, T = EX.take (EX.length - 1) := ⟨_, rfl⟩
  rw [← hT9] at r9 hl9 OS
  have HR9 := Lib.hid r9
  have HL9 := Lib.hid hl9
  have W9 : Hid (wrap64 ((EX.length : Int) - 1) = (EX.length : Int) - 1) := Lib.hid (by unfold wrap64; omega)
  clear HA7 HBB7 HX7 HB7 HK7 r7 o7 hg7 hp8 k8 hl7 r9 hl9 hT9
  go_wp2_with (first | (go_at_call 8; fail))
  have r9 := HR9.out
  rw [← HL9.out] at r9 ⊢
  refine (decMsg_c r9 HA8.out.lt (by rw [HL9.out]; omega)).mono ?_
  rintro e w9 ⟨k9, ⟨y, cs9, hp9, rfl, X9⟩ | ⟨hp9, rfl⟩⟩
  · exact absurd hp9 (OS.out y)
  rw [HL9.out]
  have s9 := k9.size
  have kz : Kept (fun _ => False) w8 (w9.alloc (Obj.cells msgZ.toArray 48)) := k9.al _
  have sz9 : (w9.alloc (Obj.cells msgZ.toArray 48)).heap.size = w9.heap.size + 1 := by simp
  have HBz := Lib.hid (heap_alloc_new' w9 (Obj.cells msgZ.toArray 48))
  have HKz := Lib.hid kz
  clear r9 hsl HR9 HL9 W9 hp9 k9 kz
  go_wp2_with (first | (go_at_call 10; fail) | (refine wpList_alloc_block rfl 48 rfl (msgZero _) w9.heap.size rfl ?_) | (refine wpList_store_same rfl 48 _ _ rfl rfl rfl HBz.out h1 (H2.out.trans msgZ_size.symm) msgZ_one ?_))
  have kz := HKz.out
  clear HBz HKz
  generalize w9.alloc (Obj.cells msgZ.toArray 48) = wa at kz sz9 ⊢
  have HAa := HA8.out.kept kz (fun _ _ h => h)
  have HBBa := HBB8.out.kept kz (fun _ _ h => h)
  have HXa : MsgT.Is wa (New w2 wa) cs3 x := HX8.out.heap (fun k hk => ⟨hk.1, by have := hk.2; omega⟩) (fun k hk => kz.block k hk.2 (fun h => h))
  have HBa := (kz.block _ (lt_in HB8.out) (fun h => h)).trans HB8.out
  have HKa := HK8.out.trans kz
  clear HA8 HBB8 HX8 HB8 HK8 kz
  refine (spoil_c HAa).mono ?_
  rintro e wb ⟨rfl, kb⟩
  have sb := kb.size
  have hne : ∀ k, gA = some k → k < w1.heap.size := ltA
  have HBBb := Lib.hid (HBBa.kept kb (fun k hk h => by have := hgB k hk; have := hne k h; omega))
  have HXb : Hid (MsgT.Is wb (New w2 wb) cs3 x) := Lib.hid (HXa.heap (fun k hk => ⟨hk.1, by have := hk.2; omega⟩) (fun k hk => kb.block k hk.2 (fun h => by have := hk.1; have := hne k h; omega)))
  have HBb := Lib.hid ((kb.block _ (lt_in HBa) (fun h => by have := hne _ h; omega)).trans HBa)
  have HKb := Lib.hid (HKa.thn kb (fun i hi => .inr (by have := hgA i hi; omega)))
  clear HAa HBBa HXa HBa HKa kb
  go_wp2_with fail
  refine (num_c 74).mono ?_
  rintro e _ ⟨rfl, rfl⟩
  rename World => wb
  go_wp2_with fail
  refine (num_c 74).mono ?_
  rintro e _ ⟨rfl, rfl⟩
  rename World => wb
  go_wp2_with (refine wpList_load_block rfl 48 _ rfl rfl HBb.out (Tryz.isAgg48 _) h1 (H2.out.trans HSB.out.symm) ?_)
  refine (encRefMsg_c (S := New w2 wb) (fun k hk => hk.2) x HXb.out (by omega)).mono ?_
  rintro e wc ⟨⟨vD, rfl, gD, oD, hgD⟩, kc⟩
  rw [← HX.out] at oD
  obtain ⟨aD, cD, rfl, hcD, -⟩ := oD.shape
  have oBc := HBBb.out.kept kc (fun _ _ h => h)
  have HKc := Lib.hid (HKb.out.trans kc)
  have HD := Lib.hid oD
  have HBBc := Lib.hid oBc
  clear oD oBc HBBb HXb HBb HKb kc
  go_wp2_with fail
  refine (same_c HD.out.reads HBBc.out.reads).mono ?_
  rintro e _ ⟨rfl, rfl⟩
  rename World => wc
  go_wp2_with fail
  refine awake_c.mono ?_
  rintro e wd ⟨rfl, kd⟩
  have KK := Lib.hid (HKc.out.trans kd)
  clear HD HBBc HKc kd
  go_wp2
  go_ret
  exact ⟨rfl, KK.out⟩

set_option maxRecDepth 100000 in
theorem wireMsgs_walk {H : Type} {enc : TypeId × Value → H} {W : World} {base : Nat} {v0 v1 : Value} {d0 d1 : DataW H} {p0 p1 : List MemPlace}
    (k0 : Value.okWide Tryz.prog W .any base 48 v0) (h0 : DataW.Trod enc Tryz.prog W 0 (fun _ => true) true 48 v0 d0 p0)
    (k1 : Value.okWide Tryz.prog W .any base 5 v1) (h1 : DataW.Trod enc Tryz.prog W 0 (fun _ => true) true 5 v1 d1 p1)
    (hb : Rows.uptoBulkAll [d0, d1] ≤ 1048576) :
    Calls Tryz.prog 3 #[v0, v1] W fun e w' => e = .returned (.bool true) ∧ Below W.heap.size W w' := by
  obtain ⟨cm, rfl, -⟩ := okWide_struct Tryz.underlying48 k0
  obtain ⟨m, rfl, rfl, rfl, wf1⟩ := open_int Tryz.underlying5 k1 h1
  simp only [Lit.wf, IntKind.min, IntKind.max, IntKind.signed, IntKind.bits] at wf1
  simp at wf1
  obtain ⟨f0, h0⟩ := h0
  obtain ⟨x, hx, bx⟩ := opens_Msg _ _ _ h0
  simp only [Rows.uptoBulkAll] at hb
  simp only at bx
  obtain ⟨j, rfl⟩ : ∃ j : Nat, m = (j : Int) := ⟨m.toNat, by omega⟩
  have he : Value.int IntKind.u8 (j : Int) = bv (UInt8.ofNat j) := (bv_ofNat j (by omega)).symm
  rw [he]
  exact (msgs_core (S := Old W) (fun _ h => h) x (UInt8.ofNat j) (cs := cm.toList) hx (by omega)).mono fun e w' ⟨he, hk⟩ => ⟨he, hk.below (Nat.le_refl _) (fun _ h => h.elim)⟩

end Go.Proofs.YtanmfldgillodaaGreat
