/- Part 6 of the proof: Dr6, Dr7, Dr9, Dr8, DrA, DrB. -/
import Derived.Test.YtmbjealliinpdaaGreatM5
set_option linter.unusedSimpArgs false
set_option linter.unusedVariables false
set_option maxRecDepth 100000
set_option maxHeartbeats 16000000
section

namespace Go.Proofs.YtmbjealliinpdaaGreat
open Go.RowKit
def zVersion : Array Value := #[Value.int IntKind.i64 0, Value.int IntKind.i64 0]
theorem ziVersion : (Tryz.prog.info? 31).map (fun i => (i.size, i.zero)) = some (2, some (.agg zVersion)) := by kernel_rfl
theorem afVersion {o : Option (List UInt8)} : After o pVersion = (After (After o pI) pI) := by
  cases o with
  | none => rfl
  | some bs =>
  unfold After pVersion
  simp only [Option.bind_some]
  cases pI bs with
  | none => rfl
  | some y0 =>
  simp only [Option.bind_some, Option.map_some]
  cases pI y0.2 with
  | none => rfl
  | some y1 =>
  rfl
theorem isVersion {w' : World} {S : Nat → Prop} {o : Option (List UInt8)} {c0 c1 : List Value} (f0 : ∀ x r, o.bind pI = some (x, r) → intIs w' S c0 x) (f1 : ∀ x r, (After o pI).bind pI = some (x, r) → intIs w' S c1 x) : ∀ x r, o.bind pVersion = some (x, r) → VersionT.Is w' S ([] ++ c0 ++ c1) x := by
  intro x r h
  obtain ⟨bs, ho, h⟩ := Option.bind_eq_some_iff.1 h
  unfold pVersion at h
  obtain ⟨⟨y0, r0⟩, h0, h⟩ := Option.bind_eq_some_iff.1 h
  replace h0 : o.bind pI = some (y0, r0) := by rw [ho]; exact h0
  have a0 := after_some h0
  obtain ⟨⟨y1, r1⟩, h1, h⟩ := Option.bind_eq_some_iff.1 h
  replace h1 : (After o pI).bind pI = some (y1, r1) := by rw [a0]; exact h1
  have a1 := after_some h1
  simp only [Option.some.injEq, Prod.mk.injEq] at h
  obtain ⟨rfl, rfl⟩ := h
  obtain ⟨rfl, j0⟩ := f0 _ _ h0
  obtain ⟨rfl, j1⟩ := f1 _ _ h1
  exact ⟨rfl, j0, j1⟩
theorem versionD_c {w : World} {q : Nat} {o : Option (List UInt8)} {g : Option Nat} (h : Dr w q o g) (hgl : ∀ k, g = some k → k < w.heap.size) :
    Calls Tryz.prog 121 #[.pointer (some ⟨q, 0, none⟩)] w (Red 2 (fun cs => .agg cs.toArray) VersionT.Is pVersion o w q g) := by
  obtain ⟨i0, hi, hsz, -⟩ := info_sz ziVersion
  have HS := Lib.hid hsz
  have L0 := Fl.start 31 zVersion h hgl
  clear hsz h
  go_enter Tryz.func121, Tryz.ntmps121
  go_wp2_with (first | (refine wpList_alloc_block rfl 31 rfl (zero_run ziVersion _) w.heap.size rfl ?_) | (refine wpList_alloc_block rfl 31 rfl (zero_run ziVersion _) (w.heap.size + 1) (by simp) ?_))
  generalize (w.alloc (.cells zVersion 31)).alloc (.cells zVersion 31) = w0 at L0 ⊢
  refine (intR_c L0.dr).mono ?_
  rintro e v1 ⟨k1, N0, rfl, d1, F0⟩
  have zz0 := L0.size
  have kk0 := k1.size
  go_wp2_with (refine wpList_store_fl intIs_stable L0 k1 d1 (one1 _ rfl) F0 rfl 3 _ _ rfl rfl rfl rfl rfl sz_int (Nat.le_of_ble_eq_true rfl) ?_; intro w1 cur1 L1 s1)
  refine (intR_c L1.dr).mono ?_
  rintro e v2 ⟨k2, N1, rfl, d2, F1⟩
  have zz1 := L1.size
  have kk1 := k2.size
  go_wp2_with (first | (refine wpList_load_block rfl 31 _ rfl rfl L2.blk (Tryz.isAgg31 _) hi (HS.out.trans L2.put.size.symm) ?_) | (refine wpList_store_block rfl 31 _ _ rfl rfl rfl L2.res hi (HS.out.trans L2.put.size.symm) L2.put.size.symm (L2.all rfl) ?_; intro w3 k3 b3 s3) | (refine wpList_store_fl intIs_stable L1 k2 d2 (one1 _ rfl) F1 rfl 3 _ _ rfl rfl rfl rfl rfl sz_int (Nat.le_of_ble_eq_true rfl) ?_; intro w2 cur2 L2 s2))
  have lV := run_loadVar_block b3 (Tryz.isAgg31 _) ((size_of ziVersion).trans (congrArg some L2.put.size.symm))
  refine bodyPost_ret (v := .agg cur2) (by simp [results, Tryz.results121, lV, asAddr, Act.put]) rfl ?_
  exact L2.red rfl k3 afVersion (fun D => isVersion D.1.2 D.2)
def zPg : Array Value := #[Value.int IntKind.i64 0, Value.int IntKind.i64 0]
theorem ziPg : (Tryz.prog.info? 26).map (fun i => (i.size, i.zero)) = some (2, some (.agg zPg)) := by kernel_rfl
theorem afPg {o : Option (List UInt8)} : After o pPg = (After (After o pI) pI) := by
  cases o with
  | none => rfl
  | some bs =>
  unfold After pPg
  simp only [Option.bind_some]
  cases pI bs with
  | none => rfl
  | some y0 =>
  simp only [Option.bind_some, Option.map_some]
  cases pI y0.2 with
  | none => rfl
  | some y1 =>
  rfl
theorem isPg {w' : World} {S : Nat → Prop} {o : Option (List UInt8)} {c0 c1 : List Value} (f0 : ∀ x r, o.bind pI = some (x, r) → intIs w' S c0 x) (f1 : ∀ x r, (After o pI).bind pI = some (x, r) → intIs w' S c1 x) : ∀ x r, o.bind pPg = some (x, r) → PgT.Is w' S ([] ++ c0 ++ c1) x := by
  intro x r h
  obtain ⟨bs, ho, h⟩ := Option.bind_eq_some_iff.1 h
  unfold pPg at h
  obtain ⟨⟨y0, r0⟩, h0, h⟩ := Option.bind_eq_some_iff.1 h
  replace h0 : o.bind pI = some (y0, r0) := by rw [ho]; exact h0
  have a0 := after_some h0
  obtain ⟨⟨y1, r1⟩, h1, h⟩ := Option.bind_eq_some_iff.1 h
  replace h1 : (After o pI).bind pI = some (y1, r1) := by rw [a0]; exact h1
  have a1 := after_some h1
  simp only [Option.some.injEq, Prod.mk.injEq] at h
  obtain ⟨rfl, rfl⟩ := h
  obtain ⟨rfl, j0⟩ := f0 _ _ h0
  obtain ⟨rfl, j1⟩ := f1 _ _ h1
  exact ⟨rfl, j0, j1⟩
theorem pgD_c {w : World} {q : Nat} {o : Option (List UInt8)} {g : Option Nat} (h : Dr w q o g) (hgl : ∀ k, g = some k → k < w.heap.size) :
    Calls Tryz.prog 82 #[.pointer (some ⟨q, 0, none⟩)] w (Red 2 (fun cs => .agg cs.toArray) PgT.Is pPg o w q g) := by
  obtain ⟨i0, hi, hsz, -⟩ := info_sz ziPg
  have HS := Lib.hid hsz
  have L0 := Fl.start 26 zPg h hgl
  clear hsz h
  go_enter Tryz.func82, Tryz.ntmps82
  go_wp2_with (first | (refine wpList_alloc_block rfl 26 rfl (zero_run ziPg _) w.heap.size rfl ?_) | (refine wpList_alloc_block rfl 26 rfl (zero_run ziPg _) (w.heap.size + 1) (by simp) ?_))
  generalize (w.alloc (.cells zPg 26)).alloc (.cells zPg 26) = w0 at L0 ⊢
  refine (intR_c L0.dr).mono ?_
  rintro e v1 ⟨k1, N0, rfl, d1, F0⟩
  have zz0 := L0.size
  have kk0 := k1.size
  go_wp2_with (refine wpList_store_fl intIs_stable L0 k1 d1 (one1 _ rfl) F0 rfl 3 _ _ rfl rfl rfl rfl rfl sz_int (Nat.le_of_ble_eq_true rfl) ?_; intro w1 cur1 L1 s1)
  refine (intR_c L1.dr).mono ?_
  rintro e v2 ⟨k2, N1, rfl, d2, F1⟩
  have zz1 := L1.size
  have kk1 := k2.size
  go_wp2_with (first | (refine wpList_load_block rfl 26 _ rfl rfl L2.blk (Tryz.isAgg26 _) hi (HS.out.trans L2.put.size.symm) ?_) | (refine wpList_store_block rfl 26 _ _ rfl rfl rfl L2.res hi (HS.out.trans L2.put.size.symm) L2.put.size.symm (L2.all rfl) ?_; intro w3 k3 b3 s3) | (refine wpList_store_fl intIs_stable L1 k2 d2 (one1 _ rfl) F1 rfl 3 _ _ rfl rfl rfl rfl rfl sz_int (Nat.le_of_ble_eq_true rfl) ?_; intro w2 cur2 L2 s2))
  have lV := run_loadVar_block b3 (Tryz.isAgg26 _) ((size_of ziPg).trans (congrArg some L2.put.size.symm))
  refine bodyPost_ret (v := .agg cur2) (by simp [results, Tryz.results82, lV, asAddr, Act.put]) rfl ?_
  exact L2.red rfl k3 afPg (fun D => isPg D.1.2 D.2)
def zOsd : Array Value := #[Value.bool false, Value.bool false, Value.int IntKind.i64 0, Value.int IntKind.i64 0, Value.int IntKind.i64 0, Value.int IntKind.i64 0]
theorem ziOsd : (Tryz.prog.info? 208).map (fun i => (i.size, i.zero)) = some (6, some (.agg zOsd)) := by kernel_rfl
theorem afOsd {o : Option (List UInt8)} : After o pOsd = (After (After (After (After (After (After o pF) pF) pI) pI) pI) pI) := by
  cases o with
  | none => rfl
  | some bs =>
  unfold After pOsd
  simp only [Option.bind_some]
  cases pF bs with
  | none => rfl
  | some y0 =>
  simp only [Option.bind_some, Option.map_some]
  cases pF y0.2 with
  | none => rfl
  | some y1 =>
  simp only [Option.bind_some, Option.map_some]
  cases pI y1.2 with
  | none => rfl
  | some y2 =>
  simp only [Option.bind_some, Option.map_some]
  cases pI y2.2 with
  | none => rfl
  | some y3 =>
  simp only [Option.bind_some, Option.map_some]
  cases pI y3.2 with
  | none => rfl
  | some y4 =>
  simp only [Option.bind_some, Option.map_some]
  cases pI y4.2 with
  | none => rfl
  | some y5 =>
  rfl
theorem isOsd {w' : World} {S : Nat → Prop} {o : Option (List UInt8)} {c0 c1 c2 c3 c4 c5 : List Value} (f0 : ∀ x r, o.bind pF = some (x, r) → flagIs w' S c0 x) (f1 : ∀ x r, (After o pF).bind pF = some (x, r) → flagIs w' S c1 x) (f2 : ∀ x r, (After (After o pF) pF).bind pI = some (x, r) → intIs w' S c2 x) (f3 : ∀ x r, (After (After (After o pF) pF) pI).bind pI = some (x, r) → intIs w' S c3 x) (f4 : ∀ x r, (After (After (After (After o pF) pF) pI) pI).bind pI = some (x, r) → intIs w' S c4 x) (f5 : ∀ x r, (After (After (After (After (After o pF) pF) pI) pI) pI).bind pI = some (x, r) → intIs w' S c5 x) : ∀ x r, o.bind pOsd = some (x, r) → OsdT.Is w' S ([] ++ c0 ++ c1 ++ c2 ++ c3 ++ c4 ++ c5) x := by
  intro x r h
  obtain ⟨bs, ho, h⟩ := Option.bind_eq_some_iff.1 h
  unfold pOsd at h
  obtain ⟨⟨y0, r0⟩, h0, h⟩ := Option.bind_eq_some_iff.1 h
  replace h0 : o.bind pF = some (y0, r0) := by rw [ho]; exact h0
  have a0 := after_some h0
  obtain ⟨⟨y1, r1⟩, h1, h⟩ := Option.bind_eq_some_iff.1 h
  replace h1 : (After o pF).bind pF = some (y1, r1) := by rw [a0]; exact h1
  have a1 := after_some h1
  obtain ⟨⟨y2, r2⟩, h2, h⟩ := Option.bind_eq_some_iff.1 h
  replace h2 : (After (After o pF) pF).bind pI = some (y2, r2) := by rw [a1]; exact h2
  have a2 := after_some h2
  obtain ⟨⟨y3, r3⟩, h3, h⟩ := Option.bind_eq_some_iff.1 h
  replace h3 : (After (After (After o pF) pF) pI).bind pI = some (y3, r3) := by rw [a2]; exact h3
  have a3 := after_some h3
  obtain ⟨⟨y4, r4⟩, h4, h⟩ := Option.bind_eq_some_iff.1 h
  replace h4 : (After (After (After (After o pF) pF) pI) pI).bind pI = some (y4, r4) := by rw [a3]; exact h4
  have a4 := after_some h4
  obtain ⟨⟨y5, r5⟩, h5, h⟩ := Option.bind_eq_some_iff.1 h
  replace h5 : (After (After (After (After (After o pF) pF) pI) pI) pI).bind pI = some (y5, r5) := by rw [a4]; exact h5
  have a5 := after_some h5
  simp only [Option.some.injEq, Prod.mk.injEq] at h
  obtain ⟨rfl, rfl⟩ := h
  obtain rfl := f0 _ _ h0
  obtain rfl := f1 _ _ h1
  obtain ⟨rfl, j2⟩ := f2 _ _ h2
  obtain ⟨rfl, j3⟩ := f3 _ _ h3
  obtain ⟨rfl, j4⟩ := f4 _ _ h4
  obtain ⟨rfl, j5⟩ := f5 _ _ h5
  exact ⟨rfl, j2, j3, j4, j5⟩
theorem osdD_c {w : World} {q : Nat} {o : Option (List UInt8)} {g : Option Nat} (h : Dr w q o g) (hgl : ∀ k, g = some k → k < w.heap.size) :
    Calls Tryz.prog 110 #[.pointer (some ⟨q, 0, none⟩)] w (Red 6 (fun cs => .agg cs.toArray) OsdT.Is pOsd o w q g) := by
  obtain ⟨i0, hi, hsz, -⟩ := info_sz ziOsd
  have HS := Lib.hid hsz
  have L0 := Fl.start 208 zOsd h hgl
  clear hsz h
  go_enter Tryz.func110, Tryz.ntmps110
  go_wp2_with (first | (refine wpList_alloc_block rfl 208 rfl (zero_run ziOsd _) w.heap.size rfl ?_) | (refine wpList_alloc_block rfl 208 rfl (zero_run ziOsd _) (w.heap.size + 1) (by simp) ?_))
  generalize (w.alloc (.cells zOsd 208)).alloc (.cells zOsd 208) = w0 at L0 ⊢
  refine (boolR_c L0.dr).mono ?_
  rintro e v1 ⟨k1, N0, rfl, d1, F0⟩
  have zz0 := L0.size
  have kk0 := k1.size
  go_wp2_with (refine wpList_store_fl flagIs_stable L0 k1 d1 (one1 _ rfl) F0 rfl 4 _ _ rfl rfl rfl rfl rfl sz_bool (Nat.le_of_ble_eq_true rfl) ?_; intro w1 cur1 L1 s1)
  refine (boolR_c L1.dr).mono ?_
  rintro e v2 ⟨k2, N1, rfl, d2, F1⟩
  have zz1 := L1.size
  have kk1 := k2.size
  go_wp2_with (refine wpList_store_fl flagIs_stable L1 k2 d2 (one1 _ rfl) F1 rfl 4 _ _ rfl rfl rfl rfl rfl sz_bool (Nat.le_of_ble_eq_true rfl) ?_; intro w2 cur2 L2 s2)
  refine (intR_c L2.dr).mono ?_
  rintro e v3 ⟨k3, N2, rfl, d3, F2⟩
  have zz2 := L2.size
  have kk2 := k3.size
  go_wp2_with (refine wpList_store_fl intIs_stable L2 k3 d3 (one1 _ rfl) F2 rfl 3 _ _ rfl rfl rfl rfl rfl sz_int (Nat.le_of_ble_eq_true rfl) ?_; intro w3 cur3 L3 s3)
  refine (intR_c L3.dr).mono ?_
  rintro e v4 ⟨k4, N3, rfl, d4, F3⟩
  have zz3 := L3.size
  have kk3 := k4.size
  go_wp2_with (refine wpList_store_fl intIs_stable L3 k4 d4 (one1 _ rfl) F3 rfl 3 _ _ rfl rfl rfl rfl rfl sz_int (Nat.le_of_ble_eq_true rfl) ?_; intro w4 cur4 L4 s4)
  refine (intR_c L4.dr).mono ?_
  rintro e v5 ⟨k5, N4, rfl, d5, F4⟩
  have zz4 := L4.size
  have kk4 := k5.size
  go_wp2_with (refine wpList_store_fl intIs_stable L4 k5 d5 (one1 _ rfl) F4 rfl 3 _ _ rfl rfl rfl rfl rfl sz_int (Nat.le_of_ble_eq_true rfl) ?_; intro w5 cur5 L5 s5)
  refine (intR_c L5.dr).mono ?_
  rintro e v6 ⟨k6, N5, rfl, d6, F5⟩
  have zz5 := L5.size
  have kk5 := k6.size
  go_wp2_with (first | (refine wpList_load_block rfl 208 _ rfl rfl L6.blk (Tryz.isAgg208 _) hi (HS.out.trans L6.put.size.symm) ?_) | (refine wpList_store_block rfl 208 _ _ rfl rfl rfl L6.res hi (HS.out.trans L6.put.size.symm) L6.put.size.symm (L6.all rfl) ?_; intro w7 k7 b7 s7) | (refine wpList_store_fl intIs_stable L5 k6 d6 (one1 _ rfl) F5 rfl 3 _ _ rfl rfl rfl rfl rfl sz_int (Nat.le_of_ble_eq_true rfl) ?_; intro w6 cur6 L6 s6))
  have lV := run_loadVar_block b7 (Tryz.isAgg208 _) ((size_of ziOsd).trans (congrArg some L6.put.size.symm))
  refine bodyPost_ret (v := .agg cur6) (by simp [results, Tryz.results110, lV, asAddr, Act.put]) rfl ?_
  exact L6.red rfl k7 afOsd (fun D => isOsd D.1.1.1.1.1.2 D.1.1.1.1.2 D.1.1.1.2 D.1.1.2 D.1.2 D.2)
def zPool : Array Value := #[Value.int IntKind.i64 0, Value.int IntKind.i64 0, Value.int IntKind.i64 0, Value.int IntKind.i64 0]
theorem ziPool : (Tryz.prog.info? 156).map (fun i => (i.size, i.zero)) = some (4, some (.agg zPool)) := by kernel_rfl
theorem afPool {o : Option (List UInt8)} : After o pPool = (After (After (After (After o pI) pI) pI) pI) := by
  cases o with
  | none => rfl
  | some bs =>
  unfold After pPool
  simp only [Option.bind_some]
  cases pI bs with
  | none => rfl
  | some y0 =>
  simp only [Option.bind_some, Option.map_some]
  cases pI y0.2 with
  | none => rfl
  | some y1 =>
  simp only [Option.bind_some, Option.map_some]
  cases pI y1.2 with
  | none => rfl
  | some y2 =>
  simp only [Option.bind_some, Option.map_some]
  cases pI y2.2 with
  | none => rfl
  | some y3 =>
  rfl
theorem isPool {w' : World} {S : Nat → Prop} {o : Option (List UInt8)} {c0 c1 c2 c3 : List Value} (f0 : ∀ x r, o.bind pI = some (x, r) → intIs w' S c0 x) (f1 : ∀ x r, (After o pI).bind pI = some (x, r) → intIs w' S c1 x) (f2 : ∀ x r, (After (After o pI) pI).bind pI = some (x, r) → intIs w' S c2 x) (f3 : ∀ x r, (After (After (After o pI) pI) pI).bind pI = some (x, r) → intIs w' S c3 x) : ∀ x r, o.bind pPool = some (x, r) → PoolT.Is w' S ([] ++ c0 ++ c1 ++ c2 ++ c3) x := by
  intro x r h
  obtain ⟨bs, ho, h⟩ := Option.bind_eq_some_iff.1 h
  unfold pPool at h
  obtain ⟨⟨y0, r0⟩, h0, h⟩ := Option.bind_eq_some_iff.1 h
  replace h0 : o.bind pI = some (y0, r0) := by rw [ho]; exact h0
  have a0 := after_some h0
  obtain ⟨⟨y1, r1⟩, h1, h⟩ := Option.bind_eq_some_iff.1 h
  replace h1 : (After o pI).bind pI = some (y1, r1) := by rw [a0]; exact h1
  have a1 := after_some h1
  obtain ⟨⟨y2, r2⟩, h2, h⟩ := Option.bind_eq_some_iff.1 h
  replace h2 : (After (After o pI) pI).bind pI = some (y2, r2) := by rw [a1]; exact h2
  have a2 := after_some h2
  obtain ⟨⟨y3, r3⟩, h3, h⟩ := Option.bind_eq_some_iff.1 h
  replace h3 : (After (After (After o pI) pI) pI).bind pI = some (y3, r3) := by rw [a2]; exact h3
  have a3 := after_some h3
  simp only [Option.some.injEq, Prod.mk.injEq] at h
  obtain ⟨rfl, rfl⟩ := h
  obtain ⟨rfl, j0⟩ := f0 _ _ h0
  obtain ⟨rfl, j1⟩ := f1 _ _ h1
  obtain ⟨rfl, j2⟩ := f2 _ _ h2
  obtain ⟨rfl, j3⟩ := f3 _ _ h3
  exact ⟨rfl, j0, j1, j2, j3⟩
theorem poolD_c {w : World} {q : Nat} {o : Option (List UInt8)} {g : Option Nat} (h : Dr w q o g) (hgl : ∀ k, g = some k → k < w.heap.size) :
    Calls Tryz.prog 111 #[.pointer (some ⟨q, 0, none⟩)] w (Red 4 (fun cs => .agg cs.toArray) PoolT.Is pPool o w q g) := by
  obtain ⟨i0, hi, hsz, -⟩ := info_sz ziPool
  have HS := Lib.hid hsz
  have L0 := Fl.start 156 zPool h hgl
  clear hsz h
  go_enter Tryz.func111, Tryz.ntmps111
  go_wp2_with (first | (refine wpList_alloc_block rfl 156 rfl (zero_run ziPool _) w.heap.size rfl ?_) | (refine wpList_alloc_block rfl 156 rfl (zero_run ziPool _) (w.heap.size + 1) (by simp) ?_))
  generalize (w.alloc (.cells zPool 156)).alloc (.cells zPool 156) = w0 at L0 ⊢
  refine (intR_c L0.dr).mono ?_
  rintro e v1 ⟨k1, N0, rfl, d1, F0⟩
  have zz0 := L0.size
  have kk0 := k1.size
  go_wp2_with (refine wpList_store_fl intIs_stable L0 k1 d1 (one1 _ rfl) F0 rfl 3 _ _ rfl rfl rfl rfl rfl sz_int (Nat.le_of_ble_eq_true rfl) ?_; intro w1 cur1 L1 s1)
  refine (intR_c L1.dr).mono ?_
  rintro e v2 ⟨k2, N1, rfl, d2, F1⟩
  have zz1 := L1.size
  have kk1 := k2.size
  go_wp2_with (refine wpList_store_fl intIs_stable L1 k2 d2 (one1 _ rfl) F1 rfl 3 _ _ rfl rfl rfl rfl rfl sz_int (Nat.le_of_ble_eq_true rfl) ?_; intro w2 cur2 L2 s2)
  refine (intR_c L2.dr).mono ?_
  rintro e v3 ⟨k3, N2, rfl, d3, F2⟩
  have zz2 := L2.size
  have kk2 := k3.size
  go_wp2_with (refine wpList_store_fl intIs_stable L2 k3 d3 (one1 _ rfl) F2 rfl 3 _ _ rfl rfl rfl rfl rfl sz_int (Nat.le_of_ble_eq_true rfl) ?_; intro w3 cur3 L3 s3)
  refine (intR_c L3.dr).mono ?_
  rintro e v4 ⟨k4, N3, rfl, d4, F3⟩
  have zz3 := L3.size
  have kk3 := k4.size
  go_wp2_with (first | (refine wpList_load_block rfl 156 _ rfl rfl L4.blk (Tryz.isAgg156 _) hi (HS.out.trans L4.put.size.symm) ?_) | (refine wpList_store_block rfl 156 _ _ rfl rfl rfl L4.res hi (HS.out.trans L4.put.size.symm) L4.put.size.symm (L4.all rfl) ?_; intro w5 k5 b5 s5) | (refine wpList_store_fl intIs_stable L3 k4 d4 (one1 _ rfl) F3 rfl 3 _ _ rfl rfl rfl rfl rfl sz_int (Nat.le_of_ble_eq_true rfl) ?_; intro w4 cur4 L4 s4))
  have lV := run_loadVar_block b5 (Tryz.isAgg156 _) ((size_of ziPool).trans (congrArg some L4.put.size.symm))
  refine bodyPost_ret (v := .agg cur4) (by simp [results, Tryz.results111, lV, asAddr, Act.put]) rfl ?_
  exact L4.red rfl k5 afPool (fun D => isPool D.1.1.1.2 D.1.1.2 D.1.2 D.2)
def zBucket : Array Value := #[Value.int IntKind.i64 0, Value.int IntKind.i64 0, Value.slice none 0 0, Value.slice none 0 0]
theorem ziBucket : (Tryz.prog.info? 159).map (fun i => (i.size, i.zero)) = some (4, some (.agg zBucket)) := by kernel_rfl
theorem afBucket {o : Option (List UInt8)} : After o pBucket = (After (After (After (After o pI) pI) (pL pI)) (pL pI)) := by
  cases o with
  | none => rfl
  | some bs =>
  unfold After pBucket
  simp only [Option.bind_some]
  cases pI bs with
  | none => rfl
  | some y0 =>
  simp only [Option.bind_some, Option.map_some]
  cases pI y0.2 with
  | none => rfl
  | some y1 =>
  simp only [Option.bind_some, Option.map_some]
  cases (pL pI) y1.2 with
  | none => rfl
  | some y2 =>
  simp only [Option.bind_some, Option.map_some]
  cases (pL pI) y2.2 with
  | none => rfl
  | some y3 =>
  rfl
theorem isBucket {w' : World} {S : Nat → Prop} {o : Option (List UInt8)} {c0 c1 c2 c3 : List Value} (f0 : ∀ x r, o.bind pI = some (x, r) → intIs w' S c0 x) (f1 : ∀ x r, (After o pI).bind pI = some (x, r) → intIs w' S c1 x) (f2 : ∀ x r, (After (After o pI) pI).bind (pL pI) = some (x, r) → (sliceIs 1 intIs) w' S c2 x) (f3 : ∀ x r, (After (After (After o pI) pI) (pL pI)).bind (pL pI) = some (x, r) → (sliceIs 1 intIs) w' S c3 x) : ∀ x r, o.bind pBucket = some (x, r) → BucketT.Is w' S ([] ++ c0 ++ c1 ++ c2 ++ c3) x := by
  intro x r h
  obtain ⟨bs, ho, h⟩ := Option.bind_eq_some_iff.1 h
  unfold pBucket at h
  obtain ⟨⟨y0, r0⟩, h0, h⟩ := Option.bind_eq_some_iff.1 h
  replace h0 : o.bind pI = some (y0, r0) := by rw [ho]; exact h0
  have a0 := after_some h0
  obtain ⟨⟨y1, r1⟩, h1, h⟩ := Option.bind_eq_some_iff.1 h
  replace h1 : (After o pI).bind pI = some (y1, r1) := by rw [a0]; exact h1
  have a1 := after_some h1
  obtain ⟨⟨y2, r2⟩, h2, h⟩ := Option.bind_eq_some_iff.1 h
  replace h2 : (After (After o pI) pI).bind (pL pI) = some (y2, r2) := by rw [a1]; exact h2
  have a2 := after_some h2
  obtain ⟨⟨y3, r3⟩, h3, h⟩ := Option.bind_eq_some_iff.1 h
  replace h3 : (After (After (After o pI) pI) (pL pI)).bind (pL pI) = some (y3, r3) := by rw [a2]; exact h3
  have a3 := after_some h3
  simp only [Option.some.injEq, Prod.mk.injEq] at h
  obtain ⟨rfl, rfl⟩ := h
  obtain ⟨rfl, j0⟩ := f0 _ _ h0
  obtain ⟨rfl, j1⟩ := f1 _ _ h1
  obtain ⟨v2, rfl, l2⟩ := f2 _ _ h2
  obtain ⟨v3, rfl, l3⟩ := f3 _ _ h3
  exact ⟨v2, v3, rfl, j0, j1, l2, l3⟩
theorem bucketD_c {w : World} {q : Nat} {o : Option (List UInt8)} {g : Option Nat} (h : Dr w q o g) (hgl : ∀ k, g = some k → k < w.heap.size) :
    Calls Tryz.prog 112 #[.pointer (some ⟨q, 0, none⟩)] w (Red 4 (fun cs => .agg cs.toArray) BucketT.Is pBucket o w q g) := by
  obtain ⟨i0, hi, hsz, -⟩ := info_sz ziBucket
  have HS := Lib.hid hsz
  have L0 := Fl.start 159 zBucket h hgl
  clear hsz h
  go_enter Tryz.func112, Tryz.ntmps112
  go_wp2_with (first | (refine wpList_alloc_block rfl 159 rfl (zero_run ziBucket _) w.heap.size rfl ?_) | (refine wpList_alloc_block rfl 159 rfl (zero_run ziBucket _) (w.heap.size + 1) (by simp) ?_))
  generalize (w.alloc (.cells zBucket 159)).alloc (.cells zBucket 159) = w0 at L0 ⊢
  refine (intR_c L0.dr).mono ?_
  rintro e v1 ⟨k1, N0, rfl, d1, F0⟩
  have zz0 := L0.size
  have kk0 := k1.size
  go_wp2_with (refine wpList_store_fl intIs_stable L0 k1 d1 (one1 _ rfl) F0 rfl 3 _ _ rfl rfl rfl rfl rfl sz_int (Nat.le_of_ble_eq_true rfl) ?_; intro w1 cur1 L1 s1)
  refine (intR_c L1.dr).mono ?_
  rintro e v2 ⟨k2, N1, rfl, d2, F1⟩
  have zz1 := L1.size
  have kk1 := k2.size
  go_wp2_with (refine wpList_store_fl intIs_stable L1 k2 d2 (one1 _ rfl) F1 rfl 3 _ _ rfl rfl rfl rfl rfl sz_int (Nat.le_of_ble_eq_true rfl) ?_; intro w2 cur2 L2 s2)
  refine (countD_c L2.dr).mono ?_
  rintro e v3 ⟨k3, n2, hn2, rfl, d3, hg2, -⟩
  have G0 := Ll.start intIs 1 3 (pr := pI) (L2.call k3 d3) rfl hg2
  have zz2 := L2.size
  have kk2 := k3.size
  clear hg2
  go_wp2
  go_loopw [12] (fun i w' => ∃ (k : Nat) (o' : Option (List UInt8)) (v : Value) (cur : Array Value) (Ls : List (List Value)) (g' : Option Nat), k ≤ n2 ∧ i = .int .i64 k ∧ Ll intIs 1 3 pI w v3 w' q (w.heap.size + 1) 159 zBucket _ g _ _ _ _ n2 k o' v cur Ls g') (fun i _ => n2 - (intOf i).toNat)
  case atStart => exact ⟨0, _, _, _, _, _, Nat.zero_le _, rfl, G0⟩
  obtain ⟨k, o', v, cur, Ls, g', hk, rfl, G⟩ := hrel
  by_cases hk2 : k < n2
  · have hki : (k : Int) < (n2 : Int) := by omega
    obtain ⟨-, -, -, -, c1, -, lq, -⟩ := G.dr.cells
    cases o' with
    | none =>
      have HG := Lib.hid G.skip
      clear G
      replace c1 : wr.cell? ⟨q, 1, none⟩ = some (.bool true) := c1
      go_wp2
      exact ⟨⟨k + 1, _, _, _, _, _, by omega, by simp, HG.out⟩, by simp [intOf]; omega⟩
    | some r =>
      obtain ⟨a, c, rfl⟩ := G.shape
      have hvp : cur[2]? = some (.slice a Ls.length c) := by
        have h9 := G.cell
        simp only [List.length_append, List.length_cons, List.length_nil] at h9
        exact h9
      obtain ⟨i1, hi1, hz0, hz1, hz2⟩ := info_all info_int
      have hlen := G.len
      have HB := Lib.hid G.blk
      have lpr := lt_in HB.out
      have HG := Lib.hid G
      clear G
      replace c1 : wr.cell? ⟨q, 1, none⟩ = some (.bool false) := c1
      go_wp2
      refine wp_region_ordJ (fun w' => w'.heap[w.heap.size + 1]? = some (.cells cur 159)) [2] [0, 1] [3, 4, 5] [6, 7] (by kernel_rfl) (by kernel_rfl) (fun _ _ d _ _ h => by cases d <;> exact h) (fun k => HB.out) ?_
      simp only [sel, List.filterMap_cons, List.filterMap_nil, List.getElem?_cons_zero, List.getElem?_cons_succ]
      repeat (quiet_step (fail))
      refine wpQuiet_nil ?_
      refine wpHeld_step (fun K hK => ?_)
      go_simp
      refine ⟨_, fun _ _ => rfl, hK _ ?_⟩
      refine wpHeld_step (fun K hK => ?_)
      go_simp
      refine ⟨.slice a Ls.length c, fun w' h => (by
        have h1 := (cell_in (k := 2) h).trans hvp
        have h2 := lt_in h
        clear h
        go_simp), hK _ ?_⟩
      refine wpHeld_nil ?_
      rintro _ ⟨nr, rfl⟩
      have kd := Kept.drewN (fun _ => False) wr nr
      have sd : (wr.drewN nr).heap.size = wr.heap.size := rfl
      have Q2 : Hid ((wr.drewN nr).heap[w.heap.size + 1]? = some (.cells cur 159)) := Lib.hid HB.out
      generalize wr.drewN nr = w2 at kd Q2 sd ⊢
      refine wpListS_step (fun K hK => ?_)
      go_simp
      go_wp2_with fail
      refine (intR_c (HG.out.dr.kept kd)).mono ?_
      rintro e w3 ⟨k3, N, rfl, d3, FE⟩
      have oE := one1 (.int .i64 N) rfl
      have Q3 : Hid (w3.heap[w.heap.size + 1]? = some (.cells cur 159)) := Lib.hid ((k3.block _ (lt_in Q2.out) (fun e => HG.out.fl.ne.1 e)).trans Q2.out)
      have K3 : Kept (· = q) wr w3 := (kd.mono (fun _ _ e => e.elim)).trans k3
      have FN : ∀ x r', (some r).bind pI = some (x, r') → intIs w3 (New wr w3) [Value.int IntKind.i64 N] x := fun x r' hx => intIs_stable _ _ _ _ _ _ (FE x r' hx) (fun k hk => ⟨by have := hk.1; omega, hk.2⟩) (fun _ _ => rfl)
      refine hK _ _ Q3.out ?_
      clear hK
      refine wpListS_step (fun K hK => ?_)
      go_simp
      have hA : (w3.alloc (Obj.cells #[Value.int IntKind.i64 N] 3)).heap[w.heap.size + 1]? = some (.cells cur 159) := (Below.heap_alloc _ _ _ (lt_in Q3.out)).trans Q3.out
      refine hK _ _ hA ?_
      clear hK
      have k34 := Kept.alloc (fun _ => False) w3 (Obj.cells #[Value.int IntKind.i64 N] 3)
      have r4 := reads_allocN w3 [Value.int IntKind.i64 N] 3 1 rfl
      generalize w3.alloc (Obj.cells #[Value.int IntKind.i64 N] 3) = w4 at hA k34 r4 ⊢
      have own4 := (HG.out.own.kept K3 (fun k hk e => by have := HG.out.gnew k hk; have := HG.out.fl.size; have := HG.out.fl.ql; omega)).kept k34 (fun _ _ h => h)
      refine wpListS_append_Own rfl _ _ 157 157 rfl 3 i1 (Value.int IntKind.i64 0) 1 8 Tryz.underlying157 hi1 hz0 hz1 hz2 rfl rfl own4 rfl (r4.src Tryz.underlying157 oE) (by unfold maxLen; omega) (by omega) ?_
      intro a5 c5 w5 g5 own5 k5 hg5
      have hA5 : w5.heap[w.heap.size + 1]? = _ := (k5.block _ (lt_in hA) (fun h => by have := HG.out.gnew _ h; have := HG.out.fl.size; omega)).trans hA
      refine ⟨hA5, ?_⟩
      refine wpListS_nil ?_
      have HN := Lib.hid (HG.out.grow intIs_stable hk2 K3 d3 rfl FN k34 own5 k5 hg5 2 rfl)
      have f5 : w5.frozen? ⟨w.heap.size + 1, 2, none⟩ = false := frozen_in hA5
      have z5 := (cell_in (k := 2) hA5).trans hvp
      have l5 := lt_in hA5
      clear hA5 hA own5 own4 r4 k5 hg5 hi1 hz0 hz1 hz2 FN FE d3 oE
      go_wp2
      exact ⟨⟨k + 1, _, _, _, _, _, by omega, by simp, HN.out⟩, by simp [intOf]; omega⟩
  obtain rfl : k = n2 := by omega
  have L3 := G.done intIs_stable (by decide)
  clear G
  go_wp2_with fail
  refine (countD_c L3.dr).mono ?_
  rintro e v4 ⟨k4, n3, hn3, rfl, d4, hg3, -⟩
  have G0 := Ll.start intIs 1 3 (pr := pI) (L3.call k4 d4) rfl hg3
  have zz3 := L3.size
  have kk3 := k4.size
  clear hg3
  go_wp2
  go_loopw [29] (fun i w' => ∃ (k : Nat) (o' : Option (List UInt8)) (v : Value) (cur : Array Value) (Ls : List (List Value)) (g' : Option Nat), k ≤ n3 ∧ i = .int .i64 k ∧ Ll intIs 1 3 pI w v4 w' q (w.heap.size + 1) 159 zBucket _ g _ _ _ _ n3 k o' v cur Ls g') (fun i _ => n3 - (intOf i).toNat)
  case atStart => exact ⟨0, _, _, _, _, _, Nat.zero_le _, rfl, G0⟩
  obtain ⟨k, o', v, cur, Ls, g', hk, rfl, G⟩ := hrel
  by_cases hk2 : k < n3
  · have hki : (k : Int) < (n3 : Int) := by omega
    obtain ⟨-, -, -, -, c1, -, lq, -⟩ := G.dr.cells
    cases o' with
    | none =>
      have HG := Lib.hid G.skip
      clear G
      replace c1 : wr.cell? ⟨q, 1, none⟩ = some (.bool true) := c1
      go_wp2
      exact ⟨⟨k + 1, _, _, _, _, _, by omega, by simp, HG.out⟩, by simp [intOf]; omega⟩
    | some r =>
      obtain ⟨a, c, rfl⟩ := G.shape
      have hvp : cur[3]? = some (.slice a Ls.length c) := by
        have h9 := G.cell
        simp only [List.length_append, List.length_cons, List.length_nil] at h9
        exact h9
      obtain ⟨i1, hi1, hz0, hz1, hz2⟩ := info_all info_int
      have hlen := G.len
      have HB := Lib.hid G.blk
      have lpr := lt_in HB.out
      have HG := Lib.hid G
      clear G
      replace c1 : wr.cell? ⟨q, 1, none⟩ = some (.bool false) := c1
      go_wp2
      refine wp_region_ordJ (fun w' => w'.heap[w.heap.size + 1]? = some (.cells cur 159)) [2] [0, 1] [3, 4, 5] [6, 7] (by kernel_rfl) (by kernel_rfl) (fun _ _ d _ _ h => by cases d <;> exact h) (fun k => HB.out) ?_
      simp only [sel, List.filterMap_cons, List.filterMap_nil, List.getElem?_cons_zero, List.getElem?_cons_succ]
      repeat (quiet_step (fail))
      refine wpQuiet_nil ?_
      refine wpHeld_step (fun K hK => ?_)
      go_simp
      refine ⟨_, fun _ _ => rfl, hK _ ?_⟩
      refine wpHeld_step (fun K hK => ?_)
      go_simp
      refine ⟨.slice a Ls.length c, fun w' h => (by
        have h1 := (cell_in (k := 3) h).trans hvp
        have h2 := lt_in h
        clear h
        go_simp), hK _ ?_⟩
      refine wpHeld_nil ?_
      rintro _ ⟨nr, rfl⟩
      have kd := Kept.drewN (fun _ => False) wr nr
      have sd : (wr.drewN nr).heap.size = wr.heap.size := rfl
      have Q2 : Hid ((wr.drewN nr).heap[w.heap.size + 1]? = some (.cells cur 159)) := Lib.hid HB.out
      generalize wr.drewN nr = w2 at kd Q2 sd ⊢
      refine wpListS_step (fun K hK => ?_)
      go_simp
      go_wp2_with fail
      refine (intR_c (HG.out.dr.kept kd)).mono ?_
      rintro e w3 ⟨k3, N, rfl, d3, FE⟩
      have oE := one1 (.int .i64 N) rfl
      have Q3 : Hid (w3.heap[w.heap.size + 1]? = some (.cells cur 159)) := Lib.hid ((k3.block _ (lt_in Q2.out) (fun e => HG.out.fl.ne.1 e)).trans Q2.out)
      have K3 : Kept (· = q) wr w3 := (kd.mono (fun _ _ e => e.elim)).trans k3
      have FN : ∀ x r', (some r).bind pI = some (x, r') → intIs w3 (New wr w3) [Value.int IntKind.i64 N] x := fun x r' hx => intIs_stable _ _ _ _ _ _ (FE x r' hx) (fun k hk => ⟨by have := hk.1; omega, hk.2⟩) (fun _ _ => rfl)
      refine hK _ _ Q3.out ?_
      clear hK
      refine wpListS_step (fun K hK => ?_)
      go_simp
      have hA : (w3.alloc (Obj.cells #[Value.int IntKind.i64 N] 3)).heap[w.heap.size + 1]? = some (.cells cur 159) := (Below.heap_alloc _ _ _ (lt_in Q3.out)).trans Q3.out
      refine hK _ _ hA ?_
      clear hK
      have k34 := Kept.alloc (fun _ => False) w3 (Obj.cells #[Value.int IntKind.i64 N] 3)
      have r4 := reads_allocN w3 [Value.int IntKind.i64 N] 3 1 rfl
      generalize w3.alloc (Obj.cells #[Value.int IntKind.i64 N] 3) = w4 at hA k34 r4 ⊢
      have own4 := (HG.out.own.kept K3 (fun k hk e => by have := HG.out.gnew k hk; have := HG.out.fl.size; have := HG.out.fl.ql; omega)).kept k34 (fun _ _ h => h)
      refine wpListS_append_Own rfl _ _ 157 157 rfl 3 i1 (Value.int IntKind.i64 0) 1 8 Tryz.underlying157 hi1 hz0 hz1 hz2 rfl rfl own4 rfl (r4.src Tryz.underlying157 oE) (by unfold maxLen; omega) (by omega) ?_
      intro a5 c5 w5 g5 own5 k5 hg5
      have hA5 : w5.heap[w.heap.size + 1]? = _ := (k5.block _ (lt_in hA) (fun h => by have := HG.out.gnew _ h; have := HG.out.fl.size; omega)).trans hA
      refine ⟨hA5, ?_⟩
      refine wpListS_nil ?_
      have HN := Lib.hid (HG.out.grow intIs_stable hk2 K3 d3 rfl FN k34 own5 k5 hg5 3 rfl)
      have f5 : w5.frozen? ⟨w.heap.size + 1, 3, none⟩ = false := frozen_in hA5
      have z5 := (cell_in (k := 3) hA5).trans hvp
      have l5 := lt_in hA5
      clear hA5 hA own5 own4 r4 k5 hg5 hi1 hz0 hz1 hz2 FN FE d3 oE
      go_wp2
      exact ⟨⟨k + 1, _, _, _, _, _, by omega, by simp, HN.out⟩, by simp [intOf]; omega⟩
  obtain rfl : k = n3 := by omega
  have L4 := G.done intIs_stable (by decide)
  clear G
  go_wp2_with (first | (refine wpList_load_block rfl 159 _ rfl rfl L4.blk (Tryz.isAgg159 _) hi (HS.out.trans L4.put.size.symm) ?_) | (refine wpList_store_block rfl 159 _ _ rfl rfl rfl L4.res hi (HS.out.trans L4.put.size.symm) L4.put.size.symm (L4.all rfl) ?_; intro w5 k5 b5 s5))
  have lV := run_loadVar_block b5 (Tryz.isAgg159 _) ((size_of ziBucket).trans (congrArg some L4.put.size.symm))
  refine bodyPost_ret (v := .agg cur) (by simp [results, Tryz.results112, lV, asAddr, Act.put]) rfl ?_
  exact L4.red rfl k5 afBucket (fun D => isBucket D.1.1.1.2 D.1.1.2 D.1.2 D.2)
def zEntry : Array Value := #[Value.int IntKind.i64 0, Value.int IntKind.i64 0, Value.bool false, Value.int IntKind.i64 0, Value.string ⟨#[]⟩, Value.int IntKind.i64 0, Value.int IntKind.i64 0]
theorem ziEntry : (Tryz.prog.info? 41).map (fun i => (i.size, i.zero)) = some (7, some (.agg zEntry)) := by kernel_rfl
theorem afEntry {o : Option (List UInt8)} : After o pEntry = (After (After (After (After (After (After o pVersion) pF) pI) pT) pI) pI) := by
  cases o with
  | none => rfl
  | some bs =>
  unfold After pEntry
  simp only [Option.bind_some]
  cases pVersion bs with
  | none => rfl
  | some y0 =>
  simp only [Option.bind_some, Option.map_some]
  cases pF y0.2 with
  | none => rfl
  | some y1 =>
  simp only [Option.bind_some, Option.map_some]
  cases pI y1.2 with
  | none => rfl
  | some y2 =>
  simp only [Option.bind_some, Option.map_some]
  cases pT y2.2 with
  | none => rfl
  | some y3 =>
  simp only [Option.bind_some, Option.map_some]
  cases pI y3.2 with
  | none => rfl
  | some y4 =>
  simp only [Option.bind_some, Option.map_some]
  cases pI y4.2 with
  | none => rfl
  | some y5 =>
  rfl
theorem isEntry {w' : World} {S : Nat → Prop} {o : Option (List UInt8)} {c0 c1 c2 c3 c4 c5 : List Value} (f0 : ∀ x r, o.bind pVersion = some (x, r) → VersionT.Is w' S c0 x) (f1 : ∀ x r, (After o pVersion).bind pF = some (x, r) → flagIs w' S c1 x) (f2 : ∀ x r, (After (After o pVersion) pF).bind pI = some (x, r) → intIs w' S c2 x) (f3 : ∀ x r, (After (After (After o pVersion) pF) pI).bind pT = some (x, r) → textIs w' S c3 x) (f4 : ∀ x r, (After (After (After (After o pVersion) pF) pI) pT).bind pI = some (x, r) → intIs w' S c4 x) (f5 : ∀ x r, (After (After (After (After (After o pVersion) pF) pI) pT) pI).bind pI = some (x, r) → intIs w' S c5 x) : ∀ x r, o.bind pEntry = some (x, r) → EntryT.Is w' S ([] ++ c0 ++ c1 ++ c2 ++ c3 ++ c4 ++ c5) x := by
  intro x r h
  obtain ⟨bs, ho, h⟩ := Option.bind_eq_some_iff.1 h
  unfold pEntry at h
  obtain ⟨⟨y0, r0⟩, h0, h⟩ := Option.bind_eq_some_iff.1 h
  replace h0 : o.bind pVersion = some (y0, r0) := by rw [ho]; exact h0
  have a0 := after_some h0
  obtain ⟨⟨y1, r1⟩, h1, h⟩ := Option.bind_eq_some_iff.1 h
  replace h1 : (After o pVersion).bind pF = some (y1, r1) := by rw [a0]; exact h1
  have a1 := after_some h1
  obtain ⟨⟨y2, r2⟩, h2, h⟩ := Option.bind_eq_some_iff.1 h
  replace h2 : (After (After o pVersion) pF).bind pI = some (y2, r2) := by rw [a1]; exact h2
  have a2 := after_some h2
  obtain ⟨⟨y3, r3⟩, h3, h⟩ := Option.bind_eq_some_iff.1 h
  replace h3 : (After (After (After o pVersion) pF) pI).bind pT = some (y3, r3) := by rw [a2]; exact h3
  have a3 := after_some h3
  obtain ⟨⟨y4, r4⟩, h4, h⟩ := Option.bind_eq_some_iff.1 h
  replace h4 : (After (After (After (After o pVersion) pF) pI) pT).bind pI = some (y4, r4) := by rw [a3]; exact h4
  have a4 := after_some h4
  obtain ⟨⟨y5, r5⟩, h5, h⟩ := Option.bind_eq_some_iff.1 h
  replace h5 : (After (After (After (After (After o pVersion) pF) pI) pT) pI).bind pI = some (y5, r5) := by rw [a4]; exact h5
  have a5 := after_some h5
  simp only [Option.some.injEq, Prod.mk.injEq] at h
  obtain ⟨rfl, rfl⟩ := h
  obtain ⟨rfl, j0_0, j0_1⟩ := f0 _ _ h0
  obtain rfl := f1 _ _ h1
  obtain ⟨rfl, j2⟩ := f2 _ _ h2
  obtain rfl := f3 _ _ h3
  obtain ⟨rfl, j4⟩ := f4 _ _ h4
  obtain ⟨rfl, j5⟩ := f5 _ _ h5
  exact ⟨rfl, j0_0, j0_1, j2, j4, j5⟩
theorem entryD_c {w : World} {q : Nat} {o : Option (List UInt8)} {g : Option Nat} (h : Dr w q o g) (hgl : ∀ k, g = some k → k < w.heap.size) :
    Calls Tryz.prog 86 #[.pointer (some ⟨q, 0, none⟩)] w (Red 7 (fun cs => .agg cs.toArray) EntryT.Is pEntry o w q g) := by
  obtain ⟨i0, hi, hsz, -⟩ := info_sz ziEntry
  have HS := Lib.hid hsz
  have L0 := Fl.start 41 zEntry h hgl
  clear hsz h
  go_enter Tryz.func86, Tryz.ntmps86
  go_wp2_with (first | (refine wpList_alloc_block rfl 41 rfl (zero_run ziEntry _) w.heap.size rfl ?_) | (refine wpList_alloc_block rfl 41 rfl (zero_run ziEntry _) (w.heap.size + 1) (by simp) ?_))
  generalize (w.alloc (.cells zEntry 41)).alloc (.cells zEntry 41) = w0 at L0 ⊢
  refine (versionD_c L0.dr (fun k hk => by have := hgl k hk; have := L0.size; omega)).mono ?_
  rintro e v1 ⟨k1, d1, N0, rfl, hl0, o0, F0⟩
  have zz0 := L0.size
  have kk0 := k1.size
  go_wp2_with (refine wpList_store_fl VersionT.stable L0 k1 d1 o0 F0 rfl 31 _ _ rfl rfl rfl rfl rfl ((size_of ziVersion).trans (congrArg some hl0.symm)) (by simp only [List.length_append, List.length_cons, List.length_nil, hl0] <;> exact Nat.le_of_ble_eq_true rfl) ?_; intro w1 cur1 L1 s1)
  refine (boolR_c L1.dr).mono ?_
  rintro e v2 ⟨k2, N1, rfl, d2, F1⟩
  have zz1 := L1.size
  have kk1 := k2.size
  go_wp2_with (refine wpList_store_fl flagIs_stable L1 k2 d2 (one1 _ rfl) F1 rfl 4 _ _ rfl rfl (by simp only [List.length_append, List.length_cons, List.length_nil, hl0] <;> rfl) rfl rfl sz_bool (by simp only [List.length_append, List.length_cons, List.length_nil, hl0] <;> exact Nat.le_of_ble_eq_true rfl) ?_; intro w2 cur2 L2 s2)
  refine (intR_c L2.dr).mono ?_
  rintro e v3 ⟨k3, N2, rfl, d3, F2⟩
  have zz2 := L2.size
  have kk2 := k3.size
  go_wp2_with (refine wpList_store_fl intIs_stable L2 k3 d3 (one1 _ rfl) F2 rfl 39 _ _ rfl rfl (by simp only [List.length_append, List.length_cons, List.length_nil, hl0] <;> rfl) rfl rfl sz_errno (by simp only [List.length_append, List.length_cons, List.length_nil, hl0] <;> exact Nat.le_of_ble_eq_true rfl) ?_; intro w3 cur3 L3 s3)
  refine (bytesR_c L3.dr (fun k hk => by have := hgl k hk; have := L3.size; omega)).mono ?_
  rintro e v4 ⟨k4, aa3, nn3, cc3, N3, rfl, cv3, -, d4, -, F3⟩
  have zz3 := L3.size
  have kk3 := k4.size
  go_wp2_with (refine wpList_store_fl textIs_stable L3 k4 d4 (one1 _ rfl) F3 rfl 9 _ _ rfl rfl (by simp only [List.length_append, List.length_cons, List.length_nil, hl0] <;> rfl) rfl rfl sz_string (by simp only [List.length_append, List.length_cons, List.length_nil, hl0] <;> exact Nat.le_of_ble_eq_true rfl) ?_; intro w4 cur4 L4 s4)
  refine (intR_c L4.dr).mono ?_
  rintro e v5 ⟨k5, N4, rfl, d5, F4⟩
  have zz4 := L4.size
  have kk4 := k5.size
  go_wp2_with (refine wpList_store_fl intIs_stable L4 k5 d5 (one1 _ rfl) F4 rfl 3 _ _ rfl rfl (by simp only [List.length_append, List.length_cons, List.length_nil, hl0] <;> rfl) rfl rfl sz_int (by simp only [List.length_append, List.length_cons, List.length_nil, hl0] <;> exact Nat.le_of_ble_eq_true rfl) ?_; intro w5 cur5 L5 s5)
  refine (intR_c L5.dr).mono ?_
  rintro e v6 ⟨k6, N5, rfl, d6, F5⟩
  have zz5 := L5.size
  have kk5 := k6.size
  go_wp2_with (first | (refine wpList_load_block rfl 41 _ rfl rfl L6.blk (Tryz.isAgg41 _) hi (HS.out.trans L6.put.size.symm) ?_) | (refine wpList_store_block rfl 41 _ _ rfl rfl rfl L6.res hi (HS.out.trans L6.put.size.symm) L6.put.size.symm (L6.all (by simp only [List.length_append, List.length_cons, List.length_nil, hl0] <;> rfl)) ?_; intro w7 k7 b7 s7) | (refine wpList_store_fl intIs_stable L5 k6 d6 (one1 _ rfl) F5 rfl 3 _ _ rfl rfl (by simp only [List.length_append, List.length_cons, List.length_nil, hl0] <;> rfl) rfl rfl sz_int (by simp only [List.length_append, List.length_cons, List.length_nil, hl0] <;> exact Nat.le_of_ble_eq_true rfl) ?_; intro w6 cur6 L6 s6))
  have lV := run_loadVar_block b7 (Tryz.isAgg41 _) ((size_of ziEntry).trans (congrArg some L6.put.size.symm))
  refine bodyPost_ret (v := .agg cur6) (by simp [results, Tryz.results86, lV, asAddr, Act.put]) rfl ?_
  exact L6.red (by simp only [List.length_append, List.length_cons, List.length_nil, hl0] <;> rfl) k7 afEntry (fun D => isEntry D.1.1.1.1.1.2 D.1.1.1.1.2 D.1.1.1.2 D.1.1.2 D.1.2 D.2)
def zLast : Array Value := #[Value.int IntKind.i64 0, Value.int IntKind.i64 0, Value.int IntKind.i64 0, Value.int IntKind.i64 0, Value.int IntKind.i64 0]
theorem ziLast : (Tryz.prog.info? 229).map (fun i => (i.size, i.zero)) = some (5, some (.agg zLast)) := by kernel_rfl
theorem afLast {o : Option (List UInt8)} : After o pLast = (After (After (After (After o pI) pI) pI) pVersion) := by
  cases o with
  | none => rfl
  | some bs =>
  unfold After pLast
  simp only [Option.bind_some]
  cases pI bs with
  | none => rfl
  | some y0 =>
  simp only [Option.bind_some, Option.map_some]
  cases pI y0.2 with
  | none => rfl
  | some y1 =>
  simp only [Option.bind_some, Option.map_some]
  cases pI y1.2 with
  | none => rfl
  | some y2 =>
  simp only [Option.bind_some, Option.map_some]
  cases pVersion y2.2 with
  | none => rfl
  | some y3 =>
  rfl
theorem isLast {w' : World} {S : Nat → Prop} {o : Option (List UInt8)} {c0 c1 c2 c3 : List Value} (f0 : ∀ x r, o.bind pI = some (x, r) → intIs w' S c0 x) (f1 : ∀ x r, (After o pI).bind pI = some (x, r) → intIs w' S c1 x) (f2 : ∀ x r, (After (After o pI) pI).bind pI = some (x, r) → intIs w' S c2 x) (f3 : ∀ x r, (After (After (After o pI) pI) pI).bind pVersion = some (x, r) → VersionT.Is w' S c3 x) : ∀ x r, o.bind pLast = some (x, r) → LastT.Is w' S ([] ++ c0 ++ c1 ++ c2 ++ c3) x := by
  intro x r h
  obtain ⟨bs, ho, h⟩ := Option.bind_eq_some_iff.1 h
  unfold pLast at h
  obtain ⟨⟨y0, r0⟩, h0, h⟩ := Option.bind_eq_some_iff.1 h
  replace h0 : o.bind pI = some (y0, r0) := by rw [ho]; exact h0
  have a0 := after_some h0
  obtain ⟨⟨y1, r1⟩, h1, h⟩ := Option.bind_eq_some_iff.1 h
  replace h1 : (After o pI).bind pI = some (y1, r1) := by rw [a0]; exact h1
  have a1 := after_some h1
  obtain ⟨⟨y2, r2⟩, h2, h⟩ := Option.bind_eq_some_iff.1 h
  replace h2 : (After (After o pI) pI).bind pI = some (y2, r2) := by rw [a1]; exact h2
  have a2 := after_some h2
  obtain ⟨⟨y3, r3⟩, h3, h⟩ := Option.bind_eq_some_iff.1 h
  replace h3 : (After (After (After o pI) pI) pI).bind pVersion = some (y3, r3) := by rw [a2]; exact h3
  have a3 := after_some h3
  simp only [Option.some.injEq, Prod.mk.injEq] at h
  obtain ⟨rfl, rfl⟩ := h
  obtain ⟨rfl, j0⟩ := f0 _ _ h0
  obtain ⟨rfl, j1⟩ := f1 _ _ h1
  obtain ⟨rfl, j2⟩ := f2 _ _ h2
  obtain ⟨rfl, j3_0, j3_1⟩ := f3 _ _ h3
  exact ⟨rfl, j0, j1, j2, j3_0, j3_1⟩
theorem lastD_c {w : World} {q : Nat} {o : Option (List UInt8)} {g : Option Nat} (h : Dr w q o g) (hgl : ∀ k, g = some k → k < w.heap.size) :
    Calls Tryz.prog 122 #[.pointer (some ⟨q, 0, none⟩)] w (Red 5 (fun cs => .agg cs.toArray) LastT.Is pLast o w q g) := by
  obtain ⟨i0, hi, hsz, -⟩ := info_sz ziLast
  have HS := Lib.hid hsz
  have L0 := Fl.start 229 zLast h hgl
  clear hsz h
  go_enter Tryz.func122, Tryz.ntmps122
  go_wp2_with (first | (refine wpList_alloc_block rfl 229 rfl (zero_run ziLast _) w.heap.size rfl ?_) | (refine wpList_alloc_block rfl 229 rfl (zero_run ziLast _) (w.heap.size + 1) (by simp) ?_))
  generalize (w.alloc (.cells zLast 229)).alloc (.cells zLast 229) = w0 at L0 ⊢
  refine (intR_c L0.dr).mono ?_
  rintro e v1 ⟨k1, N0, rfl, d1, F0⟩
  have zz0 := L0.size
  have kk0 := k1.size
  go_wp2_with (refine wpList_store_fl intIs_stable L0 k1 d1 (one1 _ rfl) F0 rfl 3 _ _ rfl rfl rfl rfl rfl sz_int (Nat.le_of_ble_eq_true rfl) ?_; intro w1 cur1 L1 s1)
  refine (intR_c L1.dr).mono ?_
  rintro e v2 ⟨k2, N1, rfl, d2, F1⟩
  have zz1 := L1.size
  have kk1 := k2.size
  go_wp2_with (refine wpList_store_fl intIs_stable L1 k2 d2 (one1 _ rfl) F1 rfl 3 _ _ rfl rfl rfl rfl rfl sz_int (Nat.le_of_ble_eq_true rfl) ?_; intro w2 cur2 L2 s2)
  refine (intR_c L2.dr).mono ?_
  rintro e v3 ⟨k3, N2, rfl, d3, F2⟩
  have zz2 := L2.size
  have kk2 := k3.size
  go_wp2_with (refine wpList_store_fl intIs_stable L2 k3 d3 (one1 _ rfl) F2 rfl 39 _ _ rfl rfl rfl rfl rfl sz_errno (Nat.le_of_ble_eq_true rfl) ?_; intro w3 cur3 L3 s3)
  refine (versionD_c L3.dr (fun k hk => by have := hgl k hk; have := L3.size; omega)).mono ?_
  rintro e v4 ⟨k4, d4, N3, rfl, hl3, o3, F3⟩
  have zz3 := L3.size
  have kk3 := k4.size
  go_wp2_with (first | (refine wpList_load_block rfl 229 _ rfl rfl L4.blk (Tryz.isAgg229 _) hi (HS.out.trans L4.put.size.symm) ?_) | (refine wpList_store_block rfl 229 _ _ rfl rfl rfl L4.res hi (HS.out.trans L4.put.size.symm) L4.put.size.symm (L4.all (by simp only [List.length_append, List.length_cons, List.length_nil, hl3] <;> rfl)) ?_; intro w5 k5 b5 s5) | (refine wpList_store_fl VersionT.stable L3 k4 d4 o3 F3 rfl 31 _ _ rfl rfl rfl rfl rfl ((size_of ziVersion).trans (congrArg some hl3.symm)) (by simp only [List.length_append, List.length_cons, List.length_nil, hl3] <;> exact Nat.le_of_ble_eq_true rfl) ?_; intro w4 cur4 L4 s4))
  have lV := run_loadVar_block b5 (Tryz.isAgg229 _) ((size_of ziLast).trans (congrArg some L4.put.size.symm))
  refine bodyPost_ret (v := .agg cur4) (by simp [results, Tryz.results122, lV, asAddr, Act.put]) rfl ?_
  exact L4.red (by simp only [List.length_append, List.length_cons, List.length_nil, hl3] <;> rfl) k5 afLast (fun D => isLast D.1.1.1.2 D.1.1.2 D.1.2 D.2)
def zItem : Array Value := #[Value.string ⟨#[]⟩, Value.int IntKind.i64 0, Value.int IntKind.i64 0, Value.int IntKind.u32 0]
theorem ziItem : (Tryz.prog.info? 176).map (fun i => (i.size, i.zero)) = some (4, some (.agg zItem)) := by kernel_rfl
theorem afItem {o : Option (List UInt8)} : After o pItem = (After (After (After o pT) pVersion) (pW 4)) := by
  cases o with
  | none => rfl
  | some bs =>
  unfold After pItem
  simp only [Option.bind_some]
  cases pT bs with
  | none => rfl
  | some y0 =>
  simp only [Option.bind_some, Option.map_some]
  cases pVersion y0.2 with
  | none => rfl
  | some y1 =>
  simp only [Option.bind_some, Option.map_some]
  cases (pW 4) y1.2 with
  | none => rfl
  | some y2 =>
  rfl
theorem isItem {w' : World} {S : Nat → Prop} {o : Option (List UInt8)} {c0 c1 c2 : List Value} (f0 : ∀ x r, o.bind pT = some (x, r) → textIs w' S c0 x) (f1 : ∀ x r, (After o pT).bind pVersion = some (x, r) → VersionT.Is w' S c1 x) (f2 : ∀ x r, (After (After o pT) pVersion).bind (pW 4) = some (x, r) → crcIs w' S c2 x) : ∀ x r, o.bind pItem = some (x, r) → ItemT.Is w' S ([] ++ c0 ++ c1 ++ c2) x := by
  intro x r h
  obtain ⟨bs, ho, h⟩ := Option.bind_eq_some_iff.1 h
  unfold pItem at h
  obtain ⟨⟨y0, r0⟩, h0, h⟩ := Option.bind_eq_some_iff.1 h
  replace h0 : o.bind pT = some (y0, r0) := by rw [ho]; exact h0
  have a0 := after_some h0
  obtain ⟨⟨y1, r1⟩, h1, h⟩ := Option.bind_eq_some_iff.1 h
  replace h1 : (After o pT).bind pVersion = some (y1, r1) := by rw [a0]; exact h1
  have a1 := after_some h1
  obtain ⟨⟨y2, r2⟩, h2, h⟩ := Option.bind_eq_some_iff.1 h
  replace h2 : (After (After o pT) pVersion).bind (pW 4) = some (y2, r2) := by rw [a1]; exact h2
  have a2 := after_some h2
  simp only [Option.some.injEq, Prod.mk.injEq] at h
  obtain ⟨rfl, rfl⟩ := h
  obtain rfl := f0 _ _ h0
  obtain ⟨rfl, j1_0, j1_1⟩ := f1 _ _ h1
  obtain ⟨rfl, j2⟩ := f2 _ _ h2
  exact ⟨rfl, j1_0, j1_1, j2⟩
theorem itemD_c {w : World} {q : Nat} {o : Option (List UInt8)} {g : Option Nat} (h : Dr w q o g) (hgl : ∀ k, g = some k → k < w.heap.size) :
    Calls Tryz.prog 89 #[.pointer (some ⟨q, 0, none⟩)] w (Red 4 (fun cs => .agg cs.toArray) ItemT.Is pItem o w q g) := by
  obtain ⟨i0, hi, hsz, -⟩ := info_sz ziItem
  have HS := Lib.hid hsz
  have L0 := Fl.start 176 zItem h hgl
  clear hsz h
  go_enter Tryz.func89, Tryz.ntmps89
  go_wp2_with (first | (refine wpList_alloc_block rfl 176 rfl (zero_run ziItem _) w.heap.size rfl ?_) | (refine wpList_alloc_block rfl 176 rfl (zero_run ziItem _) (w.heap.size + 1) (by simp) ?_))
  generalize (w.alloc (.cells zItem 176)).alloc (.cells zItem 176) = w0 at L0 ⊢
  refine (bytesR_c L0.dr (fun k hk => by have := hgl k hk; have := L0.size; omega)).mono ?_
  rintro e v1 ⟨k1, aa0, nn0, cc0, N0, rfl, cv0, -, d1, -, F0⟩
  have zz0 := L0.size
  have kk0 := k1.size
  go_wp2_with (refine wpList_store_fl textIs_stable L0 k1 d1 (one1 _ rfl) F0 rfl 9 _ _ rfl rfl rfl rfl rfl sz_string (Nat.le_of_ble_eq_true rfl) ?_; intro w1 cur1 L1 s1)
  refine (versionD_c L1.dr (fun k hk => by have := hgl k hk; have := L1.size; omega)).mono ?_
  rintro e v2 ⟨k2, d2, N1, rfl, hl1, o1, F1⟩
  have zz1 := L1.size
  have kk1 := k2.size
  go_wp2_with (refine wpList_store_fl VersionT.stable L1 k2 d2 o1 F1 rfl 31 _ _ rfl rfl rfl rfl rfl ((size_of ziVersion).trans (congrArg some hl1.symm)) (by simp only [List.length_append, List.length_cons, List.length_nil, hl1] <;> exact Nat.le_of_ble_eq_true rfl) ?_; intro w2 cur2 L2 s2)
  refine (wordR_c L2.dr).mono ?_
  rintro e v3 ⟨k3, N2, rfl, d3, F2⟩
  have zz2 := L2.size
  have kk2 := k3.size
  go_wp2_with (first | (refine wpList_load_block rfl 176 _ rfl rfl L3.blk (Tryz.isAgg176 _) hi (HS.out.trans L3.put.size.symm) ?_) | (refine wpList_store_block rfl 176 _ _ rfl rfl rfl L3.res hi (HS.out.trans L3.put.size.symm) L3.put.size.symm (L3.all (by simp only [List.length_append, List.length_cons, List.length_nil, hl1] <;> rfl)) ?_; intro w4 k4 b4 s4) | (refine wpList_store_fl crcIs_stable L2 k3 d3 (one1 _ rfl) F2 rfl 174 _ _ rfl rfl (by simp only [List.length_append, List.length_cons, List.length_nil, hl1] <;> rfl) rfl rfl sz_u32 (by simp only [List.length_append, List.length_cons, List.length_nil, hl1] <;> exact Nat.le_of_ble_eq_true rfl) ?_; intro w3 cur3 L3 s3))
  have lV := run_loadVar_block b4 (Tryz.isAgg176 _) ((size_of ziItem).trans (congrArg some L3.put.size.symm))
  refine bodyPost_ret (v := .agg cur3) (by simp [results, Tryz.results89, lV, asAddr, Act.put]) rfl ?_
  exact L3.red (by simp only [List.length_append, List.length_cons, List.length_nil, hl1] <;> rfl) k4 afItem (fun D => isItem D.1.1.2 D.1.2 D.2)
def zStep : Array Value := #[Value.int IntKind.i64 0, Value.int IntKind.i64 0, Value.int IntKind.i64 0, Value.string ⟨#[]⟩, Value.int IntKind.i64 0, Value.int IntKind.i64 0, Value.string ⟨#[]⟩, Value.slice none 0 0]
theorem ziStep : (Tryz.prog.info? 239).map (fun i => (i.size, i.zero)) = some (8, some (.agg zStep)) := by kernel_rfl
theorem afStep {o : Option (List UInt8)} : After o pStep = (After (After (After (After (After (After (After o pI) pPg) pT) pI) pI) pT) pB) := by
  cases o with
  | none => rfl
  | some bs =>
  unfold After pStep
  simp only [Option.bind_some]
  cases pI bs with
  | none => rfl
  | some y0 =>
  simp only [Option.bind_some, Option.map_some]
  cases pPg y0.2 with
  | none => rfl
  | some y1 =>
  simp only [Option.bind_some, Option.map_some]
  cases pT y1.2 with
  | none => rfl
  | some y2 =>
  simp only [Option.bind_some, Option.map_some]
  cases pI y2.2 with
  | none => rfl
  | some y3 =>
  simp only [Option.bind_some, Option.map_some]
  cases pI y3.2 with
  | none => rfl
  | some y4 =>
  simp only [Option.bind_some, Option.map_some]
  cases pT y4.2 with
  | none => rfl
  | some y5 =>
  simp only [Option.bind_some, Option.map_some]
  cases pB y5.2 with
  | none => rfl
  | some y6 =>
  rfl
theorem isStep {w' : World} {S : Nat → Prop} {o : Option (List UInt8)} {c0 c1 c2 c3 c4 c5 c6 : List Value} (f0 : ∀ x r, o.bind pI = some (x, r) → intIs w' S c0 x) (f1 : ∀ x r, (After o pI).bind pPg = some (x, r) → PgT.Is w' S c1 x) (f2 : ∀ x r, (After (After o pI) pPg).bind pT = some (x, r) → textIs w' S c2 x) (f3 : ∀ x r, (After (After (After o pI) pPg) pT).bind pI = some (x, r) → intIs w' S c3 x) (f4 : ∀ x r, (After (After (After (After o pI) pPg) pT) pI).bind pI = some (x, r) → intIs w' S c4 x) (f5 : ∀ x r, (After (After (After (After (After o pI) pPg) pT) pI) pI).bind pT = some (x, r) → textIs w' S c5 x) (f6 : ∀ x r, (After (After (After (After (After (After o pI) pPg) pT) pI) pI) pT).bind pB = some (x, r) → (sliceIs 1 byteIs) w' S c6 x) : ∀ x r, o.bind pStep = some (x, r) → StepT.Is w' S ([] ++ c0 ++ c1 ++ c2 ++ c3 ++ c4 ++ c5 ++ c6) x := by
  intro x r h
  obtain ⟨bs, ho, h⟩ := Option.bind_eq_some_iff.1 h
  unfold pStep at h
  obtain ⟨⟨y0, r0⟩, h0, h⟩ := Option.bind_eq_some_iff.1 h
  replace h0 : o.bind pI = some (y0, r0) := by rw [ho]; exact h0
  have a0 := after_some h0
  obtain ⟨⟨y1, r1⟩, h1, h⟩ := Option.bind_eq_some_iff.1 h
  replace h1 : (After o pI).bind pPg = some (y1, r1) := by rw [a0]; exact h1
  have a1 := after_some h1
  obtain ⟨⟨y2, r2⟩, h2, h⟩ := Option.bind_eq_some_iff.1 h
  replace h2 : (After (After o pI) pPg).bind pT = some (y2, r2) := by rw [a1]; exact h2
  have a2 := after_some h2
  obtain ⟨⟨y3, r3⟩, h3, h⟩ := Option.bind_eq_some_iff.1 h
  replace h3 : (After (After (After o pI) pPg) pT).bind pI = some (y3, r3) := by rw [a2]; exact h3
  have a3 := after_some h3
  obtain ⟨⟨y4, r4⟩, h4, h⟩ := Option.bind_eq_some_iff.1 h
  replace h4 : (After (After (After (After o pI) pPg) pT) pI).bind pI = some (y4, r4) := by rw [a3]; exact h4
  have a4 := after_some h4
  obtain ⟨⟨y5, r5⟩, h5, h⟩ := Option.bind_eq_some_iff.1 h
  replace h5 : (After (After (After (After (After o pI) pPg) pT) pI) pI).bind pT = some (y5, r5) := by rw [a4]; exact h5
  have a5 := after_some h5
  obtain ⟨⟨y6, r6⟩, h6, h⟩ := Option.bind_eq_some_iff.1 h
  replace h6 : (After (After (After (After (After (After o pI) pPg) pT) pI) pI) pT).bind pB = some (y6, r6) := by rw [a5]; exact h6
  have a6 := after_some h6
  simp only [Option.some.injEq, Prod.mk.injEq] at h
  obtain ⟨rfl, rfl⟩ := h
  obtain ⟨rfl, j0⟩ := f0 _ _ h0
  obtain ⟨rfl, j1_0, j1_1⟩ := f1 _ _ h1
  obtain rfl := f2 _ _ h2
  obtain ⟨rfl, j3⟩ := f3 _ _ h3
  obtain ⟨rfl, j4⟩ := f4 _ _ h4
  obtain rfl := f5 _ _ h5
  obtain ⟨v6, rfl, l6⟩ := f6 _ _ h6
  exact ⟨v6, rfl, j0, j1_0, j1_1, j3, j4, l6⟩
theorem stepD_c {w : World} {q : Nat} {o : Option (List UInt8)} {g : Option Nat} (h : Dr w q o g) (hgl : ∀ k, g = some k → k < w.heap.size) :
    Calls Tryz.prog 128 #[.pointer (some ⟨q, 0, none⟩)] w (Red 8 (fun cs => .agg cs.toArray) StepT.Is pStep o w q g) := by
  obtain ⟨i0, hi, hsz, -⟩ := info_sz ziStep
  have HS := Lib.hid hsz
  have L0 := Fl.start 239 zStep h hgl
  clear hsz h
  go_enter Tryz.func128, Tryz.ntmps128
  go_wp2_with (first | (refine wpList_alloc_block rfl 239 rfl (zero_run ziStep _) w.heap.size rfl ?_) | (refine wpList_alloc_block rfl 239 rfl (zero_run ziStep _) (w.heap.size + 1) (by simp) ?_))
  generalize (w.alloc (.cells zStep 239)).alloc (.cells zStep 239) = w0 at L0 ⊢
  refine (intR_c L0.dr).mono ?_
  rintro e v1 ⟨k1, N0, rfl, d1, F0⟩
  have zz0 := L0.size
  have kk0 := k1.size
  go_wp2_with (refine wpList_store_fl intIs_stable L0 k1 d1 (one1 _ rfl) F0 rfl 3 _ _ rfl rfl rfl rfl rfl sz_int (Nat.le_of_ble_eq_true rfl) ?_; intro w1 cur1 L1 s1)
  refine (pgD_c L1.dr (fun k hk => by have := hgl k hk; have := L1.size; omega)).mono ?_
  rintro e v2 ⟨k2, d2, N1, rfl, hl1, o1, F1⟩
  have zz1 := L1.size
  have kk1 := k2.size
  go_wp2_with (refine wpList_store_fl PgT.stable L1 k2 d2 o1 F1 rfl 26 _ _ rfl rfl rfl rfl rfl ((size_of ziPg).trans (congrArg some hl1.symm)) (by simp only [List.length_append, List.length_cons, List.length_nil, hl1] <;> exact Nat.le_of_ble_eq_true rfl) ?_; intro w2 cur2 L2 s2)
  refine (bytesR_c L2.dr (fun k hk => by have := hgl k hk; have := L2.size; omega)).mono ?_
  rintro e v3 ⟨k3, aa2, nn2, cc2, N2, rfl, cv2, -, d3, -, F2⟩
  have zz2 := L2.size
  have kk2 := k3.size
  go_wp2_with (refine wpList_store_fl textIs_stable L2 k3 d3 (one1 _ rfl) F2 rfl 9 _ _ rfl rfl (by simp only [List.length_append, List.length_cons, List.length_nil, hl1] <;> rfl) rfl rfl sz_string (by simp only [List.length_append, List.length_cons, List.length_nil, hl1] <;> exact Nat.le_of_ble_eq_true rfl) ?_; intro w3 cur3 L3 s3)
  refine (intR_c L3.dr).mono ?_
  rintro e v4 ⟨k4, N3, rfl, d4, F3⟩
  have zz3 := L3.size
  have kk3 := k4.size
  go_wp2_with (refine wpList_store_fl intIs_stable L3 k4 d4 (one1 _ rfl) F3 rfl 3 _ _ rfl rfl (by simp only [List.length_append, List.length_cons, List.length_nil, hl1] <;> rfl) rfl rfl sz_int (by simp only [List.length_append, List.length_cons, List.length_nil, hl1] <;> exact Nat.le_of_ble_eq_true rfl) ?_; intro w4 cur4 L4 s4)
  refine (intR_c L4.dr).mono ?_
  rintro e v5 ⟨k5, N4, rfl, d5, F4⟩
  have zz4 := L4.size
  have kk4 := k5.size
  go_wp2_with (refine wpList_store_fl intIs_stable L4 k5 d5 (one1 _ rfl) F4 rfl 3 _ _ rfl rfl (by simp only [List.length_append, List.length_cons, List.length_nil, hl1] <;> rfl) rfl rfl sz_int (by simp only [List.length_append, List.length_cons, List.length_nil, hl1] <;> exact Nat.le_of_ble_eq_true rfl) ?_; intro w5 cur5 L5 s5)
  refine (bytesR_c L5.dr (fun k hk => by have := hgl k hk; have := L5.size; omega)).mono ?_
  rintro e v6 ⟨k6, aa5, nn5, cc5, N5, rfl, cv5, -, d6, -, F5⟩
  have zz5 := L5.size
  have kk5 := k6.size
  go_wp2_with (refine wpList_store_fl textIs_stable L5 k6 d6 (one1 _ rfl) F5 rfl 9 _ _ rfl rfl (by simp only [List.length_append, List.length_cons, List.length_nil, hl1] <;> rfl) rfl rfl sz_string (by simp only [List.length_append, List.length_cons, List.length_nil, hl1] <;> exact Nat.le_of_ble_eq_true rfl) ?_; intro w6 cur6 L6 s6)
  refine (bytesR_c L6.dr (fun k hk => by have := hgl k hk; have := L6.size; omega)).mono ?_
  rintro e v7 ⟨k7, aa6, nn6, cc6, N6, rfl, -, d7, -, F6, -⟩
  have zz6 := L6.size
  have kk6 := k7.size
  go_wp2_with (first | (refine wpList_load_block rfl 239 _ rfl rfl L7.blk (Tryz.isAgg239 _) hi (HS.out.trans L7.put.size.symm) ?_) | (refine wpList_store_block rfl 239 _ _ rfl rfl rfl L7.res hi (HS.out.trans L7.put.size.symm) L7.put.size.symm (L7.all (by simp only [List.length_append, List.length_cons, List.length_nil, hl1] <;> rfl)) ?_; intro w8 k8 b8 s8) | (refine wpList_store_fl (sliceIs_stable byteIs_stable) L6 k7 d7 (one1 _ rfl) F6 rfl 22 _ _ rfl rfl (by simp only [List.length_append, List.length_cons, List.length_nil, hl1] <;> rfl) rfl rfl sz_bytes (by simp only [List.length_append, List.length_cons, List.length_nil, hl1] <;> exact Nat.le_of_ble_eq_true rfl) ?_; intro w7 cur7 L7 s7))
  have lV := run_loadVar_block b8 (Tryz.isAgg239 _) ((size_of ziStep).trans (congrArg some L7.put.size.symm))
  refine bodyPost_ret (v := .agg cur7) (by simp [results, Tryz.results128, lV, asAddr, Act.put]) rfl ?_
  exact L7.red (by simp only [List.length_append, List.length_cons, List.length_nil, hl1] <;> rfl) k8 afStep (fun D => isStep D.1.1.1.1.1.1.2 D.1.1.1.1.1.2 D.1.1.1.1.2 D.1.1.1.2 D.1.1.2 D.1.2 D.2)
def zNode : Array Value := #[Value.int IntKind.i64 0, Value.int IntKind.i64 0]
theorem ziNode : (Tryz.prog.info? 24).map (fun i => (i.size, i.zero)) = some (2, some (.agg zNode)) := by kernel_rfl
theorem afNode {o : Option (List UInt8)} : After o pNode = (After (After o pI) pI) := by
  cases o with
  | none => rfl
  | some bs =>
  unfold After pNode
  simp only [Option.bind_some]
  cases pI bs with
  | none => rfl
  | some y0 =>
  simp only [Option.bind_some, Option.map_some]
  cases pI y0.2 with
  | none => rfl
  | some y1 =>
  rfl
theorem isNode {w' : World} {S : Nat → Prop} {o : Option (List UInt8)} {c0 c1 : List Value} (f0 : ∀ x r, o.bind pI = some (x, r) → intIs w' S c0 x) (f1 : ∀ x r, (After o pI).bind pI = some (x, r) → intIs w' S c1 x) : ∀ x r, o.bind pNode = some (x, r) → NodeT.Is w' S ([] ++ c0 ++ c1) x := by
  intro x r h
  obtain ⟨bs, ho, h⟩ := Option.bind_eq_some_iff.1 h
  unfold pNode at h
  obtain ⟨⟨y0, r0⟩, h0, h⟩ := Option.bind_eq_some_iff.1 h
  replace h0 : o.bind pI = some (y0, r0) := by rw [ho]; exact h0
  have a0 := after_some h0
  obtain ⟨⟨y1, r1⟩, h1, h⟩ := Option.bind_eq_some_iff.1 h
  replace h1 : (After o pI).bind pI = some (y1, r1) := by rw [a0]; exact h1
  have a1 := after_some h1
  simp only [Option.some.injEq, Prod.mk.injEq] at h
  obtain ⟨rfl, rfl⟩ := h
  obtain ⟨rfl, j0⟩ := f0 _ _ h0
  obtain ⟨rfl, j1⟩ := f1 _ _ h1
  exact ⟨rfl, j0, j1⟩
theorem nodeD_c {w : World} {q : Nat} {o : Option (List UInt8)} {g : Option Nat} (h : Dr w q o g) (hgl : ∀ k, g = some k → k < w.heap.size) :
    Calls Tryz.prog 81 #[.pointer (some ⟨q, 0, none⟩)] w (Red 2 (fun cs => .agg cs.toArray) NodeT.Is pNode o w q g) := by
  obtain ⟨i0, hi, hsz, -⟩ := info_sz ziNode
  have HS := Lib.hid hsz
  have L0 := Fl.start 24 zNode h hgl
  clear hsz h
  go_enter Tryz.func81, Tryz.ntmps81
  go_wp2_with (first | (refine wpList_alloc_block rfl 24 rfl (zero_run ziNode _) w.heap.size rfl ?_) | (refine wpList_alloc_block rfl 24 rfl (zero_run ziNode _) (w.heap.size + 1) (by simp) ?_))
  generalize (w.alloc (.cells zNode 24)).alloc (.cells zNode 24) = w0 at L0 ⊢
  refine (intR_c L0.dr).mono ?_
  rintro e v1 ⟨k1, N0, rfl, d1, F0⟩
  have zz0 := L0.size
  have kk0 := k1.size
  go_wp2_with (refine wpList_store_fl intIs_stable L0 k1 d1 (one1 _ rfl) F0 rfl 3 _ _ rfl rfl rfl rfl rfl sz_int (Nat.le_of_ble_eq_true rfl) ?_; intro w1 cur1 L1 s1)
  refine (intR_c L1.dr).mono ?_
  rintro e v2 ⟨k2, N1, rfl, d2, F1⟩
  have zz1 := L1.size
  have kk1 := k2.size
  go_wp2_with (first | (refine wpList_load_block rfl 24 _ rfl rfl L2.blk (Tryz.isAgg24 _) hi (HS.out.trans L2.put.size.symm) ?_) | (refine wpList_store_block rfl 24 _ _ rfl rfl rfl L2.res hi (HS.out.trans L2.put.size.symm) L2.put.size.symm (L2.all rfl) ?_; intro w3 k3 b3 s3) | (refine wpList_store_fl intIs_stable L1 k2 d2 (one1 _ rfl) F1 rfl 3 _ _ rfl rfl rfl rfl rfl sz_int (Nat.le_of_ble_eq_true rfl) ?_; intro w2 cur2 L2 s2))
  have lV := run_loadVar_block b3 (Tryz.isAgg24 _) ((size_of ziNode).trans (congrArg some L2.put.size.symm))
  refine bodyPost_ret (v := .agg cur2) (by simp [results, Tryz.results81, lV, asAddr, Act.put]) rfl ?_
  exact L2.red rfl k3 afNode (fun D => isNode D.1.2 D.2)
def zSlot : Array Value := #[Value.int IntKind.i64 0, Value.int IntKind.i64 0, Value.slice none 0 0]
theorem ziSlot : (Tryz.prog.info? 149).map (fun i => (i.size, i.zero)) = some (3, some (.agg zSlot)) := by kernel_rfl
theorem afSlot {o : Option (List UInt8)} : After o pSlot = (After (After (After o pI) pI) pB) := by
  cases o with
  | none => rfl
  | some bs =>
  unfold After pSlot
  simp only [Option.bind_some]
  cases pI bs with
  | none => rfl
  | some y0 =>
  simp only [Option.bind_some, Option.map_some]
  cases pI y0.2 with
  | none => rfl
  | some y1 =>
  simp only [Option.bind_some, Option.map_some]
  cases pB y1.2 with
  | none => rfl
  | some y2 =>
  rfl
theorem isSlot {w' : World} {S : Nat → Prop} {o : Option (List UInt8)} {c0 c1 c2 : List Value} (f0 : ∀ x r, o.bind pI = some (x, r) → intIs w' S c0 x) (f1 : ∀ x r, (After o pI).bind pI = some (x, r) → intIs w' S c1 x) (f2 : ∀ x r, (After (After o pI) pI).bind pB = some (x, r) → (sliceIs 1 byteIs) w' S c2 x) : ∀ x r, o.bind pSlot = some (x, r) → SlotT.Is w' S ([] ++ c0 ++ c1 ++ c2) x := by
  intro x r h
  obtain ⟨bs, ho, h⟩ := Option.bind_eq_some_iff.1 h
  unfold pSlot at h
  obtain ⟨⟨y0, r0⟩, h0, h⟩ := Option.bind_eq_some_iff.1 h
  replace h0 : o.bind pI = some (y0, r0) := by rw [ho]; exact h0
  have a0 := after_some h0
  obtain ⟨⟨y1, r1⟩, h1, h⟩ := Option.bind_eq_some_iff.1 h
  replace h1 : (After o pI).bind pI = some (y1, r1) := by rw [a0]; exact h1
  have a1 := after_some h1
  obtain ⟨⟨y2, r2⟩, h2, h⟩ := Option.bind_eq_some_iff.1 h
  replace h2 : (After (After o pI) pI).bind pB = some (y2, r2) := by rw [a1]; exact h2
  have a2 := after_some h2
  simp only [Option.some.injEq, Prod.mk.injEq] at h
  obtain ⟨rfl, rfl⟩ := h
  obtain ⟨rfl, j0⟩ := f0 _ _ h0
  obtain ⟨rfl, j1⟩ := f1 _ _ h1
  obtain ⟨v2, rfl, l2⟩ := f2 _ _ h2
  exact ⟨v2, rfl, j0, j1, l2⟩
theorem slotD_c {w : World} {q : Nat} {o : Option (List UInt8)} {g : Option Nat} (h : Dr w q o g) (hgl : ∀ k, g = some k → k < w.heap.size) :
    Calls Tryz.prog 83 #[.pointer (some ⟨q, 0, none⟩)] w (Red 3 (fun cs => .agg cs.toArray) SlotT.Is pSlot o w q g) := by
  obtain ⟨i0, hi, hsz, -⟩ := info_sz ziSlot
  have HS := Lib.hid hsz
  have L0 := Fl.start 149 zSlot h hgl
  clear hsz h
  go_enter Tryz.func83, Tryz.ntmps83
  go_wp2_with (first | (refine wpList_alloc_block rfl 149 rfl (zero_run ziSlot _) w.heap.size rfl ?_) | (refine wpList_alloc_block rfl 149 rfl (zero_run ziSlot _) (w.heap.size + 1) (by simp) ?_))
  generalize (w.alloc (.cells zSlot 149)).alloc (.cells zSlot 149) = w0 at L0 ⊢
  refine (intR_c L0.dr).mono ?_
  rintro e v1 ⟨k1, N0, rfl, d1, F0⟩
  have zz0 := L0.size
  have kk0 := k1.size
  go_wp2_with (refine wpList_store_fl intIs_stable L0 k1 d1 (one1 _ rfl) F0 rfl 3 _ _ rfl rfl rfl rfl rfl sz_int (Nat.le_of_ble_eq_true rfl) ?_; intro w1 cur1 L1 s1)
  refine (intR_c L1.dr).mono ?_
  rintro e v2 ⟨k2, N1, rfl, d2, F1⟩
  have zz1 := L1.size
  have kk1 := k2.size
  go_wp2_with (refine wpList_store_fl intIs_stable L1 k2 d2 (one1 _ rfl) F1 rfl 3 _ _ rfl rfl rfl rfl rfl sz_int (Nat.le_of_ble_eq_true rfl) ?_; intro w2 cur2 L2 s2)
  refine (bytesR_c L2.dr (fun k hk => by have := hgl k hk; have := L2.size; omega)).mono ?_
  rintro e v3 ⟨k3, aa2, nn2, cc2, N2, rfl, -, d3, -, F2, -⟩
  have zz2 := L2.size
  have kk2 := k3.size
  go_wp2_with (first | (refine wpList_load_block rfl 149 _ rfl rfl L3.blk (Tryz.isAgg149 _) hi (HS.out.trans L3.put.size.symm) ?_) | (refine wpList_store_block rfl 149 _ _ rfl rfl rfl L3.res hi (HS.out.trans L3.put.size.symm) L3.put.size.symm (L3.all rfl) ?_; intro w4 k4 b4 s4) | (refine wpList_store_fl (sliceIs_stable byteIs_stable) L2 k3 d3 (one1 _ rfl) F2 rfl 22 _ _ rfl rfl rfl rfl rfl sz_bytes (Nat.le_of_ble_eq_true rfl) ?_; intro w3 cur3 L3 s3))
  have lV := run_loadVar_block b4 (Tryz.isAgg149 _) ((size_of ziSlot).trans (congrArg some L3.put.size.symm))
  refine bodyPost_ret (v := .agg cur3) (by simp [results, Tryz.results83, lV, asAddr, Act.put]) rfl ?_
  exact L3.red rfl k4 afSlot (fun D => isSlot D.1.1.2 D.1.2 D.2)
def zObject : Array Value := #[Value.string ⟨#[]⟩, Value.int IntKind.i64 0, Value.int IntKind.i64 0, Value.slice none 0 0]
theorem ziObject : (Tryz.prog.info? 43).map (fun i => (i.size, i.zero)) = some (4, some (.agg zObject)) := by kernel_rfl
theorem afObject {o : Option (List UInt8)} : After o pObject = (After (After (After o pT) pVersion) pB) := by
  cases o with
  | none => rfl
  | some bs =>
  unfold After pObject
  simp only [Option.bind_some]
  cases pT bs with
  | none => rfl
  | some y0 =>
  simp only [Option.bind_some, Option.map_some]
  cases pVersion y0.2 with
  | none => rfl
  | some y1 =>
  simp only [Option.bind_some, Option.map_some]
  cases pB y1.2 with
  | none => rfl
  | some y2 =>
  rfl
theorem isObject {w' : World} {S : Nat → Prop} {o : Option (List UInt8)} {c0 c1 c2 : List Value} (f0 : ∀ x r, o.bind pT = some (x, r) → textIs w' S c0 x) (f1 : ∀ x r, (After o pT).bind pVersion = some (x, r) → VersionT.Is w' S c1 x) (f2 : ∀ x r, (After (After o pT) pVersion).bind pB = some (x, r) → (sliceIs 1 byteIs) w' S c2 x) : ∀ x r, o.bind pObject = some (x, r) → ObjectT.Is w' S ([] ++ c0 ++ c1 ++ c2) x := by
  intro x r h
  obtain ⟨bs, ho, h⟩ := Option.bind_eq_some_iff.1 h
  unfold pObject at h
  obtain ⟨⟨y0, r0⟩, h0, h⟩ := Option.bind_eq_some_iff.1 h
  replace h0 : o.bind pT = some (y0, r0) := by rw [ho]; exact h0
  have a0 := after_some h0
  obtain ⟨⟨y1, r1⟩, h1, h⟩ := Option.bind_eq_some_iff.1 h
  replace h1 : (After o pT).bind pVersion = some (y1, r1) := by rw [a0]; exact h1
  have a1 := after_some h1
  obtain ⟨⟨y2, r2⟩, h2, h⟩ := Option.bind_eq_some_iff.1 h
  replace h2 : (After (After o pT) pVersion).bind pB = some (y2, r2) := by rw [a1]; exact h2
  have a2 := after_some h2
  simp only [Option.some.injEq, Prod.mk.injEq] at h
  obtain ⟨rfl, rfl⟩ := h
  obtain rfl := f0 _ _ h0
  obtain ⟨rfl, j1_0, j1_1⟩ := f1 _ _ h1
  obtain ⟨v2, rfl, l2⟩ := f2 _ _ h2
  exact ⟨v2, rfl, j1_0, j1_1, l2⟩
theorem objectD_c {w : World} {q : Nat} {o : Option (List UInt8)} {g : Option Nat} (h : Dr w q o g) (hgl : ∀ k, g = some k → k < w.heap.size) :
    Calls Tryz.prog 87 #[.pointer (some ⟨q, 0, none⟩)] w (Red 4 (fun cs => .agg cs.toArray) ObjectT.Is pObject o w q g) := by
  obtain ⟨i0, hi, hsz, -⟩ := info_sz ziObject
  have HS := Lib.hid hsz
  have L0 := Fl.start 43 zObject h hgl
  clear hsz h
  go_enter Tryz.func87, Tryz.ntmps87
  go_wp2_with (first | (refine wpList_alloc_block rfl 43 rfl (zero_run ziObject _) w.heap.size rfl ?_) | (refine wpList_alloc_block rfl 43 rfl (zero_run ziObject _) (w.heap.size + 1) (by simp) ?_))
  generalize (w.alloc (.cells zObject 43)).alloc (.cells zObject 43) = w0 at L0 ⊢
  refine (bytesR_c L0.dr (fun k hk => by have := hgl k hk; have := L0.size; omega)).mono ?_
  rintro e v1 ⟨k1, aa0, nn0, cc0, N0, rfl, cv0, -, d1, -, F0⟩
  have zz0 := L0.size
  have kk0 := k1.size
  go_wp2_with (refine wpList_store_fl textIs_stable L0 k1 d1 (one1 _ rfl) F0 rfl 9 _ _ rfl rfl rfl rfl rfl sz_string (Nat.le_of_ble_eq_true rfl) ?_; intro w1 cur1 L1 s1)
  refine (versionD_c L1.dr (fun k hk => by have := hgl k hk; have := L1.size; omega)).mono ?_
  rintro e v2 ⟨k2, d2, N1, rfl, hl1, o1, F1⟩
  have zz1 := L1.size
  have kk1 := k2.size
  go_wp2_with (refine wpList_store_fl VersionT.stable L1 k2 d2 o1 F1 rfl 31 _ _ rfl rfl rfl rfl rfl ((size_of ziVersion).trans (congrArg some hl1.symm)) (by simp only [List.length_append, List.length_cons, List.length_nil, hl1] <;> exact Nat.le_of_ble_eq_true rfl) ?_; intro w2 cur2 L2 s2)
  refine (bytesR_c L2.dr (fun k hk => by have := hgl k hk; have := L2.size; omega)).mono ?_
  rintro e v3 ⟨k3, aa2, nn2, cc2, N2, rfl, -, d3, -, F2, -⟩
  have zz2 := L2.size
  have kk2 := k3.size
  go_wp2_with (first | (refine wpList_load_block rfl 43 _ rfl rfl L3.blk (Tryz.isAgg43 _) hi (HS.out.trans L3.put.size.symm) ?_) | (refine wpList_store_block rfl 43 _ _ rfl rfl rfl L3.res hi (HS.out.trans L3.put.size.symm) L3.put.size.symm (L3.all (by simp only [List.length_append, List.length_cons, List.length_nil, hl1] <;> rfl)) ?_; intro w4 k4 b4 s4) | (refine wpList_store_fl (sliceIs_stable byteIs_stable) L2 k3 d3 (one1 _ rfl) F2 rfl 22 _ _ rfl rfl (by simp only [List.length_append, List.length_cons, List.length_nil, hl1] <;> rfl) rfl rfl sz_bytes (by simp only [List.length_append, List.length_cons, List.length_nil, hl1] <;> exact Nat.le_of_ble_eq_true rfl) ?_; intro w3 cur3 L3 s3))
  have lV := run_loadVar_block b4 (Tryz.isAgg43 _) ((size_of ziObject).trans (congrArg some L3.put.size.symm))
  refine bodyPost_ret (v := .agg cur3) (by simp [results, Tryz.results87, lV, asAddr, Act.put]) rfl ?_
  exact L3.red (by simp only [List.length_append, List.length_cons, List.length_nil, hl1] <;> rfl) k4 afObject (fun D => isObject D.1.1.2 D.1.2 D.2)
end Go.Proofs.YtmbjealliinpdaaGreat
end

section

namespace Go.Proofs.YtmbjealliinpdaaGreat
open Go.RowKit
def zMap : Array Value := #[Value.int IntKind.i64 0, Value.slice none 0 0, Value.slice none 0 0, Value.slice none 0 0, Value.int IntKind.i64 0]
theorem ziMap : (Tryz.prog.info? 67).map (fun i => (i.size, i.zero)) = some (5, some (.agg zMap)) := by kernel_rfl
theorem afMap {o : Option (List UInt8)} : After o pMap = (After (After (After (After (After o pI) (pL pOsd)) (pL pPool)) (pL pBucket)) pI) := by
  cases o with
  | none => rfl
  | some bs =>
  unfold After pMap
  simp only [Option.bind_some]
  cases pI bs with
  | none => rfl
  | some y0 =>
  simp only [Option.bind_some, Option.map_some]
  cases (pL pOsd) y0.2 with
  | none => rfl
  | some y1 =>
  simp only [Option.bind_some, Option.map_some]
  cases (pL pPool) y1.2 with
  | none => rfl
  | some y2 =>
  simp only [Option.bind_some, Option.map_some]
  cases (pL pBucket) y2.2 with
  | none => rfl
  | some y3 =>
  simp only [Option.bind_some, Option.map_some]
  cases pI y3.2 with
  | none => rfl
  | some y4 =>
  rfl
theorem isMap {w' : World} {S : Nat → Prop} {o : Option (List UInt8)} {c0 c1 c2 c3 c4 : List Value} (f0 : ∀ x r, o.bind pI = some (x, r) → intIs w' S c0 x) (f1 : ∀ x r, (After o pI).bind (pL pOsd) = some (x, r) → (sliceIs 6 OsdT.Is) w' S c1 x) (f2 : ∀ x r, (After (After o pI) (pL pOsd)).bind (pL pPool) = some (x, r) → (sliceIs 4 PoolT.Is) w' S c2 x) (f3 : ∀ x r, (After (After (After o pI) (pL pOsd)) (pL pPool)).bind (pL pBucket) = some (x, r) → (sliceIs 4 BucketT.Is) w' S c3 x) (f4 : ∀ x r, (After (After (After (After o pI) (pL pOsd)) (pL pPool)) (pL pBucket)).bind pI = some (x, r) → intIs w' S c4 x) : ∀ x r, o.bind pMap = some (x, r) → MapT.Is w' S ([] ++ c0 ++ c1 ++ c2 ++ c3 ++ c4) x := by
  intro x r h
  obtain ⟨bs, ho, h⟩ := Option.bind_eq_some_iff.1 h
  unfold pMap at h
  obtain ⟨⟨y0, r0⟩, h0, h⟩ := Option.bind_eq_some_iff.1 h
  replace h0 : o.bind pI = some (y0, r0) := by rw [ho]; exact h0
  have a0 := after_some h0
  obtain ⟨⟨y1, r1⟩, h1, h⟩ := Option.bind_eq_some_iff.1 h
  replace h1 : (After o pI).bind (pL pOsd) = some (y1, r1) := by rw [a0]; exact h1
  have a1 := after_some h1
  obtain ⟨⟨y2, r2⟩, h2, h⟩ := Option.bind_eq_some_iff.1 h
  replace h2 : (After (After o pI) (pL pOsd)).bind (pL pPool) = some (y2, r2) := by rw [a1]; exact h2
  have a2 := after_some h2
  obtain ⟨⟨y3, r3⟩, h3, h⟩ := Option.bind_eq_some_iff.1 h
  replace h3 : (After (After (After o pI) (pL pOsd)) (pL pPool)).bind (pL pBucket) = some (y3, r3) := by rw [a2]; exact h3
  have a3 := after_some h3
  obtain ⟨⟨y4, r4⟩, h4, h⟩ := Option.bind_eq_some_iff.1 h
  replace h4 : (After (After (After (After o pI) (pL pOsd)) (pL pPool)) (pL pBucket)).bind pI = some (y4, r4) := by rw [a3]; exact h4
  have a4 := after_some h4
  simp only [Option.some.injEq, Prod.mk.injEq] at h
  obtain ⟨rfl, rfl⟩ := h
  obtain ⟨rfl, j0⟩ := f0 _ _ h0
  obtain ⟨v1, rfl, l1⟩ := f1 _ _ h1
  obtain ⟨v2, rfl, l2⟩ := f2 _ _ h2
  obtain ⟨v3, rfl, l3⟩ := f3 _ _ h3
  obtain ⟨rfl, j4⟩ := f4 _ _ h4
  exact ⟨v1, v2, v3, rfl, j0, j4, l1, l2, l3⟩
theorem clusterD_c {w : World} {q : Nat} {o : Option (List UInt8)} {g : Option Nat} (h : Dr w q o g) (hgl : ∀ k, g = some k → k < w.heap.size) :
    Calls Tryz.prog 42 #[.pointer (some ⟨q, 0, none⟩)] w (Red 5 (fun cs => .agg cs.toArray) MapT.Is pMap o w q g) := by
  obtain ⟨i0, hi, hsz, -⟩ := info_sz ziMap
  have HS := Lib.hid hsz
  have L0 := Fl.start 67 zMap h hgl
  clear hsz h
  go_enter Tryz.func42, Tryz.ntmps42
  go_wp2_with (first | (refine wpList_alloc_block rfl 67 rfl (zero_run ziMap _) w.heap.size rfl ?_) | (refine wpList_alloc_block rfl 67 rfl (zero_run ziMap _) (w.heap.size + 1) (by simp) ?_))
  generalize (w.alloc (.cells zMap 67)).alloc (.cells zMap 67) = w0 at L0 ⊢
  refine (intR_c L0.dr).mono ?_
  rintro e v1 ⟨k1, N0, rfl, d1, F0⟩
  have zz0 := L0.size
  have kk0 := k1.size
  go_wp2_with (refine wpList_store_fl intIs_stable L0 k1 d1 (one1 _ rfl) F0 rfl 3 _ _ rfl rfl rfl rfl rfl sz_int (Nat.le_of_ble_eq_true rfl) ?_; intro w1 cur1 L1 s1)
  refine (countD_c L1.dr).mono ?_
  rintro e v2 ⟨k2, n1, hn1, rfl, d2, hg1, -⟩
  have G0 := Ll.start OsdT.Is 6 208 (pr := pOsd) (L1.call k2 d2) rfl hg1
  have zz1 := L1.size
  have kk1 := k2.size
  clear hg1
  go_wp2
  go_loopw [9] (fun i w' => ∃ (k : Nat) (o' : Option (List UInt8)) (v : Value) (cur : Array Value) (Ls : List (List Value)) (g' : Option Nat), k ≤ n1 ∧ i = .int .i64 k ∧ Ll OsdT.Is 6 208 pOsd w v2 w' q (w.heap.size + 1) 67 zMap _ g _ _ _ _ n1 k o' v cur Ls g') (fun i _ => n1 - (intOf i).toNat)
  case atStart => exact ⟨0, _, _, _, _, _, Nat.zero_le _, rfl, G0⟩
  obtain ⟨k, o', v, cur, Ls, g', hk, rfl, G⟩ := hrel
  by_cases hk2 : k < n1
  · have hki : (k : Int) < (n1 : Int) := by omega
    obtain ⟨-, -, -, -, c1, -, lq, -⟩ := G.dr.cells
    cases o' with
    | none =>
      have HG := Lib.hid G.skip
      clear G
      replace c1 : wr.cell? ⟨q, 1, none⟩ = some (.bool true) := c1
      go_wp2
      exact ⟨⟨k + 1, _, _, _, _, _, by omega, by simp, HG.out⟩, by simp [intOf]; omega⟩
    | some r =>
      obtain ⟨a, c, rfl⟩ := G.shape
      have hvp : cur[1]? = some (.slice a Ls.length c) := by
        have h9 := G.cell
        simp only [List.length_append, List.length_cons, List.length_nil] at h9
        exact h9
      obtain ⟨i1, hi1, hz0, hz1, hz2⟩ := info_all info_Osd
      have hlen := G.len
      have HB := Lib.hid G.blk
      have lpr := lt_in HB.out
      have HG := Lib.hid G
      clear G
      replace c1 : wr.cell? ⟨q, 1, none⟩ = some (.bool false) := c1
      go_wp2
      refine wp_region_ordJ (fun w' => w'.heap[w.heap.size + 1]? = some (.cells cur 67)) [2] [0, 1] [3, 4, 5] [6, 7] (by kernel_rfl) (by kernel_rfl) (fun _ _ d _ _ h => by cases d <;> exact h) (fun k => HB.out) ?_
      simp only [sel, List.filterMap_cons, List.filterMap_nil, List.getElem?_cons_zero, List.getElem?_cons_succ]
      repeat (quiet_step (fail))
      refine wpQuiet_nil ?_
      refine wpHeld_step (fun K hK => ?_)
      go_simp
      refine ⟨_, fun _ _ => rfl, hK _ ?_⟩
      refine wpHeld_step (fun K hK => ?_)
      go_simp
      refine ⟨.slice a Ls.length c, fun w' h => (by
        have h1 := (cell_in (k := 1) h).trans hvp
        have h2 := lt_in h
        clear h
        go_simp), hK _ ?_⟩
      refine wpHeld_nil ?_
      rintro _ ⟨nr, rfl⟩
      have kd := Kept.drewN (fun _ => False) wr nr
      have sd : (wr.drewN nr).heap.size = wr.heap.size := rfl
      have Q2 : Hid ((wr.drewN nr).heap[w.heap.size + 1]? = some (.cells cur 67)) := Lib.hid HB.out
      generalize wr.drewN nr = w2 at kd Q2 sd ⊢
      refine wpListS_step (fun K hK => ?_)
      go_simp
      go_wp2_with fail
      refine (osdD_c (HG.out.dr.kept kd) (fun k hk => by have := hgl k hk; have := HG.out.fl.size; have := HG.out.kept.size; omega)).mono ?_
      rintro e w3 ⟨k3, d3, cE, rfl, hlE, oE, FE⟩
      obtain ⟨u0, u1, u2, u3, u4, u5, rfl⟩ : ∃ u0 u1 u2 u3 u4 u5 : Value, cE = [u0, u1, u2, u3, u4, u5] := by
        match cE, hlE with | [u0, u1, u2, u3, u4, u5], _ => exact ⟨u0, u1, u2, u3, u4, u5, rfl⟩
      have Q3 : Hid (w3.heap[w.heap.size + 1]? = some (.cells cur 67)) := Lib.hid ((k3.block _ (lt_in Q2.out) (fun e => HG.out.fl.ne.1 e)).trans Q2.out)
      have K3 : Kept (· = q) wr w3 := (kd.mono (fun _ _ e => e.elim)).trans k3
      have FN : ∀ x r', (some r).bind pOsd = some (x, r') → OsdT.Is w3 (New wr w3) [u0, u1, u2, u3, u4, u5] x := fun x r' hx => OsdT.stable _ _ _ _ _ _ (FE x r' hx) (fun k hk => ⟨by have := hk.1; omega, hk.2⟩) (fun _ _ => rfl)
      refine hK _ _ Q3.out ?_
      clear hK
      refine wpListS_step (fun K hK => ?_)
      go_simp
      have hA : (w3.alloc (Obj.cells #[u0, u1, u2, u3, u4, u5] 208)).heap[w.heap.size + 1]? = some (.cells cur 67) := (Below.heap_alloc _ _ _ (lt_in Q3.out)).trans Q3.out
      refine hK _ _ hA ?_
      clear hK
      have k34 := Kept.alloc (fun _ => False) w3 (Obj.cells #[u0, u1, u2, u3, u4, u5] 208)
      have r4 := reads_allocN w3 [u0, u1, u2, u3, u4, u5] 208 6 rfl
      generalize w3.alloc (Obj.cells #[u0, u1, u2, u3, u4, u5] 208) = w4 at hA k34 r4 ⊢
      have own4 := (HG.out.own.kept K3 (fun k hk e => by have := HG.out.gnew k hk; have := HG.out.fl.size; have := HG.out.fl.ql; omega)).kept k34 (fun _ _ h => h)
      refine wpListS_append_Own rfl _ _ 63 63 rfl 208 i1 (Value.agg #[Value.bool false, Value.bool false, Value.int IntKind.i64 0, Value.int IntKind.i64 0, Value.int IntKind.i64 0, Value.int IntKind.i64 0]) 6 40 Tryz.underlying63 hi1 hz0 hz1 hz2 rfl rfl own4 rfl (r4.src Tryz.underlying63 oE) (by unfold maxLen; omega) (by omega) ?_
      intro a5 c5 w5 g5 own5 k5 hg5
      have hA5 : w5.heap[w.heap.size + 1]? = _ := (k5.block _ (lt_in hA) (fun h => by have := HG.out.gnew _ h; have := HG.out.fl.size; omega)).trans hA
      refine ⟨hA5, ?_⟩
      refine wpListS_nil ?_
      have HN := Lib.hid (HG.out.grow OsdT.stable hk2 K3 d3 rfl FN k34 own5 k5 hg5 1 rfl)
      have f5 : w5.frozen? ⟨w.heap.size + 1, 1, none⟩ = false := frozen_in hA5
      have z5 := (cell_in (k := 1) hA5).trans hvp
      have l5 := lt_in hA5
      clear hA5 hA own5 own4 r4 k5 hg5 hi1 hz0 hz1 hz2 FN FE d3 oE
      go_wp2
      exact ⟨⟨k + 1, _, _, _, _, _, by omega, by simp, HN.out⟩, by simp [intOf]; omega⟩
  obtain rfl : k = n1 := by omega
  have L2 := G.done OsdT.stable (by decide)
  clear G
  go_wp2_with fail
  refine (countD_c L2.dr).mono ?_
  rintro e v3 ⟨k3, n2, hn2, rfl, d3, hg2, -⟩
  have G0 := Ll.start PoolT.Is 4 156 (pr := pPool) (L2.call k3 d3) rfl hg2
  have zz2 := L2.size
  have kk2 := k3.size
  clear hg2
  go_wp2
  go_loopw [26] (fun i w' => ∃ (k : Nat) (o' : Option (List UInt8)) (v : Value) (cur : Array Value) (Ls : List (List Value)) (g' : Option Nat), k ≤ n2 ∧ i = .int .i64 k ∧ Ll PoolT.Is 4 156 pPool w v3 w' q (w.heap.size + 1) 67 zMap _ g _ _ _ _ n2 k o' v cur Ls g') (fun i _ => n2 - (intOf i).toNat)
  case atStart => exact ⟨0, _, _, _, _, _, Nat.zero_le _, rfl, G0⟩
  obtain ⟨k, o', v, cur, Ls, g', hk, rfl, G⟩ := hrel
  by_cases hk2 : k < n2
  · have hki : (k : Int) < (n2 : Int) := by omega
    obtain ⟨-, -, -, -, c1, -, lq, -⟩ := G.dr.cells
    cases o' with
    | none =>
      have HG := Lib.hid G.skip
      clear G
      replace c1 : wr.cell? ⟨q, 1, none⟩ = some (.bool true) := c1
      go_wp2
      exact ⟨⟨k + 1, _, _, _, _, _, by omega, by simp, HG.out⟩, by simp [intOf]; omega⟩
    | some r =>
      obtain ⟨a, c, rfl⟩ := G.shape
      have hvp : cur[2]? = some (.slice a Ls.length c) := by
        have h9 := G.cell
        simp only [List.length_append, List.length_cons, List.length_nil] at h9
        exact h9
      obtain ⟨i1, hi1, hz0, hz1, hz2⟩ := info_all info_Pool
      have hlen := G.len
      have HB := Lib.hid G.blk
      have lpr := lt_in HB.out
      have HG := Lib.hid G
      clear G
      replace c1 : wr.cell? ⟨q, 1, none⟩ = some (.bool false) := c1
      go_wp2
      refine wp_region_ordJ (fun w' => w'.heap[w.heap.size + 1]? = some (.cells cur 67)) [2] [0, 1] [3, 4, 5] [6, 7] (by kernel_rfl) (by kernel_rfl) (fun _ _ d _ _ h => by cases d <;> exact h) (fun k => HB.out) ?_
      simp only [sel, List.filterMap_cons, List.filterMap_nil, List.getElem?_cons_zero, List.getElem?_cons_succ]
      repeat (quiet_step (fail))
      refine wpQuiet_nil ?_
      refine wpHeld_step (fun K hK => ?_)
      go_simp
      refine ⟨_, fun _ _ => rfl, hK _ ?_⟩
      refine wpHeld_step (fun K hK => ?_)
      go_simp
      refine ⟨.slice a Ls.length c, fun w' h => (by
        have h1 := (cell_in (k := 2) h).trans hvp
        have h2 := lt_in h
        clear h
        go_simp), hK _ ?_⟩
      refine wpHeld_nil ?_
      rintro _ ⟨nr, rfl⟩
      have kd := Kept.drewN (fun _ => False) wr nr
      have sd : (wr.drewN nr).heap.size = wr.heap.size := rfl
      have Q2 : Hid ((wr.drewN nr).heap[w.heap.size + 1]? = some (.cells cur 67)) := Lib.hid HB.out
      generalize wr.drewN nr = w2 at kd Q2 sd ⊢
      refine wpListS_step (fun K hK => ?_)
      go_simp
      go_wp2_with fail
      refine (poolD_c (HG.out.dr.kept kd) (fun k hk => by have := hgl k hk; have := HG.out.fl.size; have := HG.out.kept.size; omega)).mono ?_
      rintro e w3 ⟨k3, d3, cE, rfl, hlE, oE, FE⟩
      obtain ⟨u0, u1, u2, u3, rfl⟩ : ∃ u0 u1 u2 u3 : Value, cE = [u0, u1, u2, u3] := by
        match cE, hlE with | [u0, u1, u2, u3], _ => exact ⟨u0, u1, u2, u3, rfl⟩
      have Q3 : Hid (w3.heap[w.heap.size + 1]? = some (.cells cur 67)) := Lib.hid ((k3.block _ (lt_in Q2.out) (fun e => HG.out.fl.ne.1 e)).trans Q2.out)
      have K3 : Kept (· = q) wr w3 := (kd.mono (fun _ _ e => e.elim)).trans k3
      have FN : ∀ x r', (some r).bind pPool = some (x, r') → PoolT.Is w3 (New wr w3) [u0, u1, u2, u3] x := fun x r' hx => PoolT.stable _ _ _ _ _ _ (FE x r' hx) (fun k hk => ⟨by have := hk.1; omega, hk.2⟩) (fun _ _ => rfl)
      refine hK _ _ Q3.out ?_
      clear hK
      refine wpListS_step (fun K hK => ?_)
      go_simp
      have hA : (w3.alloc (Obj.cells #[u0, u1, u2, u3] 156)).heap[w.heap.size + 1]? = some (.cells cur 67) := (Below.heap_alloc _ _ _ (lt_in Q3.out)).trans Q3.out
      refine hK _ _ hA ?_
      clear hK
      have k34 := Kept.alloc (fun _ => False) w3 (Obj.cells #[u0, u1, u2, u3] 156)
      have r4 := reads_allocN w3 [u0, u1, u2, u3] 156 4 rfl
      generalize w3.alloc (Obj.cells #[u0, u1, u2, u3] 156) = w4 at hA k34 r4 ⊢
      have own4 := (HG.out.own.kept K3 (fun k hk e => by have := HG.out.gnew k hk; have := HG.out.fl.size; have := HG.out.fl.ql; omega)).kept k34 (fun _ _ h => h)
      refine wpListS_append_Own rfl _ _ 64 64 rfl 156 i1 (Value.agg #[Value.int IntKind.i64 0, Value.int IntKind.i64 0, Value.int IntKind.i64 0, Value.int IntKind.i64 0]) 4 32 Tryz.underlying64 hi1 hz0 hz1 hz2 rfl rfl own4 rfl (r4.src Tryz.underlying64 oE) (by unfold maxLen; omega) (by omega) ?_
      intro a5 c5 w5 g5 own5 k5 hg5
      have hA5 : w5.heap[w.heap.size + 1]? = _ := (k5.block _ (lt_in hA) (fun h => by have := HG.out.gnew _ h; have := HG.out.fl.size; omega)).trans hA
      refine ⟨hA5, ?_⟩
      refine wpListS_nil ?_
      have HN := Lib.hid (HG.out.grow PoolT.stable hk2 K3 d3 rfl FN k34 own5 k5 hg5 2 rfl)
      have f5 : w5.frozen? ⟨w.heap.size + 1, 2, none⟩ = false := frozen_in hA5
      have z5 := (cell_in (k := 2) hA5).trans hvp
      have l5 := lt_in hA5
      clear hA5 hA own5 own4 r4 k5 hg5 hi1 hz0 hz1 hz2 FN FE d3 oE
      go_wp2
      exact ⟨⟨k + 1, _, _, _, _, _, by omega, by simp, HN.out⟩, by simp [intOf]; omega⟩
  obtain rfl : k = n2 := by omega
  have L3 := G.done PoolT.stable (by decide)
  clear G
  go_wp2_with fail
  refine (countD_c L3.dr).mono ?_
  rintro e v4 ⟨k4, n3, hn3, rfl, d4, hg3, -⟩
  have G0 := Ll.start BucketT.Is 4 159 (pr := pBucket) (L3.call k4 d4) rfl hg3
  have zz3 := L3.size
  have kk3 := k4.size
  clear hg3
  go_wp2
  go_loopw [43] (fun i w' => ∃ (k : Nat) (o' : Option (List UInt8)) (v : Value) (cur : Array Value) (Ls : List (List Value)) (g' : Option Nat), k ≤ n3 ∧ i = .int .i64 k ∧ Ll BucketT.Is 4 159 pBucket w v4 w' q (w.heap.size + 1) 67 zMap _ g _ _ _ _ n3 k o' v cur Ls g') (fun i _ => n3 - (intOf i).toNat)
  case atStart => exact ⟨0, _, _, _, _, _, Nat.zero_le _, rfl, G0⟩
  obtain ⟨k, o', v, cur, Ls, g', hk, rfl, G⟩ := hrel
  by_cases hk2 : k < n3
  · have hki : (k : Int) < (n3 : Int) := by omega
    obtain ⟨-, -, -, -, c1, -, lq, -⟩ := G.dr.cells
    cases o' with
    | none =>
      have HG := Lib.hid G.skip
      clear G
      replace c1 : wr.cell? ⟨q, 1, none⟩ = some (.bool true) := c1
      go_wp2
      exact ⟨⟨k + 1, _, _, _, _, _, by omega, by simp, HG.out⟩, by simp [intOf]; omega⟩
    | some r =>
      obtain ⟨a, c, rfl⟩ := G.shape
      have hvp : cur[3]? = some (.slice a Ls.length c) := by
        have h9 := G.cell
        simp only [List.length_append, List.length_cons, List.length_nil] at h9
        exact h9
      obtain ⟨i1, hi1, hz0, hz1, hz2⟩ := info_all info_Bucket
      have hlen := G.len
      have HB := Lib.hid G.blk
      have lpr := lt_in HB.out
      have HG := Lib.hid G
      clear G
      replace c1 : wr.cell? ⟨q, 1, none⟩ = some (.bool false) := c1
      go_wp2
      refine wp_region_ordJ (fun w' => w'.heap[w.heap.size + 1]? = some (.cells cur 67)) [2] [0, 1] [3, 4, 5] [6, 7] (by kernel_rfl) (by kernel_rfl) (fun _ _ d _ _ h => by cases d <;> exact h) (fun k => HB.out) ?_
      simp only [sel, List.filterMap_cons, List.filterMap_nil, List.getElem?_cons_zero, List.getElem?_cons_succ]
      repeat (quiet_step (fail))
      refine wpQuiet_nil ?_
      refine wpHeld_step (fun K hK => ?_)
      go_simp
      refine ⟨_, fun _ _ => rfl, hK _ ?_⟩
      refine wpHeld_step (fun K hK => ?_)
      go_simp
      refine ⟨.slice a Ls.length c, fun w' h => (by
        have h1 := (cell_in (k := 3) h).trans hvp
        have h2 := lt_in h
        clear h
        go_simp), hK _ ?_⟩
      refine wpHeld_nil ?_
      rintro _ ⟨nr, rfl⟩
      have kd := Kept.drewN (fun _ => False) wr nr
      have sd : (wr.drewN nr).heap.size = wr.heap.size := rfl
      have Q2 : Hid ((wr.drewN nr).heap[w.heap.size + 1]? = some (.cells cur 67)) := Lib.hid HB.out
      generalize wr.drewN nr = w2 at kd Q2 sd ⊢
      refine wpListS_step (fun K hK => ?_)
      go_simp
      go_wp2_with fail
      refine (bucketD_c (HG.out.dr.kept kd) (fun k hk => by have := hgl k hk; have := HG.out.fl.size; have := HG.out.kept.size; omega)).mono ?_
      rintro e w3 ⟨k3, d3, cE, rfl, hlE, oE, FE⟩
      obtain ⟨u0, u1, u2, u3, rfl⟩ : ∃ u0 u1 u2 u3 : Value, cE = [u0, u1, u2, u3] := by
        match cE, hlE with | [u0, u1, u2, u3], _ => exact ⟨u0, u1, u2, u3, rfl⟩
      have Q3 : Hid (w3.heap[w.heap.size + 1]? = some (.cells cur 67)) := Lib.hid ((k3.block _ (lt_in Q2.out) (fun e => HG.out.fl.ne.1 e)).trans Q2.out)
      have K3 : Kept (· = q) wr w3 := (kd.mono (fun _ _ e => e.elim)).trans k3
      have FN : ∀ x r', (some r).bind pBucket = some (x, r') → BucketT.Is w3 (New wr w3) [u0, u1, u2, u3] x := fun x r' hx => BucketT.stable _ _ _ _ _ _ (FE x r' hx) (fun k hk => ⟨by have := hk.1; omega, hk.2⟩) (fun _ _ => rfl)
      refine hK _ _ Q3.out ?_
      clear hK
      refine wpListS_step (fun K hK => ?_)
      go_simp
      have hA : (w3.alloc (Obj.cells #[u0, u1, u2, u3] 159)).heap[w.heap.size + 1]? = some (.cells cur 67) := (Below.heap_alloc _ _ _ (lt_in Q3.out)).trans Q3.out
      refine hK _ _ hA ?_
      clear hK
      have k34 := Kept.alloc (fun _ => False) w3 (Obj.cells #[u0, u1, u2, u3] 159)
      have r4 := reads_allocN w3 [u0, u1, u2, u3] 159 4 rfl
      generalize w3.alloc (Obj.cells #[u0, u1, u2, u3] 159) = w4 at hA k34 r4 ⊢
      have own4 := (HG.out.own.kept K3 (fun k hk e => by have := HG.out.gnew k hk; have := HG.out.fl.size; have := HG.out.fl.ql; omega)).kept k34 (fun _ _ h => h)
      refine wpListS_append_Own rfl _ _ 65 65 rfl 159 i1 (Value.agg #[Value.int IntKind.i64 0, Value.int IntKind.i64 0, Value.slice none 0 0, Value.slice none 0 0]) 4 64 Tryz.underlying65 hi1 hz0 hz1 hz2 rfl rfl own4 rfl (r4.src Tryz.underlying65 oE) (by unfold maxLen; omega) (by omega) ?_
      intro a5 c5 w5 g5 own5 k5 hg5
      have hA5 : w5.heap[w.heap.size + 1]? = _ := (k5.block _ (lt_in hA) (fun h => by have := HG.out.gnew _ h; have := HG.out.fl.size; omega)).trans hA
      refine ⟨hA5, ?_⟩
      refine wpListS_nil ?_
      have HN := Lib.hid (HG.out.grow BucketT.stable hk2 K3 d3 rfl FN k34 own5 k5 hg5 3 rfl)
      have f5 : w5.frozen? ⟨w.heap.size + 1, 3, none⟩ = false := frozen_in hA5
      have z5 := (cell_in (k := 3) hA5).trans hvp
      have l5 := lt_in hA5
      clear hA5 hA own5 own4 r4 k5 hg5 hi1 hz0 hz1 hz2 FN FE d3 oE
      go_wp2
      exact ⟨⟨k + 1, _, _, _, _, _, by omega, by simp, HN.out⟩, by simp [intOf]; omega⟩
  obtain rfl : k = n3 := by omega
  have L4 := G.done BucketT.stable (by decide)
  clear G
  go_wp2_with fail
  refine (intR_c L4.dr).mono ?_
  rintro e v5 ⟨k5, N4, rfl, d5, F4⟩
  have zz4 := L4.size
  have kk4 := k5.size
  go_wp2_with (first | (refine wpList_load_block rfl 67 _ rfl rfl L5.blk (Tryz.isAgg67 _) hi (HS.out.trans L5.put.size.symm) ?_) | (refine wpList_store_block rfl 67 _ _ rfl rfl rfl L5.res hi (HS.out.trans L5.put.size.symm) L5.put.size.symm (L5.all rfl) ?_; intro w6 k6 b6 s6) | (refine wpList_store_fl intIs_stable L4 k5 d5 (one1 _ rfl) F4 rfl 3 _ _ rfl rfl rfl rfl rfl sz_int (Nat.le_of_ble_eq_true rfl) ?_; intro w5 cur5 L5 s5))
  have lV := run_loadVar_block b6 (Tryz.isAgg67 _) ((size_of ziMap).trans (congrArg some L5.put.size.symm))
  refine bodyPost_ret (v := .agg cur5) (by simp [results, Tryz.results42, lV, asAddr, Act.put]) rfl ?_
  exact L5.red rfl k6 afMap (fun D => isMap D.1.1.1.1.2 D.1.1.1.2 D.1.1.2 D.1.2 D.2)
def zChange : Array Value := #[Value.int IntKind.i64 0, Value.int IntKind.i64 0, Value.int IntKind.i64 0, Value.int IntKind.i64 0, Value.int IntKind.i64 0, Value.int IntKind.i64 0, Value.int IntKind.i64 0, Value.int IntKind.i64 0, Value.int IntKind.i64 0, Value.slice none 0 0, Value.slice none 0 0]
theorem ziChange : (Tryz.prog.info? 161).map (fun i => (i.size, i.zero)) = some (11, some (.agg zChange)) := by kernel_rfl
theorem afChange {o : Option (List UInt8)} : After o pChange = (After (After (After (After (After o pI) pI) pI) pPool) pBucket) := by
  cases o with
  | none => rfl
  | some bs =>
  unfold After pChange
  simp only [Option.bind_some]
  cases pI bs with
  | none => rfl
  | some y0 =>
  simp only [Option.bind_some, Option.map_some]
  cases pI y0.2 with
  | none => rfl
  | some y1 =>
  simp only [Option.bind_some, Option.map_some]
  cases pI y1.2 with
  | none => rfl
  | some y2 =>
  simp only [Option.bind_some, Option.map_some]
  cases pPool y2.2 with
  | none => rfl
  | some y3 =>
  simp only [Option.bind_some, Option.map_some]
  cases pBucket y3.2 with
  | none => rfl
  | some y4 =>
  rfl
theorem isChange {w' : World} {S : Nat → Prop} {o : Option (List UInt8)} {c0 c1 c2 c3 c4 : List Value} (f0 : ∀ x r, o.bind pI = some (x, r) → intIs w' S c0 x) (f1 : ∀ x r, (After o pI).bind pI = some (x, r) → intIs w' S c1 x) (f2 : ∀ x r, (After (After o pI) pI).bind pI = some (x, r) → intIs w' S c2 x) (f3 : ∀ x r, (After (After (After o pI) pI) pI).bind pPool = some (x, r) → PoolT.Is w' S c3 x) (f4 : ∀ x r, (After (After (After (After o pI) pI) pI) pPool).bind pBucket = some (x, r) → BucketT.Is w' S c4 x) : ∀ x r, o.bind pChange = some (x, r) → ChangeT.Is w' S ([] ++ c0 ++ c1 ++ c2 ++ c3 ++ c4) x := by
  intro x r h
  obtain ⟨bs, ho, h⟩ := Option.bind_eq_some_iff.1 h
  unfold pChange at h
  obtain ⟨⟨y0, r0⟩, h0, h⟩ := Option.bind_eq_some_iff.1 h
  replace h0 : o.bind pI = some (y0, r0) := by rw [ho]; exact h0
  have a0 := after_some h0
  obtain ⟨⟨y1, r1⟩, h1, h⟩ := Option.bind_eq_some_iff.1 h
  replace h1 : (After o pI).bind pI = some (y1, r1) := by rw [a0]; exact h1
  have a1 := after_some h1
  obtain ⟨⟨y2, r2⟩, h2, h⟩ := Option.bind_eq_some_iff.1 h
  replace h2 : (After (After o pI) pI).bind pI = some (y2, r2) := by rw [a1]; exact h2
  have a2 := after_some h2
  obtain ⟨⟨y3, r3⟩, h3, h⟩ := Option.bind_eq_some_iff.1 h
  replace h3 : (After (After (After o pI) pI) pI).bind pPool = some (y3, r3) := by rw [a2]; exact h3
  have a3 := after_some h3
  obtain ⟨⟨y4, r4⟩, h4, h⟩ := Option.bind_eq_some_iff.1 h
  replace h4 : (After (After (After (After o pI) pI) pI) pPool).bind pBucket = some (y4, r4) := by rw [a3]; exact h4
  have a4 := after_some h4
  simp only [Option.some.injEq, Prod.mk.injEq] at h
  obtain ⟨rfl, rfl⟩ := h
  obtain ⟨rfl, j0⟩ := f0 _ _ h0
  obtain ⟨rfl, j1⟩ := f1 _ _ h1
  obtain ⟨rfl, j2⟩ := f2 _ _ h2
  obtain ⟨rfl, j3_0, j3_1, j3_2, j3_3⟩ := f3 _ _ h3
  obtain ⟨u4_0, u4_1, rfl, j4_0, j4_1, l4_0, l4_1⟩ := f4 _ _ h4
  exact ⟨u4_0, u4_1, rfl, j0, j1, j2, j3_0, j3_1, j3_2, j3_3, j4_0, j4_1, l4_0, l4_1⟩
theorem changeD_c {w : World} {q : Nat} {o : Option (List UInt8)} {g : Option Nat} (h : Dr w q o g) (hgl : ∀ k, g = some k → k < w.heap.size) :
    Calls Tryz.prog 84 #[.pointer (some ⟨q, 0, none⟩)] w (Red 11 (fun cs => .agg cs.toArray) ChangeT.Is pChange o w q g) := by
  obtain ⟨i0, hi, hsz, -⟩ := info_sz ziChange
  have HS := Lib.hid hsz
  have L0 := Fl.start 161 zChange h hgl
  clear hsz h
  go_enter Tryz.func84, Tryz.ntmps84
  go_wp2_with (first | (refine wpList_alloc_block rfl 161 rfl (zero_run ziChange _) w.heap.size rfl ?_) | (refine wpList_alloc_block rfl 161 rfl (zero_run ziChange _) (w.heap.size + 1) (by simp) ?_))
  generalize (w.alloc (.cells zChange 161)).alloc (.cells zChange 161) = w0 at L0 ⊢
  refine (intR_c L0.dr).mono ?_
  rintro e v1 ⟨k1, N0, rfl, d1, F0⟩
  have zz0 := L0.size
  have kk0 := k1.size
  go_wp2_with (refine wpList_store_fl intIs_stable L0 k1 d1 (one1 _ rfl) F0 rfl 3 _ _ rfl rfl rfl rfl rfl sz_int (Nat.le_of_ble_eq_true rfl) ?_; intro w1 cur1 L1 s1)
  refine (intR_c L1.dr).mono ?_
  rintro e v2 ⟨k2, N1, rfl, d2, F1⟩
  have zz1 := L1.size
  have kk1 := k2.size
  go_wp2_with (refine wpList_store_fl intIs_stable L1 k2 d2 (one1 _ rfl) F1 rfl 3 _ _ rfl rfl rfl rfl rfl sz_int (Nat.le_of_ble_eq_true rfl) ?_; intro w2 cur2 L2 s2)
  refine (intR_c L2.dr).mono ?_
  rintro e v3 ⟨k3, N2, rfl, d3, F2⟩
  have zz2 := L2.size
  have kk2 := k3.size
  go_wp2_with (refine wpList_store_fl intIs_stable L2 k3 d3 (one1 _ rfl) F2 rfl 3 _ _ rfl rfl rfl rfl rfl sz_int (Nat.le_of_ble_eq_true rfl) ?_; intro w3 cur3 L3 s3)
  refine (poolD_c L3.dr (fun k hk => by have := hgl k hk; have := L3.size; omega)).mono ?_
  rintro e v4 ⟨k4, d4, N3, rfl, hl3, o3, F3⟩
  have zz3 := L3.size
  have kk3 := k4.size
  go_wp2_with (refine wpList_store_fl PoolT.stable L3 k4 d4 o3 F3 rfl 156 _ _ rfl rfl rfl rfl rfl ((size_of ziPool).trans (congrArg some hl3.symm)) (by simp only [List.length_append, List.length_cons, List.length_nil, hl3] <;> exact Nat.le_of_ble_eq_true rfl) ?_; intro w4 cur4 L4 s4)
  refine (bucketD_c L4.dr (fun k hk => by have := hgl k hk; have := L4.size; omega)).mono ?_
  rintro e v5 ⟨k5, d5, N4, rfl, hl4, o4, F4⟩
  have zz4 := L4.size
  have kk4 := k5.size
  go_wp2_with (first | (refine wpList_load_block rfl 161 _ rfl rfl L5.blk (Tryz.isAgg161 _) hi (HS.out.trans L5.put.size.symm) ?_) | (refine wpList_store_block rfl 161 _ _ rfl rfl rfl L5.res hi (HS.out.trans L5.put.size.symm) L5.put.size.symm (L5.all (by simp only [List.length_append, List.length_cons, List.length_nil, hl3, hl4] <;> rfl)) ?_; intro w6 k6 b6 s6) | (refine wpList_store_fl BucketT.stable L4 k5 d5 o4 F4 rfl 159 _ _ rfl rfl (by simp only [List.length_append, List.length_cons, List.length_nil, hl3, hl4] <;> rfl) rfl rfl ((size_of ziBucket).trans (congrArg some hl4.symm)) (by simp only [List.length_append, List.length_cons, List.length_nil, hl3, hl4] <;> exact Nat.le_of_ble_eq_true rfl) ?_; intro w5 cur5 L5 s5))
  have lV := run_loadVar_block b6 (Tryz.isAgg161 _) ((size_of ziChange).trans (congrArg some L5.put.size.symm))
  refine bodyPost_ret (v := .agg cur5) (by simp [results, Tryz.results84, lV, asAddr, Act.put]) rfl ?_
  exact L5.red (by simp only [List.length_append, List.length_cons, List.length_nil, hl3, hl4] <;> rfl) k6 afChange (fun D => isChange D.1.1.1.1.2 D.1.1.1.2 D.1.1.2 D.1.2 D.2)
def zInc : Array Value := #[Value.int IntKind.i64 0, Value.slice none 0 0]
theorem ziInc : (Tryz.prog.info? 57).map (fun i => (i.size, i.zero)) = some (2, some (.agg zInc)) := by kernel_rfl
theorem afInc {o : Option (List UInt8)} : After o pInc = (After (After o pI) (pL pChange)) := by
  cases o with
  | none => rfl
  | some bs =>
  unfold After pInc
  simp only [Option.bind_some]
  cases pI bs with
  | none => rfl
  | some y0 =>
  simp only [Option.bind_some, Option.map_some]
  cases (pL pChange) y0.2 with
  | none => rfl
  | some y1 =>
  rfl
theorem isInc {w' : World} {S : Nat → Prop} {o : Option (List UInt8)} {c0 c1 : List Value} (f0 : ∀ x r, o.bind pI = some (x, r) → intIs w' S c0 x) (f1 : ∀ x r, (After o pI).bind (pL pChange) = some (x, r) → (sliceIs 11 ChangeT.Is) w' S c1 x) : ∀ x r, o.bind pInc = some (x, r) → IncT.Is w' S ([] ++ c0 ++ c1) x := by
  intro x r h
  obtain ⟨bs, ho, h⟩ := Option.bind_eq_some_iff.1 h
  unfold pInc at h
  obtain ⟨⟨y0, r0⟩, h0, h⟩ := Option.bind_eq_some_iff.1 h
  replace h0 : o.bind pI = some (y0, r0) := by rw [ho]; exact h0
  have a0 := after_some h0
  obtain ⟨⟨y1, r1⟩, h1, h⟩ := Option.bind_eq_some_iff.1 h
  replace h1 : (After o pI).bind (pL pChange) = some (y1, r1) := by rw [a0]; exact h1
  have a1 := after_some h1
  simp only [Option.some.injEq, Prod.mk.injEq] at h
  obtain ⟨rfl, rfl⟩ := h
  obtain ⟨rfl, j0⟩ := f0 _ _ h0
  obtain ⟨v1, rfl, l1⟩ := f1 _ _ h1
  exact ⟨v1, rfl, j0, l1⟩
theorem incD_c {w : World} {q : Nat} {o : Option (List UInt8)} {g : Option Nat} (h : Dr w q o g) (hgl : ∀ k, g = some k → k < w.heap.size) :
    Calls Tryz.prog 37 #[.pointer (some ⟨q, 0, none⟩)] w (Red 2 (fun cs => .agg cs.toArray) IncT.Is pInc o w q g) := by
  obtain ⟨i0, hi, hsz, -⟩ := info_sz ziInc
  have HS := Lib.hid hsz
  have L0 := Fl.start 57 zInc h hgl
  clear hsz h
  go_enter Tryz.func37, Tryz.ntmps37
  go_wp2_with (first | (refine wpList_alloc_block rfl 57 rfl (zero_run ziInc _) w.heap.size rfl ?_) | (refine wpList_alloc_block rfl 57 rfl (zero_run ziInc _) (w.heap.size + 1) (by simp) ?_))
  generalize (w.alloc (.cells zInc 57)).alloc (.cells zInc 57) = w0 at L0 ⊢
  refine (intR_c L0.dr).mono ?_
  rintro e v1 ⟨k1, N0, rfl, d1, F0⟩
  have zz0 := L0.size
  have kk0 := k1.size
  go_wp2_with (refine wpList_store_fl intIs_stable L0 k1 d1 (one1 _ rfl) F0 rfl 3 _ _ rfl rfl rfl rfl rfl sz_int (Nat.le_of_ble_eq_true rfl) ?_; intro w1 cur1 L1 s1)
  refine (countD_c L1.dr).mono ?_
  rintro e v2 ⟨k2, n1, hn1, rfl, d2, hg1, -⟩
  have G0 := Ll.start ChangeT.Is 11 161 (pr := pChange) (L1.call k2 d2) rfl hg1
  have zz1 := L1.size
  have kk1 := k2.size
  clear hg1
  go_wp2
  go_loopw [9] (fun i w' => ∃ (k : Nat) (o' : Option (List UInt8)) (v : Value) (cur : Array Value) (Ls : List (List Value)) (g' : Option Nat), k ≤ n1 ∧ i = .int .i64 k ∧ Ll ChangeT.Is 11 161 pChange w v2 w' q (w.heap.size + 1) 57 zInc _ g _ _ _ _ n1 k o' v cur Ls g') (fun i _ => n1 - (intOf i).toNat)
  case atStart => exact ⟨0, _, _, _, _, _, Nat.zero_le _, rfl, G0⟩
  obtain ⟨k, o', v, cur, Ls, g', hk, rfl, G⟩ := hrel
  by_cases hk2 : k < n1
  · have hki : (k : Int) < (n1 : Int) := by omega
    obtain ⟨-, -, -, -, c1, -, lq, -⟩ := G.dr.cells
    cases o' with
    | none =>
      have HG := Lib.hid G.skip
      clear G
      replace c1 : wr.cell? ⟨q, 1, none⟩ = some (.bool true) := c1
      go_wp2
      exact ⟨⟨k + 1, _, _, _, _, _, by omega, by simp, HG.out⟩, by simp [intOf]; omega⟩
    | some r =>
      obtain ⟨a, c, rfl⟩ := G.shape
      have hvp : cur[1]? = some (.slice a Ls.length c) := by
        have h9 := G.cell
        simp only [List.length_append, List.length_cons, List.length_nil] at h9
        exact h9
      obtain ⟨i1, hi1, hz0, hz1, hz2⟩ := info_all info_Change
      have hlen := G.len
      have HB := Lib.hid G.blk
      have lpr := lt_in HB.out
      have HG := Lib.hid G
      clear G
      replace c1 : wr.cell? ⟨q, 1, none⟩ = some (.bool false) := c1
      go_wp2
      refine wp_region_ordJ (fun w' => w'.heap[w.heap.size + 1]? = some (.cells cur 57)) [2] [0, 1] [3, 4, 5] [6, 7] (by kernel_rfl) (by kernel_rfl) (fun _ _ d _ _ h => by cases d <;> exact h) (fun k => HB.out) ?_
      simp only [sel, List.filterMap_cons, List.filterMap_nil, List.getElem?_cons_zero, List.getElem?_cons_succ]
      repeat (quiet_step (fail))
      refine wpQuiet_nil ?_
      refine wpHeld_step (fun K hK => ?_)
      go_simp
      refine ⟨_, fun _ _ => rfl, hK _ ?_⟩
      refine wpHeld_step (fun K hK => ?_)
      go_simp
      refine ⟨.slice a Ls.length c, fun w' h => (by
        have h1 := (cell_in (k := 1) h).trans hvp
        have h2 := lt_in h
        clear h
        go_simp), hK _ ?_⟩
      refine wpHeld_nil ?_
      rintro _ ⟨nr, rfl⟩
      have kd := Kept.drewN (fun _ => False) wr nr
      have sd : (wr.drewN nr).heap.size = wr.heap.size := rfl
      have Q2 : Hid ((wr.drewN nr).heap[w.heap.size + 1]? = some (.cells cur 57)) := Lib.hid HB.out
      generalize wr.drewN nr = w2 at kd Q2 sd ⊢
      refine wpListS_step (fun K hK => ?_)
      go_simp
      go_wp2_with fail
      refine (changeD_c (HG.out.dr.kept kd) (fun k hk => by have := hgl k hk; have := HG.out.fl.size; have := HG.out.kept.size; omega)).mono ?_
      rintro e w3 ⟨k3, d3, cE, rfl, hlE, oE, FE⟩
      obtain ⟨u0, u1, u2, u3, u4, u5, u6, u7, u8, u9, u10, rfl⟩ : ∃ u0 u1 u2 u3 u4 u5 u6 u7 u8 u9 u10 : Value, cE = [u0, u1, u2, u3, u4, u5, u6, u7, u8, u9, u10] := by
        match cE, hlE with | [u0, u1, u2, u3, u4, u5, u6, u7, u8, u9, u10], _ => exact ⟨u0, u1, u2, u3, u4, u5, u6, u7, u8, u9, u10, rfl⟩
      have Q3 : Hid (w3.heap[w.heap.size + 1]? = some (.cells cur 57)) := Lib.hid ((k3.block _ (lt_in Q2.out) (fun e => HG.out.fl.ne.1 e)).trans Q2.out)
      have K3 : Kept (· = q) wr w3 := (kd.mono (fun _ _ e => e.elim)).trans k3
      have FN : ∀ x r', (some r).bind pChange = some (x, r') → ChangeT.Is w3 (New wr w3) [u0, u1, u2, u3, u4, u5, u6, u7, u8, u9, u10] x := fun x r' hx => ChangeT.stable _ _ _ _ _ _ (FE x r' hx) (fun k hk => ⟨by have := hk.1; omega, hk.2⟩) (fun _ _ => rfl)
      refine hK _ _ Q3.out ?_
      clear hK
      refine wpListS_step (fun K hK => ?_)
      go_simp
      have hA : (w3.alloc (Obj.cells #[u0, u1, u2, u3, u4, u5, u6, u7, u8, u9, u10] 161)).heap[w.heap.size + 1]? = some (.cells cur 57) := (Below.heap_alloc _ _ _ (lt_in Q3.out)).trans Q3.out
      refine hK _ _ hA ?_
      clear hK
      have k34 := Kept.alloc (fun _ => False) w3 (Obj.cells #[u0, u1, u2, u3, u4, u5, u6, u7, u8, u9, u10] 161)
      have r4 := reads_allocN w3 [u0, u1, u2, u3, u4, u5, u6, u7, u8, u9, u10] 161 11 rfl
      generalize w3.alloc (Obj.cells #[u0, u1, u2, u3, u4, u5, u6, u7, u8, u9, u10] 161) = w4 at hA k34 r4 ⊢
      have own4 := (HG.out.own.kept K3 (fun k hk e => by have := HG.out.gnew k hk; have := HG.out.fl.size; have := HG.out.fl.ql; omega)).kept k34 (fun _ _ h => h)
      refine wpListS_append_Own rfl _ _ 29 29 rfl 161 i1 (Value.agg #[Value.int IntKind.i64 0, Value.int IntKind.i64 0, Value.int IntKind.i64 0, Value.int IntKind.i64 0, Value.int IntKind.i64 0, Value.int IntKind.i64 0, Value.int IntKind.i64 0, Value.int IntKind.i64 0, Value.int IntKind.i64 0, Value.slice none 0 0, Value.slice none 0 0]) 11 120 Tryz.underlying29 hi1 hz0 hz1 hz2 rfl rfl own4 rfl (r4.src Tryz.underlying29 oE) (by unfold maxLen; omega) (by omega) ?_
      intro a5 c5 w5 g5 own5 k5 hg5
      have hA5 : w5.heap[w.heap.size + 1]? = _ := (k5.block _ (lt_in hA) (fun h => by have := HG.out.gnew _ h; have := HG.out.fl.size; omega)).trans hA
      refine ⟨hA5, ?_⟩
      refine wpListS_nil ?_
      have HN := Lib.hid (HG.out.grow ChangeT.stable hk2 K3 d3 rfl FN k34 own5 k5 hg5 1 rfl)
      have f5 : w5.frozen? ⟨w.heap.size + 1, 1, none⟩ = false := frozen_in hA5
      have z5 := (cell_in (k := 1) hA5).trans hvp
      have l5 := lt_in hA5
      clear hA5 hA own5 own4 r4 k5 hg5 hi1 hz0 hz1 hz2 FN FE d3 oE
      go_wp2
      exact ⟨⟨k + 1, _, _, _, _, _, by omega, by simp, HN.out⟩, by simp [intOf]; omega⟩
  obtain rfl : k = n1 := by omega
  have L2 := G.done ChangeT.stable (by decide)
  clear G
  go_wp2_with (first | (refine wpList_load_block rfl 57 _ rfl rfl L2.blk (Tryz.isAgg57 _) hi (HS.out.trans L2.put.size.symm) ?_) | (refine wpList_store_block rfl 57 _ _ rfl rfl rfl L2.res hi (HS.out.trans L2.put.size.symm) L2.put.size.symm (L2.all rfl) ?_; intro w3 k3 b3 s3))
  have lV := run_loadVar_block b3 (Tryz.isAgg57 _) ((size_of ziInc).trans (congrArg some L2.put.size.symm))
  refine bodyPost_ret (v := .agg cur) (by simp [results, Tryz.results37, lV, asAddr, Act.put]) rfl ?_
  exact L2.red rfl k3 afInc (fun D => isInc D.1.2 D.2)
def zState : Array Value := #[Value.int IntKind.i64 0, Value.int IntKind.i64 0, Value.int IntKind.i64 0, Value.slice none 0 0, Value.slice none 0 0, Value.slice none 0 0]
theorem ziState : (Tryz.prog.info? 38).map (fun i => (i.size, i.zero)) = some (6, some (.agg zState)) := by kernel_rfl
theorem afState {o : Option (List UInt8)} : After o pState = (After (After (After (After (After o pI) pVersion) (pL pEntry)) (pL pLast)) (pL pItem)) := by
  cases o with
  | none => rfl
  | some bs =>
  unfold After pState
  simp only [Option.bind_some]
  cases pI bs with
  | none => rfl
  | some y0 =>
  simp only [Option.bind_some, Option.map_some]
  cases pVersion y0.2 with
  | none => rfl
  | some y1 =>
  simp only [Option.bind_some, Option.map_some]
  cases (pL pEntry) y1.2 with
  | none => rfl
  | some y2 =>
  simp only [Option.bind_some, Option.map_some]
  cases (pL pLast) y2.2 with
  | none => rfl
  | some y3 =>
  simp only [Option.bind_some, Option.map_some]
  cases (pL pItem) y3.2 with
  | none => rfl
  | some y4 =>
  rfl
theorem isState {w' : World} {S : Nat → Prop} {o : Option (List UInt8)} {c0 c1 c2 c3 c4 : List Value} (f0 : ∀ x r, o.bind pI = some (x, r) → intIs w' S c0 x) (f1 : ∀ x r, (After o pI).bind pVersion = some (x, r) → VersionT.Is w' S c1 x) (f2 : ∀ x r, (After (After o pI) pVersion).bind (pL pEntry) = some (x, r) → (sliceIs 7 EntryT.Is) w' S c2 x) (f3 : ∀ x r, (After (After (After o pI) pVersion) (pL pEntry)).bind (pL pLast) = some (x, r) → (sliceIs 5 LastT.Is) w' S c3 x) (f4 : ∀ x r, (After (After (After (After o pI) pVersion) (pL pEntry)) (pL pLast)).bind (pL pItem) = some (x, r) → (sliceIs 4 ItemT.Is) w' S c4 x) : ∀ x r, o.bind pState = some (x, r) → StateT.Is w' S ([] ++ c0 ++ c1 ++ c2 ++ c3 ++ c4) x := by
  intro x r h
  obtain ⟨bs, ho, h⟩ := Option.bind_eq_some_iff.1 h
  unfold pState at h
  obtain ⟨⟨y0, r0⟩, h0, h⟩ := Option.bind_eq_some_iff.1 h
  replace h0 : o.bind pI = some (y0, r0) := by rw [ho]; exact h0
  have a0 := after_some h0
  obtain ⟨⟨y1, r1⟩, h1, h⟩ := Option.bind_eq_some_iff.1 h
  replace h1 : (After o pI).bind pVersion = some (y1, r1) := by rw [a0]; exact h1
  have a1 := after_some h1
  obtain ⟨⟨y2, r2⟩, h2, h⟩ := Option.bind_eq_some_iff.1 h
  replace h2 : (After (After o pI) pVersion).bind (pL pEntry) = some (y2, r2) := by rw [a1]; exact h2
  have a2 := after_some h2
  obtain ⟨⟨y3, r3⟩, h3, h⟩ := Option.bind_eq_some_iff.1 h
  replace h3 : (After (After (After o pI) pVersion) (pL pEntry)).bind (pL pLast) = some (y3, r3) := by rw [a2]; exact h3
  have a3 := after_some h3
  obtain ⟨⟨y4, r4⟩, h4, h⟩ := Option.bind_eq_some_iff.1 h
  replace h4 : (After (After (After (After o pI) pVersion) (pL pEntry)) (pL pLast)).bind (pL pItem) = some (y4, r4) := by rw [a3]; exact h4
  have a4 := after_some h4
  simp only [Option.some.injEq, Prod.mk.injEq] at h
  obtain ⟨rfl, rfl⟩ := h
  obtain ⟨rfl, j0⟩ := f0 _ _ h0
  obtain ⟨rfl, j1_0, j1_1⟩ := f1 _ _ h1
  obtain ⟨v2, rfl, l2⟩ := f2 _ _ h2
  obtain ⟨v3, rfl, l3⟩ := f3 _ _ h3
  obtain ⟨v4, rfl, l4⟩ := f4 _ _ h4
  exact ⟨v2, v3, v4, rfl, j0, j1_0, j1_1, l2, l3, l4⟩
theorem stateD_c {w : World} {q : Nat} {o : Option (List UInt8)} {g : Option Nat} (h : Dr w q o g) (hgl : ∀ k, g = some k → k < w.heap.size) :
    Calls Tryz.prog 47 #[.pointer (some ⟨q, 0, none⟩)] w (Red 6 (fun cs => .agg cs.toArray) StateT.Is pState o w q g) := by
  obtain ⟨i0, hi, hsz, -⟩ := info_sz ziState
  have HS := Lib.hid hsz
  have L0 := Fl.start 38 zState h hgl
  clear hsz h
  go_enter Tryz.func47, Tryz.ntmps47
  go_wp2_with (first | (refine wpList_alloc_block rfl 38 rfl (zero_run ziState _) w.heap.size rfl ?_) | (refine wpList_alloc_block rfl 38 rfl (zero_run ziState _) (w.heap.size + 1) (by simp) ?_))
  generalize (w.alloc (.cells zState 38)).alloc (.cells zState 38) = w0 at L0 ⊢
  refine (intR_c L0.dr).mono ?_
  rintro e v1 ⟨k1, N0, rfl, d1, F0⟩
  have zz0 := L0.size
  have kk0 := k1.size
  go_wp2_with (refine wpList_store_fl intIs_stable L0 k1 d1 (one1 _ rfl) F0 rfl 3 _ _ rfl rfl rfl rfl rfl sz_int (Nat.le_of_ble_eq_true rfl) ?_; intro w1 cur1 L1 s1)
  refine (versionD_c L1.dr (fun k hk => by have := hgl k hk; have := L1.size; omega)).mono ?_
  rintro e v2 ⟨k2, d2, N1, rfl, hl1, o1, F1⟩
  have zz1 := L1.size
  have kk1 := k2.size
  go_wp2_with (refine wpList_store_fl VersionT.stable L1 k2 d2 o1 F1 rfl 31 _ _ rfl rfl rfl rfl rfl ((size_of ziVersion).trans (congrArg some hl1.symm)) (by simp only [List.length_append, List.length_cons, List.length_nil, hl1] <;> exact Nat.le_of_ble_eq_true rfl) ?_; intro w2 cur2 L2 s2)
  refine (countD_c L2.dr).mono ?_
  rintro e v3 ⟨k3, n2, hn2, rfl, d3, hg2, -⟩
  have G0 := Ll.start EntryT.Is 7 41 (pr := pEntry) (L2.call k3 d3) (by simp only [List.length_append, List.length_cons, List.length_nil, hl1] <;> rfl) hg2
  have zz2 := L2.size
  have kk2 := k3.size
  clear hg2
  go_wp2
  go_loopw [12] (fun i w' => ∃ (k : Nat) (o' : Option (List UInt8)) (v : Value) (cur : Array Value) (Ls : List (List Value)) (g' : Option Nat), k ≤ n2 ∧ i = .int .i64 k ∧ Ll EntryT.Is 7 41 pEntry w v3 w' q (w.heap.size + 1) 38 zState _ g _ _ _ _ n2 k o' v cur Ls g') (fun i _ => n2 - (intOf i).toNat)
  case atStart => exact ⟨0, _, _, _, _, _, Nat.zero_le _, rfl, G0⟩
  obtain ⟨k, o', v, cur, Ls, g', hk, rfl, G⟩ := hrel
  by_cases hk2 : k < n2
  · have hki : (k : Int) < (n2 : Int) := by omega
    obtain ⟨-, -, -, -, c1, -, lq, -⟩ := G.dr.cells
    cases o' with
    | none =>
      have HG := Lib.hid G.skip
      clear G
      replace c1 : wr.cell? ⟨q, 1, none⟩ = some (.bool true) := c1
      go_wp2
      exact ⟨⟨k + 1, _, _, _, _, _, by omega, by simp, HG.out⟩, by simp [intOf]; omega⟩
    | some r =>
      obtain ⟨a, c, rfl⟩ := G.shape
      have hvp : cur[3]? = some (.slice a Ls.length c) := by
        have h9 := G.cell
        simp only [List.length_append, List.length_cons, List.length_nil, hl1] at h9
        exact h9
      obtain ⟨i1, hi1, hz0, hz1, hz2⟩ := info_all info_Entry
      have hlen := G.len
      have HB := Lib.hid G.blk
      have lpr := lt_in HB.out
      have HG := Lib.hid G
      clear G
      replace c1 : wr.cell? ⟨q, 1, none⟩ = some (.bool false) := c1
      go_wp2
      refine wp_region_ordJ (fun w' => w'.heap[w.heap.size + 1]? = some (.cells cur 38)) [2] [0, 1] [3, 4, 5] [6, 7] (by kernel_rfl) (by kernel_rfl) (fun _ _ d _ _ h => by cases d <;> exact h) (fun k => HB.out) ?_
      simp only [sel, List.filterMap_cons, List.filterMap_nil, List.getElem?_cons_zero, List.getElem?_cons_succ]
      repeat (quiet_step (fail))
      refine wpQuiet_nil ?_
      refine wpHeld_step (fun K hK => ?_)
      go_simp
      refine ⟨_, fun _ _ => rfl, hK _ ?_⟩
      refine wpHeld_step (fun K hK => ?_)
      go_simp
      refine ⟨.slice a Ls.length c, fun w' h => (by
        have h1 := (cell_in (k := 3) h).trans hvp
        have h2 := lt_in h
        clear h
        go_simp), hK _ ?_⟩
      refine wpHeld_nil ?_
      rintro _ ⟨nr, rfl⟩
      have kd := Kept.drewN (fun _ => False) wr nr
      have sd : (wr.drewN nr).heap.size = wr.heap.size := rfl
      have Q2 : Hid ((wr.drewN nr).heap[w.heap.size + 1]? = some (.cells cur 38)) := Lib.hid HB.out
      generalize wr.drewN nr = w2 at kd Q2 sd ⊢
      refine wpListS_step (fun K hK => ?_)
      go_simp
      go_wp2_with fail
      refine (entryD_c (HG.out.dr.kept kd) (fun k hk => by have := hgl k hk; have := HG.out.fl.size; have := HG.out.kept.size; omega)).mono ?_
      rintro e w3 ⟨k3, d3, cE, rfl, hlE, oE, FE⟩
      obtain ⟨u0, u1, u2, u3, u4, u5, u6, rfl⟩ : ∃ u0 u1 u2 u3 u4 u5 u6 : Value, cE = [u0, u1, u2, u3, u4, u5, u6] := by
        match cE, hlE with | [u0, u1, u2, u3, u4, u5, u6], _ => exact ⟨u0, u1, u2, u3, u4, u5, u6, rfl⟩
      have Q3 : Hid (w3.heap[w.heap.size + 1]? = some (.cells cur 38)) := Lib.hid ((k3.block _ (lt_in Q2.out) (fun e => HG.out.fl.ne.1 e)).trans Q2.out)
      have K3 : Kept (· = q) wr w3 := (kd.mono (fun _ _ e => e.elim)).trans k3
      have FN : ∀ x r', (some r).bind pEntry = some (x, r') → EntryT.Is w3 (New wr w3) [u0, u1, u2, u3, u4, u5, u6] x := fun x r' hx => EntryT.stable _ _ _ _ _ _ (FE x r' hx) (fun k hk => ⟨by have := hk.1; omega, hk.2⟩) (fun _ _ => rfl)
      refine hK _ _ Q3.out ?_
      clear hK
      refine wpListS_step (fun K hK => ?_)
      go_simp
      have hA : (w3.alloc (Obj.cells #[u0, u1, u2, u3, u4, u5, u6] 41)).heap[w.heap.size + 1]? = some (.cells cur 38) := (Below.heap_alloc _ _ _ (lt_in Q3.out)).trans Q3.out
      refine hK _ _ hA ?_
      clear hK
      have k34 := Kept.alloc (fun _ => False) w3 (Obj.cells #[u0, u1, u2, u3, u4, u5, u6] 41)
      have r4 := reads_allocN w3 [u0, u1, u2, u3, u4, u5, u6] 41 7 rfl
      generalize w3.alloc (Obj.cells #[u0, u1, u2, u3, u4, u5, u6] 41) = w4 at hA k34 r4 ⊢
      have own4 := (HG.out.own.kept K3 (fun k hk e => by have := HG.out.gnew k hk; have := HG.out.fl.size; have := HG.out.fl.ql; omega)).kept k34 (fun _ _ h => h)
      refine wpListS_append_Own rfl _ _ 34 34 rfl 41 i1 (Value.agg #[Value.int IntKind.i64 0, Value.int IntKind.i64 0, Value.bool false, Value.int IntKind.i64 0, Value.string ⟨#[]⟩, Value.int IntKind.i64 0, Value.int IntKind.i64 0]) 7 64 Tryz.underlying34 hi1 hz0 hz1 hz2 rfl rfl own4 rfl (r4.src Tryz.underlying34 oE) (by unfold maxLen; omega) (by omega) ?_
      intro a5 c5 w5 g5 own5 k5 hg5
      have hA5 : w5.heap[w.heap.size + 1]? = _ := (k5.block _ (lt_in hA) (fun h => by have := HG.out.gnew _ h; have := HG.out.fl.size; omega)).trans hA
      refine ⟨hA5, ?_⟩
      refine wpListS_nil ?_
      have HN := Lib.hid (HG.out.grow EntryT.stable hk2 K3 d3 rfl FN k34 own5 k5 hg5 3 (by simp only [List.length_append, List.length_cons, List.length_nil, hl1] <;> rfl))
      have f5 : w5.frozen? ⟨w.heap.size + 1, 3, none⟩ = false := frozen_in hA5
      have z5 := (cell_in (k := 3) hA5).trans hvp
      have l5 := lt_in hA5
      clear hA5 hA own5 own4 r4 k5 hg5 hi1 hz0 hz1 hz2 FN FE d3 oE
      go_wp2
      exact ⟨⟨k + 1, _, _, _, _, _, by omega, by simp, HN.out⟩, by simp [intOf]; omega⟩
  obtain rfl : k = n2 := by omega
  have L3 := G.done EntryT.stable (by decide)
  clear G
  go_wp2_with fail
  refine (countD_c L3.dr).mono ?_
  rintro e v4 ⟨k4, n3, hn3, rfl, d4, hg3, -⟩
  have G0 := Ll.start LastT.Is 5 229 (pr := pLast) (L3.call k4 d4) (by simp only [List.length_append, List.length_cons, List.length_nil, hl1] <;> rfl) hg3
  have zz3 := L3.size
  have kk3 := k4.size
  clear hg3
  go_wp2
  go_loopw [29] (fun i w' => ∃ (k : Nat) (o' : Option (List UInt8)) (v : Value) (cur : Array Value) (Ls : List (List Value)) (g' : Option Nat), k ≤ n3 ∧ i = .int .i64 k ∧ Ll LastT.Is 5 229 pLast w v4 w' q (w.heap.size + 1) 38 zState _ g _ _ _ _ n3 k o' v cur Ls g') (fun i _ => n3 - (intOf i).toNat)
  case atStart => exact ⟨0, _, _, _, _, _, Nat.zero_le _, rfl, G0⟩
  obtain ⟨k, o', v, cur, Ls, g', hk, rfl, G⟩ := hrel
  by_cases hk2 : k < n3
  · have hki : (k : Int) < (n3 : Int) := by omega
    obtain ⟨-, -, -, -, c1, -, lq, -⟩ := G.dr.cells
    cases o' with
    | none =>
      have HG := Lib.hid G.skip
      clear G
      replace c1 : wr.cell? ⟨q, 1, none⟩ = some (.bool true) := c1
      go_wp2
      exact ⟨⟨k + 1, _, _, _, _, _, by omega, by simp, HG.out⟩, by simp [intOf]; omega⟩
    | some r =>
      obtain ⟨a, c, rfl⟩ := G.shape
      have hvp : cur[4]? = some (.slice a Ls.length c) := by
        have h9 := G.cell
        simp only [List.length_append, List.length_cons, List.length_nil, hl1] at h9
        exact h9
      obtain ⟨i1, hi1, hz0, hz1, hz2⟩ := info_all info_Last
      have hlen := G.len
      have HB := Lib.hid G.blk
      have lpr := lt_in HB.out
      have HG := Lib.hid G
      clear G
      replace c1 : wr.cell? ⟨q, 1, none⟩ = some (.bool false) := c1
      go_wp2
      refine wp_region_ordJ (fun w' => w'.heap[w.heap.size + 1]? = some (.cells cur 38)) [2] [0, 1] [3, 4, 5] [6, 7] (by kernel_rfl) (by kernel_rfl) (fun _ _ d _ _ h => by cases d <;> exact h) (fun k => HB.out) ?_
      simp only [sel, List.filterMap_cons, List.filterMap_nil, List.getElem?_cons_zero, List.getElem?_cons_succ]
      repeat (quiet_step (fail))
      refine wpQuiet_nil ?_
      refine wpHeld_step (fun K hK => ?_)
      go_simp
      refine ⟨_, fun _ _ => rfl, hK _ ?_⟩
      refine wpHeld_step (fun K hK => ?_)
      go_simp
      refine ⟨.slice a Ls.length c, fun w' h => (by
        have h1 := (cell_in (k := 4) h).trans hvp
        have h2 := lt_in h
        clear h
        go_simp), hK _ ?_⟩
      refine wpHeld_nil ?_
      rintro _ ⟨nr, rfl⟩
      have kd := Kept.drewN (fun _ => False) wr nr
      have sd : (wr.drewN nr).heap.size = wr.heap.size := rfl
      have Q2 : Hid ((wr.drewN nr).heap[w.heap.size + 1]? = some (.cells cur 38)) := Lib.hid HB.out
      generalize wr.drewN nr = w2 at kd Q2 sd ⊢
      refine wpListS_step (fun K hK => ?_)
      go_simp
      go_wp2_with fail
      refine (lastD_c (HG.out.dr.kept kd) (fun k hk => by have := hgl k hk; have := HG.out.fl.size; have := HG.out.kept.size; omega)).mono ?_
      rintro e w3 ⟨k3, d3, cE, rfl, hlE, oE, FE⟩
      obtain ⟨u0, u1, u2, u3, u4, rfl⟩ : ∃ u0 u1 u2 u3 u4 : Value, cE = [u0, u1, u2, u3, u4] := by
        match cE, hlE with | [u0, u1, u2, u3, u4], _ => exact ⟨u0, u1, u2, u3, u4, rfl⟩
      have Q3 : Hid (w3.heap[w.heap.size + 1]? = some (.cells cur 38)) := Lib.hid ((k3.block _ (lt_in Q2.out) (fun e => HG.out.fl.ne.1 e)).trans Q2.out)
      have K3 : Kept (· = q) wr w3 := (kd.mono (fun _ _ e => e.elim)).trans k3
      have FN : ∀ x r', (some r).bind pLast = some (x, r') → LastT.Is w3 (New wr w3) [u0, u1, u2, u3, u4] x := fun x r' hx => LastT.stable _ _ _ _ _ _ (FE x r' hx) (fun k hk => ⟨by have := hk.1; omega, hk.2⟩) (fun _ _ => rfl)
      refine hK _ _ Q3.out ?_
      clear hK
      refine wpListS_step (fun K hK => ?_)
      go_simp
      have hA : (w3.alloc (Obj.cells #[u0, u1, u2, u3, u4] 229)).heap[w.heap.size + 1]? = some (.cells cur 38) := (Below.heap_alloc _ _ _ (lt_in Q3.out)).trans Q3.out
      refine hK _ _ hA ?_
      clear hK
      have k34 := Kept.alloc (fun _ => False) w3 (Obj.cells #[u0, u1, u2, u3, u4] 229)
      have r4 := reads_allocN w3 [u0, u1, u2, u3, u4] 229 5 rfl
      generalize w3.alloc (Obj.cells #[u0, u1, u2, u3, u4] 229) = w4 at hA k34 r4 ⊢
      have own4 := (HG.out.own.kept K3 (fun k hk e => by have := HG.out.gnew k hk; have := HG.out.fl.size; have := HG.out.fl.ql; omega)).kept k34 (fun _ _ h => h)
      refine wpListS_append_Own rfl _ _ 35 35 rfl 229 i1 (Value.agg #[Value.int IntKind.i64 0, Value.int IntKind.i64 0, Value.int IntKind.i64 0, Value.int IntKind.i64 0, Value.int IntKind.i64 0]) 5 40 Tryz.underlying35 hi1 hz0 hz1 hz2 rfl rfl own4 rfl (r4.src Tryz.underlying35 oE) (by unfold maxLen; omega) (by omega) ?_
      intro a5 c5 w5 g5 own5 k5 hg5
      have hA5 : w5.heap[w.heap.size + 1]? = _ := (k5.block _ (lt_in hA) (fun h => by have := HG.out.gnew _ h; have := HG.out.fl.size; omega)).trans hA
      refine ⟨hA5, ?_⟩
      refine wpListS_nil ?_
      have HN := Lib.hid (HG.out.grow LastT.stable hk2 K3 d3 rfl FN k34 own5 k5 hg5 4 (by simp only [List.length_append, List.length_cons, List.length_nil, hl1] <;> rfl))
      have f5 : w5.frozen? ⟨w.heap.size + 1, 4, none⟩ = false := frozen_in hA5
      have z5 := (cell_in (k := 4) hA5).trans hvp
      have l5 := lt_in hA5
      clear hA5 hA own5 own4 r4 k5 hg5 hi1 hz0 hz1 hz2 FN FE d3 oE
      go_wp2
      exact ⟨⟨k + 1, _, _, _, _, _, by omega, by simp, HN.out⟩, by simp [intOf]; omega⟩
  obtain rfl : k = n3 := by omega
  have L4 := G.done LastT.stable (by decide)
  clear G
  go_wp2_with fail
  refine (countD_c L4.dr).mono ?_
  rintro e v5 ⟨k5, n4, hn4, rfl, d5, hg4, -⟩
  have G0 := Ll.start ItemT.Is 4 176 (pr := pItem) (L4.call k5 d5) (by simp only [List.length_append, List.length_cons, List.length_nil, hl1] <;> rfl) hg4
  have zz4 := L4.size
  have kk4 := k5.size
  clear hg4
  go_wp2
  go_loopw [46] (fun i w' => ∃ (k : Nat) (o' : Option (List UInt8)) (v : Value) (cur : Array Value) (Ls : List (List Value)) (g' : Option Nat), k ≤ n4 ∧ i = .int .i64 k ∧ Ll ItemT.Is 4 176 pItem w v5 w' q (w.heap.size + 1) 38 zState _ g _ _ _ _ n4 k o' v cur Ls g') (fun i _ => n4 - (intOf i).toNat)
  case atStart => exact ⟨0, _, _, _, _, _, Nat.zero_le _, rfl, G0⟩
  obtain ⟨k, o', v, cur, Ls, g', hk, rfl, G⟩ := hrel
  by_cases hk2 : k < n4
  · have hki : (k : Int) < (n4 : Int) := by omega
    obtain ⟨-, -, -, -, c1, -, lq, -⟩ := G.dr.cells
    cases o' with
    | none =>
      have HG := Lib.hid G.skip
      clear G
      replace c1 : wr.cell? ⟨q, 1, none⟩ = some (.bool true) := c1
      go_wp2
      exact ⟨⟨k + 1, _, _, _, _, _, by omega, by simp, HG.out⟩, by simp [intOf]; omega⟩
    | some r =>
      obtain ⟨a, c, rfl⟩ := G.shape
      have hvp : cur[5]? = some (.slice a Ls.length c) := by
        have h9 := G.cell
        simp only [List.length_append, List.length_cons, List.length_nil, hl1] at h9
        exact h9
      obtain ⟨i1, hi1, hz0, hz1, hz2⟩ := info_all info_Item
      have hlen := G.len
      have HB := Lib.hid G.blk
      have lpr := lt_in HB.out
      have HG := Lib.hid G
      clear G
      replace c1 : wr.cell? ⟨q, 1, none⟩ = some (.bool false) := c1
      go_wp2
      refine wp_region_ordJ (fun w' => w'.heap[w.heap.size + 1]? = some (.cells cur 38)) [2] [0, 1] [3, 4, 5] [6, 7] (by kernel_rfl) (by kernel_rfl) (fun _ _ d _ _ h => by cases d <;> exact h) (fun k => HB.out) ?_
      simp only [sel, List.filterMap_cons, List.filterMap_nil, List.getElem?_cons_zero, List.getElem?_cons_succ]
      repeat (quiet_step (fail))
      refine wpQuiet_nil ?_
      refine wpHeld_step (fun K hK => ?_)
      go_simp
      refine ⟨_, fun _ _ => rfl, hK _ ?_⟩
      refine wpHeld_step (fun K hK => ?_)
      go_simp
      refine ⟨.slice a Ls.length c, fun w' h => (by
        have h1 := (cell_in (k := 5) h).trans hvp
        have h2 := lt_in h
        clear h
        go_simp), hK _ ?_⟩
      refine wpHeld_nil ?_
      rintro _ ⟨nr, rfl⟩
      have kd := Kept.drewN (fun _ => False) wr nr
      have sd : (wr.drewN nr).heap.size = wr.heap.size := rfl
      have Q2 : Hid ((wr.drewN nr).heap[w.heap.size + 1]? = some (.cells cur 38)) := Lib.hid HB.out
      generalize wr.drewN nr = w2 at kd Q2 sd ⊢
      refine wpListS_step (fun K hK => ?_)
      go_simp
      go_wp2_with fail
      refine (itemD_c (HG.out.dr.kept kd) (fun k hk => by have := hgl k hk; have := HG.out.fl.size; have := HG.out.kept.size; omega)).mono ?_
      rintro e w3 ⟨k3, d3, cE, rfl, hlE, oE, FE⟩
      obtain ⟨u0, u1, u2, u3, rfl⟩ : ∃ u0 u1 u2 u3 : Value, cE = [u0, u1, u2, u3] := by
        match cE, hlE with | [u0, u1, u2, u3], _ => exact ⟨u0, u1, u2, u3, rfl⟩
      have Q3 : Hid (w3.heap[w.heap.size + 1]? = some (.cells cur 38)) := Lib.hid ((k3.block _ (lt_in Q2.out) (fun e => HG.out.fl.ne.1 e)).trans Q2.out)
      have K3 : Kept (· = q) wr w3 := (kd.mono (fun _ _ e => e.elim)).trans k3
      have FN : ∀ x r', (some r).bind pItem = some (x, r') → ItemT.Is w3 (New wr w3) [u0, u1, u2, u3] x := fun x r' hx => ItemT.stable _ _ _ _ _ _ (FE x r' hx) (fun k hk => ⟨by have := hk.1; omega, hk.2⟩) (fun _ _ => rfl)
      refine hK _ _ Q3.out ?_
      clear hK
      refine wpListS_step (fun K hK => ?_)
      go_simp
      have hA : (w3.alloc (Obj.cells #[u0, u1, u2, u3] 176)).heap[w.heap.size + 1]? = some (.cells cur 38) := (Below.heap_alloc _ _ _ (lt_in Q3.out)).trans Q3.out
      refine hK _ _ hA ?_
      clear hK
      have k34 := Kept.alloc (fun _ => False) w3 (Obj.cells #[u0, u1, u2, u3] 176)
      have r4 := reads_allocN w3 [u0, u1, u2, u3] 176 4 rfl
      generalize w3.alloc (Obj.cells #[u0, u1, u2, u3] 176) = w4 at hA k34 r4 ⊢
      have own4 := (HG.out.own.kept K3 (fun k hk e => by have := HG.out.gnew k hk; have := HG.out.fl.size; have := HG.out.fl.ql; omega)).kept k34 (fun _ _ h => h)
      refine wpListS_append_Own rfl _ _ 36 36 rfl 176 i1 (Value.agg #[Value.string ⟨#[]⟩, Value.int IntKind.i64 0, Value.int IntKind.i64 0, Value.int IntKind.u32 0]) 4 40 Tryz.underlying36 hi1 hz0 hz1 hz2 rfl rfl own4 rfl (r4.src Tryz.underlying36 oE) (by unfold maxLen; omega) (by omega) ?_
      intro a5 c5 w5 g5 own5 k5 hg5
      have hA5 : w5.heap[w.heap.size + 1]? = _ := (k5.block _ (lt_in hA) (fun h => by have := HG.out.gnew _ h; have := HG.out.fl.size; omega)).trans hA
      refine ⟨hA5, ?_⟩
      refine wpListS_nil ?_
      have HN := Lib.hid (HG.out.grow ItemT.stable hk2 K3 d3 rfl FN k34 own5 k5 hg5 5 (by simp only [List.length_append, List.length_cons, List.length_nil, hl1] <;> rfl))
      have f5 : w5.frozen? ⟨w.heap.size + 1, 5, none⟩ = false := frozen_in hA5
      have z5 := (cell_in (k := 5) hA5).trans hvp
      have l5 := lt_in hA5
      clear hA5 hA own5 own4 r4 k5 hg5 hi1 hz0 hz1 hz2 FN FE d3 oE
      go_wp2
      exact ⟨⟨k + 1, _, _, _, _, _, by omega, by simp, HN.out⟩, by simp [intOf]; omega⟩
  obtain rfl : k = n4 := by omega
  have L5 := G.done ItemT.stable (by decide)
  clear G
  go_wp2_with (first | (refine wpList_load_block rfl 38 _ rfl rfl L5.blk (Tryz.isAgg38 _) hi (HS.out.trans L5.put.size.symm) ?_) | (refine wpList_store_block rfl 38 _ _ rfl rfl rfl L5.res hi (HS.out.trans L5.put.size.symm) L5.put.size.symm (L5.all (by simp only [List.length_append, List.length_cons, List.length_nil, hl1] <;> rfl)) ?_; intro w6 k6 b6 s6))
  have lV := run_loadVar_block b6 (Tryz.isAgg38 _) ((size_of ziState).trans (congrArg some L5.put.size.symm))
  refine bodyPost_ret (v := .agg cur) (by simp [results, Tryz.results47, lV, asAddr, Act.put]) rfl ?_
  exact L5.red (by simp only [List.length_append, List.length_cons, List.length_nil, hl1] <;> rfl) k6 afState (fun D => isState D.1.1.1.1.2 D.1.1.1.2 D.1.1.2 D.1.2 D.2)
def zTx : Array Value := #[Value.slice none 0 0]
theorem ziTx : (Tryz.prog.info? 80).map (fun i => (i.size, i.zero)) = some (1, some (.agg zTx)) := by kernel_rfl
theorem afTx {o : Option (List UInt8)} : After o pTx = (After o (pL pStep)) := by
  cases o with
  | none => rfl
  | some bs =>
  unfold After pTx
  simp only [Option.bind_some]
  cases (pL pStep) bs with
  | none => rfl
  | some y0 =>
  rfl
theorem isTx {w' : World} {S : Nat → Prop} {o : Option (List UInt8)} {c0 : List Value} (f0 : ∀ x r, o.bind (pL pStep) = some (x, r) → (sliceIs 8 StepT.Is) w' S c0 x) : ∀ x r, o.bind pTx = some (x, r) → TxT.Is w' S ([] ++ c0) x := by
  intro x r h
  obtain ⟨bs, ho, h⟩ := Option.bind_eq_some_iff.1 h
  unfold pTx at h
  obtain ⟨⟨y0, r0⟩, h0, h⟩ := Option.bind_eq_some_iff.1 h
  replace h0 : o.bind (pL pStep) = some (y0, r0) := by rw [ho]; exact h0
  have a0 := after_some h0
  simp only [Option.some.injEq, Prod.mk.injEq] at h
  obtain ⟨rfl, rfl⟩ := h
  obtain ⟨v0, rfl, l0⟩ := f0 _ _ h0
  exact ⟨v0, rfl, l0⟩
theorem txD_c {w : World} {q : Nat} {o : Option (List UInt8)} {g : Option Nat} (h : Dr w q o g) (hgl : ∀ k, g = some k → k < w.heap.size) :
    Calls Tryz.prog 52 #[.pointer (some ⟨q, 0, none⟩)] w (Red 1 (fun cs => .agg cs.toArray) TxT.Is pTx o w q g) := by
  obtain ⟨i0, hi, hsz, -⟩ := info_sz ziTx
  have HS := Lib.hid hsz
  have L0 := Fl.start 80 zTx h hgl
  clear hsz h
  go_enter Tryz.func52, Tryz.ntmps52
  go_wp2_with (first | (refine wpList_alloc_block rfl 80 rfl (zero_run ziTx _) w.heap.size rfl ?_) | (refine wpList_alloc_block rfl 80 rfl (zero_run ziTx _) (w.heap.size + 1) (by simp) ?_))
  generalize (w.alloc (.cells zTx 80)).alloc (.cells zTx 80) = w0 at L0 ⊢
  refine (countD_c L0.dr).mono ?_
  rintro e v1 ⟨k1, n0, hn0, rfl, d1, hg0, -⟩
  have G0 := Ll.start StepT.Is 8 239 (pr := pStep) (L0.call k1 d1) rfl hg0
  have zz0 := L0.size
  have kk0 := k1.size
  clear hg0
  go_wp2
  go_loopw [6] (fun i w' => ∃ (k : Nat) (o' : Option (List UInt8)) (v : Value) (cur : Array Value) (Ls : List (List Value)) (g' : Option Nat), k ≤ n0 ∧ i = .int .i64 k ∧ Ll StepT.Is 8 239 pStep w v1 w' q (w.heap.size + 1) 80 zTx _ g _ _ _ _ n0 k o' v cur Ls g') (fun i _ => n0 - (intOf i).toNat)
  case atStart => exact ⟨0, _, _, _, _, _, Nat.zero_le _, rfl, G0⟩
  obtain ⟨k, o', v, cur, Ls, g', hk, rfl, G⟩ := hrel
  by_cases hk2 : k < n0
  · have hki : (k : Int) < (n0 : Int) := by omega
    obtain ⟨-, -, -, -, c1, -, lq, -⟩ := G.dr.cells
    cases o' with
    | none =>
      have HG := Lib.hid G.skip
      clear G
      replace c1 : wr.cell? ⟨q, 1, none⟩ = some (.bool true) := c1
      go_wp2
      exact ⟨⟨k + 1, _, _, _, _, _, by omega, by simp, HG.out⟩, by simp [intOf]; omega⟩
    | some r =>
      obtain ⟨a, c, rfl⟩ := G.shape
      have hvp : cur[0]? = some (.slice a Ls.length c) := by
        have h9 := G.cell
        simp only [List.length_append, List.length_cons, List.length_nil] at h9
        exact h9
      obtain ⟨i1, hi1, hz0, hz1, hz2⟩ := info_all info_Step
      have hlen := G.len
      have HB := Lib.hid G.blk
      have lpr := lt_in HB.out
      have HG := Lib.hid G
      clear G
      replace c1 : wr.cell? ⟨q, 1, none⟩ = some (.bool false) := c1
      go_wp2
      refine wp_region_ordJ (fun w' => w'.heap[w.heap.size + 1]? = some (.cells cur 80)) [2] [0, 1] [3, 4, 5] [6, 7] (by kernel_rfl) (by kernel_rfl) (fun _ _ d _ _ h => by cases d <;> exact h) (fun k => HB.out) ?_
      simp only [sel, List.filterMap_cons, List.filterMap_nil, List.getElem?_cons_zero, List.getElem?_cons_succ]
      repeat (quiet_step (fail))
      refine wpQuiet_nil ?_
      refine wpHeld_step (fun K hK => ?_)
      go_simp
      refine ⟨_, fun _ _ => rfl, hK _ ?_⟩
      refine wpHeld_step (fun K hK => ?_)
      go_simp
      refine ⟨.slice a Ls.length c, fun w' h => (by
        have h1 := (cell_in (k := 0) h).trans hvp
        have h2 := lt_in h
        clear h
        go_simp), hK _ ?_⟩
      refine wpHeld_nil ?_
      rintro _ ⟨nr, rfl⟩
      have kd := Kept.drewN (fun _ => False) wr nr
      have sd : (wr.drewN nr).heap.size = wr.heap.size := rfl
      have Q2 : Hid ((wr.drewN nr).heap[w.heap.size + 1]? = some (.cells cur 80)) := Lib.hid HB.out
      generalize wr.drewN nr = w2 at kd Q2 sd ⊢
      refine wpListS_step (fun K hK => ?_)
      go_simp
      go_wp2_with fail
      refine (stepD_c (HG.out.dr.kept kd) (fun k hk => by have := hgl k hk; have := HG.out.fl.size; have := HG.out.kept.size; omega)).mono ?_
      rintro e w3 ⟨k3, d3, cE, rfl, hlE, oE, FE⟩
      obtain ⟨u0, u1, u2, u3, u4, u5, u6, u7, rfl⟩ : ∃ u0 u1 u2 u3 u4 u5 u6 u7 : Value, cE = [u0, u1, u2, u3, u4, u5, u6, u7] := by
        match cE, hlE with | [u0, u1, u2, u3, u4, u5, u6, u7], _ => exact ⟨u0, u1, u2, u3, u4, u5, u6, u7, rfl⟩
      have Q3 : Hid (w3.heap[w.heap.size + 1]? = some (.cells cur 80)) := Lib.hid ((k3.block _ (lt_in Q2.out) (fun e => HG.out.fl.ne.1 e)).trans Q2.out)
      have K3 : Kept (· = q) wr w3 := (kd.mono (fun _ _ e => e.elim)).trans k3
      have FN : ∀ x r', (some r).bind pStep = some (x, r') → StepT.Is w3 (New wr w3) [u0, u1, u2, u3, u4, u5, u6, u7] x := fun x r' hx => StepT.stable _ _ _ _ _ _ (FE x r' hx) (fun k hk => ⟨by have := hk.1; omega, hk.2⟩) (fun _ _ => rfl)
      refine hK _ _ Q3.out ?_
      clear hK
      refine wpListS_step (fun K hK => ?_)
      go_simp
      have hA : (w3.alloc (Obj.cells #[u0, u1, u2, u3, u4, u5, u6, u7] 239)).heap[w.heap.size + 1]? = some (.cells cur 80) := (Below.heap_alloc _ _ _ (lt_in Q3.out)).trans Q3.out
      refine hK _ _ hA ?_
      clear hK
      have k34 := Kept.alloc (fun _ => False) w3 (Obj.cells #[u0, u1, u2, u3, u4, u5, u6, u7] 239)
      have r4 := reads_allocN w3 [u0, u1, u2, u3, u4, u5, u6, u7] 239 8 rfl
      generalize w3.alloc (Obj.cells #[u0, u1, u2, u3, u4, u5, u6, u7] 239) = w4 at hA k34 r4 ⊢
      have own4 := (HG.out.own.kept K3 (fun k hk e => by have := HG.out.gnew k hk; have := HG.out.fl.size; have := HG.out.fl.ql; omega)).kept k34 (fun _ _ h => h)
      refine wpListS_append_Own rfl _ _ 78 78 rfl 239 i1 (Value.agg #[Value.int IntKind.i64 0, Value.int IntKind.i64 0, Value.int IntKind.i64 0, Value.string ⟨#[]⟩, Value.int IntKind.i64 0, Value.int IntKind.i64 0, Value.string ⟨#[]⟩, Value.slice none 0 0]) 8 96 Tryz.underlying78 hi1 hz0 hz1 hz2 rfl rfl own4 rfl (r4.src Tryz.underlying78 oE) (by unfold maxLen; omega) (by omega) ?_
      intro a5 c5 w5 g5 own5 k5 hg5
      have hA5 : w5.heap[w.heap.size + 1]? = _ := (k5.block _ (lt_in hA) (fun h => by have := HG.out.gnew _ h; have := HG.out.fl.size; omega)).trans hA
      refine ⟨hA5, ?_⟩
      refine wpListS_nil ?_
      have HN := Lib.hid (HG.out.grow StepT.stable hk2 K3 d3 rfl FN k34 own5 k5 hg5 0 rfl)
      have f5 : w5.frozen? ⟨w.heap.size + 1, 0, none⟩ = false := frozen_in hA5
      have z5 := (cell_in (k := 0) hA5).trans hvp
      have l5 := lt_in hA5
      clear hA5 hA own5 own4 r4 k5 hg5 hi1 hz0 hz1 hz2 FN FE d3 oE
      go_wp2
      exact ⟨⟨k + 1, _, _, _, _, _, by omega, by simp, HN.out⟩, by simp [intOf]; omega⟩
  obtain rfl : k = n0 := by omega
  have L1 := G.done StepT.stable (by decide)
  clear G
  go_wp2_with (first | (refine wpList_load_block rfl 80 _ rfl rfl L1.blk (Tryz.isAgg80 _) hi (HS.out.trans L1.put.size.symm) ?_) | (refine wpList_store_block rfl 80 _ _ rfl rfl rfl L1.res hi (HS.out.trans L1.put.size.symm) L1.put.size.symm (L1.all rfl) ?_; intro w2 k2 b2 s2))
  have lV := run_loadVar_block b2 (Tryz.isAgg80 _) ((size_of ziTx).trans (congrArg some L1.put.size.symm))
  refine bodyPost_ret (v := .agg cur) (by simp [results, Tryz.results52, lV, asAddr, Act.put]) rfl ?_
  exact L1.red rfl k2 afTx (fun D => isTx D.2)
end Go.Proofs.YtmbjealliinpdaaGreat
end

section

namespace Go.Proofs.YtmbjealliinpdaaGreat
open Go.RowKit
/-- The document's reader of bytes that were laid out just now. -/
theorem Dr.start {w : World} {a : Option Addr} {c : Nat} {bs : List UInt8} {g : Option Nat} (z : Obj) (hr : Reads w 1 (.slice a bs.length c) bs.length (bs.map bv) g) (hgl : ∀ k, g = some k → k < w.heap.size) (hm : bs.length ≤ 140737488351232) :
    Dr ((w.alloc z).alloc (.cells #[.slice a bs.length c, .bool false] 99)) (w.heap.size + 1) (some bs) g := by
  obtain ⟨k, h1, h2⟩ := two_new w z (.cells #[.slice a bs.length c, .bool false] 99)
  refine ⟨⟨a, _, c, h2, fun bs' e => by cases e; exact hr.kept k (fun _ _ h => h)⟩, fun k hk => by have := hgl k hk; omega, fun bs' e => by cases e; exact hm⟩
theorem decDMap_c {w : World} {v : Value} {bs : List UInt8} {g : Option Nat} (hr : Reads w 1 v bs.length (bs.map bv) g) (hgl : ∀ k, g = some k → k < w.heap.size) (hm : bs.length ≤ 140737488351232) :
    Calls Tryz.prog 15 #[v] w (Took MapT.Is pMap [Value.int IntKind.i64 0, Value.slice none 0 0, Value.slice none 0 0, Value.slice none 0 0, Value.int IntKind.i64 0] bs w) := by
  obtain ⟨a, cp, rfl, hc⟩ := hr.shape
  obtain ⟨i0, hi, hsz, -⟩ := info_sz ziMap
  have HS : Hid (i0.size = zMap.size) := Lib.hid hsz
  have D1 := Dr.start (.cells zMap 67) hr hgl hm
  obtain ⟨k1, hres, -⟩ := two_new w (.cells zMap 67) (.cells #[.slice a bs.length cp, .bool false] 99)
  have s1 : ((w.alloc (.cells zMap 67)).alloc (.cells #[.slice a bs.length cp, .bool false] 99)).heap.size = w.heap.size + 2 := by simp
  have HRES := Lib.hid hres
  clear hsz hres hr
  go_enter Tryz.func15, Tryz.ntmps15
  go_wp2_with (refine wpList_alloc_block rfl 67 rfl (zero_run ziMap _) w.heap.size rfl ?_)
  generalize (w.alloc (.cells zMap 67)).alloc (.cells #[.slice a bs.length cp, .bool false] 99) = w1 at D1 k1 HRES s1 ⊢
  refine (clusterD_c D1 (fun k hk => by have := hgl k hk; omega)).mono ?_
  rintro e w2 ⟨k2, d2, cs, rfl, hl, ho, hF⟩
  have s2 := k2.size
  have HL : Hid (cs.toArray.size = zMap.size) := Lib.hid (by rw [List.size_toArray]; exact hl)
  have HONE : Hid (cs.toArray.toList.all (·.oneCell') = true) := Lib.hid (List.all_eq_true.2 (fun u hu => ho u (by simpa using hu)))
  have HR2 := Lib.hid ((k2.block _ (lt_in HRES.out) (fun h => by omega)).trans HRES.out)
  have K2 : Kept (fun _ => False) w w2 := k1.thn k2 (fun i hi => .inr (by omega))
  have HF := Lib.hid hF
  clear hF HRES ho hl
  obtain ⟨o', hA⟩ : ∃ o', After (some bs) pMap = o' := ⟨_, rfl⟩
  rw [hA] at d2
  have HA := Lib.hid hA
  clear hA
  have ka := Kept.alloc (fun _ => False) w2 (Obj.cells zMap 67)
  have sa : (w2.alloc (Obj.cells zMap 67)).heap.size = w2.heap.size + 1 := by simp
  have HZ := Lib.hid (heap_alloc_new' w2 (Obj.cells zMap 67))
  have HR3 := Lib.hid ((ka.block _ (lt_in HR2.out) (fun h => h)).trans HR2.out)
  cases o' with
  | none =>
      have HN : Hid (∀ x, pMap bs ≠ some (x, [])) := Lib.hid (fun x hx => by
        have h1 := HA.out
        rw [after_some (o := some bs) (show (some bs).bind pMap = some (x, []) from hx)] at h1
        cases h1)
      go_wp2_with (first | (refine wpList_alloc_block rfl 67 rfl (zero_run ziMap _) w2.heap.size rfl ?_) | (refine wpList_store_block rfl 67 _ _ rfl rfl rfl HZ.out hi (HS.out.trans HL.out.symm) HL.out.symm HONE.out ?_; intro w4 k4 b4 s4; have HB4 := Lib.hid b4; clear b4; obtain ⟨a4, m4, c4, e0, e1, -, l1, hm4⟩ := ((d2.kept ka).kept k4 (fun e => by omega) (fun k hk e => by have := hgl k hk; omega)).cells; replace e1 : w4.cell? ⟨w.heap.size + 1, 1, none⟩ = some (.bool true) := e1; have HR4 := Lib.hid ((k4.block _ (lt_in HR3.out) (fun h => by omega)).trans HR3.out)) | (refine wpList_store_block rfl 67 _ _ rfl rfl rfl HR4.out hi HS.out rfl rfl ?_; intro w5 k5 b5 s5))
      have lM := run_loadVar_block b5 (Tryz.isAgg67 _) (size_of ziMap)
      refine bodyPost_ret (v := .tuple #[.agg #[Value.int IntKind.i64 0, Value.slice none 0 0, Value.slice none 0 0, Value.slice none 0 0, Value.int IntKind.i64 0], .int .i64 74]) (by simp [results, Tryz.results15, lM, asAddr, Act.put]) rfl ?_
      exact ⟨(((K2.trans ka).thn k4 (fun i hi => .inr (by omega))).thn k5 (fun i hi => .inr (by omega))), .inr ⟨HN.out, rfl⟩⟩
  | some rest =>
    by_cases h0 : rest = []
    · subst h0
      obtain ⟨x, hp⟩ : ∃ x, pMap bs = some (x, []) := by
        obtain ⟨⟨x, r⟩, h1, h2⟩ := Option.map_eq_some_iff.1 HA.out
        simp only at h2
        subst h2
        exact ⟨x, h1⟩
      have HX := Lib.hid (HF.out x [] hp)
      have HP := Lib.hid hp
      clear hp
      go_wp2_with (first | (refine wpList_alloc_block rfl 67 rfl (zero_run ziMap _) w2.heap.size rfl ?_) | (refine wpList_store_block rfl 67 _ _ rfl rfl rfl HZ.out hi (HS.out.trans HL.out.symm) HL.out.symm HONE.out ?_; intro w4 k4 b4 s4; have HB4 := Lib.hid b4; clear b4; obtain ⟨a4, m4, c4, e0, e1, -, l1, hm4⟩ := ((d2.kept ka).kept k4 (fun e => by omega) (fun k hk e => by have := hgl k hk; omega)).cells; replace e1 : w4.cell? ⟨w.heap.size + 1, 1, none⟩ = some (.bool false) := e1; have hm5 := hm4 [] rfl; subst hm5; have HR4 := Lib.hid ((k4.block _ (lt_in HR3.out) (fun h => by omega)).trans HR3.out)) | (refine wpList_load_block rfl 67 _ rfl rfl HB4.out (Tryz.isAgg67 _) hi (HS.out.trans HL.out.symm) ?_) | (refine wpList_store_block rfl 67 _ _ rfl rfl rfl HR4.out hi (HS.out.trans HL.out.symm) HL.out.symm HONE.out ?_; intro w5 k5 b5 s5))
      have lM := run_loadVar_block b5 (Tryz.isAgg67 _) ((size_of ziMap).trans (congrArg some HL.out.symm))
      refine bodyPost_ret (v := .tuple #[.agg cs.toArray, .int .i64 0]) (by simp [results, Tryz.results15, lM, asAddr, Act.put]) rfl ?_
      refine ⟨(((K2.trans ka).thn k4 (fun i hi => .inr (by omega))).thn k5 (fun i hi => .inr (by omega))), .inl ⟨x, cs, HP.out, rfl, MapT.stable _ _ _ _ _ _ HX.out (fun k hk => ⟨by have := hk.1; omega, by have := hk.2; omega⟩) (fun k hk => ?_)⟩⟩
      have h1 := hk.1
      have h2 := hk.2
      rw [k5.block k (by omega) (by omega), k4.block k (by omega) (by omega), ka.block k h2 (fun h => h)]
    · have hpos : Hid (0 < rest.length) := Lib.hid (List.length_pos_iff.2 h0)
      have HN : Hid (∀ x, pMap bs ≠ some (x, [])) := Lib.hid (fun x hx => by
        have h1 := HA.out
        rw [after_some (o := some bs) (show (some bs).bind pMap = some (x, []) from hx)] at h1
        cases h1
        exact h0 rfl)
      go_wp2_with (first | (refine wpList_alloc_block rfl 67 rfl (zero_run ziMap _) w2.heap.size rfl ?_) | (refine wpList_store_block rfl 67 _ _ rfl rfl rfl HZ.out hi (HS.out.trans HL.out.symm) HL.out.symm HONE.out ?_; intro w4 k4 b4 s4; have HB4 := Lib.hid b4; clear b4; obtain ⟨a4, m4, c4, e0, e1, -, l1, hm4⟩ := ((d2.kept ka).kept k4 (fun e => by omega) (fun k hk e => by have := hgl k hk; omega)).cells; replace e1 : w4.cell? ⟨w.heap.size + 1, 1, none⟩ = some (.bool false) := e1; have hm6 : (0 : Int) < (m4 : Int) := (by have hm5 := hm4 rest rfl; have := hpos.out; omega); clear hm4; have HR4 := Lib.hid ((k4.block _ (lt_in HR3.out) (fun h => by omega)).trans HR3.out)) | (refine wpList_store_block rfl 67 _ _ rfl rfl rfl HR4.out hi HS.out rfl rfl ?_; intro w5 k5 b5 s5))
      have lM := run_loadVar_block b5 (Tryz.isAgg67 _) (size_of ziMap)
      refine bodyPost_ret (v := .tuple #[.agg #[Value.int IntKind.i64 0, Value.slice none 0 0, Value.slice none 0 0, Value.slice none 0 0, Value.int IntKind.i64 0], .int .i64 74]) (by simp [results, Tryz.results15, lM, asAddr, Act.put]) rfl ?_
      exact ⟨(((K2.trans ka).thn k4 (fun i hi => .inr (by omega))).thn k5 (fun i hi => .inr (by omega))), .inr ⟨HN.out, rfl⟩⟩
theorem decDInc_c {w : World} {v : Value} {bs : List UInt8} {g : Option Nat} (hr : Reads w 1 v bs.length (bs.map bv) g) (hgl : ∀ k, g = some k → k < w.heap.size) (hm : bs.length ≤ 140737488351232) :
    Calls Tryz.prog 11 #[v] w (Took IncT.Is pInc [Value.int IntKind.i64 0, Value.slice none 0 0] bs w) := by
  obtain ⟨a, cp, rfl, hc⟩ := hr.shape
  obtain ⟨i0, hi, hsz, -⟩ := info_sz ziInc
  have HS : Hid (i0.size = zInc.size) := Lib.hid hsz
  have D1 := Dr.start (.cells zInc 57) hr hgl hm
  obtain ⟨k1, hres, -⟩ := two_new w (.cells zInc 57) (.cells #[.slice a bs.length cp, .bool false] 99)
  have s1 : ((w.alloc (.cells zInc 57)).alloc (.cells #[.slice a bs.length cp, .bool false] 99)).heap.size = w.heap.size + 2 := by simp
  have HRES := Lib.hid hres
  clear hsz hres hr
  go_enter Tryz.func11, Tryz.ntmps11
  go_wp2_with (refine wpList_alloc_block rfl 57 rfl (zero_run ziInc _) w.heap.size rfl ?_)
  generalize (w.alloc (.cells zInc 57)).alloc (.cells #[.slice a bs.length cp, .bool false] 99) = w1 at D1 k1 HRES s1 ⊢
  refine (incD_c D1 (fun k hk => by have := hgl k hk; omega)).mono ?_
  rintro e w2 ⟨k2, d2, cs, rfl, hl, ho, hF⟩
  have s2 := k2.size
  have HL : Hid (cs.toArray.size = zInc.size) := Lib.hid (by rw [List.size_toArray]; exact hl)
  have HONE : Hid (cs.toArray.toList.all (·.oneCell') = true) := Lib.hid (List.all_eq_true.2 (fun u hu => ho u (by simpa using hu)))
  have HR2 := Lib.hid ((k2.block _ (lt_in HRES.out) (fun h => by omega)).trans HRES.out)
  have K2 : Kept (fun _ => False) w w2 := k1.thn k2 (fun i hi => .inr (by omega))
  have HF := Lib.hid hF
  clear hF HRES ho hl
  obtain ⟨o', hA⟩ : ∃ o', After (some bs) pInc = o' := ⟨_, rfl⟩
  rw [hA] at d2
  have HA := Lib.hid hA
  clear hA
  have ka := Kept.alloc (fun _ => False) w2 (Obj.cells zInc 57)
  have sa : (w2.alloc (Obj.cells zInc 57)).heap.size = w2.heap.size + 1 := by simp
  have HZ := Lib.hid (heap_alloc_new' w2 (Obj.cells zInc 57))
  have HR3 := Lib.hid ((ka.block _ (lt_in HR2.out) (fun h => h)).trans HR2.out)
  cases o' with
  | none =>
      have HN : Hid (∀ x, pInc bs ≠ some (x, [])) := Lib.hid (fun x hx => by
        have h1 := HA.out
        rw [after_some (o := some bs) (show (some bs).bind pInc = some (x, []) from hx)] at h1
        cases h1)
      go_wp2_with (first | (refine wpList_alloc_block rfl 57 rfl (zero_run ziInc _) w2.heap.size rfl ?_) | (refine wpList_store_block rfl 57 _ _ rfl rfl rfl HZ.out hi (HS.out.trans HL.out.symm) HL.out.symm HONE.out ?_; intro w4 k4 b4 s4; have HB4 := Lib.hid b4; clear b4; obtain ⟨a4, m4, c4, e0, e1, -, l1, hm4⟩ := ((d2.kept ka).kept k4 (fun e => by omega) (fun k hk e => by have := hgl k hk; omega)).cells; replace e1 : w4.cell? ⟨w.heap.size + 1, 1, none⟩ = some (.bool true) := e1; have HR4 := Lib.hid ((k4.block _ (lt_in HR3.out) (fun h => by omega)).trans HR3.out)) | (refine wpList_store_block rfl 57 _ _ rfl rfl rfl HR4.out hi HS.out rfl rfl ?_; intro w5 k5 b5 s5))
      have lM := run_loadVar_block b5 (Tryz.isAgg57 _) (size_of ziInc)
      refine bodyPost_ret (v := .tuple #[.agg #[Value.int IntKind.i64 0, Value.slice none 0 0], .int .i64 74]) (by simp [results, Tryz.results11, lM, asAddr, Act.put]) rfl ?_
      exact ⟨(((K2.trans ka).thn k4 (fun i hi => .inr (by omega))).thn k5 (fun i hi => .inr (by omega))), .inr ⟨HN.out, rfl⟩⟩
  | some rest =>
    by_cases h0 : rest = []
    · subst h0
      obtain ⟨x, hp⟩ : ∃ x, pInc bs = some (x, []) := by
        obtain ⟨⟨x, r⟩, h1, h2⟩ := Option.map_eq_some_iff.1 HA.out
        simp only at h2
        subst h2
        exact ⟨x, h1⟩
      have HX := Lib.hid (HF.out x [] hp)
      have HP := Lib.hid hp
      clear hp
      go_wp2_with (first | (refine wpList_alloc_block rfl 57 rfl (zero_run ziInc _) w2.heap.size rfl ?_) | (refine wpList_store_block rfl 57 _ _ rfl rfl rfl HZ.out hi (HS.out.trans HL.out.symm) HL.out.symm HONE.out ?_; intro w4 k4 b4 s4; have HB4 := Lib.hid b4; clear b4; obtain ⟨a4, m4, c4, e0, e1, -, l1, hm4⟩ := ((d2.kept ka).kept k4 (fun e => by omega) (fun k hk e => by have := hgl k hk; omega)).cells; replace e1 : w4.cell? ⟨w.heap.size + 1, 1, none⟩ = some (.bool false) := e1; have hm5 := hm4 [] rfl; subst hm5; have HR4 := Lib.hid ((k4.block _ (lt_in HR3.out) (fun h => by omega)).trans HR3.out)) | (refine wpList_load_block rfl 57 _ rfl rfl HB4.out (Tryz.isAgg57 _) hi (HS.out.trans HL.out.symm) ?_) | (refine wpList_store_block rfl 57 _ _ rfl rfl rfl HR4.out hi (HS.out.trans HL.out.symm) HL.out.symm HONE.out ?_; intro w5 k5 b5 s5))
      have lM := run_loadVar_block b5 (Tryz.isAgg57 _) ((size_of ziInc).trans (congrArg some HL.out.symm))
      refine bodyPost_ret (v := .tuple #[.agg cs.toArray, .int .i64 0]) (by simp [results, Tryz.results11, lM, asAddr, Act.put]) rfl ?_
      refine ⟨(((K2.trans ka).thn k4 (fun i hi => .inr (by omega))).thn k5 (fun i hi => .inr (by omega))), .inl ⟨x, cs, HP.out, rfl, IncT.stable _ _ _ _ _ _ HX.out (fun k hk => ⟨by have := hk.1; omega, by have := hk.2; omega⟩) (fun k hk => ?_)⟩⟩
      have h1 := hk.1
      have h2 := hk.2
      rw [k5.block k (by omega) (by omega), k4.block k (by omega) (by omega), ka.block k h2 (fun h => h)]
    · have hpos : Hid (0 < rest.length) := Lib.hid (List.length_pos_iff.2 h0)
      have HN : Hid (∀ x, pInc bs ≠ some (x, [])) := Lib.hid (fun x hx => by
        have h1 := HA.out
        rw [after_some (o := some bs) (show (some bs).bind pInc = some (x, []) from hx)] at h1
        cases h1
        exact h0 rfl)
      go_wp2_with (first | (refine wpList_alloc_block rfl 57 rfl (zero_run ziInc _) w2.heap.size rfl ?_) | (refine wpList_store_block rfl 57 _ _ rfl rfl rfl HZ.out hi (HS.out.trans HL.out.symm) HL.out.symm HONE.out ?_; intro w4 k4 b4 s4; have HB4 := Lib.hid b4; clear b4; obtain ⟨a4, m4, c4, e0, e1, -, l1, hm4⟩ := ((d2.kept ka).kept k4 (fun e => by omega) (fun k hk e => by have := hgl k hk; omega)).cells; replace e1 : w4.cell? ⟨w.heap.size + 1, 1, none⟩ = some (.bool false) := e1; have hm6 : (0 : Int) < (m4 : Int) := (by have hm5 := hm4 rest rfl; have := hpos.out; omega); clear hm4; have HR4 := Lib.hid ((k4.block _ (lt_in HR3.out) (fun h => by omega)).trans HR3.out)) | (refine wpList_store_block rfl 57 _ _ rfl rfl rfl HR4.out hi HS.out rfl rfl ?_; intro w5 k5 b5 s5))
      have lM := run_loadVar_block b5 (Tryz.isAgg57 _) (size_of ziInc)
      refine bodyPost_ret (v := .tuple #[.agg #[Value.int IntKind.i64 0, Value.slice none 0 0], .int .i64 74]) (by simp [results, Tryz.results11, lM, asAddr, Act.put]) rfl ?_
      exact ⟨(((K2.trans ka).thn k4 (fun i hi => .inr (by omega))).thn k5 (fun i hi => .inr (by omega))), .inr ⟨HN.out, rfl⟩⟩
theorem decDState_c {w : World} {v : Value} {bs : List UInt8} {g : Option Nat} (hr : Reads w 1 v bs.length (bs.map bv) g) (hgl : ∀ k, g = some k → k < w.heap.size) (hm : bs.length ≤ 140737488351232) :
    Calls Tryz.prog 19 #[v] w (Took StateT.Is pState [Value.int IntKind.i64 0, Value.int IntKind.i64 0, Value.int IntKind.i64 0, Value.slice none 0 0, Value.slice none 0 0, Value.slice none 0 0] bs w) := by
  obtain ⟨a, cp, rfl, hc⟩ := hr.shape
  obtain ⟨i0, hi, hsz, -⟩ := info_sz ziState
  have HS : Hid (i0.size = zState.size) := Lib.hid hsz
  have D1 := Dr.start (.cells zState 38) hr hgl hm
  obtain ⟨k1, hres, -⟩ := two_new w (.cells zState 38) (.cells #[.slice a bs.length cp, .bool false] 99)
  have s1 : ((w.alloc (.cells zState 38)).alloc (.cells #[.slice a bs.length cp, .bool false] 99)).heap.size = w.heap.size + 2 := by simp
  have HRES := Lib.hid hres
  clear hsz hres hr
  go_enter Tryz.func19, Tryz.ntmps19
  go_wp2_with (refine wpList_alloc_block rfl 38 rfl (zero_run ziState _) w.heap.size rfl ?_)
  generalize (w.alloc (.cells zState 38)).alloc (.cells #[.slice a bs.length cp, .bool false] 99) = w1 at D1 k1 HRES s1 ⊢
  refine (stateD_c D1 (fun k hk => by have := hgl k hk; omega)).mono ?_
  rintro e w2 ⟨k2, d2, cs, rfl, hl, ho, hF⟩
  have s2 := k2.size
  have HL : Hid (cs.toArray.size = zState.size) := Lib.hid (by rw [List.size_toArray]; exact hl)
  have HONE : Hid (cs.toArray.toList.all (·.oneCell') = true) := Lib.hid (List.all_eq_true.2 (fun u hu => ho u (by simpa using hu)))
  have HR2 := Lib.hid ((k2.block _ (lt_in HRES.out) (fun h => by omega)).trans HRES.out)
  have K2 : Kept (fun _ => False) w w2 := k1.thn k2 (fun i hi => .inr (by omega))
  have HF := Lib.hid hF
  clear hF HRES ho hl
  obtain ⟨o', hA⟩ : ∃ o', After (some bs) pState = o' := ⟨_, rfl⟩
  rw [hA] at d2
  have HA := Lib.hid hA
  clear hA
  have ka := Kept.alloc (fun _ => False) w2 (Obj.cells zState 38)
  have sa : (w2.alloc (Obj.cells zState 38)).heap.size = w2.heap.size + 1 := by simp
  have HZ := Lib.hid (heap_alloc_new' w2 (Obj.cells zState 38))
  have HR3 := Lib.hid ((ka.block _ (lt_in HR2.out) (fun h => h)).trans HR2.out)
  cases o' with
  | none =>
      have HN : Hid (∀ x, pState bs ≠ some (x, [])) := Lib.hid (fun x hx => by
        have h1 := HA.out
        rw [after_some (o := some bs) (show (some bs).bind pState = some (x, []) from hx)] at h1
        cases h1)
      go_wp2_with (first | (refine wpList_alloc_block rfl 38 rfl (zero_run ziState _) w2.heap.size rfl ?_) | (refine wpList_store_block rfl 38 _ _ rfl rfl rfl HZ.out hi (HS.out.trans HL.out.symm) HL.out.symm HONE.out ?_; intro w4 k4 b4 s4; have HB4 := Lib.hid b4; clear b4; obtain ⟨a4, m4, c4, e0, e1, -, l1, hm4⟩ := ((d2.kept ka).kept k4 (fun e => by omega) (fun k hk e => by have := hgl k hk; omega)).cells; replace e1 : w4.cell? ⟨w.heap.size + 1, 1, none⟩ = some (.bool true) := e1; have HR4 := Lib.hid ((k4.block _ (lt_in HR3.out) (fun h => by omega)).trans HR3.out)) | (refine wpList_store_block rfl 38 _ _ rfl rfl rfl HR4.out hi HS.out rfl rfl ?_; intro w5 k5 b5 s5))
      have lM := run_loadVar_block b5 (Tryz.isAgg38 _) (size_of ziState)
      refine bodyPost_ret (v := .tuple #[.agg #[Value.int IntKind.i64 0, Value.int IntKind.i64 0, Value.int IntKind.i64 0, Value.slice none 0 0, Value.slice none 0 0, Value.slice none 0 0], .int .i64 74]) (by simp [results, Tryz.results19, lM, asAddr, Act.put]) rfl ?_
      exact ⟨(((K2.trans ka).thn k4 (fun i hi => .inr (by omega))).thn k5 (fun i hi => .inr (by omega))), .inr ⟨HN.out, rfl⟩⟩
  | some rest =>
    by_cases h0 : rest = []
    · subst h0
      obtain ⟨x, hp⟩ : ∃ x, pState bs = some (x, []) := by
        obtain ⟨⟨x, r⟩, h1, h2⟩ := Option.map_eq_some_iff.1 HA.out
        simp only at h2
        subst h2
        exact ⟨x, h1⟩
      have HX := Lib.hid (HF.out x [] hp)
      have HP := Lib.hid hp
      clear hp
      go_wp2_with (first | (refine wpList_alloc_block rfl 38 rfl (zero_run ziState _) w2.heap.size rfl ?_) | (refine wpList_store_block rfl 38 _ _ rfl rfl rfl HZ.out hi (HS.out.trans HL.out.symm) HL.out.symm HONE.out ?_; intro w4 k4 b4 s4; have HB4 := Lib.hid b4; clear b4; obtain ⟨a4, m4, c4, e0, e1, -, l1, hm4⟩ := ((d2.kept ka).kept k4 (fun e => by omega) (fun k hk e => by have := hgl k hk; omega)).cells; replace e1 : w4.cell? ⟨w.heap.size + 1, 1, none⟩ = some (.bool false) := e1; have hm5 := hm4 [] rfl; subst hm5; have HR4 := Lib.hid ((k4.block _ (lt_in HR3.out) (fun h => by omega)).trans HR3.out)) | (refine wpList_load_block rfl 38 _ rfl rfl HB4.out (Tryz.isAgg38 _) hi (HS.out.trans HL.out.symm) ?_) | (refine wpList_store_block rfl 38 _ _ rfl rfl rfl HR4.out hi (HS.out.trans HL.out.symm) HL.out.symm HONE.out ?_; intro w5 k5 b5 s5))
      have lM := run_loadVar_block b5 (Tryz.isAgg38 _) ((size_of ziState).trans (congrArg some HL.out.symm))
      refine bodyPost_ret (v := .tuple #[.agg cs.toArray, .int .i64 0]) (by simp [results, Tryz.results19, lM, asAddr, Act.put]) rfl ?_
      refine ⟨(((K2.trans ka).thn k4 (fun i hi => .inr (by omega))).thn k5 (fun i hi => .inr (by omega))), .inl ⟨x, cs, HP.out, rfl, StateT.stable _ _ _ _ _ _ HX.out (fun k hk => ⟨by have := hk.1; omega, by have := hk.2; omega⟩) (fun k hk => ?_)⟩⟩
      have h1 := hk.1
      have h2 := hk.2
      rw [k5.block k (by omega) (by omega), k4.block k (by omega) (by omega), ka.block k h2 (fun h => h)]
    · have hpos : Hid (0 < rest.length) := Lib.hid (List.length_pos_iff.2 h0)
      have HN : Hid (∀ x, pState bs ≠ some (x, [])) := Lib.hid (fun x hx => by
        have h1 := HA.out
        rw [after_some (o := some bs) (show (some bs).bind pState = some (x, []) from hx)] at h1
        cases h1
        exact h0 rfl)
      go_wp2_with (first | (refine wpList_alloc_block rfl 38 rfl (zero_run ziState _) w2.heap.size rfl ?_) | (refine wpList_store_block rfl 38 _ _ rfl rfl rfl HZ.out hi (HS.out.trans HL.out.symm) HL.out.symm HONE.out ?_; intro w4 k4 b4 s4; have HB4 := Lib.hid b4; clear b4; obtain ⟨a4, m4, c4, e0, e1, -, l1, hm4⟩ := ((d2.kept ka).kept k4 (fun e => by omega) (fun k hk e => by have := hgl k hk; omega)).cells; replace e1 : w4.cell? ⟨w.heap.size + 1, 1, none⟩ = some (.bool false) := e1; have hm6 : (0 : Int) < (m4 : Int) := (by have hm5 := hm4 rest rfl; have := hpos.out; omega); clear hm4; have HR4 := Lib.hid ((k4.block _ (lt_in HR3.out) (fun h => by omega)).trans HR3.out)) | (refine wpList_store_block rfl 38 _ _ rfl rfl rfl HR4.out hi HS.out rfl rfl ?_; intro w5 k5 b5 s5))
      have lM := run_loadVar_block b5 (Tryz.isAgg38 _) (size_of ziState)
      refine bodyPost_ret (v := .tuple #[.agg #[Value.int IntKind.i64 0, Value.int IntKind.i64 0, Value.int IntKind.i64 0, Value.slice none 0 0, Value.slice none 0 0, Value.slice none 0 0], .int .i64 74]) (by simp [results, Tryz.results19, lM, asAddr, Act.put]) rfl ?_
      exact ⟨(((K2.trans ka).thn k4 (fun i hi => .inr (by omega))).thn k5 (fun i hi => .inr (by omega))), .inr ⟨HN.out, rfl⟩⟩
theorem decDTx_c {w : World} {v : Value} {bs : List UInt8} {g : Option Nat} (hr : Reads w 1 v bs.length (bs.map bv) g) (hgl : ∀ k, g = some k → k < w.heap.size) (hm : bs.length ≤ 140737488351232) :
    Calls Tryz.prog 23 #[v] w (Took TxT.Is pTx [Value.slice none 0 0] bs w) := by
  obtain ⟨a, cp, rfl, hc⟩ := hr.shape
  obtain ⟨i0, hi, hsz, -⟩ := info_sz ziTx
  have HS : Hid (i0.size = zTx.size) := Lib.hid hsz
  have D1 := Dr.start (.cells zTx 80) hr hgl hm
  obtain ⟨k1, hres, -⟩ := two_new w (.cells zTx 80) (.cells #[.slice a bs.length cp, .bool false] 99)
  have s1 : ((w.alloc (.cells zTx 80)).alloc (.cells #[.slice a bs.length cp, .bool false] 99)).heap.size = w.heap.size + 2 := by simp
  have HRES := Lib.hid hres
  clear hsz hres hr
  go_enter Tryz.func23, Tryz.ntmps23
  go_wp2_with (refine wpList_alloc_block rfl 80 rfl (zero_run ziTx _) w.heap.size rfl ?_)
  generalize (w.alloc (.cells zTx 80)).alloc (.cells #[.slice a bs.length cp, .bool false] 99) = w1 at D1 k1 HRES s1 ⊢
  refine (txD_c D1 (fun k hk => by have := hgl k hk; omega)).mono ?_
  rintro e w2 ⟨k2, d2, cs, rfl, hl, ho, hF⟩
  have s2 := k2.size
  have HL : Hid (cs.toArray.size = zTx.size) := Lib.hid (by rw [List.size_toArray]; exact hl)
  have HONE : Hid (cs.toArray.toList.all (·.oneCell') = true) := Lib.hid (List.all_eq_true.2 (fun u hu => ho u (by simpa using hu)))
  have HR2 := Lib.hid ((k2.block _ (lt_in HRES.out) (fun h => by omega)).trans HRES.out)
  have K2 : Kept (fun _ => False) w w2 := k1.thn k2 (fun i hi => .inr (by omega))
  have HF := Lib.hid hF
  clear hF HRES ho hl
  obtain ⟨o', hA⟩ : ∃ o', After (some bs) pTx = o' := ⟨_, rfl⟩
  rw [hA] at d2
  have HA := Lib.hid hA
  clear hA
  have ka := Kept.alloc (fun _ => False) w2 (Obj.cells zTx 80)
  have sa : (w2.alloc (Obj.cells zTx 80)).heap.size = w2.heap.size + 1 := by simp
  have HZ := Lib.hid (heap_alloc_new' w2 (Obj.cells zTx 80))
  have HR3 := Lib.hid ((ka.block _ (lt_in HR2.out) (fun h => h)).trans HR2.out)
  cases o' with
  | none =>
      have HN : Hid (∀ x, pTx bs ≠ some (x, [])) := Lib.hid (fun x hx => by
        have h1 := HA.out
        rw [after_some (o := some bs) (show (some bs).bind pTx = some (x, []) from hx)] at h1
        cases h1)
      go_wp2_with (first | (refine wpList_alloc_block rfl 80 rfl (zero_run ziTx _) w2.heap.size rfl ?_) | (refine wpList_store_block rfl 80 _ _ rfl rfl rfl HZ.out hi (HS.out.trans HL.out.symm) HL.out.symm HONE.out ?_; intro w4 k4 b4 s4; have HB4 := Lib.hid b4; clear b4; obtain ⟨a4, m4, c4, e0, e1, -, l1, hm4⟩ := ((d2.kept ka).kept k4 (fun e => by omega) (fun k hk e => by have := hgl k hk; omega)).cells; replace e1 : w4.cell? ⟨w.heap.size + 1, 1, none⟩ = some (.bool true) := e1; have HR4 := Lib.hid ((k4.block _ (lt_in HR3.out) (fun h => by omega)).trans HR3.out)) | (refine wpList_store_block rfl 80 _ _ rfl rfl rfl HR4.out hi HS.out rfl rfl ?_; intro w5 k5 b5 s5))
      have lM := run_loadVar_block b5 (Tryz.isAgg80 _) (size_of ziTx)
      refine bodyPost_ret (v := .tuple #[.agg #[Value.slice none 0 0], .int .i64 74]) (by simp [results, Tryz.results23, lM, asAddr, Act.put]) rfl ?_
      exact ⟨(((K2.trans ka).thn k4 (fun i hi => .inr (by omega))).thn k5 (fun i hi => .inr (by omega))), .inr ⟨HN.out, rfl⟩⟩
  | some rest =>
    by_cases h0 : rest = []
    · subst h0
      obtain ⟨x, hp⟩ : ∃ x, pTx bs = some (x, []) := by
        obtain ⟨⟨x, r⟩, h1, h2⟩ := Option.map_eq_some_iff.1 HA.out
        simp only at h2
        subst h2
        exact ⟨x, h1⟩
      have HX := Lib.hid (HF.out x [] hp)
      have HP := Lib.hid hp
      clear hp
      go_wp2_with (first | (refine wpList_alloc_block rfl 80 rfl (zero_run ziTx _) w2.heap.size rfl ?_) | (refine wpList_store_block rfl 80 _ _ rfl rfl rfl HZ.out hi (HS.out.trans HL.out.symm) HL.out.symm HONE.out ?_; intro w4 k4 b4 s4; have HB4 := Lib.hid b4; clear b4; obtain ⟨a4, m4, c4, e0, e1, -, l1, hm4⟩ := ((d2.kept ka).kept k4 (fun e => by omega) (fun k hk e => by have := hgl k hk; omega)).cells; replace e1 : w4.cell? ⟨w.heap.size + 1, 1, none⟩ = some (.bool false) := e1; have hm5 := hm4 [] rfl; subst hm5; have HR4 := Lib.hid ((k4.block _ (lt_in HR3.out) (fun h => by omega)).trans HR3.out)) | (refine wpList_load_block rfl 80 _ rfl rfl HB4.out (Tryz.isAgg80 _) hi (HS.out.trans HL.out.symm) ?_) | (refine wpList_store_block rfl 80 _ _ rfl rfl rfl HR4.out hi (HS.out.trans HL.out.symm) HL.out.symm HONE.out ?_; intro w5 k5 b5 s5))
      have lM := run_loadVar_block b5 (Tryz.isAgg80 _) ((size_of ziTx).trans (congrArg some HL.out.symm))
      refine bodyPost_ret (v := .tuple #[.agg cs.toArray, .int .i64 0]) (by simp [results, Tryz.results23, lM, asAddr, Act.put]) rfl ?_
      refine ⟨(((K2.trans ka).thn k4 (fun i hi => .inr (by omega))).thn k5 (fun i hi => .inr (by omega))), .inl ⟨x, cs, HP.out, rfl, TxT.stable _ _ _ _ _ _ HX.out (fun k hk => ⟨by have := hk.1; omega, by have := hk.2; omega⟩) (fun k hk => ?_)⟩⟩
      have h1 := hk.1
      have h2 := hk.2
      rw [k5.block k (by omega) (by omega), k4.block k (by omega) (by omega), ka.block k h2 (fun h => h)]
    · have hpos : Hid (0 < rest.length) := Lib.hid (List.length_pos_iff.2 h0)
      have HN : Hid (∀ x, pTx bs ≠ some (x, [])) := Lib.hid (fun x hx => by
        have h1 := HA.out
        rw [after_some (o := some bs) (show (some bs).bind pTx = some (x, []) from hx)] at h1
        cases h1
        exact h0 rfl)
      go_wp2_with (first | (refine wpList_alloc_block rfl 80 rfl (zero_run ziTx _) w2.heap.size rfl ?_) | (refine wpList_store_block rfl 80 _ _ rfl rfl rfl HZ.out hi (HS.out.trans HL.out.symm) HL.out.symm HONE.out ?_; intro w4 k4 b4 s4; have HB4 := Lib.hid b4; clear b4; obtain ⟨a4, m4, c4, e0, e1, -, l1, hm4⟩ := ((d2.kept ka).kept k4 (fun e => by omega) (fun k hk e => by have := hgl k hk; omega)).cells; replace e1 : w4.cell? ⟨w.heap.size + 1, 1, none⟩ = some (.bool false) := e1; have hm6 : (0 : Int) < (m4 : Int) := (by have hm5 := hm4 rest rfl; have := hpos.out; omega); clear hm4; have HR4 := Lib.hid ((k4.block _ (lt_in HR3.out) (fun h => by omega)).trans HR3.out)) | (refine wpList_store_block rfl 80 _ _ rfl rfl rfl HR4.out hi HS.out rfl rfl ?_; intro w5 k5 b5 s5))
      have lM := run_loadVar_block b5 (Tryz.isAgg80 _) (size_of ziTx)
      refine bodyPost_ret (v := .tuple #[.agg #[Value.slice none 0 0], .int .i64 74]) (by simp [results, Tryz.results23, lM, asAddr, Act.put]) rfl ?_
      exact ⟨(((K2.trans ka).thn k4 (fun i hi => .inr (by omega))).thn k5 (fun i hi => .inr (by omega))), .inr ⟨HN.out, rfl⟩⟩
end Go.Proofs.YtmbjealliinpdaaGreat
end

section

namespace Go.Proofs.YtmbjealliinpdaaGreat
open Go.RowKit
def zInfo : Array Value := #[Value.int IntKind.i64 0, Value.int IntKind.i64 0, Value.int IntKind.i64 0, Value.int IntKind.i64 0, Value.int IntKind.i64 0, Value.int IntKind.i64 0]
theorem ziInfo : (Tryz.prog.info? 33).map (fun i => (i.size, i.zero)) = some (6, some (.agg zInfo)) := by kernel_rfl
theorem afInfo {o : Option (List UInt8)} : After o pInfo = (After (After (After (After o pI) pVersion) pVersion) pI) := by
  cases o with
  | none => rfl
  | some bs =>
  unfold After pInfo
  simp only [Option.bind_some]
  cases pI bs with
  | none => rfl
  | some y0 =>
  simp only [Option.bind_some, Option.map_some]
  cases pVersion y0.2 with
  | none => rfl
  | some y1 =>
  simp only [Option.bind_some, Option.map_some]
  cases pVersion y1.2 with
  | none => rfl
  | some y2 =>
  simp only [Option.bind_some, Option.map_some]
  cases pI y2.2 with
  | none => rfl
  | some y3 =>
  rfl
theorem isInfo {w' : World} {S : Nat → Prop} {o : Option (List UInt8)} {c0 c1 c2 c3 : List Value} (f0 : ∀ x r, o.bind pI = some (x, r) → intIs w' S c0 x) (f1 : ∀ x r, (After o pI).bind pVersion = some (x, r) → VersionT.Is w' S c1 x) (f2 : ∀ x r, (After (After o pI) pVersion).bind pVersion = some (x, r) → VersionT.Is w' S c2 x) (f3 : ∀ x r, (After (After (After o pI) pVersion) pVersion).bind pI = some (x, r) → intIs w' S c3 x) : ∀ x r, o.bind pInfo = some (x, r) → InfoT.Is w' S ([] ++ c0 ++ c1 ++ c2 ++ c3) x := by
  intro x r h
  obtain ⟨bs, ho, h⟩ := Option.bind_eq_some_iff.1 h
  unfold pInfo at h
  obtain ⟨⟨y0, r0⟩, h0, h⟩ := Option.bind_eq_some_iff.1 h
  replace h0 : o.bind pI = some (y0, r0) := by rw [ho]; exact h0
  have a0 := after_some h0
  obtain ⟨⟨y1, r1⟩, h1, h⟩ := Option.bind_eq_some_iff.1 h
  replace h1 : (After o pI).bind pVersion = some (y1, r1) := by rw [a0]; exact h1
  have a1 := after_some h1
  obtain ⟨⟨y2, r2⟩, h2, h⟩ := Option.bind_eq_some_iff.1 h
  replace h2 : (After (After o pI) pVersion).bind pVersion = some (y2, r2) := by rw [a1]; exact h2
  have a2 := after_some h2
  obtain ⟨⟨y3, r3⟩, h3, h⟩ := Option.bind_eq_some_iff.1 h
  replace h3 : (After (After (After o pI) pVersion) pVersion).bind pI = some (y3, r3) := by rw [a2]; exact h3
  have a3 := after_some h3
  simp only [Option.some.injEq, Prod.mk.injEq] at h
  obtain ⟨rfl, rfl⟩ := h
  obtain ⟨rfl, j0⟩ := f0 _ _ h0
  obtain ⟨rfl, j1_0, j1_1⟩ := f1 _ _ h1
  obtain ⟨rfl, j2_0, j2_1⟩ := f2 _ _ h2
  obtain ⟨rfl, j3⟩ := f3 _ _ h3
  exact ⟨rfl, j0, j1_0, j1_1, j2_0, j2_1, j3⟩
theorem infoD_c {w : World} {q : Nat} {o : Option (List UInt8)} {g : Option Nat} (h : Dr w q o g) (hgl : ∀ k, g = some k → k < w.heap.size) :
    Calls Tryz.prog 85 #[.pointer (some ⟨q, 0, none⟩)] w (Red 6 (fun cs => .agg cs.toArray) InfoT.Is pInfo o w q g) := by
  obtain ⟨i0, hi, hsz, -⟩ := info_sz ziInfo
  have HS := Lib.hid hsz
  have L0 := Fl.start 33 zInfo h hgl
  clear hsz h
  go_enter Tryz.func85, Tryz.ntmps85
  go_wp2_with (first | (refine wpList_alloc_block rfl 33 rfl (zero_run ziInfo _) w.heap.size rfl ?_) | (refine wpList_alloc_block rfl 33 rfl (zero_run ziInfo _) (w.heap.size + 1) (by simp) ?_))
  generalize (w.alloc (.cells zInfo 33)).alloc (.cells zInfo 33) = w0 at L0 ⊢
  refine (intR_c L0.dr).mono ?_
  rintro e v1 ⟨k1, N0, rfl, d1, F0⟩
  have zz0 := L0.size
  have kk0 := k1.size
  go_wp2_with (refine wpList_store_fl intIs_stable L0 k1 d1 (one1 _ rfl) F0 rfl 3 _ _ rfl rfl rfl rfl rfl sz_int (Nat.le_of_ble_eq_true rfl) ?_; intro w1 cur1 L1 s1)
  refine (versionD_c L1.dr (fun k hk => by have := hgl k hk; have := L1.size; omega)).mono ?_
  rintro e v2 ⟨k2, d2, N1, rfl, hl1, o1, F1⟩
  have zz1 := L1.size
  have kk1 := k2.size
  go_wp2_with (refine wpList_store_fl VersionT.stable L1 k2 d2 o1 F1 rfl 31 _ _ rfl rfl rfl rfl rfl ((size_of ziVersion).trans (congrArg some hl1.symm)) (by simp only [List.length_append, List.length_cons, List.length_nil, hl1] <;> exact Nat.le_of_ble_eq_true rfl) ?_; intro w2 cur2 L2 s2)
  refine (versionD_c L2.dr (fun k hk => by have := hgl k hk; have := L2.size; omega)).mono ?_
  rintro e v3 ⟨k3, d3, N2, rfl, hl2, o2, F2⟩
  have zz2 := L2.size
  have kk2 := k3.size
  go_wp2_with (refine wpList_store_fl VersionT.stable L2 k3 d3 o2 F2 rfl 31 _ _ rfl rfl (by simp only [List.length_append, List.length_cons, List.length_nil, hl1, hl2] <;> rfl) rfl rfl ((size_of ziVersion).trans (congrArg some hl2.symm)) (by simp only [List.length_append, List.length_cons, List.length_nil, hl1, hl2] <;> exact Nat.le_of_ble_eq_true rfl) ?_; intro w3 cur3 L3 s3)
  refine (intR_c L3.dr).mono ?_
  rintro e v4 ⟨k4, N3, rfl, d4, F3⟩
  have zz3 := L3.size
  have kk3 := k4.size
  go_wp2_with (first | (refine wpList_load_block rfl 33 _ rfl rfl L4.blk (Tryz.isAgg33 _) hi (HS.out.trans L4.put.size.symm) ?_) | (refine wpList_store_block rfl 33 _ _ rfl rfl rfl L4.res hi (HS.out.trans L4.put.size.symm) L4.put.size.symm (L4.all (by simp only [List.length_append, List.length_cons, List.length_nil, hl1, hl2] <;> rfl)) ?_; intro w5 k5 b5 s5) | (refine wpList_store_fl intIs_stable L3 k4 d4 (one1 _ rfl) F3 rfl 3 _ _ rfl rfl (by simp only [List.length_append, List.length_cons, List.length_nil, hl1, hl2] <;> rfl) rfl rfl sz_int (by simp only [List.length_append, List.length_cons, List.length_nil, hl1, hl2] <;> exact Nat.le_of_ble_eq_true rfl) ?_; intro w4 cur4 L4 s4))
  have lV := run_loadVar_block b5 (Tryz.isAgg33 _) ((size_of ziInfo).trans (congrArg some L4.put.size.symm))
  refine bodyPost_ret (v := .agg cur4) (by simp [results, Tryz.results85, lV, asAddr, Act.put]) rfl ?_
  exact L4.red (by simp only [List.length_append, List.length_cons, List.length_nil, hl1, hl2] <;> rfl) k5 afInfo (fun D => isInfo D.1.1.1.2 D.1.1.2 D.1.2 D.2)
def zOp : Array Value := #[Value.int IntKind.i64 0, Value.string ⟨#[]⟩, Value.slice none 0 0, Value.int IntKind.i64 0, Value.int IntKind.i64 0]
theorem ziOp : (Tryz.prog.info? 45).map (fun i => (i.size, i.zero)) = some (5, some (.agg zOp)) := by kernel_rfl
theorem afOp {o : Option (List UInt8)} : After o pOp = (After (After (After (After o pI) pT) pB) pVersion) := by
  cases o with
  | none => rfl
  | some bs =>
  unfold After pOp
  simp only [Option.bind_some]
  cases pI bs with
  | none => rfl
  | some y0 =>
  simp only [Option.bind_some, Option.map_some]
  cases pT y0.2 with
  | none => rfl
  | some y1 =>
  simp only [Option.bind_some, Option.map_some]
  cases pB y1.2 with
  | none => rfl
  | some y2 =>
  simp only [Option.bind_some, Option.map_some]
  cases pVersion y2.2 with
  | none => rfl
  | some y3 =>
  rfl
theorem isOp {w' : World} {S : Nat → Prop} {o : Option (List UInt8)} {c0 c1 c2 c3 : List Value} (f0 : ∀ x r, o.bind pI = some (x, r) → intIs w' S c0 x) (f1 : ∀ x r, (After o pI).bind pT = some (x, r) → textIs w' S c1 x) (f2 : ∀ x r, (After (After o pI) pT).bind pB = some (x, r) → (sliceIs 1 byteIs) w' S c2 x) (f3 : ∀ x r, (After (After (After o pI) pT) pB).bind pVersion = some (x, r) → VersionT.Is w' S c3 x) : ∀ x r, o.bind pOp = some (x, r) → OpT.Is w' S ([] ++ c0 ++ c1 ++ c2 ++ c3) x := by
  intro x r h
  obtain ⟨bs, ho, h⟩ := Option.bind_eq_some_iff.1 h
  unfold pOp at h
  obtain ⟨⟨y0, r0⟩, h0, h⟩ := Option.bind_eq_some_iff.1 h
  replace h0 : o.bind pI = some (y0, r0) := by rw [ho]; exact h0
  have a0 := after_some h0
  obtain ⟨⟨y1, r1⟩, h1, h⟩ := Option.bind_eq_some_iff.1 h
  replace h1 : (After o pI).bind pT = some (y1, r1) := by rw [a0]; exact h1
  have a1 := after_some h1
  obtain ⟨⟨y2, r2⟩, h2, h⟩ := Option.bind_eq_some_iff.1 h
  replace h2 : (After (After o pI) pT).bind pB = some (y2, r2) := by rw [a1]; exact h2
  have a2 := after_some h2
  obtain ⟨⟨y3, r3⟩, h3, h⟩ := Option.bind_eq_some_iff.1 h
  replace h3 : (After (After (After o pI) pT) pB).bind pVersion = some (y3, r3) := by rw [a2]; exact h3
  have a3 := after_some h3
  simp only [Option.some.injEq, Prod.mk.injEq] at h
  obtain ⟨rfl, rfl⟩ := h
  obtain ⟨rfl, j0⟩ := f0 _ _ h0
  obtain rfl := f1 _ _ h1
  obtain ⟨v2, rfl, l2⟩ := f2 _ _ h2
  obtain ⟨rfl, j3_0, j3_1⟩ := f3 _ _ h3
  exact ⟨v2, rfl, j0, j3_0, j3_1, l2⟩
theorem opD_c {w : World} {q : Nat} {o : Option (List UInt8)} {g : Option Nat} (h : Dr w q o g) (hgl : ∀ k, g = some k → k < w.heap.size) :
    Calls Tryz.prog 88 #[.pointer (some ⟨q, 0, none⟩)] w (Red 5 (fun cs => .agg cs.toArray) OpT.Is pOp o w q g) := by
  obtain ⟨i0, hi, hsz, -⟩ := info_sz ziOp
  have HS := Lib.hid hsz
  have L0 := Fl.start 45 zOp h hgl
  clear hsz h
  go_enter Tryz.func88, Tryz.ntmps88
  go_wp2_with (first | (refine wpList_alloc_block rfl 45 rfl (zero_run ziOp _) w.heap.size rfl ?_) | (refine wpList_alloc_block rfl 45 rfl (zero_run ziOp _) (w.heap.size + 1) (by simp) ?_))
  generalize (w.alloc (.cells zOp 45)).alloc (.cells zOp 45) = w0 at L0 ⊢
  refine (intR_c L0.dr).mono ?_
  rintro e v1 ⟨k1, N0, rfl, d1, F0⟩
  have zz0 := L0.size
  have kk0 := k1.size
  go_wp2_with (refine wpList_store_fl intIs_stable L0 k1 d1 (one1 _ rfl) F0 rfl 3 _ _ rfl rfl rfl rfl rfl sz_int (Nat.le_of_ble_eq_true rfl) ?_; intro w1 cur1 L1 s1)
  refine (bytesR_c L1.dr (fun k hk => by have := hgl k hk; have := L1.size; omega)).mono ?_
  rintro e v2 ⟨k2, aa1, nn1, cc1, N1, rfl, cv1, -, d2, -, F1⟩
  have zz1 := L1.size
  have kk1 := k2.size
  go_wp2_with (refine wpList_store_fl textIs_stable L1 k2 d2 (one1 _ rfl) F1 rfl 9 _ _ rfl rfl rfl rfl rfl sz_string (Nat.le_of_ble_eq_true rfl) ?_; intro w2 cur2 L2 s2)
  refine (bytesR_c L2.dr (fun k hk => by have := hgl k hk; have := L2.size; omega)).mono ?_
  rintro e v3 ⟨k3, aa2, nn2, cc2, N2, rfl, -, d3, -, F2, -⟩
  have zz2 := L2.size
  have kk2 := k3.size
  go_wp2_with (refine wpList_store_fl (sliceIs_stable byteIs_stable) L2 k3 d3 (one1 _ rfl) F2 rfl 22 _ _ rfl rfl rfl rfl rfl sz_bytes (Nat.le_of_ble_eq_true rfl) ?_; intro w3 cur3 L3 s3)
  refine (versionD_c L3.dr (fun k hk => by have := hgl k hk; have := L3.size; omega)).mono ?_
  rintro e v4 ⟨k4, d4, N3, rfl, hl3, o3, F3⟩
  have zz3 := L3.size
  have kk3 := k4.size
  go_wp2_with (first | (refine wpList_load_block rfl 45 _ rfl rfl L4.blk (Tryz.isAgg45 _) hi (HS.out.trans L4.put.size.symm) ?_) | (refine wpList_store_block rfl 45 _ _ rfl rfl rfl L4.res hi (HS.out.trans L4.put.size.symm) L4.put.size.symm (L4.all (by simp only [List.length_append, List.length_cons, List.length_nil, hl3] <;> rfl)) ?_; intro w5 k5 b5 s5) | (refine wpList_store_fl VersionT.stable L3 k4 d4 o3 F3 rfl 31 _ _ rfl rfl rfl rfl rfl ((size_of ziVersion).trans (congrArg some hl3.symm)) (by simp only [List.length_append, List.length_cons, List.length_nil, hl3] <;> exact Nat.le_of_ble_eq_true rfl) ?_; intro w4 cur4 L4 s4))
  have lV := run_loadVar_block b5 (Tryz.isAgg45 _) ((size_of ziOp).trans (congrArg some L4.put.size.symm))
  refine bodyPost_ret (v := .agg cur4) (by simp [results, Tryz.results88, lV, asAddr, Act.put]) rfl ?_
  exact L4.red (by simp only [List.length_append, List.length_cons, List.length_nil, hl3] <;> rfl) k5 afOp (fun D => isOp D.1.1.1.2 D.1.1.2 D.1.2 D.2)
def zMsg : Array Value := #[Value.int IntKind.i64 0, Value.int IntKind.i64 0, Value.int IntKind.i64 0, Value.int IntKind.i64 0, Value.int IntKind.i64 0, Value.int IntKind.i64 0, Value.int IntKind.i64 0, Value.int IntKind.i64 0, Value.int IntKind.i64 0, Value.int IntKind.i64 0, Value.int IntKind.i64 0, Value.int IntKind.i64 0, Value.slice none 0 0, Value.slice none 0 0, Value.slice none 0 0, Value.int IntKind.i64 0, Value.int IntKind.i64 0, Value.int IntKind.i64 0, Value.int IntKind.i64 0, Value.int IntKind.i64 0, Value.int IntKind.i64 0, Value.int IntKind.i64 0, Value.int IntKind.i64 0, Value.int IntKind.i64 0, Value.slice none 0 0, Value.slice none 0 0, Value.slice none 0 0, Value.int IntKind.i64 0, Value.int IntKind.i64 0, Value.bool false, Value.int IntKind.i64 0, Value.string ⟨#[]⟩, Value.int IntKind.i64 0, Value.int IntKind.i64 0, Value.string ⟨#[]⟩, Value.int IntKind.i64 0, Value.int IntKind.i64 0, Value.slice none 0 0, Value.int IntKind.i64 0, Value.string ⟨#[]⟩, Value.slice none 0 0, Value.int IntKind.i64 0, Value.int IntKind.i64 0, Value.slice none 0 0, Value.slice none 0 0, Value.int IntKind.i64 0]
theorem ziMsg : (Tryz.prog.info? 48).map (fun i => (i.size, i.zero)) = some (46, some (.agg zMsg)) := by kernel_rfl
theorem afMsg {o : Option (List UInt8)} : After o pMsg = (After (After (After (After (After (After (After (After (After (After (After (After (After (After (After (After (After (After (After (After o pI) pNode) pNode) pI) pI) pPg) pI) pI) pI) (pL pSlot)) (pL pInc)) (pL pChange)) pInfo) pState) pEntry) pObject) pOp) (pL pItem)) (pL pT)) pI) := by
  cases o with
  | none => rfl
  | some bs =>
  unfold After pMsg
  simp only [Option.bind_some]
  cases pI bs with
  | none => rfl
  | some y0 =>
  simp only [Option.bind_some, Option.map_some]
  cases pNode y0.2 with
  | none => rfl
  | some y1 =>
  simp only [Option.bind_some, Option.map_some]
  cases pNode y1.2 with
  | none => rfl
  | some y2 =>
  simp only [Option.bind_some, Option.map_some]
  cases pI y2.2 with
  | none => rfl
  | some y3 =>
  simp only [Option.bind_some, Option.map_some]
  cases pI y3.2 with
  | none => rfl
  | some y4 =>
  simp only [Option.bind_some, Option.map_some]
  cases pPg y4.2 with
  | none => rfl
  | some y5 =>
  simp only [Option.bind_some, Option.map_some]
  cases pI y5.2 with
  | none => rfl
  | some y6 =>
  simp only [Option.bind_some, Option.map_some]
  cases pI y6.2 with
  | none => rfl
  | some y7 =>
  simp only [Option.bind_some, Option.map_some]
  cases pI y7.2 with
  | none => rfl
  | some y8 =>
  simp only [Option.bind_some, Option.map_some]
  cases (pL pSlot) y8.2 with
  | none => rfl
  | some y9 =>
  simp only [Option.bind_some, Option.map_some]
  cases (pL pInc) y9.2 with
  | none => rfl
  | some y10 =>
  simp only [Option.bind_some, Option.map_some]
  cases (pL pChange) y10.2 with
  | none => rfl
  | some y11 =>
  simp only [Option.bind_some, Option.map_some]
  cases pInfo y11.2 with
  | none => rfl
  | some y12 =>
  simp only [Option.bind_some, Option.map_some]
  cases pState y12.2 with
  | none => rfl
  | some y13 =>
  simp only [Option.bind_some, Option.map_some]
  cases pEntry y13.2 with
  | none => rfl
  | some y14 =>
  simp only [Option.bind_some, Option.map_some]
  cases pObject y14.2 with
  | none => rfl
  | some y15 =>
  simp only [Option.bind_some, Option.map_some]
  cases pOp y15.2 with
  | none => rfl
  | some y16 =>
  simp only [Option.bind_some, Option.map_some]
  cases (pL pItem) y16.2 with
  | none => rfl
  | some y17 =>
  simp only [Option.bind_some, Option.map_some]
  cases (pL pT) y17.2 with
  | none => rfl
  | some y18 =>
  simp only [Option.bind_some, Option.map_some]
  cases pI y18.2 with
  | none => rfl
  | some y19 =>
  rfl
theorem isMsg {w' : World} {S : Nat → Prop} {o : Option (List UInt8)} {c0 c1 c2 c3 c4 c5 c6 c7 c8 c9 c10 c11 c12 c13 c14 c15 c16 c17 c18 c19 : List Value} (f0 : ∀ x r, o.bind pI = some (x, r) → intIs w' S c0 x) (f1 : ∀ x r, (After o pI).bind pNode = some (x, r) → NodeT.Is w' S c1 x) (f2 : ∀ x r, (After (After o pI) pNode).bind pNode = some (x, r) → NodeT.Is w' S c2 x) (f3 : ∀ x r, (After (After (After o pI) pNode) pNode).bind pI = some (x, r) → intIs w' S c3 x) (f4 : ∀ x r, (After (After (After (After o pI) pNode) pNode) pI).bind pI = some (x, r) → intIs w' S c4 x) (f5 : ∀ x r, (After (After (After (After (After o pI) pNode) pNode) pI) pI).bind pPg = some (x, r) → PgT.Is w' S c5 x) (f6 : ∀ x r, (After (After (After (After (After (After o pI) pNode) pNode) pI) pI) pPg).bind pI = some (x, r) → intIs w' S c6 x) (f7 : ∀ x r, (After (After (After (After (After (After (After o pI) pNode) pNode) pI) pI) pPg) pI).bind pI = some (x, r) → intIs w' S c7 x) (f8 : ∀ x r, (After (After (After (After (After (After (After (After o pI) pNode) pNode) pI) pI) pPg) pI) pI).bind pI = some (x, r) → intIs w' S c8 x) (f9 : ∀ x r, (After (After (After (After (After (After (After (After (After o pI) pNode) pNode) pI) pI) pPg) pI) pI) pI).bind (pL pSlot) = some (x, r) → (sliceIs 3 SlotT.Is) w' S c9 x) (f10 : ∀ x r, (After (After (After (After (After (After (After (After (After (After o pI) pNode) pNode) pI) pI) pPg) pI) pI) pI) (pL pSlot)).bind (pL pInc) = some (x, r) → (sliceIs 2 IncT.Is) w' S c10 x) (f11 : ∀ x r, (After (After (After (After (After (After (After (After (After (After (After o pI) pNode) pNode) pI) pI) pPg) pI) pI) pI) (pL pSlot)) (pL pInc)).bind (pL pChange) = some (x, r) → (sliceIs 11 ChangeT.Is) w' S c11 x) (f12 : ∀ x r, (After (After (After (After (After (After (After (After (After (After (After (After o pI) pNode) pNode) pI) pI) pPg) pI) pI) pI) (pL pSlot)) (pL pInc)) (pL pChange)).bind pInfo = some (x, r) → InfoT.Is w' S c12 x) (f13 : ∀ x r, (After (After (After (After (After (After (After (After (After (After (After (After (After o pI) pNode) pNode) pI) pI) pPg) pI) pI) pI) (pL pSlot)) (pL pInc)) (pL pChange)) pInfo).bind pState = some (x, r) → StateT.Is w' S c13 x) (f14 : ∀ x r, (After (After (After (After (After (After (After (After (After (After (After (After (After (After o pI) pNode) pNode) pI) pI) pPg) pI) pI) pI) (pL pSlot)) (pL pInc)) (pL pChange)) pInfo) pState).bind pEntry = some (x, r) → EntryT.Is w' S c14 x) (f15 : ∀ x r, (After (After (After (After (After (After (After (After (After (After (After (After (After (After (After o pI) pNode) pNode) pI) pI) pPg) pI) pI) pI) (pL pSlot)) (pL pInc)) (pL pChange)) pInfo) pState) pEntry).bind pObject = some (x, r) → ObjectT.Is w' S c15 x) (f16 : ∀ x r, (After (After (After (After (After (After (After (After (After (After (After (After (After (After (After (After o pI) pNode) pNode) pI) pI) pPg) pI) pI) pI) (pL pSlot)) (pL pInc)) (pL pChange)) pInfo) pState) pEntry) pObject).bind pOp = some (x, r) → OpT.Is w' S c16 x) (f17 : ∀ x r, (After (After (After (After (After (After (After (After (After (After (After (After (After (After (After (After (After o pI) pNode) pNode) pI) pI) pPg) pI) pI) pI) (pL pSlot)) (pL pInc)) (pL pChange)) pInfo) pState) pEntry) pObject) pOp).bind (pL pItem) = some (x, r) → (sliceIs 4 ItemT.Is) w' S c17 x) (f18 : ∀ x r, (After (After (After (After (After (After (After (After (After (After (After (After (After (After (After (After (After (After o pI) pNode) pNode) pI) pI) pPg) pI) pI) pI) (pL pSlot)) (pL pInc)) (pL pChange)) pInfo) pState) pEntry) pObject) pOp) (pL pItem)).bind (pL pT) = some (x, r) → (sliceIs 1 textIs) w' S c18 x) (f19 : ∀ x r, (After (After (After (After (After (After (After (After (After (After (After (After (After (After (After (After (After (After (After o pI) pNode) pNode) pI) pI) pPg) pI) pI) pI) (pL pSlot)) (pL pInc)) (pL pChange)) pInfo) pState) pEntry) pObject) pOp) (pL pItem)) (pL pT)).bind pI = some (x, r) → intIs w' S c19 x) : ∀ x r, o.bind pMsg = some (x, r) → MsgT.Is w' S ([] ++ c0 ++ c1 ++ c2 ++ c3 ++ c4 ++ c5 ++ c6 ++ c7 ++ c8 ++ c9 ++ c10 ++ c11 ++ c12 ++ c13 ++ c14 ++ c15 ++ c16 ++ c17 ++ c18 ++ c19) x := by
  intro x r h
  obtain ⟨bs, ho, h⟩ := Option.bind_eq_some_iff.1 h
  unfold pMsg at h
  obtain ⟨⟨y0, r0⟩, h0, h⟩ := Option.bind_eq_some_iff.1 h
  replace h0 : o.bind pI = some (y0, r0) := by rw [ho]; exact h0
  have a0 := after_some h0
  obtain ⟨⟨y1, r1⟩, h1, h⟩ := Option.bind_eq_some_iff.1 h
  replace h1 : (After o pI).bind pNode = some (y1, r1) := by rw [a0]; exact h1
  have a1 := after_some h1
  obtain ⟨⟨y2, r2⟩, h2, h⟩ := Option.bind_eq_some_iff.1 h
  replace h2 : (After (After o pI) pNode).bind pNode = some (y2, r2) := by rw [a1]; exact h2
  have a2 := after_some h2
  obtain ⟨⟨y3, r3⟩, h3, h⟩ := Option.bind_eq_some_iff.1 h
  replace h3 : (After (After (After o pI) pNode) pNode).bind pI = some (y3, r3) := by rw [a2]; exact h3
  have a3 := after_some h3
  obtain ⟨⟨y4, r4⟩, h4, h⟩ := Option.bind_eq_some_iff.1 h
  replace h4 : (After (After (After (After o pI) pNode) pNode) pI).bind pI = some (y4, r4) := by rw [a3]; exact h4
  have a4 := after_some h4
  obtain ⟨⟨y5, r5⟩, h5, h⟩ := Option.bind_eq_some_iff.1 h
  replace h5 : (After (After (After (After (After o pI) pNode) pNode) pI) pI).bind pPg = some (y5, r5) := by rw [a4]; exact h5
  have a5 := after_some h5
  obtain ⟨⟨y6, r6⟩, h6, h⟩ := Option.bind_eq_some_iff.1 h
  replace h6 : (After (After (After (After (After (After o pI) pNode) pNode) pI) pI) pPg).bind pI = some (y6, r6) := by rw [a5]; exact h6
  have a6 := after_some h6
  obtain ⟨⟨y7, r7⟩, h7, h⟩ := Option.bind_eq_some_iff.1 h
  replace h7 : (After (After (After (After (After (After (After o pI) pNode) pNode) pI) pI) pPg) pI).bind pI = some (y7, r7) := by rw [a6]; exact h7
  have a7 := after_some h7
  obtain ⟨⟨y8, r8⟩, h8, h⟩ := Option.bind_eq_some_iff.1 h
  replace h8 : (After (After (After (After (After (After (After (After o pI) pNode) pNode) pI) pI) pPg) pI) pI).bind pI = some (y8, r8) := by rw [a7]; exact h8
  have a8 := after_some h8
  obtain ⟨⟨y9, r9⟩, h9, h⟩ := Option.bind_eq_some_iff.1 h
  replace h9 : (After (After (After (After (After (After (After (After (After o pI) pNode) pNode) pI) pI) pPg) pI) pI) pI).bind (pL pSlot) = some (y9, r9) := by rw [a8]; exact h9
  have a9 := after_some h9
  obtain ⟨⟨y10, r10⟩, h10, h⟩ := Option.bind_eq_some_iff.1 h
  replace h10 : (After (After (After (After (After (After (After (After (After (After o pI) pNode) pNode) pI) pI) pPg) pI) pI) pI) (pL pSlot)).bind (pL pInc) = some (y10, r10) := by rw [a9]; exact h10
  have a10 := after_some h10
  obtain ⟨⟨y11, r11⟩, h11, h⟩ := Option.bind_eq_some_iff.1 h
  replace h11 : (After (After (After (After (After (After (After (After (After (After (After o pI) pNode) pNode) pI) pI) pPg) pI) pI) pI) (pL pSlot)) (pL pInc)).bind (pL pChange) = some (y11, r11) := by rw [a10]; exact h11
  have a11 := after_some h11
  obtain ⟨⟨y12, r12⟩, h12, h⟩ := Option.bind_eq_some_iff.1 h
  replace h12 : (After (After (After (After (After (After (After (After (After (After (After (After o pI) pNode) pNode) pI) pI) pPg) pI) pI) pI) (pL pSlot)) (pL pInc)) (pL pChange)).bind pInfo = some (y12, r12) := by rw [a11]; exact h12
  have a12 := after_some h12
  obtain ⟨⟨y13, r13⟩, h13, h⟩ := Option.bind_eq_some_iff.1 h
  replace h13 : (After (After (After (After (After (After (After (After (After (After (After (After (After o pI) pNode) pNode) pI) pI) pPg) pI) pI) pI) (pL pSlot)) (pL pInc)) (pL pChange)) pInfo).bind pState = some (y13, r13) := by rw [a12]; exact h13
  have a13 := after_some h13
  obtain ⟨⟨y14, r14⟩, h14, h⟩ := Option.bind_eq_some_iff.1 h
  replace h14 : (After (After (After (After (After (After (After (After (After (After (After (After (After (After o pI) pNode) pNode) pI) pI) pPg) pI) pI) pI) (pL pSlot)) (pL pInc)) (pL pChange)) pInfo) pState).bind pEntry = some (y14, r14) := by rw [a13]; exact h14
  have a14 := after_some h14
  obtain ⟨⟨y15, r15⟩, h15, h⟩ := Option.bind_eq_some_iff.1 h
  replace h15 : (After (After (After (After (After (After (After (After (After (After (After (After (After (After (After o pI) pNode) pNode) pI) pI) pPg) pI) pI) pI) (pL pSlot)) (pL pInc)) (pL pChange)) pInfo) pState) pEntry).bind pObject = some (y15, r15) := by rw [a14]; exact h15
  have a15 := after_some h15
  obtain ⟨⟨y16, r16⟩, h16, h⟩ := Option.bind_eq_some_iff.1 h
  replace h16 : (After (After (After (After (After (After (After (After (After (After (After (After (After (After (After (After o pI) pNode) pNode) pI) pI) pPg) pI) pI) pI) (pL pSlot)) (pL pInc)) (pL pChange)) pInfo) pState) pEntry) pObject).bind pOp = some (y16, r16) := by rw [a15]; exact h16
  have a16 := after_some h16
  obtain ⟨⟨y17, r17⟩, h17, h⟩ := Option.bind_eq_some_iff.1 h
  replace h17 : (After (After (After (After (After (After (After (After (After (After (After (After (After (After (After (After (After o pI) pNode) pNode) pI) pI) pPg) pI) pI) pI) (pL pSlot)) (pL pInc)) (pL pChange)) pInfo) pState) pEntry) pObject) pOp).bind (pL pItem) = some (y17, r17) := by rw [a16]; exact h17
  have a17 := after_some h17
  obtain ⟨⟨y18, r18⟩, h18, h⟩ := Option.bind_eq_some_iff.1 h
  replace h18 : (After (After (After (After (After (After (After (After (After (After (After (After (After (After (After (After (After (After o pI) pNode) pNode) pI) pI) pPg) pI) pI) pI) (pL pSlot)) (pL pInc)) (pL pChange)) pInfo) pState) pEntry) pObject) pOp) (pL pItem)).bind (pL pT) = some (y18, r18) := by rw [a17]; exact h18
  have a18 := after_some h18
  obtain ⟨⟨y19, r19⟩, h19, h⟩ := Option.bind_eq_some_iff.1 h
  replace h19 : (After (After (After (After (After (After (After (After (After (After (After (After (After (After (After (After (After (After (After o pI) pNode) pNode) pI) pI) pPg) pI) pI) pI) (pL pSlot)) (pL pInc)) (pL pChange)) pInfo) pState) pEntry) pObject) pOp) (pL pItem)) (pL pT)).bind pI = some (y19, r19) := by rw [a18]; exact h19
  have a19 := after_some h19
  simp only [Option.some.injEq, Prod.mk.injEq] at h
  obtain ⟨rfl, rfl⟩ := h
  obtain ⟨rfl, j0⟩ := f0 _ _ h0
  obtain ⟨rfl, j1_0, j1_1⟩ := f1 _ _ h1
  obtain ⟨rfl, j2_0, j2_1⟩ := f2 _ _ h2
  obtain ⟨rfl, j3⟩ := f3 _ _ h3
  obtain ⟨rfl, j4⟩ := f4 _ _ h4
  obtain ⟨rfl, j5_0, j5_1⟩ := f5 _ _ h5
  obtain ⟨rfl, j6⟩ := f6 _ _ h6
  obtain ⟨rfl, j7⟩ := f7 _ _ h7
  obtain ⟨rfl, j8⟩ := f8 _ _ h8
  obtain ⟨v9, rfl, l9⟩ := f9 _ _ h9
  obtain ⟨v10, rfl, l10⟩ := f10 _ _ h10
  obtain ⟨v11, rfl, l11⟩ := f11 _ _ h11
  obtain ⟨rfl, j12_0, j12_1, j12_2, j12_3, j12_4, j12_5⟩ := f12 _ _ h12
  obtain ⟨u13_0, u13_1, u13_2, rfl, j13_0, j13_1, j13_2, l13_0, l13_1, l13_2⟩ := f13 _ _ h13
  obtain ⟨rfl, j14_0, j14_1, j14_2, j14_3, j14_4⟩ := f14 _ _ h14
  obtain ⟨u15_0, rfl, j15_0, j15_1, l15_0⟩ := f15 _ _ h15
  obtain ⟨u16_0, rfl, j16_0, j16_1, j16_2, l16_0⟩ := f16 _ _ h16
  obtain ⟨v17, rfl, l17⟩ := f17 _ _ h17
  obtain ⟨v18, rfl, l18⟩ := f18 _ _ h18
  obtain ⟨rfl, j19⟩ := f19 _ _ h19
  exact ⟨v9, v10, v11, u13_0, u13_1, u13_2, u15_0, u16_0, v17, v18, rfl, j0, j1_0, j1_1, j2_0, j2_1, j3, j4, j5_0, j5_1, j6, j7, j8, j12_0, j12_1, j12_2, j12_3, j12_4, j12_5, j13_0, j13_1, j13_2, j14_0, j14_1, j14_2, j14_3, j14_4, j15_0, j15_1, j16_0, j16_1, j16_2, j19, l9, l10, l11, l13_0, l13_1, l13_2, l15_0, l16_0, l17, l18⟩
theorem msgD_c {w : World} {q : Nat} {o : Option (List UInt8)} {g : Option Nat} (h : Dr w q o g) (hgl : ∀ k, g = some k → k < w.heap.size) :
    Calls Tryz.prog 32 #[.pointer (some ⟨q, 0, none⟩)] w (Red 46 (fun cs => .agg cs.toArray) MsgT.Is pMsg o w q g) := by
  obtain ⟨i0, hi, hsz, -⟩ := info_sz ziMsg
  have HS := Lib.hid hsz
  have L0 := Fl.start 48 zMsg h hgl
  clear hsz h
  go_enter Tryz.func32, Tryz.ntmps32
  go_wp2_with (first | (refine wpList_alloc_block rfl 48 rfl (zero_run ziMsg _) w.heap.size rfl ?_) | (refine wpList_alloc_block rfl 48 rfl (zero_run ziMsg _) (w.heap.size + 1) (by simp) ?_))
  generalize (w.alloc (.cells zMsg 48)).alloc (.cells zMsg 48) = w0 at L0 ⊢
  refine (intR_c L0.dr).mono ?_
  rintro e v1 ⟨k1, N0, rfl, d1, F0⟩
  have zz0 := L0.size
  have kk0 := k1.size
  go_wp2_with (refine wpList_store_fl intIs_stable L0 k1 d1 (one1 _ rfl) F0 rfl 3 _ _ rfl rfl rfl rfl rfl sz_int (Nat.le_of_ble_eq_true rfl) ?_; intro w1 cur1 L1 s1)
  refine (nodeD_c L1.dr (fun k hk => by have := hgl k hk; have := L1.size; omega)).mono ?_
  rintro e v2 ⟨k2, d2, N1, rfl, hl1, o1, F1⟩
  have zz1 := L1.size
  have kk1 := k2.size
  go_wp2_with (refine wpList_store_fl NodeT.stable L1 k2 d2 o1 F1 rfl 24 _ _ rfl rfl rfl rfl rfl ((size_of ziNode).trans (congrArg some hl1.symm)) (by simp only [List.length_append, List.length_cons, List.length_nil, hl1] <;> exact Nat.le_of_ble_eq_true rfl) ?_; intro w2 cur2 L2 s2)
  refine (nodeD_c L2.dr (fun k hk => by have := hgl k hk; have := L2.size; omega)).mono ?_
  rintro e v3 ⟨k3, d3, N2, rfl, hl2, o2, F2⟩
  have zz2 := L2.size
  have kk2 := k3.size
  go_wp2_with (refine wpList_store_fl NodeT.stable L2 k3 d3 o2 F2 rfl 24 _ _ rfl rfl (by simp only [List.length_append, List.length_cons, List.length_nil, hl1, hl2] <;> rfl) rfl rfl ((size_of ziNode).trans (congrArg some hl2.symm)) (by simp only [List.length_append, List.length_cons, List.length_nil, hl1, hl2] <;> exact Nat.le_of_ble_eq_true rfl) ?_; intro w3 cur3 L3 s3)
  refine (intR_c L3.dr).mono ?_
  rintro e v4 ⟨k4, N3, rfl, d4, F3⟩
  have zz3 := L3.size
  have kk3 := k4.size
  go_wp2_with (refine wpList_store_fl intIs_stable L3 k4 d4 (one1 _ rfl) F3 rfl 3 _ _ rfl rfl (by simp only [List.length_append, List.length_cons, List.length_nil, hl1, hl2] <;> rfl) rfl rfl sz_int (by simp only [List.length_append, List.length_cons, List.length_nil, hl1, hl2] <;> exact Nat.le_of_ble_eq_true rfl) ?_; intro w4 cur4 L4 s4)
  refine (intR_c L4.dr).mono ?_
  rintro e v5 ⟨k5, N4, rfl, d5, F4⟩
  have zz4 := L4.size
  have kk4 := k5.size
  go_wp2_with (refine wpList_store_fl intIs_stable L4 k5 d5 (one1 _ rfl) F4 rfl 3 _ _ rfl rfl (by simp only [List.length_append, List.length_cons, List.length_nil, hl1, hl2] <;> rfl) rfl rfl sz_int (by simp only [List.length_append, List.length_cons, List.length_nil, hl1, hl2] <;> exact Nat.le_of_ble_eq_true rfl) ?_; intro w5 cur5 L5 s5)
  refine (pgD_c L5.dr (fun k hk => by have := hgl k hk; have := L5.size; omega)).mono ?_
  rintro e v6 ⟨k6, d6, N5, rfl, hl5, o5, F5⟩
  have zz5 := L5.size
  have kk5 := k6.size
  go_wp2_with (refine wpList_store_fl PgT.stable L5 k6 d6 o5 F5 rfl 26 _ _ rfl rfl (by simp only [List.length_append, List.length_cons, List.length_nil, hl1, hl2, hl5] <;> rfl) rfl rfl ((size_of ziPg).trans (congrArg some hl5.symm)) (by simp only [List.length_append, List.length_cons, List.length_nil, hl1, hl2, hl5] <;> exact Nat.le_of_ble_eq_true rfl) ?_; intro w6 cur6 L6 s6)
  refine (intR_c L6.dr).mono ?_
  rintro e v7 ⟨k7, N6, rfl, d7, F6⟩
  have zz6 := L6.size
  have kk6 := k7.size
  go_wp2_with (refine wpList_store_fl intIs_stable L6 k7 d7 (one1 _ rfl) F6 rfl 3 _ _ rfl rfl (by simp only [List.length_append, List.length_cons, List.length_nil, hl1, hl2, hl5] <;> rfl) rfl rfl sz_int (by simp only [List.length_append, List.length_cons, List.length_nil, hl1, hl2, hl5] <;> exact Nat.le_of_ble_eq_true rfl) ?_; intro w7 cur7 L7 s7)
  refine (intR_c L7.dr).mono ?_
  rintro e v8 ⟨k8, N7, rfl, d8, F7⟩
  have zz7 := L7.size
  have kk7 := k8.size
  go_wp2_with (refine wpList_store_fl intIs_stable L7 k8 d8 (one1 _ rfl) F7 rfl 3 _ _ rfl rfl (by simp only [List.length_append, List.length_cons, List.length_nil, hl1, hl2, hl5] <;> rfl) rfl rfl sz_int (by simp only [List.length_append, List.length_cons, List.length_nil, hl1, hl2, hl5] <;> exact Nat.le_of_ble_eq_true rfl) ?_; intro w8 cur8 L8 s8)
  refine (intR_c L8.dr).mono ?_
  rintro e v9 ⟨k9, N8, rfl, d9, F8⟩
  have zz8 := L8.size
  have kk8 := k9.size
  go_wp2_with (refine wpList_store_fl intIs_stable L8 k9 d9 (one1 _ rfl) F8 rfl 3 _ _ rfl rfl (by simp only [List.length_append, List.length_cons, List.length_nil, hl1, hl2, hl5] <;> rfl) rfl rfl sz_int (by simp only [List.length_append, List.length_cons, List.length_nil, hl1, hl2, hl5] <;> exact Nat.le_of_ble_eq_true rfl) ?_; intro w9 cur9 L9 s9)
  refine (countD_c L9.dr).mono ?_
  rintro e v10 ⟨k10, n9, hn9, rfl, d10, hg9, -⟩
  have G0 := Ll.start SlotT.Is 3 149 (pr := pSlot) (L9.call k10 d10) (by simp only [List.length_append, List.length_cons, List.length_nil, hl1, hl2, hl5] <;> rfl) hg9
  have zz9 := L9.size
  have kk9 := k10.size
  clear hg9
  go_wp2
  go_loopw [33] (fun i w' => ∃ (k : Nat) (o' : Option (List UInt8)) (v : Value) (cur : Array Value) (Ls : List (List Value)) (g' : Option Nat), k ≤ n9 ∧ i = .int .i64 k ∧ Ll SlotT.Is 3 149 pSlot w v10 w' q (w.heap.size + 1) 48 zMsg _ g _ _ _ _ n9 k o' v cur Ls g') (fun i _ => n9 - (intOf i).toNat)
  case atStart => exact ⟨0, _, _, _, _, _, Nat.zero_le _, rfl, G0⟩
  obtain ⟨k, o', v, cur, Ls, g', hk, rfl, G⟩ := hrel
  by_cases hk2 : k < n9
  · have hki : (k : Int) < (n9 : Int) := by omega
    obtain ⟨-, -, -, -, c1, -, lq, -⟩ := G.dr.cells
    cases o' with
    | none =>
      have HG := Lib.hid G.skip
      clear G
      replace c1 : wr.cell? ⟨q, 1, none⟩ = some (.bool true) := c1
      go_wp2
      exact ⟨⟨k + 1, _, _, _, _, _, by omega, by simp, HG.out⟩, by simp [intOf]; omega⟩
    | some r =>
      obtain ⟨a, c, rfl⟩ := G.shape
      have hvp : cur[12]? = some (.slice a Ls.length c) := by
        have h9 := G.cell
        simp only [List.length_append, List.length_cons, List.length_nil, hl1, hl2, hl5] at h9
        exact h9
      obtain ⟨i1, hi1, hz0, hz1, hz2⟩ := info_all info_Slot
      have hlen := G.len
      have HB := Lib.hid G.blk
      have lpr := lt_in HB.out
      have HG := Lib.hid G
      clear G
      replace c1 : wr.cell? ⟨q, 1, none⟩ = some (.bool false) := c1
      go_wp2
      refine wp_region_ordJ (fun w' => w'.heap[w.heap.size + 1]? = some (.cells cur 48)) [2] [0, 1] [3, 4, 5] [6, 7] (by kernel_rfl) (by kernel_rfl) (fun _ _ d _ _ h => by cases d <;> exact h) (fun k => HB.out) ?_
      simp only [sel, List.filterMap_cons, List.filterMap_nil, List.getElem?_cons_zero, List.getElem?_cons_succ]
      repeat (quiet_step (fail))
      refine wpQuiet_nil ?_
      refine wpHeld_step (fun K hK => ?_)
      go_simp
      refine ⟨_, fun _ _ => rfl, hK _ ?_⟩
      refine wpHeld_step (fun K hK => ?_)
      go_simp
      refine ⟨.slice a Ls.length c, fun w' h => (by
        have h1 := (cell_in (k := 12) h).trans hvp
        have h2 := lt_in h
        clear h
        go_simp), hK _ ?_⟩
      refine wpHeld_nil ?_
      rintro _ ⟨nr, rfl⟩
      have kd := Kept.drewN (fun _ => False) wr nr
      have sd : (wr.drewN nr).heap.size = wr.heap.size := rfl
      have Q2 : Hid ((wr.drewN nr).heap[w.heap.size + 1]? = some (.cells cur 48)) := Lib.hid HB.out
      generalize wr.drewN nr = w2 at kd Q2 sd ⊢
      refine wpListS_step (fun K hK => ?_)
      go_simp
      go_wp2_with fail
      refine (slotD_c (HG.out.dr.kept kd) (fun k hk => by have := hgl k hk; have := HG.out.fl.size; have := HG.out.kept.size; omega)).mono ?_
      rintro e w3 ⟨k3, d3, cE, rfl, hlE, oE, FE⟩
      obtain ⟨u0, u1, u2, rfl⟩ : ∃ u0 u1 u2 : Value, cE = [u0, u1, u2] := by
        match cE, hlE with | [u0, u1, u2], _ => exact ⟨u0, u1, u2, rfl⟩
      have Q3 : Hid (w3.heap[w.heap.size + 1]? = some (.cells cur 48)) := Lib.hid ((k3.block _ (lt_in Q2.out) (fun e => HG.out.fl.ne.1 e)).trans Q2.out)
      have K3 : Kept (· = q) wr w3 := (kd.mono (fun _ _ e => e.elim)).trans k3
      have FN : ∀ x r', (some r).bind pSlot = some (x, r') → SlotT.Is w3 (New wr w3) [u0, u1, u2] x := fun x r' hx => SlotT.stable _ _ _ _ _ _ (FE x r' hx) (fun k hk => ⟨by have := hk.1; omega, hk.2⟩) (fun _ _ => rfl)
      refine hK _ _ Q3.out ?_
      clear hK
      refine wpListS_step (fun K hK => ?_)
      go_simp
      have hA : (w3.alloc (Obj.cells #[u0, u1, u2] 149)).heap[w.heap.size + 1]? = some (.cells cur 48) := (Below.heap_alloc _ _ _ (lt_in Q3.out)).trans Q3.out
      refine hK _ _ hA ?_
      clear hK
      have k34 := Kept.alloc (fun _ => False) w3 (Obj.cells #[u0, u1, u2] 149)
      have r4 := reads_allocN w3 [u0, u1, u2] 149 3 rfl
      generalize w3.alloc (Obj.cells #[u0, u1, u2] 149) = w4 at hA k34 r4 ⊢
      have own4 := (HG.out.own.kept K3 (fun k hk e => by have := HG.out.gnew k hk; have := HG.out.fl.size; have := HG.out.fl.ql; omega)).kept k34 (fun _ _ h => h)
      refine wpListS_append_Own rfl _ _ 27 27 rfl 149 i1 (Value.agg #[Value.int IntKind.i64 0, Value.int IntKind.i64 0, Value.slice none 0 0]) 3 40 Tryz.underlying27 hi1 hz0 hz1 hz2 rfl rfl own4 rfl (r4.src Tryz.underlying27 oE) (by unfold maxLen; omega) (by omega) ?_
      intro a5 c5 w5 g5 own5 k5 hg5
      have hA5 : w5.heap[w.heap.size + 1]? = _ := (k5.block _ (lt_in hA) (fun h => by have := HG.out.gnew _ h; have := HG.out.fl.size; omega)).trans hA
      refine ⟨hA5, ?_⟩
      refine wpListS_nil ?_
      have HN := Lib.hid (HG.out.grow SlotT.stable hk2 K3 d3 rfl FN k34 own5 k5 hg5 12 (by simp only [List.length_append, List.length_cons, List.length_nil, hl1, hl2, hl5] <;> rfl))
      have f5 : w5.frozen? ⟨w.heap.size + 1, 12, none⟩ = false := frozen_in hA5
      have z5 := (cell_in (k := 12) hA5).trans hvp
      have l5 := lt_in hA5
      clear hA5 hA own5 own4 r4 k5 hg5 hi1 hz0 hz1 hz2 FN FE d3 oE
      go_wp2
      exact ⟨⟨k + 1, _, _, _, _, _, by omega, by simp, HN.out⟩, by simp [intOf]; omega⟩
  obtain rfl : k = n9 := by omega
  have L10 := G.done SlotT.stable (by decide)
  clear G
  go_wp2_with fail
  refine (countD_c L10.dr).mono ?_
  rintro e v11 ⟨k11, n10, hn10, rfl, d11, hg10, -⟩
  have G0 := Ll.start IncT.Is 2 57 (pr := pInc) (L10.call k11 d11) (by simp only [List.length_append, List.length_cons, List.length_nil, hl1, hl2, hl5] <;> rfl) hg10
  have zz10 := L10.size
  have kk10 := k11.size
  clear hg10
  go_wp2
  go_loopw [50] (fun i w' => ∃ (k : Nat) (o' : Option (List UInt8)) (v : Value) (cur : Array Value) (Ls : List (List Value)) (g' : Option Nat), k ≤ n10 ∧ i = .int .i64 k ∧ Ll IncT.Is 2 57 pInc w v11 w' q (w.heap.size + 1) 48 zMsg _ g _ _ _ _ n10 k o' v cur Ls g') (fun i _ => n10 - (intOf i).toNat)
  case atStart => exact ⟨0, _, _, _, _, _, Nat.zero_le _, rfl, G0⟩
  obtain ⟨k, o', v, cur, Ls, g', hk, rfl, G⟩ := hrel
  by_cases hk2 : k < n10
  · have hki : (k : Int) < (n10 : Int) := by omega
    obtain ⟨-, -, -, -, c1, -, lq, -⟩ := G.dr.cells
    cases o' with
    | none =>
      have HG := Lib.hid G.skip
      clear G
      replace c1 : wr.cell? ⟨q, 1, none⟩ = some (.bool true) := c1
      go_wp2
      exact ⟨⟨k + 1, _, _, _, _, _, by omega, by simp, HG.out⟩, by simp [intOf]; omega⟩
    | some r =>
      obtain ⟨a, c, rfl⟩ := G.shape
      have hvp : cur[13]? = some (.slice a Ls.length c) := by
        have h9 := G.cell
        simp only [List.length_append, List.length_cons, List.length_nil, hl1, hl2, hl5] at h9
        exact h9
      obtain ⟨i1, hi1, hz0, hz1, hz2⟩ := info_all info_Inc
      have hlen := G.len
      have HB := Lib.hid G.blk
      have lpr := lt_in HB.out
      have HG := Lib.hid G
      clear G
      replace c1 : wr.cell? ⟨q, 1, none⟩ = some (.bool false) := c1
      go_wp2
      refine wp_region_ordJ (fun w' => w'.heap[w.heap.size + 1]? = some (.cells cur 48)) [2] [0, 1] [3, 4, 5] [6, 7] (by kernel_rfl) (by kernel_rfl) (fun _ _ d _ _ h => by cases d <;> exact h) (fun k => HB.out) ?_
      simp only [sel, List.filterMap_cons, List.filterMap_nil, List.getElem?_cons_zero, List.getElem?_cons_succ]
      repeat (quiet_step (fail))
      refine wpQuiet_nil ?_
      refine wpHeld_step (fun K hK => ?_)
      go_simp
      refine ⟨_, fun _ _ => rfl, hK _ ?_⟩
      refine wpHeld_step (fun K hK => ?_)
      go_simp
      refine ⟨.slice a Ls.length c, fun w' h => (by
        have h1 := (cell_in (k := 13) h).trans hvp
        have h2 := lt_in h
        clear h
        go_simp), hK _ ?_⟩
      refine wpHeld_nil ?_
      rintro _ ⟨nr, rfl⟩
      have kd := Kept.drewN (fun _ => False) wr nr
      have sd : (wr.drewN nr).heap.size = wr.heap.size := rfl
      have Q2 : Hid ((wr.drewN nr).heap[w.heap.size + 1]? = some (.cells cur 48)) := Lib.hid HB.out
      generalize wr.drewN nr = w2 at kd Q2 sd ⊢
      refine wpListS_step (fun K hK => ?_)
      go_simp
      go_wp2_with fail
      refine (incD_c (HG.out.dr.kept kd) (fun k hk => by have := hgl k hk; have := HG.out.fl.size; have := HG.out.kept.size; omega)).mono ?_
      rintro e w3 ⟨k3, d3, cE, rfl, hlE, oE, FE⟩
      obtain ⟨u0, u1, rfl⟩ : ∃ u0 u1 : Value, cE = [u0, u1] := by
        match cE, hlE with | [u0, u1], _ => exact ⟨u0, u1, rfl⟩
      have Q3 : Hid (w3.heap[w.heap.size + 1]? = some (.cells cur 48)) := Lib.hid ((k3.block _ (lt_in Q2.out) (fun e => HG.out.fl.ne.1 e)).trans Q2.out)
      have K3 : Kept (· = q) wr w3 := (kd.mono (fun _ _ e => e.elim)).trans k3
      have FN : ∀ x r', (some r).bind pInc = some (x, r') → IncT.Is w3 (New wr w3) [u0, u1] x := fun x r' hx => IncT.stable _ _ _ _ _ _ (FE x r' hx) (fun k hk => ⟨by have := hk.1; omega, hk.2⟩) (fun _ _ => rfl)
      refine hK _ _ Q3.out ?_
      clear hK
      refine wpListS_step (fun K hK => ?_)
      go_simp
      have hA : (w3.alloc (Obj.cells #[u0, u1] 57)).heap[w.heap.size + 1]? = some (.cells cur 48) := (Below.heap_alloc _ _ _ (lt_in Q3.out)).trans Q3.out
      refine hK _ _ hA ?_
      clear hK
      have k34 := Kept.alloc (fun _ => False) w3 (Obj.cells #[u0, u1] 57)
      have r4 := reads_allocN w3 [u0, u1] 57 2 rfl
      generalize w3.alloc (Obj.cells #[u0, u1] 57) = w4 at hA k34 r4 ⊢
      have own4 := (HG.out.own.kept K3 (fun k hk e => by have := HG.out.gnew k hk; have := HG.out.fl.size; have := HG.out.fl.ql; omega)).kept k34 (fun _ _ h => h)
      refine wpListS_append_Own rfl _ _ 28 28 rfl 57 i1 (Value.agg #[Value.int IntKind.i64 0, Value.slice none 0 0]) 2 32 Tryz.underlying28 hi1 hz0 hz1 hz2 rfl rfl own4 rfl (r4.src Tryz.underlying28 oE) (by unfold maxLen; omega) (by omega) ?_
      intro a5 c5 w5 g5 own5 k5 hg5
      have hA5 : w5.heap[w.heap.size + 1]? = _ := (k5.block _ (lt_in hA) (fun h => by have := HG.out.gnew _ h; have := HG.out.fl.size; omega)).trans hA
      refine ⟨hA5, ?_⟩
      refine wpListS_nil ?_
      have HN := Lib.hid (HG.out.grow IncT.stable hk2 K3 d3 rfl FN k34 own5 k5 hg5 13 (by simp only [List.length_append, List.length_cons, List.length_nil, hl1, hl2, hl5] <;> rfl))
      have f5 : w5.frozen? ⟨w.heap.size + 1, 13, none⟩ = false := frozen_in hA5
      have z5 := (cell_in (k := 13) hA5).trans hvp
      have l5 := lt_in hA5
      clear hA5 hA own5 own4 r4 k5 hg5 hi1 hz0 hz1 hz2 FN FE d3 oE
      go_wp2
      exact ⟨⟨k + 1, _, _, _, _, _, by omega, by simp, HN.out⟩, by simp [intOf]; omega⟩
  obtain rfl : k = n10 := by omega
  have L11 := G.done IncT.stable (by decide)
  clear G
  go_wp2_with fail
  refine (countD_c L11.dr).mono ?_
  rintro e v12 ⟨k12, n11, hn11, rfl, d12, hg11, -⟩
  have G0 := Ll.start ChangeT.Is 11 161 (pr := pChange) (L11.call k12 d12) (by simp only [List.length_append, List.length_cons, List.length_nil, hl1, hl2, hl5] <;> rfl) hg11
  have zz11 := L11.size
  have kk11 := k12.size
  clear hg11
  go_wp2
  go_loopw [67] (fun i w' => ∃ (k : Nat) (o' : Option (List UInt8)) (v : Value) (cur : Array Value) (Ls : List (List Value)) (g' : Option Nat), k ≤ n11 ∧ i = .int .i64 k ∧ Ll ChangeT.Is 11 161 pChange w v12 w' q (w.heap.size + 1) 48 zMsg _ g _ _ _ _ n11 k o' v cur Ls g') (fun i _ => n11 - (intOf i).toNat)
  case atStart => exact ⟨0, _, _, _, _, _, Nat.zero_le _, rfl, G0⟩
  obtain ⟨k, o', v, cur, Ls, g', hk, rfl, G⟩ := hrel
  by_cases hk2 : k < n11
  · have hki : (k : Int) < (n11 : Int) := by omega
    obtain ⟨-, -, -, -, c1, -, lq, -⟩ := G.dr.cells
    cases o' with
    | none =>
      have HG := Lib.hid G.skip
      clear G
      replace c1 : wr.cell? ⟨q, 1, none⟩ = some (.bool true) := c1
      go_wp2
      exact ⟨⟨k + 1, _, _, _, _, _, by omega, by simp, HG.out⟩, by simp [intOf]; omega⟩
    | some r =>
      obtain ⟨a, c, rfl⟩ := G.shape
      have hvp : cur[14]? = some (.slice a Ls.length c) := by
        have h9 := G.cell
        simp only [List.length_append, List.length_cons, List.length_nil, hl1, hl2, hl5] at h9
        exact h9
      obtain ⟨i1, hi1, hz0, hz1, hz2⟩ := info_all info_Change
      have hlen := G.len
      have HB := Lib.hid G.blk
      have lpr := lt_in HB.out
      have HG := Lib.hid G
      clear G
      replace c1 : wr.cell? ⟨q, 1, none⟩ = some (.bool false) := c1
      go_wp2
      refine wp_region_ordJ (fun w' => w'.heap[w.heap.size + 1]? = some (.cells cur 48)) [2] [0, 1] [3, 4, 5] [6, 7] (by kernel_rfl) (by kernel_rfl) (fun _ _ d _ _ h => by cases d <;> exact h) (fun k => HB.out) ?_
      simp only [sel, List.filterMap_cons, List.filterMap_nil, List.getElem?_cons_zero, List.getElem?_cons_succ]
      repeat (quiet_step (fail))
      refine wpQuiet_nil ?_
      refine wpHeld_step (fun K hK => ?_)
      go_simp
      refine ⟨_, fun _ _ => rfl, hK _ ?_⟩
      refine wpHeld_step (fun K hK => ?_)
      go_simp
      refine ⟨.slice a Ls.length c, fun w' h => (by
        have h1 := (cell_in (k := 14) h).trans hvp
        have h2 := lt_in h
        clear h
        go_simp), hK _ ?_⟩
      refine wpHeld_nil ?_
      rintro _ ⟨nr, rfl⟩
      have kd := Kept.drewN (fun _ => False) wr nr
      have sd : (wr.drewN nr).heap.size = wr.heap.size := rfl
      have Q2 : Hid ((wr.drewN nr).heap[w.heap.size + 1]? = some (.cells cur 48)) := Lib.hid HB.out
      generalize wr.drewN nr = w2 at kd Q2 sd ⊢
      refine wpListS_step (fun K hK => ?_)
      go_simp
      go_wp2_with fail
      refine (changeD_c (HG.out.dr.kept kd) (fun k hk => by have := hgl k hk; have := HG.out.fl.size; have := HG.out.kept.size; omega)).mono ?_
      rintro e w3 ⟨k3, d3, cE, rfl, hlE, oE, FE⟩
      obtain ⟨u0, u1, u2, u3, u4, u5, u6, u7, u8, u9, u10, rfl⟩ : ∃ u0 u1 u2 u3 u4 u5 u6 u7 u8 u9 u10 : Value, cE = [u0, u1, u2, u3, u4, u5, u6, u7, u8, u9, u10] := by
        match cE, hlE with | [u0, u1, u2, u3, u4, u5, u6, u7, u8, u9, u10], _ => exact ⟨u0, u1, u2, u3, u4, u5, u6, u7, u8, u9, u10, rfl⟩
      have Q3 : Hid (w3.heap[w.heap.size + 1]? = some (.cells cur 48)) := Lib.hid ((k3.block _ (lt_in Q2.out) (fun e => HG.out.fl.ne.1 e)).trans Q2.out)
      have K3 : Kept (· = q) wr w3 := (kd.mono (fun _ _ e => e.elim)).trans k3
      have FN : ∀ x r', (some r).bind pChange = some (x, r') → ChangeT.Is w3 (New wr w3) [u0, u1, u2, u3, u4, u5, u6, u7, u8, u9, u10] x := fun x r' hx => ChangeT.stable _ _ _ _ _ _ (FE x r' hx) (fun k hk => ⟨by have := hk.1; omega, hk.2⟩) (fun _ _ => rfl)
      refine hK _ _ Q3.out ?_
      clear hK
      refine wpListS_step (fun K hK => ?_)
      go_simp
      have hA : (w3.alloc (Obj.cells #[u0, u1, u2, u3, u4, u5, u6, u7, u8, u9, u10] 161)).heap[w.heap.size + 1]? = some (.cells cur 48) := (Below.heap_alloc _ _ _ (lt_in Q3.out)).trans Q3.out
      refine hK _ _ hA ?_
      clear hK
      have k34 := Kept.alloc (fun _ => False) w3 (Obj.cells #[u0, u1, u2, u3, u4, u5, u6, u7, u8, u9, u10] 161)
      have r4 := reads_allocN w3 [u0, u1, u2, u3, u4, u5, u6, u7, u8, u9, u10] 161 11 rfl
      generalize w3.alloc (Obj.cells #[u0, u1, u2, u3, u4, u5, u6, u7, u8, u9, u10] 161) = w4 at hA k34 r4 ⊢
      have own4 := (HG.out.own.kept K3 (fun k hk e => by have := HG.out.gnew k hk; have := HG.out.fl.size; have := HG.out.fl.ql; omega)).kept k34 (fun _ _ h => h)
      refine wpListS_append_Own rfl _ _ 29 29 rfl 161 i1 (Value.agg #[Value.int IntKind.i64 0, Value.int IntKind.i64 0, Value.int IntKind.i64 0, Value.int IntKind.i64 0, Value.int IntKind.i64 0, Value.int IntKind.i64 0, Value.int IntKind.i64 0, Value.int IntKind.i64 0, Value.int IntKind.i64 0, Value.slice none 0 0, Value.slice none 0 0]) 11 120 Tryz.underlying29 hi1 hz0 hz1 hz2 rfl rfl own4 rfl (r4.src Tryz.underlying29 oE) (by unfold maxLen; omega) (by omega) ?_
      intro a5 c5 w5 g5 own5 k5 hg5
      have hA5 : w5.heap[w.heap.size + 1]? = _ := (k5.block _ (lt_in hA) (fun h => by have := HG.out.gnew _ h; have := HG.out.fl.size; omega)).trans hA
      refine ⟨hA5, ?_⟩
      refine wpListS_nil ?_
      have HN := Lib.hid (HG.out.grow ChangeT.stable hk2 K3 d3 rfl FN k34 own5 k5 hg5 14 (by simp only [List.length_append, List.length_cons, List.length_nil, hl1, hl2, hl5] <;> rfl))
      have f5 : w5.frozen? ⟨w.heap.size + 1, 14, none⟩ = false := frozen_in hA5
      have z5 := (cell_in (k := 14) hA5).trans hvp
      have l5 := lt_in hA5
      clear hA5 hA own5 own4 r4 k5 hg5 hi1 hz0 hz1 hz2 FN FE d3 oE
      go_wp2
      exact ⟨⟨k + 1, _, _, _, _, _, by omega, by simp, HN.out⟩, by simp [intOf]; omega⟩
  obtain rfl : k = n11 := by omega
  have L12 := G.done ChangeT.stable (by decide)
  clear G
  go_wp2_with fail
  refine (infoD_c L12.dr (fun k hk => by have := hgl k hk; have := L12.size; omega)).mono ?_
  rintro e v13 ⟨k13, d13, N12, rfl, hl12, o12, F12⟩
  have zz12 := L12.size
  have kk12 := k13.size
  go_wp2_with (refine wpList_store_fl InfoT.stable L12 k13 d13 o12 F12 rfl 33 _ _ rfl rfl (by simp only [List.length_append, List.length_cons, List.length_nil, hl1, hl2, hl5, hl12] <;> rfl) rfl rfl ((size_of ziInfo).trans (congrArg some hl12.symm)) (by simp only [List.length_append, List.length_cons, List.length_nil, hl1, hl2, hl5, hl12] <;> exact Nat.le_of_ble_eq_true rfl) ?_; intro w13 cur13 L13 s13)
  refine (stateD_c L13.dr (fun k hk => by have := hgl k hk; have := L13.size; omega)).mono ?_
  rintro e v14 ⟨k14, d14, N13, rfl, hl13, o13, F13⟩
  have zz13 := L13.size
  have kk13 := k14.size
  go_wp2_with (refine wpList_store_fl StateT.stable L13 k14 d14 o13 F13 rfl 38 _ _ rfl rfl (by simp only [List.length_append, List.length_cons, List.length_nil, hl1, hl2, hl5, hl12, hl13] <;> rfl) rfl rfl ((size_of ziState).trans (congrArg some hl13.symm)) (by simp only [List.length_append, List.length_cons, List.length_nil, hl1, hl2, hl5, hl12, hl13] <;> exact Nat.le_of_ble_eq_true rfl) ?_; intro w14 cur14 L14 s14)
  refine (entryD_c L14.dr (fun k hk => by have := hgl k hk; have := L14.size; omega)).mono ?_
  rintro e v15 ⟨k15, d15, N14, rfl, hl14, o14, F14⟩
  have zz14 := L14.size
  have kk14 := k15.size
  go_wp2_with (refine wpList_store_fl EntryT.stable L14 k15 d15 o14 F14 rfl 41 _ _ rfl rfl (by simp only [List.length_append, List.length_cons, List.length_nil, hl1, hl2, hl5, hl12, hl13, hl14] <;> rfl) rfl rfl ((size_of ziEntry).trans (congrArg some hl14.symm)) (by simp only [List.length_append, List.length_cons, List.length_nil, hl1, hl2, hl5, hl12, hl13, hl14] <;> exact Nat.le_of_ble_eq_true rfl) ?_; intro w15 cur15 L15 s15)
  refine (objectD_c L15.dr (fun k hk => by have := hgl k hk; have := L15.size; omega)).mono ?_
  rintro e v16 ⟨k16, d16, N15, rfl, hl15, o15, F15⟩
  have zz15 := L15.size
  have kk15 := k16.size
  go_wp2_with (refine wpList_store_fl ObjectT.stable L15 k16 d16 o15 F15 rfl 43 _ _ rfl rfl (by simp only [List.length_append, List.length_cons, List.length_nil, hl1, hl2, hl5, hl12, hl13, hl14, hl15] <;> rfl) rfl rfl ((size_of ziObject).trans (congrArg some hl15.symm)) (by simp only [List.length_append, List.length_cons, List.length_nil, hl1, hl2, hl5, hl12, hl13, hl14, hl15] <;> exact Nat.le_of_ble_eq_true rfl) ?_; intro w16 cur16 L16 s16)
  refine (opD_c L16.dr (fun k hk => by have := hgl k hk; have := L16.size; omega)).mono ?_
  rintro e v17 ⟨k17, d17, N16, rfl, hl16, o16, F16⟩
  have zz16 := L16.size
  have kk16 := k17.size
  go_wp2_with (refine wpList_store_fl OpT.stable L16 k17 d17 o16 F16 rfl 45 _ _ rfl rfl (by simp only [List.length_append, List.length_cons, List.length_nil, hl1, hl2, hl5, hl12, hl13, hl14, hl15, hl16] <;> rfl) rfl rfl ((size_of ziOp).trans (congrArg some hl16.symm)) (by simp only [List.length_append, List.length_cons, List.length_nil, hl1, hl2, hl5, hl12, hl13, hl14, hl15, hl16] <;> exact Nat.le_of_ble_eq_true rfl) ?_; intro w17 cur17 L17 s17)
  refine (countD_c L17.dr).mono ?_
  rintro e v18 ⟨k18, n17, hn17, rfl, d18, hg17, -⟩
  have G0 := Ll.start ItemT.Is 4 176 (pr := pItem) (L17.call k18 d18) (by simp only [List.length_append, List.length_cons, List.length_nil, hl1, hl2, hl5, hl12, hl13, hl14, hl15, hl16] <;> rfl) hg17
  have zz17 := L17.size
  have kk17 := k18.size
  clear hg17
  go_wp2
  go_loopw [99] (fun i w' => ∃ (k : Nat) (o' : Option (List UInt8)) (v : Value) (cur : Array Value) (Ls : List (List Value)) (g' : Option Nat), k ≤ n17 ∧ i = .int .i64 k ∧ Ll ItemT.Is 4 176 pItem w v18 w' q (w.heap.size + 1) 48 zMsg _ g _ _ _ _ n17 k o' v cur Ls g') (fun i _ => n17 - (intOf i).toNat)
  case atStart => exact ⟨0, _, _, _, _, _, Nat.zero_le _, rfl, G0⟩
  obtain ⟨k, o', v, cur, Ls, g', hk, rfl, G⟩ := hrel
  by_cases hk2 : k < n17
  · have hki : (k : Int) < (n17 : Int) := by omega
    obtain ⟨-, -, -, -, c1, -, lq, -⟩ := G.dr.cells
    cases o' with
    | none =>
      have HG := Lib.hid G.skip
      clear G
      replace c1 : wr.cell? ⟨q, 1, none⟩ = some (.bool true) := c1
      go_wp2
      exact ⟨⟨k + 1, _, _, _, _, _, by omega, by simp, HG.out⟩, by simp [intOf]; omega⟩
    | some r =>
      obtain ⟨a, c, rfl⟩ := G.shape
      have hvp : cur[43]? = some (.slice a Ls.length c) := by
        have h9 := G.cell
        simp only [List.length_append, List.length_cons, List.length_nil, hl1, hl2, hl5, hl12, hl13, hl14, hl15, hl16] at h9
        exact h9
      obtain ⟨i1, hi1, hz0, hz1, hz2⟩ := info_all info_Item
      have hlen := G.len
      have HB := Lib.hid G.blk
      have lpr := lt_in HB.out
      have HG := Lib.hid G
      clear G
      replace c1 : wr.cell? ⟨q, 1, none⟩ = some (.bool false) := c1
      go_wp2
      refine wp_region_ordJ (fun w' => w'.heap[w.heap.size + 1]? = some (.cells cur 48)) [2] [0, 1] [3, 4, 5] [6, 7] (by kernel_rfl) (by kernel_rfl) (fun _ _ d _ _ h => by cases d <;> exact h) (fun k => HB.out) ?_
      simp only [sel, List.filterMap_cons, List.filterMap_nil, List.getElem?_cons_zero, List.getElem?_cons_succ]
      repeat (quiet_step (fail))
      refine wpQuiet_nil ?_
      refine wpHeld_step (fun K hK => ?_)
      go_simp
      refine ⟨_, fun _ _ => rfl, hK _ ?_⟩
      refine wpHeld_step (fun K hK => ?_)
      go_simp
      refine ⟨.slice a Ls.length c, fun w' h => (by
        have h1 := (cell_in (k := 43) h).trans hvp
        have h2 := lt_in h
        clear h
        go_simp), hK _ ?_⟩
      refine wpHeld_nil ?_
      rintro _ ⟨nr, rfl⟩
      have kd := Kept.drewN (fun _ => False) wr nr
      have sd : (wr.drewN nr).heap.size = wr.heap.size := rfl
      have Q2 : Hid ((wr.drewN nr).heap[w.heap.size + 1]? = some (.cells cur 48)) := Lib.hid HB.out
      generalize wr.drewN nr = w2 at kd Q2 sd ⊢
      refine wpListS_step (fun K hK => ?_)
      go_simp
      go_wp2_with fail
      refine (itemD_c (HG.out.dr.kept kd) (fun k hk => by have := hgl k hk; have := HG.out.fl.size; have := HG.out.kept.size; omega)).mono ?_
      rintro e w3 ⟨k3, d3, cE, rfl, hlE, oE, FE⟩
      obtain ⟨u0, u1, u2, u3, rfl⟩ : ∃ u0 u1 u2 u3 : Value, cE = [u0, u1, u2, u3] := by
        match cE, hlE with | [u0, u1, u2, u3], _ => exact ⟨u0, u1, u2, u3, rfl⟩
      have Q3 : Hid (w3.heap[w.heap.size + 1]? = some (.cells cur 48)) := Lib.hid ((k3.block _ (lt_in Q2.out) (fun e => HG.out.fl.ne.1 e)).trans Q2.out)
      have K3 : Kept (· = q) wr w3 := (kd.mono (fun _ _ e => e.elim)).trans k3
      have FN : ∀ x r', (some r).bind pItem = some (x, r') → ItemT.Is w3 (New wr w3) [u0, u1, u2, u3] x := fun x r' hx => ItemT.stable _ _ _ _ _ _ (FE x r' hx) (fun k hk => ⟨by have := hk.1; omega, hk.2⟩) (fun _ _ => rfl)
      refine hK _ _ Q3.out ?_
      clear hK
      refine wpListS_step (fun K hK => ?_)
      go_simp
      have hA : (w3.alloc (Obj.cells #[u0, u1, u2, u3] 176)).heap[w.heap.size + 1]? = some (.cells cur 48) := (Below.heap_alloc _ _ _ (lt_in Q3.out)).trans Q3.out
      refine hK _ _ hA ?_
      clear hK
      have k34 := Kept.alloc (fun _ => False) w3 (Obj.cells #[u0, u1, u2, u3] 176)
      have r4 := reads_allocN w3 [u0, u1, u2, u3] 176 4 rfl
      generalize w3.alloc (Obj.cells #[u0, u1, u2, u3] 176) = w4 at hA k34 r4 ⊢
      have own4 := (HG.out.own.kept K3 (fun k hk e => by have := HG.out.gnew k hk; have := HG.out.fl.size; have := HG.out.fl.ql; omega)).kept k34 (fun _ _ h => h)
      refine wpListS_append_Own rfl _ _ 36 36 rfl 176 i1 (Value.agg #[Value.string ⟨#[]⟩, Value.int IntKind.i64 0, Value.int IntKind.i64 0, Value.int IntKind.u32 0]) 4 40 Tryz.underlying36 hi1 hz0 hz1 hz2 rfl rfl own4 rfl (r4.src Tryz.underlying36 oE) (by unfold maxLen; omega) (by omega) ?_
      intro a5 c5 w5 g5 own5 k5 hg5
      have hA5 : w5.heap[w.heap.size + 1]? = _ := (k5.block _ (lt_in hA) (fun h => by have := HG.out.gnew _ h; have := HG.out.fl.size; omega)).trans hA
      refine ⟨hA5, ?_⟩
      refine wpListS_nil ?_
      have HN := Lib.hid (HG.out.grow ItemT.stable hk2 K3 d3 rfl FN k34 own5 k5 hg5 43 (by simp only [List.length_append, List.length_cons, List.length_nil, hl1, hl2, hl5, hl12, hl13, hl14, hl15, hl16] <;> rfl))
      have f5 : w5.frozen? ⟨w.heap.size + 1, 43, none⟩ = false := frozen_in hA5
      have z5 := (cell_in (k := 43) hA5).trans hvp
      have l5 := lt_in hA5
      clear hA5 hA own5 own4 r4 k5 hg5 hi1 hz0 hz1 hz2 FN FE d3 oE
      go_wp2
      exact ⟨⟨k + 1, _, _, _, _, _, by omega, by simp, HN.out⟩, by simp [intOf]; omega⟩
  obtain rfl : k = n17 := by omega
  have L18 := G.done ItemT.stable (by decide)
  clear G
  go_wp2_with fail
  refine (countD_c L18.dr).mono ?_
  rintro e v19 ⟨k19, n18, hn18, rfl, d19, hg18, -⟩
  have G0 := Ll.start textIs 1 9 (pr := pT) (L18.call k19 d19) (by simp only [List.length_append, List.length_cons, List.length_nil, hl1, hl2, hl5, hl12, hl13, hl14, hl15, hl16] <;> rfl) hg18
  have zz18 := L18.size
  have kk18 := k19.size
  clear hg18
  go_wp2
  go_loopw [116] (fun i w' => ∃ (k : Nat) (o' : Option (List UInt8)) (v : Value) (cur : Array Value) (Ls : List (List Value)) (g' : Option Nat), k ≤ n18 ∧ i = .int .i64 k ∧ Ll textIs 1 9 pT w v19 w' q (w.heap.size + 1) 48 zMsg _ g _ _ _ _ n18 k o' v cur Ls g') (fun i _ => n18 - (intOf i).toNat)
  case atStart => exact ⟨0, _, _, _, _, _, Nat.zero_le _, rfl, G0⟩
  obtain ⟨k, o', v, cur, Ls, g', hk, rfl, G⟩ := hrel
  by_cases hk2 : k < n18
  · have hki : (k : Int) < (n18 : Int) := by omega
    obtain ⟨-, -, -, -, c1, -, lq, -⟩ := G.dr.cells
    cases o' with
    | none =>
      have HG := Lib.hid G.skip
      clear G
      replace c1 : wr.cell? ⟨q, 1, none⟩ = some (.bool true) := c1
      go_wp2
      exact ⟨⟨k + 1, _, _, _, _, _, by omega, by simp, HG.out⟩, by simp [intOf]; omega⟩
    | some r =>
      obtain ⟨a, c, rfl⟩ := G.shape
      have hvp : cur[44]? = some (.slice a Ls.length c) := by
        have h9 := G.cell
        simp only [List.length_append, List.length_cons, List.length_nil, hl1, hl2, hl5, hl12, hl13, hl14, hl15, hl16] at h9
        exact h9
      obtain ⟨i1, hi1, hz0, hz1, hz2⟩ := info_all info_text
      have hlen := G.len
      have HB := Lib.hid G.blk
      have lpr := lt_in HB.out
      have HG := Lib.hid G
      clear G
      replace c1 : wr.cell? ⟨q, 1, none⟩ = some (.bool false) := c1
      go_wp2
      refine wp_region_ordJ (fun w' => w'.heap[w.heap.size + 1]? = some (.cells cur 48)) [2] [0, 1] [3, 4, 5, 6] [7, 8] (by kernel_rfl) (by kernel_rfl) (fun _ _ d _ _ h => by cases d <;> exact h) (fun k => HB.out) ?_
      simp only [sel, List.filterMap_cons, List.filterMap_nil, List.getElem?_cons_zero, List.getElem?_cons_succ]
      repeat (quiet_step (fail))
      refine wpQuiet_nil ?_
      refine wpHeld_step (fun K hK => ?_)
      go_simp
      refine ⟨_, fun _ _ => rfl, hK _ ?_⟩
      refine wpHeld_step (fun K hK => ?_)
      go_simp
      refine ⟨.slice a Ls.length c, fun w' h => (by
        have h1 := (cell_in (k := 44) h).trans hvp
        have h2 := lt_in h
        clear h
        go_simp), hK _ ?_⟩
      refine wpHeld_nil ?_
      rintro _ ⟨nr, rfl⟩
      have kd := Kept.drewN (fun _ => False) wr nr
      have sd : (wr.drewN nr).heap.size = wr.heap.size := rfl
      have Q2 : Hid ((wr.drewN nr).heap[w.heap.size + 1]? = some (.cells cur 48)) := Lib.hid HB.out
      generalize wr.drewN nr = w2 at kd Q2 sd ⊢
      refine wpListS_step (fun K hK => ?_)
      go_simp
      go_wp2_with fail
      refine (bytesR_c (HG.out.dr.kept kd) (fun k hk => by have := hgl k hk; have := HG.out.fl.size; have := HG.out.kept.size; omega)).mono ?_
      rintro e w3 ⟨k3, ab, nb, cb, N, rfl, cv, -, d3, -, FE⟩
      have oE := one1 (.string N) rfl
      have Q3 : Hid (w3.heap[w.heap.size + 1]? = some (.cells cur 48)) := Lib.hid ((k3.block _ (lt_in Q2.out) (fun e => HG.out.fl.ne.1 e)).trans Q2.out)
      have K3 : Kept (· = q) wr w3 := (kd.mono (fun _ _ e => e.elim)).trans k3
      have FN : ∀ x r', (some r).bind pT = some (x, r') → textIs w3 (New wr w3) [Value.string N] x := fun x r' hx => textIs_stable _ _ _ _ _ _ (FE x r' hx) (fun k hk => ⟨by have := hk.1; omega, hk.2⟩) (fun _ _ => rfl)
      refine hK _ _ Q3.out ?_
      clear hK
      refine wpListS_step (fun K hK => ?_)
      go_simp
      refine hK _ _ Q3.out ?_
      clear hK
      refine wpListS_step (fun K hK => ?_)
      go_simp
      have hA : (w3.alloc (Obj.cells #[Value.string N] 9)).heap[w.heap.size + 1]? = some (.cells cur 48) := (Below.heap_alloc _ _ _ (lt_in Q3.out)).trans Q3.out
      refine hK _ _ hA ?_
      clear hK
      have k34 := Kept.alloc (fun _ => False) w3 (Obj.cells #[Value.string N] 9)
      have r4 := reads_allocN w3 [Value.string N] 9 1 rfl
      generalize w3.alloc (Obj.cells #[Value.string N] 9) = w4 at hA k34 r4 ⊢
      have own4 := (HG.out.own.kept K3 (fun k hk e => by have := HG.out.gnew k hk; have := HG.out.fl.size; have := HG.out.fl.ql; omega)).kept k34 (fun _ _ h => h)
      refine wpListS_append_Own rfl _ _ 46 46 rfl 9 i1 (Value.string ⟨#[]⟩) 1 16 Tryz.underlying46 hi1 hz0 hz1 hz2 rfl rfl own4 rfl (r4.src Tryz.underlying46 oE) (by unfold maxLen; omega) (by omega) ?_
      intro a5 c5 w5 g5 own5 k5 hg5
      have hA5 : w5.heap[w.heap.size + 1]? = _ := (k5.block _ (lt_in hA) (fun h => by have := HG.out.gnew _ h; have := HG.out.fl.size; omega)).trans hA
      refine ⟨hA5, ?_⟩
      refine wpListS_nil ?_
      have HN := Lib.hid (HG.out.grow textIs_stable hk2 K3 d3 rfl FN k34 own5 k5 hg5 44 (by simp only [List.length_append, List.length_cons, List.length_nil, hl1, hl2, hl5, hl12, hl13, hl14, hl15, hl16] <;> rfl))
      have f5 : w5.frozen? ⟨w.heap.size + 1, 44, none⟩ = false := frozen_in hA5
      have z5 := (cell_in (k := 44) hA5).trans hvp
      have l5 := lt_in hA5
      clear hA5 hA own5 own4 r4 k5 hg5 hi1 hz0 hz1 hz2 FN FE d3 oE
      go_wp2
      exact ⟨⟨k + 1, _, _, _, _, _, by omega, by simp, HN.out⟩, by simp [intOf]; omega⟩
  obtain rfl : k = n18 := by omega
  have L19 := G.done textIs_stable (by decide)
  clear G
  go_wp2_with fail
  refine (intR_c L19.dr).mono ?_
  rintro e v20 ⟨k20, N19, rfl, d20, F19⟩
  have zz19 := L19.size
  have kk19 := k20.size
  go_wp2_with (first | (refine wpList_load_block rfl 48 _ rfl rfl L20.blk (Tryz.isAgg48 _) hi (HS.out.trans L20.put.size.symm) ?_) | (refine wpList_store_block rfl 48 _ _ rfl rfl rfl L20.res hi (HS.out.trans L20.put.size.symm) L20.put.size.symm (L20.all (by simp only [List.length_append, List.length_cons, List.length_nil, hl1, hl2, hl5, hl12, hl13, hl14, hl15, hl16] <;> rfl)) ?_; intro w21 k21 b21 s21) | (refine wpList_store_fl intIs_stable L19 k20 d20 (one1 _ rfl) F19 rfl 39 _ _ rfl rfl (by simp only [List.length_append, List.length_cons, List.length_nil, hl1, hl2, hl5, hl12, hl13, hl14, hl15, hl16] <;> rfl) rfl rfl sz_errno (by simp only [List.length_append, List.length_cons, List.length_nil, hl1, hl2, hl5, hl12, hl13, hl14, hl15, hl16] <;> exact Nat.le_of_ble_eq_true rfl) ?_; intro w20 cur20 L20 s20))
  have lV := run_loadVar_block b21 (Tryz.isAgg48 _) ((size_of ziMsg).trans (congrArg some L20.put.size.symm))
  refine bodyPost_ret (v := .agg cur20) (by simp [results, Tryz.results32, lV, asAddr, Act.put]) rfl ?_
  exact L20.red (by simp only [List.length_append, List.length_cons, List.length_nil, hl1, hl2, hl5, hl12, hl13, hl14, hl15, hl16] <;> rfl) k21 afMsg (fun D => isMsg D.1.1.1.1.1.1.1.1.1.1.1.1.1.1.1.1.1.1.1.2 D.1.1.1.1.1.1.1.1.1.1.1.1.1.1.1.1.1.1.2 D.1.1.1.1.1.1.1.1.1.1.1.1.1.1.1.1.1.2 D.1.1.1.1.1.1.1.1.1.1.1.1.1.1.1.1.2 D.1.1.1.1.1.1.1.1.1.1.1.1.1.1.1.2 D.1.1.1.1.1.1.1.1.1.1.1.1.1.1.2 D.1.1.1.1.1.1.1.1.1.1.1.1.1.2 D.1.1.1.1.1.1.1.1.1.1.1.1.2 D.1.1.1.1.1.1.1.1.1.1.1.2 D.1.1.1.1.1.1.1.1.1.1.2 D.1.1.1.1.1.1.1.1.1.2 D.1.1.1.1.1.1.1.1.2 D.1.1.1.1.1.1.1.2 D.1.1.1.1.1.1.2 D.1.1.1.1.1.2 D.1.1.1.1.2 D.1.1.1.2 D.1.1.2 D.1.2 D.2)
end Go.Proofs.YtmbjealliinpdaaGreat
end

section

namespace Go.Proofs.YtmbjealliinpdaaGreat
open Go.RowKit
theorem decDMsg_c {w : World} {v : Value} {bs : List UInt8} {g : Option Nat} (hr : Reads w 1 v bs.length (bs.map bv) g) (hgl : ∀ k, g = some k → k < w.heap.size) (hm : bs.length ≤ 140737488351232) :
    Calls Tryz.prog 5 #[v] w (Took MsgT.Is pMsg [Value.int IntKind.i64 0, Value.int IntKind.i64 0, Value.int IntKind.i64 0, Value.int IntKind.i64 0, Value.int IntKind.i64 0, Value.int IntKind.i64 0, Value.int IntKind.i64 0, Value.int IntKind.i64 0, Value.int IntKind.i64 0, Value.int IntKind.i64 0, Value.int IntKind.i64 0, Value.int IntKind.i64 0, Value.slice none 0 0, Value.slice none 0 0, Value.slice none 0 0, Value.int IntKind.i64 0, Value.int IntKind.i64 0, Value.int IntKind.i64 0, Value.int IntKind.i64 0, Value.int IntKind.i64 0, Value.int IntKind.i64 0, Value.int IntKind.i64 0, Value.int IntKind.i64 0, Value.int IntKind.i64 0, Value.slice none 0 0, Value.slice none 0 0, Value.slice none 0 0, Value.int IntKind.i64 0, Value.int IntKind.i64 0, Value.bool false, Value.int IntKind.i64 0, Value.string ⟨#[]⟩, Value.int IntKind.i64 0, Value.int IntKind.i64 0, Value.string ⟨#[]⟩, Value.int IntKind.i64 0, Value.int IntKind.i64 0, Value.slice none 0 0, Value.int IntKind.i64 0, Value.string ⟨#[]⟩, Value.slice none 0 0, Value.int IntKind.i64 0, Value.int IntKind.i64 0, Value.slice none 0 0, Value.slice none 0 0, Value.int IntKind.i64 0] bs w) := by
  obtain ⟨a, cp, rfl, hc⟩ := hr.shape
  obtain ⟨i0, hi, hsz, -⟩ := info_sz ziMsg
  have HS : Hid (i0.size = zMsg.size) := Lib.hid hsz
  have D1 := Dr.start (.cells zMsg 48) hr hgl hm
  obtain ⟨k1, hres, -⟩ := two_new w (.cells zMsg 48) (.cells #[.slice a bs.length cp, .bool false] 99)
  have s1 : ((w.alloc (.cells zMsg 48)).alloc (.cells #[.slice a bs.length cp, .bool false] 99)).heap.size = w.heap.size + 2 := by simp
  have HRES := Lib.hid hres
  clear hsz hres hr
  go_enter Tryz.func5, Tryz.ntmps5
  go_wp2_with (refine wpList_alloc_block rfl 48 rfl (zero_run ziMsg _) w.heap.size rfl ?_)
  generalize (w.alloc (.cells zMsg 48)).alloc (.cells #[.slice a bs.length cp, .bool false] 99) = w1 at D1 k1 HRES s1 ⊢
  refine (msgD_c D1 (fun k hk => by have := hgl k hk; omega)).mono ?_
  rintro e w2 ⟨k2, d2, cs, rfl, hl, ho, hF⟩
  have s2 := k2.size
  have HL : Hid (cs.toArray.size = zMsg.size) := Lib.hid (by rw [List.size_toArray]; exact hl)
  have HONE : Hid (cs.toArray.toList.all (·.oneCell') = true) := Lib.hid (List.all_eq_true.2 (fun u hu => ho u (by simpa using hu)))
  have HR2 := Lib.hid ((k2.block _ (lt_in HRES.out) (fun h => by omega)).trans HRES.out)
  have K2 : Kept (fun _ => False) w w2 := k1.thn k2 (fun i hi => .inr (by omega))
  have HF := Lib.hid hF
  clear hF HRES ho hl
  obtain ⟨o', hA⟩ : ∃ o', After (some bs) pMsg = o' := ⟨_, rfl⟩
  rw [hA] at d2
  have HA := Lib.hid hA
  clear hA
  have ka := Kept.alloc (fun _ => False) w2 (Obj.cells zMsg 48)
  have sa : (w2.alloc (Obj.cells zMsg 48)).heap.size = w2.heap.size + 1 := by simp
  have HZ := Lib.hid (heap_alloc_new' w2 (Obj.cells zMsg 48))
  have HR3 := Lib.hid ((ka.block _ (lt_in HR2.out) (fun h => h)).trans HR2.out)
  cases o' with
  | none =>
      have HN : Hid (∀ x, pMsg bs ≠ some (x, [])) := Lib.hid (fun x hx => by
        have h1 := HA.out
        rw [after_some (o := some bs) (show (some bs).bind pMsg = some (x, []) from hx)] at h1
        cases h1)
      go_wp2_with (first | (refine wpList_alloc_block rfl 48 rfl (zero_run ziMsg _) w2.heap.size rfl ?_) | (refine wpList_store_block rfl 48 _ _ rfl rfl rfl HZ.out hi (HS.out.trans HL.out.symm) HL.out.symm HONE.out ?_; intro w4 k4 b4 s4; have HB4 := Lib.hid b4; clear b4; obtain ⟨a4, m4, c4, e0, e1, -, l1, hm4⟩ := ((d2.kept ka).kept k4 (fun e => by omega) (fun k hk e => by have := hgl k hk; omega)).cells; replace e1 : w4.cell? ⟨w.heap.size + 1, 1, none⟩ = some (.bool true) := e1; have HR4 := Lib.hid ((k4.block _ (lt_in HR3.out) (fun h => by omega)).trans HR3.out)) | (refine wpList_store_block rfl 48 _ _ rfl rfl rfl HR4.out hi HS.out rfl rfl ?_; intro w5 k5 b5 s5))
      have lM := run_loadVar_block b5 (Tryz.isAgg48 _) (size_of ziMsg)
      refine bodyPost_ret (v := .tuple #[.agg #[Value.int IntKind.i64 0, Value.int IntKind.i64 0, Value.int IntKind.i64 0, Value.int IntKind.i64 0, Value.int IntKind.i64 0, Value.int IntKind.i64 0, Value.int IntKind.i64 0, Value.int IntKind.i64 0, Value.int IntKind.i64 0, Value.int IntKind.i64 0, Value.int IntKind.i64 0, Value.int IntKind.i64 0, Value.slice none 0 0, Value.slice none 0 0, Value.slice none 0 0, Value.int IntKind.i64 0, Value.int IntKind.i64 0, Value.int IntKind.i64 0, Value.int IntKind.i64 0, Value.int IntKind.i64 0, Value.int IntKind.i64 0, Value.int IntKind.i64 0, Value.int IntKind.i64 0, Value.int IntKind.i64 0, Value.slice none 0 0, Value.slice none 0 0, Value.slice none 0 0, Value.int IntKind.i64 0, Value.int IntKind.i64 0, Value.bool false, Value.int IntKind.i64 0, Value.string ⟨#[]⟩, Value.int IntKind.i64 0, Value.int IntKind.i64 0, Value.string ⟨#[]⟩, Value.int IntKind.i64 0, Value.int IntKind.i64 0, Value.slice none 0 0, Value.int IntKind.i64 0, Value.string ⟨#[]⟩, Value.slice none 0 0, Value.int IntKind.i64 0, Value.int IntKind.i64 0, Value.slice none 0 0, Value.slice none 0 0, Value.int IntKind.i64 0], .int .i64 74]) (by simp [results, Tryz.results5, lM, asAddr, Act.put]) rfl ?_
      exact ⟨(((K2.trans ka).thn k4 (fun i hi => .inr (by omega))).thn k5 (fun i hi => .inr (by omega))), .inr ⟨HN.out, rfl⟩⟩
  | some rest =>
    by_cases h0 : rest = []
    · subst h0
      obtain ⟨x, hp⟩ : ∃ x, pMsg bs = some (x, []) := by
        obtain ⟨⟨x, r⟩, h1, h2⟩ := Option.map_eq_some_iff.1 HA.out
        simp only at h2
        subst h2
        exact ⟨x, h1⟩
      have HX := Lib.hid (HF.out x [] hp)
      have HP := Lib.hid hp
      clear hp
      go_wp2_with (first | (refine wpList_alloc_block rfl 48 rfl (zero_run ziMsg _) w2.heap.size rfl ?_) | (refine wpList_store_block rfl 48 _ _ rfl rfl rfl HZ.out hi (HS.out.trans HL.out.symm) HL.out.symm HONE.out ?_; intro w4 k4 b4 s4; have HB4 := Lib.hid b4; clear b4; obtain ⟨a4, m4, c4, e0, e1, -, l1, hm4⟩ := ((d2.kept ka).kept k4 (fun e => by omega) (fun k hk e => by have := hgl k hk; omega)).cells; replace e1 : w4.cell? ⟨w.heap.size + 1, 1, none⟩ = some (.bool false) := e1; have hm5 := hm4 [] rfl; subst hm5; have HR4 := Lib.hid ((k4.block _ (lt_in HR3.out) (fun h => by omega)).trans HR3.out)) | (refine wpList_load_block rfl 48 _ rfl rfl HB4.out (Tryz.isAgg48 _) hi (HS.out.trans HL.out.symm) ?_) | (refine wpList_store_block rfl 48 _ _ rfl rfl rfl HR4.out hi (HS.out.trans HL.out.symm) HL.out.symm HONE.out ?_; intro w5 k5 b5 s5))
      have lM := run_loadVar_block b5 (Tryz.isAgg48 _) ((size_of ziMsg).trans (congrArg some HL.out.symm))
      refine bodyPost_ret (v := .tuple #[.agg cs.toArray, .int .i64 0]) (by simp [results, Tryz.results5, lM, asAddr, Act.put]) rfl ?_
      refine ⟨(((K2.trans ka).thn k4 (fun i hi => .inr (by omega))).thn k5 (fun i hi => .inr (by omega))), .inl ⟨x, cs, HP.out, rfl, MsgT.stable _ _ _ _ _ _ HX.out (fun k hk => ⟨by have := hk.1; omega, by have := hk.2; omega⟩) (fun k hk => ?_)⟩⟩
      have h1 := hk.1
      have h2 := hk.2
      rw [k5.block k (by omega) (by omega), k4.block k (by omega) (by omega), ka.block k h2 (fun h => h)]
    · have hpos : Hid (0 < rest.length) := Lib.hid (List.length_pos_iff.2 h0)
      have HN : Hid (∀ x, pMsg bs ≠ some (x, [])) := Lib.hid (fun x hx => by
        have h1 := HA.out
        rw [after_some (o := some bs) (show (some bs).bind pMsg = some (x, []) from hx)] at h1
        cases h1
        exact h0 rfl)
      go_wp2_with (first | (refine wpList_alloc_block rfl 48 rfl (zero_run ziMsg _) w2.heap.size rfl ?_) | (refine wpList_store_block rfl 48 _ _ rfl rfl rfl HZ.out hi (HS.out.trans HL.out.symm) HL.out.symm HONE.out ?_; intro w4 k4 b4 s4; have HB4 := Lib.hid b4; clear b4; obtain ⟨a4, m4, c4, e0, e1, -, l1, hm4⟩ := ((d2.kept ka).kept k4 (fun e => by omega) (fun k hk e => by have := hgl k hk; omega)).cells; replace e1 : w4.cell? ⟨w.heap.size + 1, 1, none⟩ = some (.bool false) := e1; have hm6 : (0 : Int) < (m4 : Int) := (by have hm5 := hm4 rest rfl; have := hpos.out; omega); clear hm4; have HR4 := Lib.hid ((k4.block _ (lt_in HR3.out) (fun h => by omega)).trans HR3.out)) | (refine wpList_store_block rfl 48 _ _ rfl rfl rfl HR4.out hi HS.out rfl rfl ?_; intro w5 k5 b5 s5))
      have lM := run_loadVar_block b5 (Tryz.isAgg48 _) (size_of ziMsg)
      refine bodyPost_ret (v := .tuple #[.agg #[Value.int IntKind.i64 0, Value.int IntKind.i64 0, Value.int IntKind.i64 0, Value.int IntKind.i64 0, Value.int IntKind.i64 0, Value.int IntKind.i64 0, Value.int IntKind.i64 0, Value.int IntKind.i64 0, Value.int IntKind.i64 0, Value.int IntKind.i64 0, Value.int IntKind.i64 0, Value.int IntKind.i64 0, Value.slice none 0 0, Value.slice none 0 0, Value.slice none 0 0, Value.int IntKind.i64 0, Value.int IntKind.i64 0, Value.int IntKind.i64 0, Value.int IntKind.i64 0, Value.int IntKind.i64 0, Value.int IntKind.i64 0, Value.int IntKind.i64 0, Value.int IntKind.i64 0, Value.int IntKind.i64 0, Value.slice none 0 0, Value.slice none 0 0, Value.slice none 0 0, Value.int IntKind.i64 0, Value.int IntKind.i64 0, Value.bool false, Value.int IntKind.i64 0, Value.string ⟨#[]⟩, Value.int IntKind.i64 0, Value.int IntKind.i64 0, Value.string ⟨#[]⟩, Value.int IntKind.i64 0, Value.int IntKind.i64 0, Value.slice none 0 0, Value.int IntKind.i64 0, Value.string ⟨#[]⟩, Value.slice none 0 0, Value.int IntKind.i64 0, Value.int IntKind.i64 0, Value.slice none 0 0, Value.slice none 0 0, Value.int IntKind.i64 0], .int .i64 74]) (by simp [results, Tryz.results5, lM, asAddr, Act.put]) rfl ?_
      exact ⟨(((K2.trans ka).thn k4 (fun i hi => .inr (by omega))).thn k5 (fun i hi => .inr (by omega))), .inr ⟨HN.out, rfl⟩⟩
end Go.Proofs.YtmbjealliinpdaaGreat
end

section

namespace Go.Proofs.YtmbjealliinpdaaGreat
open Go.RowKit
/-- Where the reader of texts stands. -/
structure Lt (w1 w' : World) (q : Nat) (g : Option Nat) (oa : Option (List UInt8)) (n k : Nat) (o : Option (List UInt8)) (v : Value) (ss : List ByteArray) (g' : Option Nat) : Prop where
  dr : Dr w' q o g
  own : Own w' 9 1 v ss.length (ss.map Value.string) g'
  len : ss.length ≤ k
  gnew : ∀ b, g' = some b → w1.heap.size ≤ b
  kept : Kept (· = q) w1 w'
  bad : o = none → oa.bind (pL pT) = none
  good : ∀ r, o = some r → ss.length = k ∧ oa.bind (pL pT) = (pN pT (n - k) r).bind (fun z => some (ss ++ z.1, z.2))
theorem Lt.start {w1 : World} {q : Nat} {g : Option Nat} {oa : Option (List UInt8)} {n : Nat} (h : Dr w1 q (After oa pC) g) (hn : ∀ x r, oa.bind pC = some (x, r) → n = x) : Lt w1 w1 q g oa n 0 (After oa pC) (.slice none 0 0) [] none := by
  refine ⟨h, Own.nil _ _ _, Nat.le_refl _, (fun b hb => by cases hb), Kept.refl _ _, fun ho => ?_, fun r hr => ⟨rfl, ?_⟩⟩
  · rw [pL_of]
    unfold After at ho
    rw [Option.map_eq_none_iff.1 ho]
    rfl
  · rw [pL_of]
    unfold After at hr
    obtain ⟨⟨x, r'⟩, h1, h2⟩ := Option.map_eq_some_iff.1 hr
    have := hn _ _ h1
    subst this
    simp only at h2
    subst h2
    rw [h1, Nat.sub_zero]
    exact (bind_eta _).symm
theorem Lt.skip {w1 w' : World} {q : Nat} {g : Option Nat} {oa : Option (List UInt8)} {n k : Nat} {v : Value} {ss : List ByteArray} {g' : Option Nat} (h : Lt w1 w' q g oa n k none v ss g') : Lt w1 w' q g oa n (k + 1) none v ss g' :=
  ⟨h.dr, h.own, Nat.le_succ_of_le h.len, h.gnew, h.kept, h.bad, fun r hr => by cases hr⟩
theorem Lt.grow {w1 wr w2 w4 w5 : World} {q : Nat} {g : Option Nat} {oa : Option (List UInt8)} {n k : Nat} {r : List UInt8} {v v5 : Value} {ss : List ByteArray} {s : ByteArray} {g' g5 : Option Nat} (h : Lt w1 wr q g oa n k (some r) v ss g') (hk : k < n) (hq : q < w1.heap.size) (hg : ∀ i, g = some i → i < w1.heap.size)
    (k2 : Kept (· = q) wr w2) (d2 : Dr w2 q (After (some r) pT) g) (hF : ∀ x r', (some r).bind pT = some (x, r') → s = x) (k4 : Kept (fun _ => False) w2 w4)
    (o5 : Own w5 9 1 v5 (ss.length + 1) (ss.map Value.string ++ [.string s]) g5) (k5 : Kept (fun i => g' = some i) w4 w5) (hg5 : ∀ i, g5 = some i → g' = some i ∨ w4.heap.size ≤ i) :
    Lt w1 w5 q g oa n (k + 1) (After (some r) pT) v5 (ss ++ [s]) g5 := by
  have s1 := h.kept.size
  have s2 := k2.size
  have s4 := k4.size
  refine ⟨(d2.kept k4).kept k5 (fun e => by have := h.gnew q e; omega) (fun i hi e => by have := h.gnew i e; have := hg i hi; omega), ?_, ?_, fun b hb => ?_, ((h.kept.trans k2).trans (k4.mono (fun _ _ e => e.elim))).thn k5 (fun i hi => .inr (h.gnew i hi)), fun ho => ?_, fun r' ho => ?_⟩
  · rw [List.length_append, List.length_singleton, List.map_append]
    exact o5
  · rw [List.length_append]; have := h.len; simp; exact this
  · rcases hg5 b hb with h' | h'
    · exact h.gnew b h'
    · omega
  · obtain ⟨e2, e3⟩ := h.good r rfl
    have hp : pT r = none := by
      unfold After at ho
      exact Option.map_eq_none_iff.1 ho
    rw [e3, show n - k = (n - (k + 1)) + 1 by omega]
    simp only [pN]
    rw [hp]
    rfl
  · obtain ⟨e2, e3⟩ := h.good r rfl
    unfold After at ho
    obtain ⟨⟨x, r2⟩, hp, hr⟩ := Option.map_eq_some_iff.1 ho
    simp only at hr
    subst hr
    refine ⟨by simp [e2], ?_⟩
    rw [hF x r2 hp, e3, show n - k = (n - (k + 1)) + 1 by omega]
    simp only [pN]
    have hp' : pT r = some (x, r2) := hp
    rw [hp']
    simp only [Option.bind_some]
    cases pN pT (n - (k + 1)) r2 with
    | none => rfl
    | some z => simp
/-- A slice of texts as a list. -/
theorem own_texts {w : World} {v : Value} {ss : List ByteArray} {g : Option Nat} (h : Own w 9 1 v ss.length (ss.map Value.string) g) {S : Nat → Prop} (hg : ∀ k, g = some k → S k) : ListIs 1 textIs w S v ss := by
  obtain ⟨a, c, rfl, hc, hm⟩ := h.shape
  refine ⟨a, c, rfl, hc, hm, fun k x hx => ?_⟩
  have hk : k < ss.length := (List.getElem?_eq_some_iff.1 hx).1
  obtain ⟨b, off, cur, hg', ha, -, -, hh, -, hl, hat⟩ := h.pos (by omega)
  refine ⟨b, off, [.string x], ha, hg b hg', rfl, fun f hf => ?_, rfl⟩
  obtain rfl : f = 0 := by omega
  rw [cell_in hh, Nat.mul_one, Nat.add_zero, hat k (by rw [hl]; omega), List.getElem?_map, hx]
  rfl
theorem decDStrings_c {w : World} {v : Value} {bs : List UInt8} {g : Option Nat} (hr : Reads w 1 v bs.length (bs.map bv) g) (hgl : ∀ k, g = some k → k < w.heap.size) (hm : bs.length ≤ 140737488351232) :
    Calls Tryz.prog 27 #[v] w (TookL bs w) := by
  obtain ⟨a, cp, rfl, hc⟩ := hr.shape
  have k1 := Kept.alloc (fun _ => False) w (Obj.cells #[.slice a bs.length cp, .bool false] 99)
  have s1 : (w.alloc (Obj.cells #[.slice a bs.length cp, .bool false] 99)).heap.size = w.heap.size + 1 := by simp
  have D1 : Dr (w.alloc (Obj.cells #[.slice a bs.length cp, .bool false] 99)) w.heap.size (some bs) g := by
    refine ⟨⟨a, _, cp, heap_alloc_new' _ _, fun bs' e => by cases e; exact hr.kept k1 (fun _ _ h => h)⟩, fun k hk => by have := hgl k hk; omega, fun bs' e => by cases e; exact hm⟩
  clear hr
  go_enter Tryz.func27, Tryz.ntmps27
  go_wp2_with fail
  generalize w.alloc (Obj.cells #[.slice a bs.length cp, .bool false] 99) = w1 at D1 k1 s1 ⊢
  refine (countD_c D1).mono ?_
  rintro e w2 ⟨k2, n, hn, rfl, d2, hg2, -⟩
  have G0 := Lt.start d2 hg2
  have s2 := k2.size
  have K2 : Kept (fun _ => False) w w2 := k1.thn k2 (fun i hi => .inr (by omega))
  have hq2 : w.heap.size < w2.heap.size := by omega
  have HGL : Hid (∀ i, g = some i → i < w2.heap.size) := Lib.hid (fun i hi => by have := hgl i hi; omega)
  clear hg2 d2 D1 k1 k2
  go_wp2
  go_loopw [11, 5] (fun i v w' => ∃ (k : Nat) (o' : Option (List UInt8)) (ss : List ByteArray) (g' : Option Nat), k ≤ n ∧ i = .int .i64 k ∧ Lt w2 w' w.heap.size g (some bs) n k o' v ss g') (fun i _ _ => n - (intOf i).toNat)
  case atStart => exact ⟨0, _, _, _, Nat.zero_le _, rfl, G0⟩
  obtain ⟨k, o', ss, g', hk, rfl, G⟩ := hrel
  obtain ⟨a0, m0, c0, e0, c1, -, lq, hm0⟩ := G.dr.cells
  obtain ⟨av, cv, rfl, -⟩ := G.own.shape
  by_cases hk2 : k < n
  · have hki : (k : Int) < (n : Int) := by omega
    cases o' with
    | none =>
      have HG := Lib.hid G.skip
      clear G hm0
      replace c1 : wr.cell? ⟨w.heap.size, 1, none⟩ = some (.bool true) := c1
      go_wp2
      exact ⟨⟨k + 1, _, _, _, by omega, by simp, HG.out⟩, by simp [intOf]; omega⟩
    | some r =>
      obtain ⟨i1, hi1, hz0, hz1, hz2⟩ := info_all info_text
      have hlen := G.len
      have HG := Lib.hid G
      clear G hm0
      replace c1 : wr.cell? ⟨w.heap.size, 1, none⟩ = some (.bool false) := c1
      go_wp2_with fail
      refine (bytesR_c HG.out.dr (fun i hi => by have := HGL.out i hi; have := HG.out.kept.size; omega)).mono ?_
      rintro e w3 ⟨k3, ab, nb, cb, N, rfl, cv3, -, d3, -, FE⟩
      have k34 := Kept.alloc (fun _ => False) w3 (Obj.cells #[Value.string N] 9)
      have r4 := reads_allocN w3 [Value.string N] 9 1 rfl
      have own4 := (HG.out.own.kept k3 (fun k hk e => by have := HG.out.gnew k hk; omega)).kept k34 (fun _ _ h => h)
      have HF : Hid (∀ x r', (some r).bind pT = some (x, r') → N = x) := Lib.hid (fun x r' hx => by
        have h9 : textIs w3 (New wr w3) [.string N] x := FE x r' hx
        unfold textIs at h9
        simp only [List.cons.injEq, Value.string.injEq, and_true] at h9
        exact h9)
      have HD3 := Lib.hid d3
      clear d3 FE
      go_wp2_with (at_builtin; refine wpList_append_Own rfl _ _ 46 46 rfl 9 i1 (Value.string ⟨#[]⟩) 1 16 Tryz.underlying46 hi1 hz0 hz1 hz2 rfl rfl own4 rfl (r4.src Tryz.underlying46 (one1 _ rfl)) (by unfold maxLen; omega) (by omega) ?_; intro a5 c5 w5 g5 own5 k5 hg5; have HN := Lib.hid (HG.out.grow hk2 hq2 HGL.out k3 HD3.out HF.out k34 own5 k5 hg5); have hls : (ss ++ [N]).length = ss.length + 1 := (by rw [List.length_append]; rfl); clear own5 own4 r4 k5 hg5 hi1 hz0 hz1 hz2)
      exact ⟨⟨k + 1, _, _, _, by omega, by simp, HN.out⟩, by simp [intOf]; omega⟩
  obtain rfl : k = n := by omega
  have KW : Kept (fun _ => False) w wr := K2.thn G.kept (fun i hi => .inr (by omega))
  cases o' with
  | none =>
    have H := Lib.hid (show TookL bs w (.returned (.tuple #[.slice none 0 0, .int .i64 74])) wr from ⟨KW, .inr ⟨fun x hx => (by
      have h1 := G.bad rfl
      have h2 : pL pT bs = none := h1
      rw [h2] at hx; cases hx), rfl⟩⟩)
    replace c1 : wr.cell? ⟨w.heap.size, 1, none⟩ = some (.bool true) := c1
    clear G hm0 KW
    go_wp2
    go_ret2
    exact H.out
  | some rest =>
    obtain ⟨e2, e3⟩ := G.good rest rfl
    rw [Nat.sub_self] at e3
    simp only [pN, Option.bind_some, List.append_nil] at e3
    replace c1 : wr.cell? ⟨w.heap.size, 1, none⟩ = some (.bool false) := c1
    have hm1 := hm0 rest rfl
    subst hm1
    by_cases h0 : rest = []
    · subst h0
      have H := Lib.hid (show TookL bs w (.returned (.tuple #[.slice av ss.length cv, .int .i64 0])) wr from ⟨KW, .inl ⟨ss, _, e3, rfl, own_texts G.own (fun k hk => ⟨by have := G.gnew k hk; omega, G.own.lt k hk⟩)⟩⟩)
      clear G hm0 KW e3 e2
      go_wp2
      go_ret2
      exact H.out
    · have H := Lib.hid (show TookL bs w (.returned (.tuple #[.slice none 0 0, .int .i64 74])) wr from ⟨KW, .inr ⟨fun x hx => (by
        have h9 : pL pT bs = some (ss, rest) := e3
        rw [h9] at hx; cases hx; exact h0 rfl), rfl⟩⟩)
      obtain ⟨m, hme⟩ : ∃ m, m = rest.length := ⟨_, rfl⟩
      have hpos : 0 < m := by rw [hme]; exact List.length_pos_iff.2 h0
      rw [← hme] at e0
      have hm6 : (0 : Int) < (m : Int) := by omega
      clear G hm0 KW e3 e2 hme
      go_wp2
      go_ret2
      exact H.out
end Go.Proofs.YtmbjealliinpdaaGreat
end
