/- The walk of the law PlaceGrows. -/
import Derived.Test.YtfikkjdffmchfaaPlaceNamesWalk
import Derived.Test.YtfikkjdffmchfaaAll
set_option linter.unusedSimpArgs false
set_option linter.unusedVariables false
namespace Go.Proofs.Ytfikkjdffmchfaa
open Go.RowKit Go.ChangeShapes Go.WideShapes Go.ChangeAt
open Go.ChangeMaps (open_string shut_string)

theorem pgAns_bad {r : PoolT} {id : Int} {s : ByteArray} (hg : goodB s.data.toList = false) : pgAns (some r) id s = (0, 0, 36) := by simp [pgAns, hg]
theorem pgAns_good {r : PoolT} {id : Int} {s : ByteArray} (hg : goodB s.data.toList = true) : pgAns (some r) id s = (id, ((smod (nameU s.data.toList) r.pgs.toNat : Nat) : Int), 0) := by simp [pgAns, hg]

theorem four_new (w : World) (a b c d : Obj) : Kept (fun _ => False) w ((((w.alloc a).alloc b).alloc c).alloc d) ∧ ((((w.alloc a).alloc b).alloc c).alloc d).heap[w.heap.size]? = some a ∧ ((((w.alloc a).alloc b).alloc c).alloc d).heap[w.heap.size + 1]? = some b ∧ ((((w.alloc a).alloc b).alloc c).alloc d).heap[w.heap.size + 1 + 1]? = some c ∧ ((((w.alloc a).alloc b).alloc c).alloc d).heap[w.heap.size + 1 + 1 + 1]? = some d := by
  obtain ⟨k1, x1, x2⟩ := two_new w a b
  obtain ⟨k2, x3, x4⟩ := two_new ((w.alloc a).alloc b) c d
  have e : ((w.alloc a).alloc b).heap.size = w.heap.size + 1 + 1 := by simp
  rw [e] at x3 x4
  exact ⟨k1.trans k2, (k2.block _ (lt_in x1) (fun h => h)).trans x1, (k2.block _ (lt_in x2) (fun h => h)).trans x2, x3, x4⟩

theorem reads_row {w : World} {b : Nat} {k : Int} (h : w.heap[b]? = some (.cells #[.int .i64 1, .int .i64 1, .int .i64 1, .int .i64 k] 35)) :
    Reads w 4 (.slice (some ⟨b, 0, none⟩) 1 1) [(⟨1, 1, 1, k⟩ : PoolT)].length ([(⟨1, 1, 1, k⟩ : PoolT)].flatMap PoolT.cells) (some b) :=
  ⟨by simp [PoolT.cells], .inr ⟨b, 0, 1, rfl, rfl, Nat.le_refl _, by decide, fun j hj => by rw [cell_in h, Nat.zero_add]; simp [PoolT.cells]⟩⟩

set_option maxRecDepth 100000 in
set_option maxHeartbeats 1000000 in
theorem grows_bad {w : World} (s : ByteArray) (n : Nat) (hs : s.size ≤ 140737488351232) (hn : n < 18446744073709551616) (hg : goodB s.data.toList = false) :
    Calls Try.prog 5 #[.string s, .int .u64 n] w fun e w' => e = .returned (.bool true) ∧ Kept (fun _ => False) w w' := by
  obtain ⟨k, hk⟩ : ∃ k : Nat, k = 1 + n % 7 := ⟨_, rfl⟩
  have hk7 : k ≤ 7 := by omega
  have hk1 : 1 ≤ k := by omega
  have hkc : (n : Int) % 7 = (k : Int) - 1 := by omega
  have w1' : IntKind.i64.wrap ((k : Int) - 1) = (k : Int) - 1 := IntWalk.i64_in _ (by omega)
  have w2' : IntKind.i64.wrap ((k : Int) + 1) = (k : Int) + 1 := IntWalk.i64_in _ (by omega)
  have w3' : (1 : Int) + ((k : Int) - 1) = (k : Int) := by omega
  have HK := Lib.hid hk
  clear hk
  go_enter Try.func5, Try.ntmps5
  go_wp2_with fail
  obtain ⟨K0, xr1, xm1, xr2, xm2⟩ := four_new w (Obj.cells #[Value.int IntKind.i64 1, Value.int IntKind.i64 1, Value.int IntKind.i64 1, Value.int IntKind.i64 k] 35) (Obj.cells #[Value.int IntKind.i64 0, Value.slice none 0 0, Value.slice (some ⟨w.heap.size, 0, none⟩) 1 1, Value.slice none 0 0, Value.int IntKind.i64 0] 26) (Obj.cells #[Value.int IntKind.i64 1, Value.int IntKind.i64 1, Value.int IntKind.i64 1, Value.int IntKind.i64 ((k : Int) + 1)] 35) (Obj.cells #[Value.int IntKind.i64 0, Value.slice none 0 0, Value.slice (some ⟨w.heap.size + 1 + 1, 0, none⟩) 1 1, Value.slice none 0 0, Value.int IntKind.i64 0] 26)
  generalize (((w.alloc (Obj.cells #[Value.int IntKind.i64 1, Value.int IntKind.i64 1, Value.int IntKind.i64 1, Value.int IntKind.i64 k] 35)).alloc (Obj.cells #[Value.int IntKind.i64 0, Value.slice none 0 0, Value.slice (some ⟨w.heap.size, 0, none⟩) 1 1, Value.slice none 0 0, Value.int IntKind.i64 0] 26)).alloc (Obj.cells #[Value.int IntKind.i64 1, Value.int IntKind.i64 1, Value.int IntKind.i64 1, Value.int IntKind.i64 ((k : Int) + 1)] 35)).alloc (Obj.cells #[Value.int IntKind.i64 0, Value.slice none 0 0, Value.slice (some ⟨w.heap.size + 1 + 1, 0, none⟩) 1 1, Value.slice none 0 0, Value.int IntKind.i64 0] 26) = w0 at K0 xr1 xm1 xr2 xm2 ⊢
  refine (pg_c (reads_row xr1) (by simp) 0 0 _ _ _ _ _ rfl _ _ _ rfl 1 s hs (by simp; omega)).mono ?_
  rintro e w1 ⟨rfl, k1⟩
  simp only [pgVal, List.find?_cons_of_pos, BEq.rfl, pgAns_bad hg]
  have K1 := K0.trans k1
  have xr2' : w1.heap[_]? = _ := (k1.block _ (lt_in xr2) (fun h => h)).trans xr2
  have xm2' : w1.heap[_]? = _ := (k1.block _ (lt_in xm2) (fun h => h)).trans xm2
  clear xr1 xm1 xr2 xm2
  have z0 : w1.cell? ⟨w.heap.size + 1 + 1 + 1, 0, none⟩ = some (.int .i64 0) := cell_in xm2'
  have z1 : w1.cell? ⟨w.heap.size + 1 + 1 + 1, 1, none⟩ = some (.slice none 0 0) := cell_in xm2'
  have z2 : w1.cell? ⟨w.heap.size + 1 + 1 + 1, 2, none⟩ = some (.slice (some ⟨w.heap.size + 1 + 1, 0, none⟩) 1 1) := cell_in xm2'
  have z3 : w1.cell? ⟨w.heap.size + 1 + 1 + 1, 3, none⟩ = some (.slice none 0 0) := cell_in xm2'
  have z4 : w1.cell? ⟨w.heap.size + 1 + 1 + 1, 4, none⟩ = some (.int .i64 0) := cell_in xm2'
  have hlm := lt_in xm2'
  have R2 := Lib.hid xr2'
  have M2 := Lib.hid xm2'
  clear xr2' xm2'
  go_wp2_with fail
  have xr3 : (w1.alloc (Obj.cells #[Value.int IntKind.i64 0, Value.int IntKind.i64 0] 28)).heap[_]? = _ := (Below.heap_alloc _ _ _ (lt_in R2.out)).trans R2.out
  have xm3 : (w1.alloc (Obj.cells #[Value.int IntKind.i64 0, Value.int IntKind.i64 0] 28)).heap[_]? = _ := (Below.heap_alloc _ _ _ (lt_in M2.out)).trans M2.out
  have xp3 : (w1.alloc (Obj.cells #[Value.int IntKind.i64 0, Value.int IntKind.i64 0] 28)).heap[w1.heap.size]? = _ := heap_alloc_new' _ _
  have K2 := K1.al (Obj.cells #[Value.int IntKind.i64 0, Value.int IntKind.i64 0] 28)
  clear z0 z1 z2 z3 z4 hlm R2 M2
  generalize w1.alloc (Obj.cells #[Value.int IntKind.i64 0, Value.int IntKind.i64 0] 28) = w2 at xr3 xm3 xp3 K2 ⊢
  refine (pg_c (reads_row xr3) (by simp) 0 0 _ _ _ _ _ rfl _ _ _ rfl 1 s hs (by simp; omega)).mono ?_
  rintro e w3 ⟨rfl, k3⟩
  simp only [pgVal, List.find?_cons_of_pos, BEq.rfl, pgAns_bad hg]
  have K3 := K2.trans k3
  have xr4 : w3.heap[_]? = _ := (k3.block _ (lt_in xr3) (fun h => h)).trans xr3
  have xm4 : w3.heap[_]? = _ := (k3.block _ (lt_in xm3) (fun h => h)).trans xm3
  have xp4 : w3.heap[_]? = _ := (k3.block _ (lt_in xp3) (fun h => h)).trans xp3
  clear xr3 xm3 xp3
  have HG := Lib.hid hg
  clear hg xr4 xm4 xp4
  go_wp2_with fail
  refine (good_c s _ hs false HG.out).mono ?_
  rintro e _ ⟨rfl, rfl⟩
  go_wp2_with fail
  refine lives09_c.mono ?_
  rintro e w9 ⟨rfl, hk9⟩
  go_wp2_with fail
  go_ret
  exact ⟨rfl, (K3.al _).trans hk9⟩

set_option maxRecDepth 100000 in
set_option maxHeartbeats 1000000 in
theorem grows_good {w : World} (s : ByteArray) (n : Nat) (hs : s.size ≤ 140737488351232) (hn : n < 18446744073709551616) (hg : goodB s.data.toList = true) :
    Calls Try.prog 5 #[.string s, .int .u64 n] w fun e w' => e = .returned (.bool true) ∧ Kept (fun _ => False) w w' := by
  obtain ⟨k, hk⟩ : ∃ k : Nat, k = 1 + n % 7 := ⟨_, rfl⟩
  have hk7 : k ≤ 7 := by omega
  have hk1 : 1 ≤ k := by omega
  have hkc : (n : Int) % 7 = (k : Int) - 1 := by omega
  have w1' : IntKind.i64.wrap ((k : Int) - 1) = (k : Int) - 1 := IntWalk.i64_in _ (by omega)
  have w2' : IntKind.i64.wrap ((k : Int) + 1) = (k : Int) + 1 := IntWalk.i64_in _ (by omega)
  have w3' : (1 : Int) + ((k : Int) - 1) = (k : Int) := by omega
  have HK := Lib.hid hk
  clear hk
  obtain ⟨A, hA⟩ : ∃ A : Nat, A = smod (nameU s.data.toList) ((k : Int)).toNat := ⟨_, rfl⟩
  obtain ⟨B, hB⟩ : ∃ B : Nat, B = smod (nameU s.data.toList) ((k : Int) + 1).toNat := ⟨_, rfl⟩
  have hlt : A < k := by rw [hA, show (k : Int).toNat = k by omega]; exact smod_lt hk1
  have hstep : B = A ∨ B = k := by
    rw [hB, hA, show ((k : Int) + 1).toNat = k + 1 by omega, show (k : Int).toNat = k by omega]; exact smod_step hk1 (by omega)
  have HS := Lib.hid hstep
  have HA := Lib.hid hA
  have HB := Lib.hid hB
  clear hA hB hstep
  go_enter Try.func5, Try.ntmps5
  go_wp2_with fail
  obtain ⟨K0, xr1, xm1, xr2, xm2⟩ := four_new w (Obj.cells #[Value.int IntKind.i64 1, Value.int IntKind.i64 1, Value.int IntKind.i64 1, Value.int IntKind.i64 k] 35) (Obj.cells #[Value.int IntKind.i64 0, Value.slice none 0 0, Value.slice (some ⟨w.heap.size, 0, none⟩) 1 1, Value.slice none 0 0, Value.int IntKind.i64 0] 26) (Obj.cells #[Value.int IntKind.i64 1, Value.int IntKind.i64 1, Value.int IntKind.i64 1, Value.int IntKind.i64 ((k : Int) + 1)] 35) (Obj.cells #[Value.int IntKind.i64 0, Value.slice none 0 0, Value.slice (some ⟨w.heap.size + 1 + 1, 0, none⟩) 1 1, Value.slice none 0 0, Value.int IntKind.i64 0] 26)
  generalize (((w.alloc (Obj.cells #[Value.int IntKind.i64 1, Value.int IntKind.i64 1, Value.int IntKind.i64 1, Value.int IntKind.i64 k] 35)).alloc (Obj.cells #[Value.int IntKind.i64 0, Value.slice none 0 0, Value.slice (some ⟨w.heap.size, 0, none⟩) 1 1, Value.slice none 0 0, Value.int IntKind.i64 0] 26)).alloc (Obj.cells #[Value.int IntKind.i64 1, Value.int IntKind.i64 1, Value.int IntKind.i64 1, Value.int IntKind.i64 ((k : Int) + 1)] 35)).alloc (Obj.cells #[Value.int IntKind.i64 0, Value.slice none 0 0, Value.slice (some ⟨w.heap.size + 1 + 1, 0, none⟩) 1 1, Value.slice none 0 0, Value.int IntKind.i64 0] 26) = w0 at K0 xr1 xm1 xr2 xm2 ⊢
  refine (pg_c (reads_row xr1) (by simp) 0 0 _ _ _ _ _ rfl _ _ _ rfl 1 s hs (by simp; omega)).mono ?_
  rintro e w1 ⟨rfl, k1⟩
  simp only [pgVal, List.find?_cons_of_pos, BEq.rfl, pgAns_good hg]
  rw [← HA.out]
  have K1 := K0.trans k1
  have xr2' : w1.heap[_]? = _ := (k1.block _ (lt_in xr2) (fun h => h)).trans xr2
  have xm2' : w1.heap[_]? = _ := (k1.block _ (lt_in xm2) (fun h => h)).trans xm2
  clear xr1 xm1 xr2 xm2
  have z0 : w1.cell? ⟨w.heap.size + 1 + 1 + 1, 0, none⟩ = some (.int .i64 0) := cell_in xm2'
  have z1 : w1.cell? ⟨w.heap.size + 1 + 1 + 1, 1, none⟩ = some (.slice none 0 0) := cell_in xm2'
  have z2 : w1.cell? ⟨w.heap.size + 1 + 1 + 1, 2, none⟩ = some (.slice (some ⟨w.heap.size + 1 + 1, 0, none⟩) 1 1) := cell_in xm2'
  have z3 : w1.cell? ⟨w.heap.size + 1 + 1 + 1, 3, none⟩ = some (.slice none 0 0) := cell_in xm2'
  have z4 : w1.cell? ⟨w.heap.size + 1 + 1 + 1, 4, none⟩ = some (.int .i64 0) := cell_in xm2'
  have hlm := lt_in xm2'
  have R2 := Lib.hid xr2'
  have M2 := Lib.hid xm2'
  clear xr2' xm2'
  go_wp2_with fail
  have xr3 : (w1.alloc (Obj.cells #[Value.int IntKind.i64 1, Value.int IntKind.i64 (A : Int)] 28)).heap[_]? = _ := (Below.heap_alloc _ _ _ (lt_in R2.out)).trans R2.out
  have xm3 : (w1.alloc (Obj.cells #[Value.int IntKind.i64 1, Value.int IntKind.i64 (A : Int)] 28)).heap[_]? = _ := (Below.heap_alloc _ _ _ (lt_in M2.out)).trans M2.out
  have xp3 : (w1.alloc (Obj.cells #[Value.int IntKind.i64 1, Value.int IntKind.i64 (A : Int)] 28)).heap[w1.heap.size]? = _ := heap_alloc_new' _ _
  have K2 := K1.al (Obj.cells #[Value.int IntKind.i64 1, Value.int IntKind.i64 (A : Int)] 28)
  clear z0 z1 z2 z3 z4 hlm R2 M2
  generalize w1.alloc (Obj.cells #[Value.int IntKind.i64 1, Value.int IntKind.i64 (A : Int)] 28) = w2 at xr3 xm3 xp3 K2 ⊢
  refine (pg_c (reads_row xr3) (by simp) 0 0 _ _ _ _ _ rfl _ _ _ rfl 1 s hs (by simp; omega)).mono ?_
  rintro e w3 ⟨rfl, k3⟩
  simp only [pgVal, List.find?_cons_of_pos, BEq.rfl, pgAns_good hg]
  rw [← HB.out]
  have K3 := K2.trans k3
  have xr4 : w3.heap[_]? = _ := (k3.block _ (lt_in xr3) (fun h => h)).trans xr3
  have xm4 : w3.heap[_]? = _ := (k3.block _ (lt_in xm3) (fun h => h)).trans xm3
  have xp4 : w3.heap[_]? = _ := (k3.block _ (lt_in xp3) (fun h => h)).trans xp3
  clear xr3 xm3 xp3
  have r1 : decide ((0 : Int) ≤ (A : Int)) = true := by simp
  have r2 : decide ((A : Int) < (k : Int)) = true := by simp; omega
  have p0 : w3.cell? ⟨w1.heap.size, 0, none⟩ = some (.int .i64 1) := cell_in xp4
  have p1 : w3.cell? ⟨w1.heap.size, 1, none⟩ = some (.int .i64 A) := cell_in xp4
  have lp := lt_in xp4
  have z0 : w3.cell? ⟨w.heap.size + 1 + 1 + 1, 0, none⟩ = some (.int .i64 0) := cell_in xm4
  have z1 : w3.cell? ⟨w.heap.size + 1 + 1 + 1, 1, none⟩ = some (.slice none 0 0) := cell_in xm4
  have z2 : w3.cell? ⟨w.heap.size + 1 + 1 + 1, 2, none⟩ = some (.slice (some ⟨w.heap.size + 1 + 1, 0, none⟩) 1 1) := cell_in xm4
  have z3 : w3.cell? ⟨w.heap.size + 1 + 1 + 1, 3, none⟩ = some (.slice none 0 0) := cell_in xm4
  have z4 : w3.cell? ⟨w.heap.size + 1 + 1 + 1, 4, none⟩ = some (.int .i64 0) := cell_in xm4
  have hlm := lt_in xm4
  have R4 := Lib.hid xr4
  clear xp4 xm4 xr4
  have E1 : ((B : Int) == (A : Int)) = true ∨ (((B : Int) == (A : Int)) = false ∧ ((B : Int) == (k : Int)) = true) := by
    rcases HS.out with h | h
    · exact .inl (by simp [h])
    · exact .inr ⟨beq_eq_false_iff_ne.2 (by omega), by simp [h]⟩
  rcases E1 with E1 | ⟨E1, E2⟩
  · go_wp2_with fail
    have xr5 : (w3.alloc (Obj.cells #[Value.int IntKind.i64 1, Value.int IntKind.i64 (B : Int)] 28)).heap[w.heap.size + 1 + 1]? = _ := (Below.heap_alloc _ _ _ (lt_in R4.out)).trans R4.out
    have hr5 := reads_row xr5
    simp only [List.length_cons, List.length_nil, Nat.zero_add, List.flatMap_cons, List.flatMap_nil, List.append_nil] at hr5
    refine (all1_c hr5 0 0 _ _ _ _ _ rfl _ _ _ rfl (k + 1) (by simp) (by omega)).mono ?_
    rintro e w5 ⟨⟨a5, c5, rfl⟩, k5⟩
    have K5 := (K3.al (Obj.cells #[Value.int IntKind.i64 1, Value.int IntKind.i64 (B : Int)] 28)).trans k5
    go_wp2_with fail
    refine lives09_c.mono ?_
    rintro e w9 ⟨rfl, hk9⟩
    go_wp2_with fail
    go_ret
    exact ⟨rfl, K5.trans hk9⟩
  · go_wp2_with fail
    have xr5 : (w3.alloc (Obj.cells #[Value.int IntKind.i64 1, Value.int IntKind.i64 (B : Int)] 28)).heap[w.heap.size + 1 + 1]? = _ := (Below.heap_alloc _ _ _ (lt_in R4.out)).trans R4.out
    have hr5 := reads_row xr5
    simp only [List.length_cons, List.length_nil, Nat.zero_add, List.flatMap_cons, List.flatMap_nil, List.append_nil] at hr5
    refine (all1_c hr5 0 0 _ _ _ _ _ rfl _ _ _ rfl (k + 1) (by simp) (by omega)).mono ?_
    rintro e w5 ⟨⟨a5, c5, rfl⟩, k5⟩
    have K5 := (K3.al (Obj.cells #[Value.int IntKind.i64 1, Value.int IntKind.i64 (B : Int)] 28)).trans k5
    go_wp2_with fail
    refine lives09_c.mono ?_
    rintro e w9 ⟨rfl, hk9⟩
    go_wp2_with fail
    go_ret
    exact ⟨rfl, K5.trans hk9⟩

theorem placeGrows_walk {H : Type} {enc : TypeId × Value → H} {W : World} {base : Nat} {v0 v1 : Value} {d0 d1 : DataW H} {p0 p1 : List MemPlace}
    (k0 : Value.okWide Try.prog W .any base 9 v0) (h0 : DataW.Trod enc Try.prog W 0 (fun _ => true) true 9 v0 d0 p0)
    (k1 : Value.okWide Try.prog W .any base 44 v1) (h1 : DataW.Trod enc Try.prog W 0 (fun _ => true) true 44 v1 d1 p1)
    {ts : List TypeId} {ds : List (DataW H)} (hsz : (DataW.weightsEach Try.prog ([9, 44] ++ ts) ([d0, d1] ++ ds)).all (· ≤ reachBytes) = true) :
    Calls Try.prog 5 #[v0, v1] W fun e w' => e = .returned (.bool true) ∧ Below W.heap.size W w' := by
  obtain ⟨s, rfl, rfl, rfl, ws⟩ := open_string Try.underlying9 k0 h0
  obtain ⟨n, rfl, rfl, rfl, wf1⟩ := open_int Try.underlying44 k1 h1
  have hws := weights_le hsz (j := 0) rfl rfl s.size (by simp [DataW.weights])
  simp only [reachBytes] at hws
  simp only [Lit.wf, IntKind.min, IntKind.max, IntKind.signed, IntKind.bits] at wf1
  simp at wf1
  obtain ⟨m, rfl⟩ : ∃ m : Nat, n = (m : Int) := ⟨n.toNat, by omega⟩
  have key : Calls Try.prog 5 #[.string s, .int .u64 m] W fun e w' => e = .returned (.bool true) ∧ Kept (fun _ => False) W w' := by
    cases hg : goodB s.data.toList with
    | false => exact grows_bad s m (by omega) (by omega) hg
    | true => exact grows_good s m (by omega) (by omega) hg
  exact key.mono fun e w' ⟨he, hk⟩ => ⟨he, hk.below (Nat.le_refl _) (fun _ h => h.elim)⟩

end Go.Proofs.Ytfikkjdffmchfaa
