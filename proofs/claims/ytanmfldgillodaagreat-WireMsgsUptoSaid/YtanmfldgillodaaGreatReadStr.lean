/- ReadStrings at bytes that promise more than there is. -/
import Derived.Test.YtanmfldgillodaaGreatCodec
import Derived.Recover
set_option linter.unusedSimpArgs false
set_option linter.unusedVariables false
namespace Go.Proofs.YtanmfldgillodaaGreat
open Go.RowKit

/-- The panic of bytes that no call wrote. -/
def wrongP : List PanicEntry := [{ v := .iface 195 (.agg #[]), recovered := false }]

set_option maxRecDepth 100000 in
set_option maxHeartbeats 1600000 in
theorem countRead_bad {w : World} {c : Nat} {vo vi : Value} {xs ys : List UInt8} {g : Option Nat} (n : Int) (hn : 0 ≤ n) (hn2 : n ≤ 9223372036854775807) (h : w.heap[c]? = some (.cells #[vo, vi, .bool true] 137)) (hr : Reads w 1 vi (xs ++ ys).length ((xs ++ ys).map bv) g) (hg : ∀ k, g = some k → k ≠ c) (hx : xs.length = 4) (hbad : ys.length < leN xs) (hm : (xs ++ ys).length ≤ 140737488351232) :
    Calls Tryz.prog 140 #[.pointer (some ⟨c, 0, none⟩), .int .i64 n] w fun e w' => e = .panicked wrongP ∧ Kept (· = c) w w' := by
  have e1 : n % 18446744073709551616 = n := by omega
  obtain ⟨N, hN⟩ : ∃ N, N = leN xs := ⟨_, rfl⟩
  have hN32 : N < 4294967296 := by have := leN_lt xs; rw [hx] at this; omega
  have e2 : IntKind.i64.wrap (N : Int) = (N : Int) := IntWalk.i64_in _ (by omega)
  go_enter Tryz.func140, Tryz.ntmps140
  go_wp2_with fail
  refine (wordRead_c (xs := xs) (ys := ys) n h hr hg 4 (by rw [hx]; rfl) (by omega) hm).mono ?_
  rintro e w1 ⟨rfl, vi1, h1, r1, k1⟩
  rw [← hN]
  rw [← hN] at hbad
  obtain ⟨a1, c1, rfl, -⟩ := r1.shape
  have z1 : w1.cell? ⟨c, 1, none⟩ = some (.slice a1 ys.length c1) := cell_in h1
  have z2 : w1.cell? ⟨c, 2, none⟩ = some (.bool true) := cell_in h1
  have hl := lt_in h1
  have hgt : (ys.length : Int) < (N : Int) := by omega
  clear h h1 hr hN
  go_wp2
  exact ⟨rfl, rfl, k1⟩

set_option maxRecDepth 100000 in
set_option maxHeartbeats 1600000 in
theorem listRead_bad {w : World} {c p : Nat} {vo vi : Value} {xs ys : List UInt8} {g : Option Nat} (h : w.heap[c]? = some (.cells #[vo, vi, .bool true] 137)) (hp : w.heap[p]? = some (.cells #[.slice none 0 0] 46)) (hr : Reads w 1 vi (xs ++ ys).length ((xs ++ ys).map bv) g) (hg : ∀ k, g = some k → k ≠ c) (hx : xs.length = 4) (hbad : ys.length < leN xs) (hm : (xs ++ ys).length ≤ 140737488351232) (f : Value) :
    Calls Tryz.prog 78 #[.pointer (some ⟨c, 0, none⟩), .pointer (some ⟨p, 0, none⟩), f] w fun e w' => e = .panicked wrongP ∧ Kept (· = c) w w' := by
  have p0 : w.cell? ⟨p, 0, none⟩ = some (.slice none 0 0) := cell_in hp
  have hlp := lt_in hp
  clear hp
  go_enter Tryz.func78, Tryz.ntmps78
  go_wp2_with fail
  refine (countRead_bad 0 (by omega) (by omega) h hr hg hx hbad hm).mono ?_
  rintro e w1 ⟨rfl, k1⟩
  exact ⟨rfl, rfl, k1⟩

set_option maxRecDepth 100000 in
set_option maxHeartbeats 1600000 in
theorem textsRead_bad {w : World} {c p : Nat} {vo vi : Value} {xs ys : List UInt8} {g : Option Nat} (h : w.heap[c]? = some (.cells #[vo, vi, .bool true] 137)) (hp : w.heap[p]? = some (.cells #[.slice none 0 0] 46)) (hr : Reads w 1 vi (xs ++ ys).length ((xs ++ ys).map bv) g) (hg : ∀ k, g = some k → k ≠ c) (hx : xs.length = 4) (hbad : ys.length < leN xs) (hm : (xs ++ ys).length ≤ 140737488351232) :
    Calls Tryz.prog 60 #[.pointer (some ⟨c, 0, none⟩), .pointer (some ⟨p, 0, none⟩)] w fun e w' => e = .panicked wrongP ∧ Kept (· = c) w w' := by
  have hmf : ∀ (fn : Fn) (first cap : Array Value) (w : World), (Instr.makeFunc fn first cap).run Tryz.prog w = .ok (.func fn first cap) w := fun _ _ _ _ => rfl
  go_enter Tryz.func60, Tryz.ntmps60
  go_wp2_with fail
  refine (listRead_bad h hp hr hg hx hbad hm _).mono ?_
  rintro e w1 ⟨rfl, k1⟩
  exact ⟨rfl, rfl, k1⟩

set_option maxRecDepth 100000 in
set_option maxHeartbeats 1600000 in
/-- The deferred closure, in a frame that panics so. -/
theorem catch_bad {w : World} (p q : Nat) {v : Value} {n : Int} (hp : w.heap[p]? = some (.cells #[v] 46)) (hq : w.heap[q]? = some (.cells #[.int .i64 n] 38)) :
    CallsD Tryz.prog 136 #[.pointer (some ⟨p, 0, none⟩), .pointer (some ⟨q, 0, none⟩)] (.panicking wrongP) w fun e u' w' =>
      e = .returned (.tuple #[]) ∧ u' = .panicking [{ v := .iface 195 (.agg #[]), recovered := true }] ∧ w'.heap[p]? = some (.cells #[.slice none 0 0] 46) ∧ w'.heap[q]? = some (.cells #[.int .i64 74] 38) ∧ Kept (fun k => k = p ∨ k = q) w w' := by
  refine callsD_of_wpS Tryz.func136 rfl fun c₀ cs hu => ?_
  have z0 : w.cell? ⟨p, 0, none⟩ = some v := cell_in hp
  have z1 : w.cell? ⟨q, 0, none⟩ = some (.int .i64 n) := cell_in hq
  have f0 : w.frozen? ⟨p, 0, none⟩ = false := frozen_in hp
  have f1 : w.frozen? ⟨q, 0, none⟩ = false := frozen_in hq
  have lp := lt_in hp
  have lq := lt_in hq
  have hpq : p ≠ q := fun e => by
    subst e
    rw [hp] at hq
    have := congrArg (fun o => match o with | some (Obj.cells _ t _) => t | _ => 0) hq
    simp at this
  have HP := Lib.hid hp
  have HQ := Lib.hid hq
  clear hp hq
  apply wpS_seq
  apply wpS_region
  simp [wpOpsS, go_sem, recoverD, hu, wrongP, Tryz.ntmps136, Exit.thenS]
  have hT : (#[Value.pointer (some ⟨p, 0, none⟩), Value.pointer (some ⟨q, 0, none⟩)] ++ ((Array.replicate 16 undef).setIfInBounds 4 (Value.iface 195 (Value.agg #[]))).setIfInBounds 0 (Value.iface 195 (Value.agg #[])) : Array Value) = #[Value.pointer (some ⟨p, 0, none⟩), Value.pointer (some ⟨q, 0, none⟩), (Value.iface 195 (Value.agg #[])), undef, undef, undef, (Value.iface 195 (Value.agg #[])), undef, undef, undef, undef, undef, undef, undef, undef, undef, undef, undef] := rfl
  rw [hT]
  have hta : ∀ w, (Instr.typeAssert (Value.iface 195 (Value.agg #[])) 20 195 true).run Tryz.prog w = .ok (.tuple #[.agg #[], .bool true]) w := fun _ => by kernel_rfl
  refine wpS_of_wp ?_
  go_wp2
  have h1 : (w.setCell ⟨p, 0, none⟩ (.slice none 0 0)).heap[p]? = _ := heap_setCell_same (o := 0) HP.out (.slice none 0 0)
  have h2 : (w.setCell ⟨p, 0, none⟩ (.slice none 0 0)).heap[q]? = _ := ((Kept.setCell (F := (· = p)) w ⟨p, 0, none⟩ (.slice none 0 0) rfl).block q lq (fun h => hpq h.symm)).trans HQ.out
  have h3 := heap_setCell_same (o := 0) h2 (.int .i64 74)
  have h4 : ((w.setCell ⟨p, 0, none⟩ (.slice none 0 0)).setCell ⟨q, 0, none⟩ (.int .i64 74)).heap[p]? = _ := ((Kept.setCell (F := (· = q)) _ ⟨q, 0, none⟩ (.int .i64 74) rfl).block p (lt_in h1) (fun h => hpq h)).trans h1
  have y1 : (((w.setCell ⟨p, 0, none⟩ (.slice none 0 0)).setCell ⟨q, 0, none⟩ (.int .i64 74)).alloc (Obj.cells #[] 195)).heap[p]? = _ := (Below.heap_alloc _ _ _ (lt_in h4)).trans h4
  have y2 : (((w.setCell ⟨p, 0, none⟩ (.slice none 0 0)).setCell ⟨q, 0, none⟩ (.int .i64 74)).alloc (Obj.cells #[] 195)).heap[q]? = _ := (Below.heap_alloc _ _ _ (lt_in h3)).trans h3
  have yk : Kept (fun k => k = p ∨ k = q) w (((w.setCell ⟨p, 0, none⟩ (.slice none 0 0)).setCell ⟨q, 0, none⟩ (.int .i64 74)).alloc (Obj.cells #[] 195)) := (((Kept.refl _ w).st _ (.inl (.inl rfl))).st _ (.inl (.inr rfl))).al _
  generalize ((w.setCell ⟨p, 0, none⟩ (.slice none 0 0)).setCell ⟨q, 0, none⟩ (.int .i64 74)).alloc (Obj.cells #[] 195) = w3 at y1 y2 yk ⊢
  clear h1 h2 h3 h4 hT hta
  simp only [bodyPostS, results, Tryz.results136]
  simp
  exact ⟨y1, y2, yk⟩

set_option maxRecDepth 100000 in
set_option maxHeartbeats 1600000 in
theorem readStrings_bad {w : World} {v : Value} {xs ys : List UInt8} {g : Option Nat} (hr : Reads w 1 v (xs ++ ys).length ((xs ++ ys).map bv) g) (hgl : ∀ k, g = some k → k < w.heap.size) (hx : xs.length = 4) (hbad : ys.length < leN xs) (hm : (xs ++ ys).length ≤ 140737488351232) :
    Calls Tryz.prog 59 #[v, .func (.func 60) #[] #[]] w fun e w' => e = .returned (.tuple #[.slice none 0 0, .int .i64 74]) ∧ Kept (fun _ => False) w w' := by
  obtain ⟨bs, hbs⟩ : ∃ bs, bs = xs ++ ys := ⟨_, rfl⟩
  obtain ⟨a, cp, rfl, hc⟩ := hr.shape
  have hmf : ∀ (fn : Fn) (first cap : Array Value) (w : World), (Instr.makeFunc fn first cap).run Tryz.prog w = .ok (.func fn first cap) w := fun _ _ _ _ => rfl
  have HB := Lib.hid hbs
  rw [← hbs]
  clear hbs
  go_enter_defers Tryz.func59, Tryz.ntmps59
  go_wp2_with fail
  obtain ⟨K0, x1, x2⟩ := two_new w (Obj.cells #[Value.slice none 0 0] 46) (Obj.cells #[Value.int IntKind.i64 0] 38)
  have x3 : (((w.alloc (Obj.cells #[Value.slice none 0 0] 46)).alloc (Obj.cells #[Value.int IntKind.i64 0] 38)).alloc (Obj.cells #[Value.slice none 0 0, Value.slice a bs.length cp, Value.bool true] 137)).heap[((w.alloc (Obj.cells #[Value.slice none 0 0] 46)).alloc (Obj.cells #[Value.int IntKind.i64 0] 38)).heap.size]? = some (Obj.cells #[Value.slice none 0 0, Value.slice a bs.length cp, Value.bool true] 137) := heap_alloc_new' _ _
  have hs0 : ((w.alloc (Obj.cells #[Value.slice none 0 0] 46)).alloc (Obj.cells #[Value.int IntKind.i64 0] 38)).heap.size = w.heap.size + 1 + 1 := by simp
  rw [hs0] at x3
  have y1 : (((w.alloc (Obj.cells #[Value.slice none 0 0] 46)).alloc (Obj.cells #[Value.int IntKind.i64 0] 38)).alloc (Obj.cells #[Value.slice none 0 0, Value.slice a bs.length cp, Value.bool true] 137)).heap[w.heap.size]? = _ := (Below.heap_alloc _ _ _ (lt_in x1)).trans x1
  have y2 : (((w.alloc (Obj.cells #[Value.slice none 0 0] 46)).alloc (Obj.cells #[Value.int IntKind.i64 0] 38)).alloc (Obj.cells #[Value.slice none 0 0, Value.slice a bs.length cp, Value.bool true] 137)).heap[w.heap.size + 1]? = _ := (Below.heap_alloc _ _ _ (lt_in x2)).trans x2
  have K1 := K0.al (Obj.cells #[Value.slice none 0 0, Value.slice a bs.length cp, Value.bool true] 137)
  generalize ((w.alloc (Obj.cells #[Value.slice none 0 0] 46)).alloc (Obj.cells #[Value.int IntKind.i64 0] 38)).alloc (Obj.cells #[Value.slice none 0 0, Value.slice a bs.length cp, Value.bool true] 137) = w0 at x3 y1 y2 K1 ⊢
  clear x1 x2
  have r0 := hr.kept K1 (fun _ _ h => h)
  rw [HB.out] at x3
  refine (textsRead_bad (xs := xs) (ys := ys) x3 y1 r0 (fun k hk => by have := hgl k hk; omega) hx hbad hm).mono ?_
  rintro e w1 ⟨rfl, k1⟩
  have z1 : w1.heap[w.heap.size]? = _ := (k1.block _ (lt_in y1) (fun h => by omega)).trans y1
  have z2 : w1.heap[w.heap.size + 1]? = _ := (k1.block _ (lt_in y2) (fun h => by omega)).trans y2
  have K2 := K1.thn k1 (fun i hi => .inr (by omega))
  clear x3 y1 y2 r0
  refine leaves_cons (f := 136) (args := #[.pointer (some ⟨w.heap.size, 0, none⟩), .pointer (some ⟨w.heap.size + 1, 0, none⟩)]) (by simp) (by simp [go_sem]) ?_
  refine (catch_bad w.heap.size (w.heap.size + 1) z1 z2).mono ?_
  rintro e u' w2 ⟨rfl, rfl, q1, q2, k2⟩
  have c1 : w2.cell? ⟨w.heap.size, 0, none⟩ = some (.slice none 0 0) := cell_in q1
  have c2 : w2.cell? ⟨w.heap.size + 1, 0, none⟩ = some (.int .i64 74) := cell_in q2
  have K3 : Kept (fun _ => False) w w2 := K2.thn k2 (fun i hi => .inr (by omega))
  simp [Leaves, settle, results, Tryz.results59, go_sem, c1, c2]
  exact K3

theorem readStrings_c {w : World} {v : Value} {xs ys : List UInt8} {g : Option Nat} (hr : Reads w 1 v (xs ++ ys).length ((xs ++ ys).map bv) g) (hgl : ∀ k, g = some k → k < w.heap.size) (hx : xs.length = 4) (hbad : ys.length < leN xs) (hm : (xs ++ ys).length ≤ 140737488351232) :
    Calls Tryz.prog 29 #[v] w fun e w' => e = .returned (.tuple #[.slice none 0 0, .int .i64 74]) ∧ Kept (fun _ => False) w w' := by
  go_enter Tryz.func29, Tryz.ntmps29
  go_wp2_with fail
  refine (readStrings_bad hr hgl hx hbad hm).mono ?_
  rintro e w1 ⟨rfl, k1⟩
  go_wp2
  go_ret2
  exact ⟨rfl, k1⟩

end Go.Proofs.YtanmfldgillodaaGreat
