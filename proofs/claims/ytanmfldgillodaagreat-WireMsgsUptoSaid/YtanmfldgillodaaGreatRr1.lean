/- The program's readers of whole values: at any bytes a value, or ErrBytes and none. -/
import Derived.Test.YtanmfldgillodaaGreatRg1
import Derived.Recover
set_option linter.unusedSimpArgs false
set_option linter.unusedVariables false
namespace Go.Proofs.YtanmfldgillodaaGreat
open Go.RowKit

theorem Put.full {cur cur' : Array Value} {cs : List Value} (h : Put cur 0 cs cur') (hs : cur.size = cs.length) : cur' = cs.toArray := by
  apply Array.ext'
  apply List.ext_getElem?
  intro i
  by_cases hi : i < cs.length
  · have := h.at_ i hi
    simpa using this
  · rw [List.getElem?_eq_none (by rw [Array.length_toList, h.size, hs]; omega)]
    simp
    omega

/-- Cells stored one behind the other. -/
def puts (w : World) (p : Nat) : Nat → List Value → World
  | _, [] => w
  | o, v :: r => puts (w.setCell ⟨p, o, none⟩ v) p (o + 1) r
theorem puts_kept (p : Nat) : ∀ (vs : List Value) (w : World) (o : Nat), Kept (· = p) w (puts w p o vs)
  | [], w, o => Kept.refl _ _
  | v :: r, w, o => (Kept.setCell (F := (· = p)) w ⟨p, o, none⟩ v rfl).trans (puts_kept p r _ (o + 1))
theorem puts_heap (p : Nat) (t : TypeId) : ∀ (vs : List Value) (w : World) (pre cur : List Value), w.heap[p]? = some (.cells (pre ++ cur).toArray t) → cur.length = vs.length → (puts w p pre.length vs).heap[p]? = some (.cells (pre ++ vs).toArray t)
  | [], w, pre, cur, h, hl => by
    obtain rfl : cur = [] := List.eq_nil_of_length_eq_zero hl
    exact h
  | v :: r, w, pre, c :: cur, h, hl => by
    have h1 := heap_setCell_same (o := pre.length) h v
    have e : (pre ++ c :: cur).toArray.setIfInBounds pre.length v = ((pre ++ [v]) ++ cur).toArray := by
      simp
    rw [e] at h1
    have h2 := puts_heap p t r _ (pre ++ [v]) cur h1 (by simpa using hl)
    simp only [List.length_append, List.length_singleton, List.append_assoc, List.singleton_append] at h2
    exact h2

/-- What a reader of all the bytes comes to. -/
def Took {α : Type} (R : World → (Nat → Prop) → List Value → α → Prop) (p : Pr α) (zs : List Value) (bs : List UInt8) (w : World) (e : Ending) (w' : World) : Prop :=
  Kept (fun _ => False) w w' ∧ ((∃ x cs, p bs = some (x, []) ∧ e = .returned (.tuple #[.agg cs.toArray, .int .i64 0]) ∧ R w' (New w w') cs x) ∨ ((∀ x, p bs ≠ some (x, [])) ∧ e = .returned (.tuple #[.agg zs.toArray, .int .i64 74])))

set_option maxRecDepth 100000 in
set_option maxHeartbeats 1600000 in
/-- The deferred closure, in a frame that panics so. -/
theorem catchMap_bad {w : World} (p q : Nat) {cur : Array Value} {n : Int} (hp : w.heap[p]? = some (.cells cur 70)) (hcs : cur.size = 5) (hq : w.heap[q]? = some (.cells #[.int .i64 n] 38)) :
    CallsD Tryz.prog 109 #[.pointer (some ⟨p, 0, none⟩), .pointer (some ⟨q, 0, none⟩)] (.panicking wrongP) w fun e u' w' =>
      e = .returned (.tuple #[]) ∧ u' = .panicking [{ v := .iface 195 (.agg #[]), recovered := true }] ∧ w'.heap[p]? = some (.cells #[Value.int IntKind.i64 0, Value.slice none 0 0, Value.slice none 0 0, Value.slice none 0 0, Value.int IntKind.i64 0] 70) ∧ w'.heap[q]? = some (.cells #[.int .i64 74] 38) ∧ Kept (fun k => k = p ∨ k = q) w w' := by
  refine callsD_of_wpS Tryz.func109 rfl fun c₀ cs hu => ?_
  have hpq : p ≠ q := fun e => by
    subst e
    rw [hp] at hq
    have := congrArg (fun o => match o with | some (Obj.cells _ t _) => t | _ => 0) hq
    simp at this
  obtain ⟨lc⟩ := cur
  match lc, hcs with
  | [v0, v1, v2, v3, v4], _ =>
  have z0 : w.cell? ⟨p, 0, none⟩ = some v0 := cell_in hp
  have f0 : w.frozen? ⟨p, 0, none⟩ = false := frozen_in hp
  have z1 : w.cell? ⟨p, 1, none⟩ = some v1 := cell_in hp
  have f1 : w.frozen? ⟨p, 1, none⟩ = false := frozen_in hp
  have z2 : w.cell? ⟨p, 2, none⟩ = some v2 := cell_in hp
  have f2 : w.frozen? ⟨p, 2, none⟩ = false := frozen_in hp
  have z3 : w.cell? ⟨p, 3, none⟩ = some v3 := cell_in hp
  have f3 : w.frozen? ⟨p, 3, none⟩ = false := frozen_in hp
  have z4 : w.cell? ⟨p, 4, none⟩ = some v4 := cell_in hp
  have f4 : w.frozen? ⟨p, 4, none⟩ = false := frozen_in hp
  have zq : w.cell? ⟨q, 0, none⟩ = some (.int .i64 n) := cell_in hq
  have fq : w.frozen? ⟨q, 0, none⟩ = false := frozen_in hq
  have lp := lt_in hp
  have lq := lt_in hq
  have HP := Lib.hid hp
  have HQ := Lib.hid hq
  clear hp hq
  apply wpS_seq
  apply wpS_region
  simp [wpOpsS, go_sem, recoverD, hu, wrongP, Tryz.ntmps109, Exit.thenS]
  have hT : (#[Value.pointer (some ⟨p, 0, none⟩), Value.pointer (some ⟨q, 0, none⟩)] ++ ((Array.replicate 16 undef).setIfInBounds 4 (Value.iface 195 (Value.agg #[]))).setIfInBounds 0 (Value.iface 195 (Value.agg #[])) : Array Value) = #[Value.pointer (some ⟨p, 0, none⟩), Value.pointer (some ⟨q, 0, none⟩), (Value.iface 195 (Value.agg #[])), undef, undef, undef, (Value.iface 195 (Value.agg #[])), undef, undef, undef, undef, undef, undef, undef, undef, undef, undef, undef] := rfl
  rw [hT]
  have hta : ∀ w, (Instr.typeAssert (Value.iface 195 (Value.agg #[])) 20 195 true).run Tryz.prog w = .ok (.tuple #[.agg #[], .bool true]) w := fun _ => by kernel_rfl
  refine wpS_of_wp ?_
  go_wp2
  have hW : (((((w.setCell ⟨p, 0, none⟩ (Value.int IntKind.i64 0)).setCell ⟨p, 1, none⟩ (Value.slice none 0 0)).setCell ⟨p, 2, none⟩ (Value.slice none 0 0)).setCell ⟨p, 3, none⟩ (Value.slice none 0 0)).setCell ⟨p, 4, none⟩ (Value.int IntKind.i64 0)) = puts w p 0 [Value.int IntKind.i64 0, Value.slice none 0 0, Value.slice none 0 0, Value.slice none 0 0, Value.int IntKind.i64 0] := rfl
  rw [hW]
  have h1 : (puts w p 0 [Value.int IntKind.i64 0, Value.slice none 0 0, Value.slice none 0 0, Value.slice none 0 0, Value.int IntKind.i64 0]).heap[p]? = some (.cells #[Value.int IntKind.i64 0, Value.slice none 0 0, Value.slice none 0 0, Value.slice none 0 0, Value.int IntKind.i64 0] 70) := puts_heap p _ [Value.int IntKind.i64 0, Value.slice none 0 0, Value.slice none 0 0, Value.slice none 0 0, Value.int IntKind.i64 0] w [] [v0, v1, v2, v3, v4] HP.out rfl
  have k1 := puts_kept p [Value.int IntKind.i64 0, Value.slice none 0 0, Value.slice none 0 0, Value.slice none 0 0, Value.int IntKind.i64 0] w 0
  have h2 := (k1.block q lq (fun h => hpq h.symm)).trans HQ.out
  generalize puts w p 0 [Value.int IntKind.i64 0, Value.slice none 0 0, Value.slice none 0 0, Value.slice none 0 0, Value.int IntKind.i64 0] = w1 at h1 h2 k1 ⊢
  have h3 := heap_setCell_same (o := 0) h2 (.int .i64 74)
  have h4 : (w1.setCell ⟨q, 0, none⟩ (.int .i64 74)).heap[p]? = _ := ((Kept.setCell (F := (· = q)) _ ⟨q, 0, none⟩ (.int .i64 74) rfl).block p (lt_in h1) (fun h => hpq h)).trans h1
  have k4 : Kept (fun k => k = p ∨ k = q) w (w1.setCell ⟨q, 0, none⟩ (.int .i64 74)) := (k1.mono (fun _ _ h => .inl h)).st _ (.inl (.inr rfl))
  generalize w1.setCell ⟨q, 0, none⟩ (.int .i64 74) = w2 at h3 h4 k4 ⊢
  obtain ⟨k5, -, -⟩ := two_new w2 (Obj.cells #[] 195) (Obj.cells #[Value.int IntKind.i64 0, Value.slice none 0 0, Value.slice none 0 0, Value.slice none 0 0, Value.int IntKind.i64 0] 70)
  have y1 := (k5.block p (lt_in h4) (fun h => h)).trans h4
  have y2 := (k5.block q (lt_in h3) (fun h => h)).trans h3
  have yk := k4.trans (k5.mono (fun _ _ h => h.elim))
  generalize (w2.alloc (Obj.cells #[] 195)).alloc (Obj.cells #[Value.int IntKind.i64 0, Value.slice none 0 0, Value.slice none 0 0, Value.slice none 0 0, Value.int IntKind.i64 0] 70) = w3 at y1 y2 yk ⊢
  clear h1 h2 h3 h4 hT hta
  simp only [bodyPostS, results, Tryz.results109]
  simp
  exact ⟨y1, y2, yk⟩

set_option maxRecDepth 100000 in
set_option maxHeartbeats 1600000 in
/-- The deferred closure, in a frame that returns. -/
theorem catchMap_ok {w : World} (p q : Nat) :
    CallsD Tryz.prog 109 #[.pointer (some ⟨p, 0, none⟩), .pointer (some ⟨q, 0, none⟩)] .returning w fun e u' w' => e = .returned (.tuple #[]) ∧ u' = .returning ∧ w = w' := by
  refine callsD_of_wpS Tryz.func109 rfl fun c₀ cs hu => ?_
  apply wpS_seq
  apply wpS_region
  simp [wpOpsS, go_sem, recoverD, hu, Tryz.ntmps109, Exit.thenS]
  have hT : (#[Value.pointer (some ⟨p, 0, none⟩), Value.pointer (some ⟨q, 0, none⟩)] ++ ((Array.replicate 16 undef).setIfInBounds 4 Value.nilIface).setIfInBounds 0 Value.nilIface : Array Value) = #[Value.pointer (some ⟨p, 0, none⟩), Value.pointer (some ⟨q, 0, none⟩), Value.nilIface, undef, undef, undef, Value.nilIface, undef, undef, undef, undef, undef, undef, undef, undef, undef, undef, undef] := rfl
  rw [hT]
  refine wpS_of_wp ?_
  go_wp2
  simp only [bodyPostS, results, Tryz.results109]
  simp [hu]
  rw [← hu]

set_option maxRecDepth 100000 in
set_option maxHeartbeats 1600000 in
theorem readMap_c {w : World} {v : Value} {bs : List UInt8} {g : Option Nat} (hr : Reads w 1 v bs.length (bs.map bv) g) (hgl : ∀ k, g = some k → k < w.heap.size) (hm : bs.length ≤ 140737488351232) :
    Calls Tryz.prog 44 #[v, .func (.func 45) #[] #[]] w (Took MapT.Is pMap [Value.int IntKind.i64 0, Value.slice none 0 0, Value.slice none 0 0, Value.slice none 0 0, Value.int IntKind.i64 0] bs w) := by
  obtain ⟨a, cp, rfl, hc⟩ := hr.shape
  have hmf : ∀ (fn : Fn) (first cap : Array Value) (w : World), (Instr.makeFunc fn first cap).run Tryz.prog w = .ok (.func fn first cap) w := fun _ _ _ _ => rfl
  go_enter_defers Tryz.func44, Tryz.ntmps44
  go_wp2_with fail
  obtain ⟨K0, x1, x2⟩ := two_new w (Obj.cells #[Value.int IntKind.i64 0, Value.slice none 0 0, Value.slice none 0 0, Value.slice none 0 0, Value.int IntKind.i64 0] 70) (Obj.cells #[Value.int IntKind.i64 0] 38)
  have hs0 : ((w.alloc (Obj.cells #[Value.int IntKind.i64 0, Value.slice none 0 0, Value.slice none 0 0, Value.slice none 0 0, Value.int IntKind.i64 0] 70)).alloc (Obj.cells #[Value.int IntKind.i64 0] 38)).heap.size = w.heap.size + 1 + 1 := by simp
  generalize (w.alloc (Obj.cells #[Value.int IntKind.i64 0, Value.slice none 0 0, Value.slice none 0 0, Value.slice none 0 0, Value.int IntKind.i64 0] 70)).alloc (Obj.cells #[Value.int IntKind.i64 0] 38) = wz at K0 x1 x2 hs0 ⊢
  have x3 : (wz.alloc (Obj.cells #[Value.slice none 0 0, Value.slice a bs.length cp, Value.bool true] 137)).heap[wz.heap.size]? = some (Obj.cells #[Value.slice none 0 0, Value.slice a bs.length cp, Value.bool true] 137) := heap_alloc_new' _ _
  rw [hs0] at x3
  have y1 : (wz.alloc (Obj.cells #[Value.slice none 0 0, Value.slice a bs.length cp, Value.bool true] 137)).heap[w.heap.size]? = _ := (Below.heap_alloc _ _ _ (lt_in x1)).trans x1
  have y2 : (wz.alloc (Obj.cells #[Value.slice none 0 0, Value.slice a bs.length cp, Value.bool true] 137)).heap[w.heap.size + 1]? = _ := (Below.heap_alloc _ _ _ (lt_in x2)).trans x2
  have K1 := K0.al (Obj.cells #[Value.slice none 0 0, Value.slice a bs.length cp, Value.bool true] 137)
  generalize wz.alloc (Obj.cells #[Value.slice none 0 0, Value.slice a bs.length cp, Value.bool true] 137) = w0 at x3 y1 y2 K1 ⊢
  clear x1 x2 hs0
  have r0 := hr.kept K1 (fun _ _ h => h)
  have sK := K1.size
  have RD : Rd w0 (w.heap.size + 1 + 1) bs g := ⟨⟨_, x3, r0⟩, fun k hk => by have := hgl k hk; omega, hm⟩
  have BK : Blk w0 w.heap.size #[Value.int IntKind.i64 0, Value.slice none 0 0, Value.slice none 0 0, Value.slice none 0 0, Value.int IntKind.i64 0] 70 (w.heap.size + 1 + 1) g := ⟨y1, by omega, fun e => by have := hgl _ e; omega⟩
  refine (clusterG_c RD (fun k hk => by have := hgl k hk; omega) BK (o := 0) (by intro f hf; simp)).mono ?_
  rintro e w1 ⟨k1, ⟨hp, rfl, hwas⟩ | ⟨x, r1, cur1, cs, hp, rfl, H1, B1, P1, hx⟩⟩
  · obtain ⟨cur1, z1, hcs⟩ := hwas
    have z2 : w1.heap[w.heap.size + 1]? = _ := (k1.block _ (lt_in y2) (fun h => by omega)).trans y2
    have K2 := K1.thn k1 (fun i hi => .inr (by omega))
    clear x3 y1 y2 r0 RD BK
    refine leaves_cons (f := 109) (args := #[.pointer (some ⟨w.heap.size, 0, none⟩), .pointer (some ⟨w.heap.size + 1, 0, none⟩)]) (by simp) (by simp [go_sem]) ?_
    refine (catchMap_bad w.heap.size (w.heap.size + 1) z1 hcs z2).mono ?_
    rintro e u' w2 ⟨rfl, rfl, q1, q2, k2⟩
    have c0 : w2.cell? ⟨w.heap.size, 0, none⟩ = some (Value.int IntKind.i64 0) := cell_in q1
    have c1 : w2.cell? ⟨w.heap.size, 1, none⟩ = some (Value.slice none 0 0) := cell_in q1
    have c2 : w2.cell? ⟨w.heap.size, 2, none⟩ = some (Value.slice none 0 0) := cell_in q1
    have c3 : w2.cell? ⟨w.heap.size, 3, none⟩ = some (Value.slice none 0 0) := cell_in q1
    have c4 : w2.cell? ⟨w.heap.size, 4, none⟩ = some (Value.int IntKind.i64 0) := cell_in q1
    have cE : w2.cell? ⟨w.heap.size + 1, 0, none⟩ = some (.int .i64 74) := cell_in q2
    have K3 : Kept (fun _ => False) w w2 := K2.thn k2 (fun i hi => .inr (by omega))
    clear q1 q2
    simp [Leaves, settle, results, Tryz.results44, go_sem, c0, c1, c2, c3, c4, cE]
    exact ⟨K3, .inr ⟨fun x h => (by rw [hp] at h; cases h), rfl⟩⟩
  have hx0 := hx
  obtain ⟨u0, u1, u2, rfl, -, -, l0, l1, l2⟩ := hx
  obtain ⟨au0, cu0, rfl, -⟩ := l0.shape
  obtain ⟨au1, cu1, rfl, -⟩ := l1.shape
  obtain ⟨au2, cu2, rfl, -⟩ := l2.shape
  obtain rfl : cur1 = #[Value.int IntKind.i64 x.epoch, Value.slice au0 x.osds.length cu0, Value.slice au1 x.pools.length cu1, Value.slice au2 x.buckets.length cu2, Value.int IntKind.i64 x.leaf] := P1.full rfl
  obtain ⟨vi, h2, h3⟩ := H1.ex
  obtain ⟨ai, ci, rfl, -⟩ := h3.shape
  have z2 : w1.heap[w.heap.size + 1]? = _ := (k1.block _ (lt_in y2) (fun h => by omega)).trans y2
  have K2 := K1.thn k1 (fun i hi => .inr (by omega))
  have s1 := k1.size
  have d1 : w1.cell? ⟨w.heap.size + 1 + 1, 1, none⟩ = some (.slice ai r1.length ci) := cell_in h2
  have l1 := lt_in h2
  have z1 := B1.heap
  have xn : MapT.Is w1 (New w w1) _ x := MapT.stable _ _ _ _ _ _ hx0 (fun k hk => ⟨by have := hk.1; omega, hk.2⟩) (fun _ _ => rfl)
  have HX := Lib.hid xn
  have HP := Lib.hid hp
  clear x3 y1 y2 r0 RD BK hx0 xn h2 h3 H1 hp P1
  by_cases hr1 : r1 = []
  · subst hr1
    have c0 : w1.cell? ⟨w.heap.size, 0, none⟩ = some (Value.int IntKind.i64 x.epoch) := cell_in z1
    have g0 : w1.frozen? ⟨w.heap.size, 0, none⟩ = false := frozen_in z1
    have e0 := setCell_same' c0
    have c1 : w1.cell? ⟨w.heap.size, 1, none⟩ = some (Value.slice au0 x.osds.length cu0) := cell_in z1
    have g1 : w1.frozen? ⟨w.heap.size, 1, none⟩ = false := frozen_in z1
    have e1 := setCell_same' c1
    have c2 : w1.cell? ⟨w.heap.size, 2, none⟩ = some (Value.slice au1 x.pools.length cu1) := cell_in z1
    have g2 : w1.frozen? ⟨w.heap.size, 2, none⟩ = false := frozen_in z1
    have e2 := setCell_same' c2
    have c3 : w1.cell? ⟨w.heap.size, 3, none⟩ = some (Value.slice au2 x.buckets.length cu2) := cell_in z1
    have g3 : w1.frozen? ⟨w.heap.size, 3, none⟩ = false := frozen_in z1
    have e3 := setCell_same' c3
    have c4 : w1.cell? ⟨w.heap.size, 4, none⟩ = some (Value.int IntKind.i64 x.leaf) := cell_in z1
    have g4 : w1.frozen? ⟨w.heap.size, 4, none⟩ = false := frozen_in z1
    have e4 := setCell_same' c4
    have cE : w1.cell? ⟨w.heap.size + 1, 0, none⟩ = some (.int .i64 0) := cell_in z2
    have gE : w1.frozen? ⟨w.heap.size + 1, 0, none⟩ = false := frozen_in z2
    have eE := setCell_same' cE
    have lz1 := lt_in z1
    have lz2 := lt_in z2
    simp only [List.length_nil] at d1
    clear z1 z2 B1
    go_wp2
    refine leaves_cons (f := 109) (args := #[.pointer (some ⟨w.heap.size, 0, none⟩), .pointer (some ⟨w.heap.size + 1, 0, none⟩)]) (by simp) (by simp [go_sem]) ?_
    refine (catchMap_ok w.heap.size (w.heap.size + 1)).mono ?_
    rintro e u' w2 ⟨rfl, rfl, rfl⟩
    simp [Leaves, settle, results, Tryz.results44, go_sem, c0, c1, c2, c3, c4, cE]
    exact ⟨K2, .inl ⟨x, _, HP.out, rfl, HX.out⟩⟩
  · have hpos : (0 : Int) < (r1.length : Int) := by
      have := List.length_pos_iff.2 hr1
      omega
    go_wp2
    refine leaves_cons (f := 109) (args := #[.pointer (some ⟨w.heap.size, 0, none⟩), .pointer (some ⟨w.heap.size + 1, 0, none⟩)]) (by simp) (by simp [go_sem]) ?_
    refine (catchMap_bad w.heap.size (w.heap.size + 1) z1 rfl z2).mono ?_
    rintro e u' w2 ⟨rfl, rfl, q1, q2, k2⟩
    have c0 : w2.cell? ⟨w.heap.size, 0, none⟩ = some (Value.int IntKind.i64 0) := cell_in q1
    have c1 : w2.cell? ⟨w.heap.size, 1, none⟩ = some (Value.slice none 0 0) := cell_in q1
    have c2 : w2.cell? ⟨w.heap.size, 2, none⟩ = some (Value.slice none 0 0) := cell_in q1
    have c3 : w2.cell? ⟨w.heap.size, 3, none⟩ = some (Value.slice none 0 0) := cell_in q1
    have c4 : w2.cell? ⟨w.heap.size, 4, none⟩ = some (Value.int IntKind.i64 0) := cell_in q1
    have cE : w2.cell? ⟨w.heap.size + 1, 0, none⟩ = some (.int .i64 74) := cell_in q2
    have K3 : Kept (fun _ => False) w w2 := K2.thn k2 (fun i hi => .inr (by omega))
    clear q1 q2
    simp [Leaves, settle, results, Tryz.results44, go_sem, c0, c1, c2, c3, c4, cE]
    exact ⟨K3, .inr ⟨fun x h => hr1 (by rw [HP.out] at h; simp at h; exact h.2), rfl⟩⟩

set_option maxRecDepth 100000 in
set_option maxHeartbeats 1600000 in
theorem decMap_c {w : World} {v : Value} {bs : List UInt8} {g : Option Nat} (hr : Reads w 1 v bs.length (bs.map bv) g) (hgl : ∀ k, g = some k → k < w.heap.size) (hm : bs.length ≤ 140737488351232) :
    Calls Tryz.prog 17 #[v] w (Took MapT.Is pMap [Value.int IntKind.i64 0, Value.slice none 0 0, Value.slice none 0 0, Value.slice none 0 0, Value.int IntKind.i64 0] bs w) := by
  have ka := Kept.alloc (fun _ => False) w (Obj.cells #[Value.int IntKind.i64 0, Value.slice none 0 0, Value.slice none 0 0, Value.slice none 0 0, Value.int IntKind.i64 0] 70)
  have hq : (w.alloc (Obj.cells #[Value.int IntKind.i64 0, Value.slice none 0 0, Value.slice none 0 0, Value.slice none 0 0, Value.int IntKind.i64 0] 70)).heap[w.heap.size]? = some (Obj.cells #[Value.int IntKind.i64 0, Value.slice none 0 0, Value.slice none 0 0, Value.slice none 0 0, Value.int IntKind.i64 0] 70) := heap_alloc_new' _ _
  have sz : (w.alloc (Obj.cells #[Value.int IntKind.i64 0, Value.slice none 0 0, Value.slice none 0 0, Value.slice none 0 0, Value.int IntKind.i64 0] 70)).heap.size = w.heap.size + 1 := by simp
  obtain ⟨a, cp, rfl, hc⟩ := hr.shape
  go_enter Tryz.func17, Tryz.ntmps17
  go_wp2_with fail
  generalize w.alloc (Obj.cells #[Value.int IntKind.i64 0, Value.slice none 0 0, Value.slice none 0 0, Value.slice none 0 0, Value.int IntKind.i64 0] 70) = w0 at ka hq sz ⊢
  refine (readMap_c (hr.kept ka (fun _ _ h => h)) (fun k hk => by have := hgl k hk; omega) hm).mono ?_
  rintro e w1 ⟨k1, ⟨x, cs, hp, rfl, hx⟩ | ⟨hp, rfl⟩⟩
  · have hx0 := hx
    obtain ⟨u0, u1, u2, rfl, -, -, l0, l1, l2⟩ := hx
    obtain ⟨au0, cu0, rfl, -⟩ := l0.shape
    obtain ⟨au1, cu1, rfl, -⟩ := l1.shape
    obtain ⟨au2, cu2, rfl, -⟩ := l2.shape
    have z1 := (k1.block _ (lt_in hq) (fun h => h)).trans hq
    have HX := Lib.hid hx0
    have HP := Lib.hid hp
    clear hx0 hp
    have c0 : w1.cell? ⟨w.heap.size, 0, none⟩ = some (Value.int IntKind.i64 0) := cell_in z1
    have g0 : w1.frozen? ⟨w.heap.size, 0, none⟩ = false := frozen_in z1
    have c1 : w1.cell? ⟨w.heap.size, 1, none⟩ = some (Value.slice none 0 0) := cell_in z1
    have g1 : w1.frozen? ⟨w.heap.size, 1, none⟩ = false := frozen_in z1
    have c2 : w1.cell? ⟨w.heap.size, 2, none⟩ = some (Value.slice none 0 0) := cell_in z1
    have g2 : w1.frozen? ⟨w.heap.size, 2, none⟩ = false := frozen_in z1
    have c3 : w1.cell? ⟨w.heap.size, 3, none⟩ = some (Value.slice none 0 0) := cell_in z1
    have g3 : w1.frozen? ⟨w.heap.size, 3, none⟩ = false := frozen_in z1
    have c4 : w1.cell? ⟨w.heap.size, 4, none⟩ = some (Value.int IntKind.i64 0) := cell_in z1
    have g4 : w1.frozen? ⟨w.heap.size, 4, none⟩ = false := frozen_in z1
    have lz := lt_in z1
    have HZ := Lib.hid z1
    clear z1 hq
    go_wp2
    have hW : (((((w1.setCell ⟨w.heap.size, 0, none⟩ (Value.int IntKind.i64 x.epoch)).setCell ⟨w.heap.size, 1, none⟩ (Value.slice au0 x.osds.length cu0)).setCell ⟨w.heap.size, 2, none⟩ (Value.slice au1 x.pools.length cu1)).setCell ⟨w.heap.size, 3, none⟩ (Value.slice au2 x.buckets.length cu2)).setCell ⟨w.heap.size, 4, none⟩ (Value.int IntKind.i64 x.leaf)) = puts w1 w.heap.size 0 [Value.int IntKind.i64 x.epoch, Value.slice au0 x.osds.length cu0, Value.slice au1 x.pools.length cu1, Value.slice au2 x.buckets.length cu2, Value.int IntKind.i64 x.leaf] := rfl
    rw [hW]
    have h1 : (puts w1 w.heap.size 0 [Value.int IntKind.i64 x.epoch, Value.slice au0 x.osds.length cu0, Value.slice au1 x.pools.length cu1, Value.slice au2 x.buckets.length cu2, Value.int IntKind.i64 x.leaf]).heap[w.heap.size]? = some (.cells #[Value.int IntKind.i64 x.epoch, Value.slice au0 x.osds.length cu0, Value.slice au1 x.pools.length cu1, Value.slice au2 x.buckets.length cu2, Value.int IntKind.i64 x.leaf] 70) := puts_heap _ _ [Value.int IntKind.i64 x.epoch, Value.slice au0 x.osds.length cu0, Value.slice au1 x.pools.length cu1, Value.slice au2 x.buckets.length cu2, Value.int IntKind.i64 x.leaf] w1 [] [Value.int IntKind.i64 0, Value.slice none 0 0, Value.slice none 0 0, Value.slice none 0 0, Value.int IntKind.i64 0] HZ.out rfl
    have k2 := puts_kept w.heap.size [Value.int IntKind.i64 x.epoch, Value.slice au0 x.osds.length cu0, Value.slice au1 x.pools.length cu1, Value.slice au2 x.buckets.length cu2, Value.int IntKind.i64 x.leaf] w1 0
    generalize puts w1 w.heap.size 0 [Value.int IntKind.i64 x.epoch, Value.slice au0 x.osds.length cu0, Value.slice au1 x.pools.length cu1, Value.slice au2 x.buckets.length cu2, Value.int IntKind.i64 x.leaf] = w2 at h1 k2 ⊢
    have K3 : Kept (fun _ => False) w w2 := (ka.trans k1).thn k2 (fun i hi => .inr (by omega))
    have y0 : w2.cell? ⟨w.heap.size, 0, none⟩ = some (Value.int IntKind.i64 x.epoch) := cell_in h1
    have y1 : w2.cell? ⟨w.heap.size, 1, none⟩ = some (Value.slice au0 x.osds.length cu0) := cell_in h1
    have y2 : w2.cell? ⟨w.heap.size, 2, none⟩ = some (Value.slice au1 x.pools.length cu1) := cell_in h1
    have y3 : w2.cell? ⟨w.heap.size, 3, none⟩ = some (Value.slice au2 x.buckets.length cu2) := cell_in h1
    have y4 : w2.cell? ⟨w.heap.size, 4, none⟩ = some (Value.int IntKind.i64 x.leaf) := cell_in h1
    refine bodyPost_ret (v := .tuple #[.agg #[Value.int IntKind.i64 x.epoch, Value.slice au0 x.osds.length cu0, Value.slice au1 x.pools.length cu1, Value.slice au2 x.buckets.length cu2, Value.int IntKind.i64 x.leaf], .int .i64 0]) (by simp [results, Tryz.results17, go_sem, y0, y1, y2, y3, y4]) rfl ?_
    have s2 := k2.size
    exact ⟨K3, .inl ⟨x, _, HP.out, rfl, MapT.stable _ _ _ _ _ _ HX.out (fun k hk => ⟨by have := hk.1; omega, by have := hk.2; omega⟩) (fun k hk => k2.block k hk.2 (fun e => by have := hk.1; omega))⟩⟩
  · have z1 := (k1.block _ (lt_in hq) (fun h => h)).trans hq
    have HP := Lib.hid hp
    clear hp
    have c0 : w1.cell? ⟨w.heap.size, 0, none⟩ = some (Value.int IntKind.i64 0) := cell_in z1
    have g0 : w1.frozen? ⟨w.heap.size, 0, none⟩ = false := frozen_in z1
    have c1 : w1.cell? ⟨w.heap.size, 1, none⟩ = some (Value.slice none 0 0) := cell_in z1
    have g1 : w1.frozen? ⟨w.heap.size, 1, none⟩ = false := frozen_in z1
    have c2 : w1.cell? ⟨w.heap.size, 2, none⟩ = some (Value.slice none 0 0) := cell_in z1
    have g2 : w1.frozen? ⟨w.heap.size, 2, none⟩ = false := frozen_in z1
    have c3 : w1.cell? ⟨w.heap.size, 3, none⟩ = some (Value.slice none 0 0) := cell_in z1
    have g3 : w1.frozen? ⟨w.heap.size, 3, none⟩ = false := frozen_in z1
    have c4 : w1.cell? ⟨w.heap.size, 4, none⟩ = some (Value.int IntKind.i64 0) := cell_in z1
    have g4 : w1.frozen? ⟨w.heap.size, 4, none⟩ = false := frozen_in z1
    have lz := lt_in z1
    have HZ := Lib.hid z1
    clear z1 hq
    go_wp2
    have hW : (((((w1.setCell ⟨w.heap.size, 0, none⟩ (Value.int IntKind.i64 0)).setCell ⟨w.heap.size, 1, none⟩ (Value.slice none 0 0)).setCell ⟨w.heap.size, 2, none⟩ (Value.slice none 0 0)).setCell ⟨w.heap.size, 3, none⟩ (Value.slice none 0 0)).setCell ⟨w.heap.size, 4, none⟩ (Value.int IntKind.i64 0)) = puts w1 w.heap.size 0 [Value.int IntKind.i64 0, Value.slice none 0 0, Value.slice none 0 0, Value.slice none 0 0, Value.int IntKind.i64 0] := rfl
    rw [hW]
    have h1 : (puts w1 w.heap.size 0 [Value.int IntKind.i64 0, Value.slice none 0 0, Value.slice none 0 0, Value.slice none 0 0, Value.int IntKind.i64 0]).heap[w.heap.size]? = some (.cells #[Value.int IntKind.i64 0, Value.slice none 0 0, Value.slice none 0 0, Value.slice none 0 0, Value.int IntKind.i64 0] 70) := puts_heap _ _ [Value.int IntKind.i64 0, Value.slice none 0 0, Value.slice none 0 0, Value.slice none 0 0, Value.int IntKind.i64 0] w1 [] [Value.int IntKind.i64 0, Value.slice none 0 0, Value.slice none 0 0, Value.slice none 0 0, Value.int IntKind.i64 0] HZ.out rfl
    have k2 := puts_kept w.heap.size [Value.int IntKind.i64 0, Value.slice none 0 0, Value.slice none 0 0, Value.slice none 0 0, Value.int IntKind.i64 0] w1 0
    generalize puts w1 w.heap.size 0 [Value.int IntKind.i64 0, Value.slice none 0 0, Value.slice none 0 0, Value.slice none 0 0, Value.int IntKind.i64 0] = w2 at h1 k2 ⊢
    have K3 : Kept (fun _ => False) w w2 := (ka.trans k1).thn k2 (fun i hi => .inr (by omega))
    have y0 : w2.cell? ⟨w.heap.size, 0, none⟩ = some (Value.int IntKind.i64 0) := cell_in h1
    have y1 : w2.cell? ⟨w.heap.size, 1, none⟩ = some (Value.slice none 0 0) := cell_in h1
    have y2 : w2.cell? ⟨w.heap.size, 2, none⟩ = some (Value.slice none 0 0) := cell_in h1
    have y3 : w2.cell? ⟨w.heap.size, 3, none⟩ = some (Value.slice none 0 0) := cell_in h1
    have y4 : w2.cell? ⟨w.heap.size, 4, none⟩ = some (Value.int IntKind.i64 0) := cell_in h1
    refine bodyPost_ret (v := .tuple #[.agg #[Value.int IntKind.i64 0, Value.slice none 0 0, Value.slice none 0 0, Value.slice none 0 0, Value.int IntKind.i64 0], .int .i64 74]) (by simp [results, Tryz.results17, go_sem, y0, y1, y2, y3, y4]) rfl ?_
    exact ⟨K3, .inr ⟨HP.out, rfl⟩⟩

set_option maxRecDepth 100000 in
set_option maxHeartbeats 1600000 in
/-- The deferred closure, in a frame that panics so. -/
theorem catchInc_bad {w : World} (p q : Nat) {cur : Array Value} {n : Int} (hp : w.heap[p]? = some (.cells cur 60)) (hcs : cur.size = 2) (hq : w.heap[q]? = some (.cells #[.int .i64 n] 38)) :
    CallsD Tryz.prog 108 #[.pointer (some ⟨p, 0, none⟩), .pointer (some ⟨q, 0, none⟩)] (.panicking wrongP) w fun e u' w' =>
      e = .returned (.tuple #[]) ∧ u' = .panicking [{ v := .iface 195 (.agg #[]), recovered := true }] ∧ w'.heap[p]? = some (.cells #[Value.int IntKind.i64 0, Value.slice none 0 0] 60) ∧ w'.heap[q]? = some (.cells #[.int .i64 74] 38) ∧ Kept (fun k => k = p ∨ k = q) w w' := by
  refine callsD_of_wpS Tryz.func108 rfl fun c₀ cs hu => ?_
  have hpq : p ≠ q := fun e => by
    subst e
    rw [hp] at hq
    have := congrArg (fun o => match o with | some (Obj.cells _ t _) => t | _ => 0) hq
    simp at this
  obtain ⟨lc⟩ := cur
  match lc, hcs with
  | [v0, v1], _ =>
  have z0 : w.cell? ⟨p, 0, none⟩ = some v0 := cell_in hp
  have f0 : w.frozen? ⟨p, 0, none⟩ = false := frozen_in hp
  have z1 : w.cell? ⟨p, 1, none⟩ = some v1 := cell_in hp
  have f1 : w.frozen? ⟨p, 1, none⟩ = false := frozen_in hp
  have zq : w.cell? ⟨q, 0, none⟩ = some (.int .i64 n) := cell_in hq
  have fq : w.frozen? ⟨q, 0, none⟩ = false := frozen_in hq
  have lp := lt_in hp
  have lq := lt_in hq
  have HP := Lib.hid hp
  have HQ := Lib.hid hq
  clear hp hq
  apply wpS_seq
  apply wpS_region
  simp [wpOpsS, go_sem, recoverD, hu, wrongP, Tryz.ntmps108, Exit.thenS]
  have hT : (#[Value.pointer (some ⟨p, 0, none⟩), Value.pointer (some ⟨q, 0, none⟩)] ++ ((Array.replicate 16 undef).setIfInBounds 4 (Value.iface 195 (Value.agg #[]))).setIfInBounds 0 (Value.iface 195 (Value.agg #[])) : Array Value) = #[Value.pointer (some ⟨p, 0, none⟩), Value.pointer (some ⟨q, 0, none⟩), (Value.iface 195 (Value.agg #[])), undef, undef, undef, (Value.iface 195 (Value.agg #[])), undef, undef, undef, undef, undef, undef, undef, undef, undef, undef, undef] := rfl
  rw [hT]
  have hta : ∀ w, (Instr.typeAssert (Value.iface 195 (Value.agg #[])) 20 195 true).run Tryz.prog w = .ok (.tuple #[.agg #[], .bool true]) w := fun _ => by kernel_rfl
  refine wpS_of_wp ?_
  go_wp2
  have hW : ((w.setCell ⟨p, 0, none⟩ (Value.int IntKind.i64 0)).setCell ⟨p, 1, none⟩ (Value.slice none 0 0)) = puts w p 0 [Value.int IntKind.i64 0, Value.slice none 0 0] := rfl
  rw [hW]
  have h1 : (puts w p 0 [Value.int IntKind.i64 0, Value.slice none 0 0]).heap[p]? = some (.cells #[Value.int IntKind.i64 0, Value.slice none 0 0] 60) := puts_heap p _ [Value.int IntKind.i64 0, Value.slice none 0 0] w [] [v0, v1] HP.out rfl
  have k1 := puts_kept p [Value.int IntKind.i64 0, Value.slice none 0 0] w 0
  have h2 := (k1.block q lq (fun h => hpq h.symm)).trans HQ.out
  generalize puts w p 0 [Value.int IntKind.i64 0, Value.slice none 0 0] = w1 at h1 h2 k1 ⊢
  have h3 := heap_setCell_same (o := 0) h2 (.int .i64 74)
  have h4 : (w1.setCell ⟨q, 0, none⟩ (.int .i64 74)).heap[p]? = _ := ((Kept.setCell (F := (· = q)) _ ⟨q, 0, none⟩ (.int .i64 74) rfl).block p (lt_in h1) (fun h => hpq h)).trans h1
  have k4 : Kept (fun k => k = p ∨ k = q) w (w1.setCell ⟨q, 0, none⟩ (.int .i64 74)) := (k1.mono (fun _ _ h => .inl h)).st _ (.inl (.inr rfl))
  generalize w1.setCell ⟨q, 0, none⟩ (.int .i64 74) = w2 at h3 h4 k4 ⊢
  obtain ⟨k5, -, -⟩ := two_new w2 (Obj.cells #[] 195) (Obj.cells #[Value.int IntKind.i64 0, Value.slice none 0 0] 60)
  have y1 := (k5.block p (lt_in h4) (fun h => h)).trans h4
  have y2 := (k5.block q (lt_in h3) (fun h => h)).trans h3
  have yk := k4.trans (k5.mono (fun _ _ h => h.elim))
  generalize (w2.alloc (Obj.cells #[] 195)).alloc (Obj.cells #[Value.int IntKind.i64 0, Value.slice none 0 0] 60) = w3 at y1 y2 yk ⊢
  clear h1 h2 h3 h4 hT hta
  simp only [bodyPostS, results, Tryz.results108]
  simp
  exact ⟨y1, y2, yk⟩

set_option maxRecDepth 100000 in
set_option maxHeartbeats 1600000 in
/-- The deferred closure, in a frame that returns. -/
theorem catchInc_ok {w : World} (p q : Nat) :
    CallsD Tryz.prog 108 #[.pointer (some ⟨p, 0, none⟩), .pointer (some ⟨q, 0, none⟩)] .returning w fun e u' w' => e = .returned (.tuple #[]) ∧ u' = .returning ∧ w = w' := by
  refine callsD_of_wpS Tryz.func108 rfl fun c₀ cs hu => ?_
  apply wpS_seq
  apply wpS_region
  simp [wpOpsS, go_sem, recoverD, hu, Tryz.ntmps108, Exit.thenS]
  have hT : (#[Value.pointer (some ⟨p, 0, none⟩), Value.pointer (some ⟨q, 0, none⟩)] ++ ((Array.replicate 16 undef).setIfInBounds 4 Value.nilIface).setIfInBounds 0 Value.nilIface : Array Value) = #[Value.pointer (some ⟨p, 0, none⟩), Value.pointer (some ⟨q, 0, none⟩), Value.nilIface, undef, undef, undef, Value.nilIface, undef, undef, undef, undef, undef, undef, undef, undef, undef, undef, undef] := rfl
  rw [hT]
  refine wpS_of_wp ?_
  go_wp2
  simp only [bodyPostS, results, Tryz.results108]
  simp [hu]
  rw [← hu]

set_option maxRecDepth 100000 in
set_option maxHeartbeats 1600000 in
theorem readInc_c {w : World} {v : Value} {bs : List UInt8} {g : Option Nat} (hr : Reads w 1 v bs.length (bs.map bv) g) (hgl : ∀ k, g = some k → k < w.heap.size) (hm : bs.length ≤ 140737488351232) :
    Calls Tryz.prog 39 #[v, .func (.func 40) #[] #[]] w (Took IncT.Is pInc [Value.int IntKind.i64 0, Value.slice none 0 0] bs w) := by
  obtain ⟨a, cp, rfl, hc⟩ := hr.shape
  have hmf : ∀ (fn : Fn) (first cap : Array Value) (w : World), (Instr.makeFunc fn first cap).run Tryz.prog w = .ok (.func fn first cap) w := fun _ _ _ _ => rfl
  go_enter_defers Tryz.func39, Tryz.ntmps39
  go_wp2_with fail
  obtain ⟨K0, x1, x2⟩ := two_new w (Obj.cells #[Value.int IntKind.i64 0, Value.slice none 0 0] 60) (Obj.cells #[Value.int IntKind.i64 0] 38)
  have hs0 : ((w.alloc (Obj.cells #[Value.int IntKind.i64 0, Value.slice none 0 0] 60)).alloc (Obj.cells #[Value.int IntKind.i64 0] 38)).heap.size = w.heap.size + 1 + 1 := by simp
  generalize (w.alloc (Obj.cells #[Value.int IntKind.i64 0, Value.slice none 0 0] 60)).alloc (Obj.cells #[Value.int IntKind.i64 0] 38) = wz at K0 x1 x2 hs0 ⊢
  have x3 : (wz.alloc (Obj.cells #[Value.slice none 0 0, Value.slice a bs.length cp, Value.bool true] 137)).heap[wz.heap.size]? = some (Obj.cells #[Value.slice none 0 0, Value.slice a bs.length cp, Value.bool true] 137) := heap_alloc_new' _ _
  rw [hs0] at x3
  have y1 : (wz.alloc (Obj.cells #[Value.slice none 0 0, Value.slice a bs.length cp, Value.bool true] 137)).heap[w.heap.size]? = _ := (Below.heap_alloc _ _ _ (lt_in x1)).trans x1
  have y2 : (wz.alloc (Obj.cells #[Value.slice none 0 0, Value.slice a bs.length cp, Value.bool true] 137)).heap[w.heap.size + 1]? = _ := (Below.heap_alloc _ _ _ (lt_in x2)).trans x2
  have K1 := K0.al (Obj.cells #[Value.slice none 0 0, Value.slice a bs.length cp, Value.bool true] 137)
  generalize wz.alloc (Obj.cells #[Value.slice none 0 0, Value.slice a bs.length cp, Value.bool true] 137) = w0 at x3 y1 y2 K1 ⊢
  clear x1 x2 hs0
  have r0 := hr.kept K1 (fun _ _ h => h)
  have sK := K1.size
  have RD : Rd w0 (w.heap.size + 1 + 1) bs g := ⟨⟨_, x3, r0⟩, fun k hk => by have := hgl k hk; omega, hm⟩
  have BK : Blk w0 w.heap.size #[Value.int IntKind.i64 0, Value.slice none 0 0] 60 (w.heap.size + 1 + 1) g := ⟨y1, by omega, fun e => by have := hgl _ e; omega⟩
  refine (incG_c RD (fun k hk => by have := hgl k hk; omega) BK (o := 0) (by intro f hf; simp)).mono ?_
  rintro e w1 ⟨k1, ⟨hp, rfl, hwas⟩ | ⟨x, r1, cur1, cs, hp, rfl, H1, B1, P1, hx⟩⟩
  · obtain ⟨cur1, z1, hcs⟩ := hwas
    have z2 : w1.heap[w.heap.size + 1]? = _ := (k1.block _ (lt_in y2) (fun h => by omega)).trans y2
    have K2 := K1.thn k1 (fun i hi => .inr (by omega))
    clear x3 y1 y2 r0 RD BK
    refine leaves_cons (f := 108) (args := #[.pointer (some ⟨w.heap.size, 0, none⟩), .pointer (some ⟨w.heap.size + 1, 0, none⟩)]) (by simp) (by simp [go_sem]) ?_
    refine (catchInc_bad w.heap.size (w.heap.size + 1) z1 hcs z2).mono ?_
    rintro e u' w2 ⟨rfl, rfl, q1, q2, k2⟩
    have c0 : w2.cell? ⟨w.heap.size, 0, none⟩ = some (Value.int IntKind.i64 0) := cell_in q1
    have c1 : w2.cell? ⟨w.heap.size, 1, none⟩ = some (Value.slice none 0 0) := cell_in q1
    have cE : w2.cell? ⟨w.heap.size + 1, 0, none⟩ = some (.int .i64 74) := cell_in q2
    have K3 : Kept (fun _ => False) w w2 := K2.thn k2 (fun i hi => .inr (by omega))
    clear q1 q2
    simp [Leaves, settle, results, Tryz.results39, go_sem, c0, c1, cE]
    exact ⟨K3, .inr ⟨fun x h => (by rw [hp] at h; cases h), rfl⟩⟩
  have hx0 := hx
  obtain ⟨u0, rfl, -, l0⟩ := hx
  obtain ⟨au0, cu0, rfl, -⟩ := l0.shape
  obtain rfl : cur1 = #[Value.int IntKind.i64 x.epoch, Value.slice au0 x.changes.length cu0] := P1.full rfl
  obtain ⟨vi, h2, h3⟩ := H1.ex
  obtain ⟨ai, ci, rfl, -⟩ := h3.shape
  have z2 : w1.heap[w.heap.size + 1]? = _ := (k1.block _ (lt_in y2) (fun h => by omega)).trans y2
  have K2 := K1.thn k1 (fun i hi => .inr (by omega))
  have s1 := k1.size
  have d1 : w1.cell? ⟨w.heap.size + 1 + 1, 1, none⟩ = some (.slice ai r1.length ci) := cell_in h2
  have l1 := lt_in h2
  have z1 := B1.heap
  have xn : IncT.Is w1 (New w w1) _ x := IncT.stable _ _ _ _ _ _ hx0 (fun k hk => ⟨by have := hk.1; omega, hk.2⟩) (fun _ _ => rfl)
  have HX := Lib.hid xn
  have HP := Lib.hid hp
  clear x3 y1 y2 r0 RD BK hx0 xn h2 h3 H1 hp P1
  by_cases hr1 : r1 = []
  · subst hr1
    have c0 : w1.cell? ⟨w.heap.size, 0, none⟩ = some (Value.int IntKind.i64 x.epoch) := cell_in z1
    have g0 : w1.frozen? ⟨w.heap.size, 0, none⟩ = false := frozen_in z1
    have e0 := setCell_same' c0
    have c1 : w1.cell? ⟨w.heap.size, 1, none⟩ = some (Value.slice au0 x.changes.length cu0) := cell_in z1
    have g1 : w1.frozen? ⟨w.heap.size, 1, none⟩ = false := frozen_in z1
    have e1 := setCell_same' c1
    have cE : w1.cell? ⟨w.heap.size + 1, 0, none⟩ = some (.int .i64 0) := cell_in z2
    have gE : w1.frozen? ⟨w.heap.size + 1, 0, none⟩ = false := frozen_in z2
    have eE := setCell_same' cE
    have lz1 := lt_in z1
    have lz2 := lt_in z2
    simp only [List.length_nil] at d1
    clear z1 z2 B1
    go_wp2
    refine leaves_cons (f := 108) (args := #[.pointer (some ⟨w.heap.size, 0, none⟩), .pointer (some ⟨w.heap.size + 1, 0, none⟩)]) (by simp) (by simp [go_sem]) ?_
    refine (catchInc_ok w.heap.size (w.heap.size + 1)).mono ?_
    rintro e u' w2 ⟨rfl, rfl, rfl⟩
    simp [Leaves, settle, results, Tryz.results39, go_sem, c0, c1, cE]
    exact ⟨K2, .inl ⟨x, _, HP.out, rfl, HX.out⟩⟩
  · have hpos : (0 : Int) < (r1.length : Int) := by
      have := List.length_pos_iff.2 hr1
      omega
    go_wp2
    refine leaves_cons (f := 108) (args := #[.pointer (some ⟨w.heap.size, 0, none⟩), .pointer (some ⟨w.heap.size + 1, 0, none⟩)]) (by simp) (by simp [go_sem]) ?_
    refine (catchInc_bad w.heap.size (w.heap.size + 1) z1 rfl z2).mono ?_
    rintro e u' w2 ⟨rfl, rfl, q1, q2, k2⟩
    have c0 : w2.cell? ⟨w.heap.size, 0, none⟩ = some (Value.int IntKind.i64 0) := cell_in q1
    have c1 : w2.cell? ⟨w.heap.size, 1, none⟩ = some (Value.slice none 0 0) := cell_in q1
    have cE : w2.cell? ⟨w.heap.size + 1, 0, none⟩ = some (.int .i64 74) := cell_in q2
    have K3 : Kept (fun _ => False) w w2 := K2.thn k2 (fun i hi => .inr (by omega))
    clear q1 q2
    simp [Leaves, settle, results, Tryz.results39, go_sem, c0, c1, cE]
    exact ⟨K3, .inr ⟨fun x h => hr1 (by rw [HP.out] at h; simp at h; exact h.2), rfl⟩⟩

set_option maxRecDepth 100000 in
set_option maxHeartbeats 1600000 in
theorem decInc_c {w : World} {v : Value} {bs : List UInt8} {g : Option Nat} (hr : Reads w 1 v bs.length (bs.map bv) g) (hgl : ∀ k, g = some k → k < w.heap.size) (hm : bs.length ≤ 140737488351232) :
    Calls Tryz.prog 13 #[v] w (Took IncT.Is pInc [Value.int IntKind.i64 0, Value.slice none 0 0] bs w) := by
  have ka := Kept.alloc (fun _ => False) w (Obj.cells #[Value.int IntKind.i64 0, Value.slice none 0 0] 60)
  have hq : (w.alloc (Obj.cells #[Value.int IntKind.i64 0, Value.slice none 0 0] 60)).heap[w.heap.size]? = some (Obj.cells #[Value.int IntKind.i64 0, Value.slice none 0 0] 60) := heap_alloc_new' _ _
  have sz : (w.alloc (Obj.cells #[Value.int IntKind.i64 0, Value.slice none 0 0] 60)).heap.size = w.heap.size + 1 := by simp
  obtain ⟨a, cp, rfl, hc⟩ := hr.shape
  go_enter Tryz.func13, Tryz.ntmps13
  go_wp2_with fail
  generalize w.alloc (Obj.cells #[Value.int IntKind.i64 0, Value.slice none 0 0] 60) = w0 at ka hq sz ⊢
  refine (readInc_c (hr.kept ka (fun _ _ h => h)) (fun k hk => by have := hgl k hk; omega) hm).mono ?_
  rintro e w1 ⟨k1, ⟨x, cs, hp, rfl, hx⟩ | ⟨hp, rfl⟩⟩
  · have hx0 := hx
    obtain ⟨u0, rfl, -, l0⟩ := hx
    obtain ⟨au0, cu0, rfl, -⟩ := l0.shape
    have z1 := (k1.block _ (lt_in hq) (fun h => h)).trans hq
    have HX := Lib.hid hx0
    have HP := Lib.hid hp
    clear hx0 hp
    have c0 : w1.cell? ⟨w.heap.size, 0, none⟩ = some (Value.int IntKind.i64 0) := cell_in z1
    have g0 : w1.frozen? ⟨w.heap.size, 0, none⟩ = false := frozen_in z1
    have c1 : w1.cell? ⟨w.heap.size, 1, none⟩ = some (Value.slice none 0 0) := cell_in z1
    have g1 : w1.frozen? ⟨w.heap.size, 1, none⟩ = false := frozen_in z1
    have lz := lt_in z1
    have HZ := Lib.hid z1
    clear z1 hq
    go_wp2
    have hW : ((w1.setCell ⟨w.heap.size, 0, none⟩ (Value.int IntKind.i64 x.epoch)).setCell ⟨w.heap.size, 1, none⟩ (Value.slice au0 x.changes.length cu0)) = puts w1 w.heap.size 0 [Value.int IntKind.i64 x.epoch, Value.slice au0 x.changes.length cu0] := rfl
    rw [hW]
    have h1 : (puts w1 w.heap.size 0 [Value.int IntKind.i64 x.epoch, Value.slice au0 x.changes.length cu0]).heap[w.heap.size]? = some (.cells #[Value.int IntKind.i64 x.epoch, Value.slice au0 x.changes.length cu0] 60) := puts_heap _ _ [Value.int IntKind.i64 x.epoch, Value.slice au0 x.changes.length cu0] w1 [] [Value.int IntKind.i64 0, Value.slice none 0 0] HZ.out rfl
    have k2 := puts_kept w.heap.size [Value.int IntKind.i64 x.epoch, Value.slice au0 x.changes.length cu0] w1 0
    generalize puts w1 w.heap.size 0 [Value.int IntKind.i64 x.epoch, Value.slice au0 x.changes.length cu0] = w2 at h1 k2 ⊢
    have K3 : Kept (fun _ => False) w w2 := (ka.trans k1).thn k2 (fun i hi => .inr (by omega))
    have y0 : w2.cell? ⟨w.heap.size, 0, none⟩ = some (Value.int IntKind.i64 x.epoch) := cell_in h1
    have y1 : w2.cell? ⟨w.heap.size, 1, none⟩ = some (Value.slice au0 x.changes.length cu0) := cell_in h1
    refine bodyPost_ret (v := .tuple #[.agg #[Value.int IntKind.i64 x.epoch, Value.slice au0 x.changes.length cu0], .int .i64 0]) (by simp [results, Tryz.results13, go_sem, y0, y1]) rfl ?_
    have s2 := k2.size
    exact ⟨K3, .inl ⟨x, _, HP.out, rfl, IncT.stable _ _ _ _ _ _ HX.out (fun k hk => ⟨by have := hk.1; omega, by have := hk.2; omega⟩) (fun k hk => k2.block k hk.2 (fun e => by have := hk.1; omega))⟩⟩
  · have z1 := (k1.block _ (lt_in hq) (fun h => h)).trans hq
    have HP := Lib.hid hp
    clear hp
    have c0 : w1.cell? ⟨w.heap.size, 0, none⟩ = some (Value.int IntKind.i64 0) := cell_in z1
    have g0 : w1.frozen? ⟨w.heap.size, 0, none⟩ = false := frozen_in z1
    have c1 : w1.cell? ⟨w.heap.size, 1, none⟩ = some (Value.slice none 0 0) := cell_in z1
    have g1 : w1.frozen? ⟨w.heap.size, 1, none⟩ = false := frozen_in z1
    have lz := lt_in z1
    have HZ := Lib.hid z1
    clear z1 hq
    go_wp2
    have hW : ((w1.setCell ⟨w.heap.size, 0, none⟩ (Value.int IntKind.i64 0)).setCell ⟨w.heap.size, 1, none⟩ (Value.slice none 0 0)) = puts w1 w.heap.size 0 [Value.int IntKind.i64 0, Value.slice none 0 0] := rfl
    rw [hW]
    have h1 : (puts w1 w.heap.size 0 [Value.int IntKind.i64 0, Value.slice none 0 0]).heap[w.heap.size]? = some (.cells #[Value.int IntKind.i64 0, Value.slice none 0 0] 60) := puts_heap _ _ [Value.int IntKind.i64 0, Value.slice none 0 0] w1 [] [Value.int IntKind.i64 0, Value.slice none 0 0] HZ.out rfl
    have k2 := puts_kept w.heap.size [Value.int IntKind.i64 0, Value.slice none 0 0] w1 0
    generalize puts w1 w.heap.size 0 [Value.int IntKind.i64 0, Value.slice none 0 0] = w2 at h1 k2 ⊢
    have K3 : Kept (fun _ => False) w w2 := (ka.trans k1).thn k2 (fun i hi => .inr (by omega))
    have y0 : w2.cell? ⟨w.heap.size, 0, none⟩ = some (Value.int IntKind.i64 0) := cell_in h1
    have y1 : w2.cell? ⟨w.heap.size, 1, none⟩ = some (Value.slice none 0 0) := cell_in h1
    refine bodyPost_ret (v := .tuple #[.agg #[Value.int IntKind.i64 0, Value.slice none 0 0], .int .i64 74]) (by simp [results, Tryz.results13, go_sem, y0, y1]) rfl ?_
    exact ⟨K3, .inr ⟨HP.out, rfl⟩⟩

end Go.Proofs.YtanmfldgillodaaGreat
