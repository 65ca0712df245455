/- The contracts of the program's reader of messages, of any bytes. -/
import Derived.Test.YtanmfldgillodaaGreatRg3
import Derived.Test.YtanmfldgillodaaGreatRr2
import Derived.Test.YtanmfldgillodaaGreatLdB
set_option linter.unusedSimpArgs false
set_option linter.unusedVariables false
namespace Go.Proofs.YtanmfldgillodaaGreat
open Go.RowKit

/-- The cells of a message of noughts. -/
def msgZ : List Value := [Value.int IntKind.i64 0, Value.int IntKind.i64 0, Value.int IntKind.i64 0, Value.int IntKind.i64 0, Value.int IntKind.i64 0, Value.int IntKind.i64 0, Value.int IntKind.i64 0, Value.int IntKind.i64 0, Value.int IntKind.i64 0, Value.int IntKind.i64 0, Value.int IntKind.i64 0, Value.int IntKind.i64 0, Value.slice none 0 0, Value.slice none 0 0, Value.slice none 0 0, Value.int IntKind.i64 0, Value.int IntKind.i64 0, Value.int IntKind.i64 0, Value.int IntKind.i64 0, Value.int IntKind.i64 0, Value.int IntKind.i64 0, Value.int IntKind.i64 0, Value.int IntKind.i64 0, Value.int IntKind.i64 0, Value.slice none 0 0, Value.slice none 0 0, Value.slice none 0 0, Value.int IntKind.i64 0, Value.int IntKind.i64 0, Value.bool false, Value.int IntKind.i64 0, Value.string ⟨#[]⟩, Value.int IntKind.i64 0, Value.int IntKind.i64 0, Value.string ⟨#[]⟩, Value.int IntKind.i64 0, Value.int IntKind.i64 0, Value.slice none 0 0, Value.int IntKind.i64 0, Value.string ⟨#[]⟩, Value.slice none 0 0, Value.int IntKind.i64 0, Value.int IntKind.i64 0, Value.slice none 0 0, Value.slice none 0 0, Value.int IntKind.i64 0]

theorem msgZ_size : msgZ.toArray.size = 46 := rfl
theorem msgZ_one : msgZ.toArray.toList.all (·.oneCell') = true := rfl

theorem msg_all : ∃ i, Tryz.prog.info? 48 = some i ∧ i.size = 46 ∧ i.zero = some (.agg msgZ.toArray) := by
  have h : (Tryz.prog.info? 48).map (fun i => (i.size, i.zero)) = some (46, some (.agg msgZ.toArray)) := by kernel_rfl
  cases hq : Tryz.prog.info? 48 with
  | none => simp [hq] at h
  | some i =>
    simp [hq] at h
    exact ⟨i, rfl, h.1, h.2⟩

theorem msgZero (w : World) : (zeroValue 48).run Tryz.prog w = .ok (.agg msgZ.toArray) w := by
  obtain ⟨i, h1, h2, h3⟩ := msg_all
  simp [zeroValue, typeInfo, h1, h3]

theorem MsgT.Is.one {w : World} {S : Nat → Prop} {cs : List Value} {x : MsgT} (hx : MsgT.Is w S cs x) : cs.toArray.toList.all (·.oneCell') = true := by
  obtain ⟨v0, v1, v2, v3, v4, v5, v6, v7, v8, v9, rfl, -, -, -, -, -, -, -, -, -, -, -, -, -, -, -, -, -, -, -, -, -, -, -, -, -, -, -, -, -, -, -, -, l0, l1, l2, l3, l4, l5, l6, l7, l8, l9⟩ := hx
  have sh0 := l0.shape
  have sh1 := l1.shape
  have sh2 := l2.shape
  have sh3 := l3.shape
  have sh4 := l4.shape
  have sh5 := l5.shape
  have sh6 := l6.shape
  have sh7 := l7.shape
  have sh8 := l8.shape
  have sh9 := l9.shape
  obtain ⟨a0, c0, eh0, qh0⟩ := sh0
  clear qh0
  obtain ⟨a1, c1, eh1, qh1⟩ := sh1
  clear qh1
  obtain ⟨a2, c2, eh2, qh2⟩ := sh2
  clear qh2
  obtain ⟨a3, c3, eh3, qh3⟩ := sh3
  clear qh3
  obtain ⟨a4, c4, eh4, qh4⟩ := sh4
  clear qh4
  obtain ⟨a5, c5, eh5, qh5⟩ := sh5
  clear qh5
  obtain ⟨a6, c6, eh6, qh6⟩ := sh6
  clear qh6
  obtain ⟨a7, c7, eh7, qh7⟩ := sh7
  clear qh7
  obtain ⟨a8, c8, eh8, qh8⟩ := sh8
  clear qh8
  obtain ⟨a9, c9, eh9, qh9⟩ := sh9
  clear qh9
  subst eh0 eh1 eh2 eh3 eh4 eh5 eh6 eh7 eh8 eh9
  rfl

theorem MsgT.Is.size {w : World} {S : Nat → Prop} {cs : List Value} {x : MsgT} (hx : MsgT.Is w S cs x) : cs.length = 46 := by
  obtain ⟨_, _, _, _, _, _, _, _, _, _, h, _⟩ := hx
  rw [h]
  rfl

theorem run_loadVar_msg {w : World} {b : Nat} {cs : Array Value} (hh : w.heap[b]? = some (.cells cs 48)) (hn : cs.size = 46) : (loadVar 48 ⟨b, 0, none⟩).run Tryz.prog w = .ok (.agg cs) w := by
  obtain ⟨i, h1, h2, h3⟩ := msg_all
  have h := run_load_block (P := Tryz.prog) hh (Tryz.isAgg48 _) h1 (h2.trans hn.symm)
  simpa [Instr.loadAt, Instr.sureAddr] using h

theorem run_loadVar_one {P : Program} {w : World} {b : Nat} {t : TypeId} {v : Value} (ha : (isAgg t).run P w = .ok false w) (hh : w.cell? ⟨b, 0, none⟩ = some v) : (loadVar t ⟨b, 0, none⟩).run P w = .ok v w := by
  simp [loadVar, ha, load, Sem.run, hh]

set_option maxRecDepth 100000 in
set_option maxHeartbeats 1600000 in
/-- The deferred closure, in a frame that panics so. -/
theorem catchMsg_bad {w : World} (p q : Nat) {cur : Array Value} {n : Int} (hp : w.heap[p]? = some (.cells cur 48)) (hcs : cur.size = 46) (hq : w.heap[q]? = some (.cells #[.int .i64 n] 38)) :
    CallsD Tryz.prog 93 #[.pointer (some ⟨p, 0, none⟩), .pointer (some ⟨q, 0, none⟩)] (.panicking wrongP) w fun e u' w' =>
      e = .returned (.tuple #[]) ∧ u' = .panicking [{ v := .iface 195 (.agg #[]), recovered := true }] ∧ w'.heap[p]? = some (.cells msgZ.toArray 48) ∧ w'.heap[q]? = some (.cells #[.int .i64 74] 38) ∧ Kept (fun k => k = p ∨ k = q) w w' := by
  refine callsD_of_wpS Tryz.func93 rfl fun c₀ cs hu => ?_
  have hpq : p ≠ q := fun e => by
    subst e
    rw [hp] at hq
    have := congrArg (fun o => match o with | some (Obj.cells _ t _) => t | _ => 0) hq
    simp at this
  obtain ⟨im, h1, h2, h3⟩ := msg_all
  have lp := lt_in hp
  have lq := lt_in hq
  have HP := Lib.hid hp
  have HQ := Lib.hid hq
  have H2 := Lib.hid h2
  have HC := Lib.hid hcs
  have H3 := Lib.hid h3
  clear hp hq h2 hcs h3
  apply wpS_seq
  apply wpS_region
  simp [wpOpsS, go_sem, recoverD, hu, wrongP, Tryz.ntmps93, Exit.thenS]
  have hT : (#[Value.pointer (some ⟨p, 0, none⟩), Value.pointer (some ⟨q, 0, none⟩)] ++ ((Array.replicate 16 undef).setIfInBounds 4 (Value.iface 195 (Value.agg #[]))).setIfInBounds 0 (Value.iface 195 (Value.agg #[])) : Array Value) = #[Value.pointer (some ⟨p, 0, none⟩), Value.pointer (some ⟨q, 0, none⟩), (Value.iface 195 (Value.agg #[])), undef, undef, undef, (Value.iface 195 (Value.agg #[])), undef, undef, undef, undef, undef, undef, undef, undef, undef, undef, undef] := rfl
  rw [hT]
  have hta : ∀ w, (Instr.typeAssert (Value.iface 195 (Value.agg #[])) 20 195 true).run Tryz.prog w = .ok (.tuple #[.agg #[], .bool true]) w := fun _ => by kernel_rfl
  refine wpS_of_wp ?_
  have hA : ((w.alloc (Obj.cells #[] 195)).alloc (Obj.cells msgZ.toArray 48)).heap[w.heap.size + 1]? = some (Obj.cells msgZ.toArray 48) := (two_new w _ _).2.2
  have kA := (two_new w (Obj.cells #[] 195) (Obj.cells msgZ.toArray 48)).1
  have hB := (kA.block p lp (fun h => h)).trans HP.out
  have hQA := (kA.block q lq (fun h => h)).trans HQ.out
  have HQA := Lib.hid hQA
  have HQL := Lib.hid (lt_in hQA)
  clear hQA
  have HA := Lib.hid hA
  have HKA := Lib.hid kA
  have HB := Lib.hid hB
  clear hA kA hB
  go_wp2_with (first | (refine wpList_alloc_block rfl 48 rfl (msgZero _) (w.heap.size + 1) (by simp) ?_) | (refine wpList_load_block rfl 48 _ rfl rfl HA.out (Tryz.isAgg48 _) h1 (H2.out.trans msgZ_size.symm) ?_) | (refine wpList_store_block rfl 48 _ _ rfl rfl rfl HB.out h1 (H2.out.trans msgZ_size.symm) (HC.out.trans msgZ_size.symm) msgZ_one ?_; intro w1 k1 b1 s1; have y1 := (k1.block q HQL.out (fun h => hpq h.symm)).trans HQA.out; have zq : w1.cell? ⟨q, 0, none⟩ = some (.int .i64 n) := cell_in y1; have fq : w1.frozen? ⟨q, 0, none⟩ = false := frozen_in y1; have l1 := lt_in y1; have Y1 := Lib.hid y1; have B1 := Lib.hid b1; have K1 := Lib.hid k1; clear y1 b1 k1 s1))
  have h3 := heap_setCell_same (o := 0) Y1.out (.int .i64 74)
  have K2 : Kept (fun k => k = p ∨ k = q) w w1 := (HKA.out.mono (G := fun k => k = p ∨ k = q) (fun _ _ h => h.elim)).thn K1.out (fun i hi => .inl (.inl hi))
  have h4 : (w1.setCell ⟨q, 0, none⟩ (.int .i64 74)).heap[p]? = _ := ((Kept.setCell (F := (· = q)) _ ⟨q, 0, none⟩ (.int .i64 74) rfl).block p (lt_in B1.out) (fun h => hpq h)).trans B1.out
  have k4 : Kept (fun k => k = p ∨ k = q) w (w1.setCell ⟨q, 0, none⟩ (.int .i64 74)) := K2.st _ (.inl (.inr rfl))
  generalize w1.setCell ⟨q, 0, none⟩ (.int .i64 74) = w2 at h3 h4 k4 ⊢
  simp only [bodyPostS, results, Tryz.results93]
  simp
  exact ⟨h4, h3, k4⟩

set_option maxRecDepth 100000 in
set_option maxHeartbeats 1600000 in
/-- The deferred closure, in a frame that returns. -/
theorem catchMsg_ok {w : World} (p q : Nat) :
    CallsD Tryz.prog 93 #[.pointer (some ⟨p, 0, none⟩), .pointer (some ⟨q, 0, none⟩)] .returning w fun e u' w' => e = .returned (.tuple #[]) ∧ u' = .returning ∧ w = w' := by
  refine callsD_of_wpS Tryz.func93 rfl fun c₀ cs hu => ?_
  apply wpS_seq
  apply wpS_region
  simp [wpOpsS, go_sem, recoverD, hu, Tryz.ntmps93, Exit.thenS]
  have hT : (#[Value.pointer (some ⟨p, 0, none⟩), Value.pointer (some ⟨q, 0, none⟩)] ++ ((Array.replicate 16 undef).setIfInBounds 4 Value.nilIface).setIfInBounds 0 Value.nilIface : Array Value) = #[Value.pointer (some ⟨p, 0, none⟩), Value.pointer (some ⟨q, 0, none⟩), Value.nilIface, undef, undef, undef, Value.nilIface, undef, undef, undef, undef, undef, undef, undef, undef, undef, undef, undef] := rfl
  rw [hT]
  refine wpS_of_wp ?_
  go_wp2
  simp only [bodyPostS, results, Tryz.results93]
  simp [hu]
  rw [← hu]

set_option maxRecDepth 100000 in
set_option maxHeartbeats 1600000 in
theorem readMsg_c {w : World} {v : Value} {bs : List UInt8} {g : Option Nat} (hr : Reads w 1 v bs.length (bs.map bv) g) (hgl : ∀ k, g = some k → k < w.heap.size) (hm : bs.length ≤ 140737488351232) :
    Calls Tryz.prog 35 #[v, .func (.func 33) #[] #[]] w (Took MsgT.Is pMsg msgZ bs w) := by
  obtain ⟨a, cp, rfl, hc⟩ := hr.shape
  obtain ⟨im, h1, h2, -⟩ := msg_all
  have H2 := Lib.hid h2
  clear h2
  have hmf : ∀ (fn : Fn) (first cap : Array Value) (w : World), (Instr.makeFunc fn first cap).run Tryz.prog w = .ok (.func fn first cap) w := fun _ _ _ _ => rfl
  go_enter_defers Tryz.func35, Tryz.ntmps35
  go_wp2_with (first | (go_at_call 33; fail) | (refine wpList_alloc_block rfl 48 rfl (msgZero _) w.heap.size rfl ?_))
  obtain ⟨K0, x1, x2⟩ := two_new w (Obj.cells msgZ.toArray 48) (Obj.cells #[Value.int IntKind.i64 0] 38)
  have hs0 : ((w.alloc (Obj.cells msgZ.toArray 48)).alloc (Obj.cells #[Value.int IntKind.i64 0] 38)).heap.size = w.heap.size + 1 + 1 := by simp
  generalize (w.alloc (Obj.cells msgZ.toArray 48)).alloc (Obj.cells #[Value.int IntKind.i64 0] 38) = wz at K0 x1 x2 hs0 ⊢
  have x3 : (wz.alloc (Obj.cells #[Value.slice none 0 0, Value.slice a bs.length cp, Value.bool true] 137)).heap[wz.heap.size]? = some (Obj.cells #[Value.slice none 0 0, Value.slice a bs.length cp, Value.bool true] 137) := heap_alloc_new' _ _
  rw [hs0] at x3
  have y1 : (wz.alloc (Obj.cells #[Value.slice none 0 0, Value.slice a bs.length cp, Value.bool true] 137)).heap[w.heap.size]? = _ := (Below.heap_alloc _ _ _ (lt_in x1)).trans x1
  have y2 : (wz.alloc (Obj.cells #[Value.slice none 0 0, Value.slice a bs.length cp, Value.bool true] 137)).heap[w.heap.size + 1]? = _ := (Below.heap_alloc _ _ _ (lt_in x2)).trans x2
  have K1 := K0.al (Obj.cells #[Value.slice none 0 0, Value.slice a bs.length cp, Value.bool true] 137)
  generalize wz.alloc (Obj.cells #[Value.slice none 0 0, Value.slice a bs.length cp, Value.bool true] 137) = w0 at x3 y1 y2 K1 ⊢
  clear x1 x2 hs0
  have r0 := hr.kept K1 (fun _ _ h => h)
  have sK := K1.size
  have RD : Rd w0 (w.heap.size + 1 + 1) bs g := ⟨⟨_, x3, r0⟩, fun k hk => by have := hgl k hk; omega, hm⟩
  have BK : Blk w0 w.heap.size msgZ.toArray 48 (w.heap.size + 1 + 1) g := ⟨y1, by omega, fun e => by have := hgl _ e; omega⟩
  refine (msgG_c RD (fun k hk => by have := hgl k hk; omega) BK (o := 0) (by intro f hf; rw [Nat.zero_add, List.getElem?_toArray]; rfl)).mono ?_
  rintro e w1 ⟨k1, ⟨hp, rfl, hwas⟩ | ⟨x, r1, cur1, cs, hp, rfl, H1, B1, P1, hx⟩⟩
  · obtain ⟨cur1, z1, hcs⟩ := hwas
    have z2 : w1.heap[w.heap.size + 1]? = _ := (k1.block _ (lt_in y2) (fun h => by omega)).trans y2
    have K2 := K1.thn k1 (fun i hi => .inr (by omega))
    clear x3 y1 y2 r0 RD BK
    refine leaves_cons (f := 93) (args := #[.pointer (some ⟨w.heap.size, 0, none⟩), .pointer (some ⟨w.heap.size + 1, 0, none⟩)]) (by simp) (by simp [go_sem]) ?_
    refine (catchMsg_bad w.heap.size (w.heap.size + 1) z1 hcs z2).mono ?_
    rintro e u' w2 ⟨rfl, rfl, q1, q2, k2⟩
    have lM := run_loadVar_msg q1 msgZ_size
    have lE := run_loadVar_one (P := Tryz.prog) (Tryz.isAgg38 w2) (b := w.heap.size + 1) (v := .int .i64 74) (cell_in q2)
    have K3 : Kept (fun _ => False) w w2 := K2.thn k2 (fun i hi => .inr (by omega))
    clear q1 q2
    simp [Leaves, settle, results, Tryz.results35, lM, lE, asAddr]
    exact ⟨K3, .inr ⟨fun x h => (by rw [hp] at h; cases h), rfl⟩⟩
  have hx0 := hx
  have hsz := hx.size
  obtain rfl : cur1 = cs.toArray := P1.full (by rw [hsz]; rfl)
  obtain ⟨vi, h4, h3⟩ := H1.ex
  obtain ⟨ai, ci, rfl, -⟩ := h3.shape
  have z2 : w1.heap[w.heap.size + 1]? = _ := (k1.block _ (lt_in y2) (fun h => by omega)).trans y2
  have K2 := K1.thn k1 (fun i hi => .inr (by omega))
  have s1 := k1.size
  have d1 : w1.cell? ⟨w.heap.size + 1 + 1, 1, none⟩ = some (.slice ai r1.length ci) := cell_in h4
  have l1 := lt_in h4
  have z1 := B1.heap
  have xn : MsgT.Is w1 (New w w1) _ x := MsgT.stable _ _ _ _ _ _ hx0 (fun k hk => ⟨by have := hk.1; omega, hk.2⟩) (fun _ _ => rfl)
  have HX := Lib.hid xn
  have HP := Lib.hid hp
  have hsa : cs.toArray.size = 46 := by rw [List.size_toArray]; exact hsz
  have HSA := Lib.hid hsa
  have HSZ := Lib.hid hsz
  have HONE := Lib.hid hx.one
  clear x3 y1 y2 r0 RD BK hx0 xn h4 h3 H1 hp P1 hx hsz hsa
  by_cases hr1 : r1 = []
  · subst hr1
    have cE : w1.cell? ⟨w.heap.size + 1, 0, none⟩ = some (.int .i64 0) := cell_in z2
    have gE : w1.frozen? ⟨w.heap.size + 1, 0, none⟩ = false := frozen_in z2
    have eE := setCell_same' cE
    have lz1 := lt_in z1
    have lz2 := lt_in z2
    simp only [List.length_nil] at d1
    have HZ1 := Lib.hid z1
    have HZ2 := Lib.hid z2
    clear z1 z2 B1
    go_wp2_with (first | (refine wpList_load_block rfl 48 _ rfl rfl HZ1.out (Tryz.isAgg48 _) h1 (H2.out.trans HSA.out.symm) ?_) | (refine wpList_store_same rfl 48 _ _ rfl rfl rfl HZ1.out h1 (H2.out.trans HSA.out.symm) HONE.out ?_))
    refine leaves_cons (f := 93) (args := #[.pointer (some ⟨w.heap.size, 0, none⟩), .pointer (some ⟨w.heap.size + 1, 0, none⟩)]) (by simp) (by simp [go_sem]) ?_
    refine (catchMsg_ok w.heap.size (w.heap.size + 1)).mono ?_
    rintro e u' w2 ⟨rfl, rfl, rfl⟩
    have lM := run_loadVar_msg HZ1.out HSA.out
    have lE := run_loadVar_one (P := Tryz.prog) (Tryz.isAgg38 w1) (b := w.heap.size + 1) (v := .int .i64 0) (cell_in HZ2.out)
    simp [Leaves, settle, results, Tryz.results35, lM, lE, asAddr]
    exact ⟨K2, .inl ⟨x, _, HP.out, rfl, HX.out⟩⟩
  · have hpos : (0 : Int) < (r1.length : Int) := by
      have := List.length_pos_iff.2 hr1
      omega
    have HZ1 := Lib.hid z1
    have HZ2 := Lib.hid z2
    clear z1 z2 B1
    go_wp2
    refine leaves_cons (f := 93) (args := #[.pointer (some ⟨w.heap.size, 0, none⟩), .pointer (some ⟨w.heap.size + 1, 0, none⟩)]) (by simp) (by simp [go_sem]) ?_
    refine (catchMsg_bad w.heap.size (w.heap.size + 1) HZ1.out HSA.out HZ2.out).mono ?_
    rintro e u' w2 ⟨rfl, rfl, q1, q2, k2⟩
    have lM := run_loadVar_msg q1 msgZ_size
    have lE := run_loadVar_one (P := Tryz.prog) (Tryz.isAgg38 w2) (b := w.heap.size + 1) (v := .int .i64 74) (cell_in q2)
    have K3 : Kept (fun _ => False) w w2 := K2.thn k2 (fun i hi => .inr (by omega))
    clear q1 q2
    simp [Leaves, settle, results, Tryz.results35, lM, lE, asAddr]
    exact ⟨K3, .inr ⟨fun x h => hr1 (by rw [HP.out] at h; simp at h; exact h.2), rfl⟩⟩

set_option maxRecDepth 100000 in
set_option maxHeartbeats 1600000 in
theorem decMsg_c {w : World} {v : Value} {bs : List UInt8} {g : Option Nat} (hr : Reads w 1 v bs.length (bs.map bv) g) (hgl : ∀ k, g = some k → k < w.heap.size) (hm : bs.length ≤ 140737488351232) :
    Calls Tryz.prog 8 #[v] w (Took MsgT.Is pMsg msgZ bs w) := by
  have ka := Kept.alloc (fun _ => False) w (Obj.cells msgZ.toArray 48)
  have hq : (w.alloc (Obj.cells msgZ.toArray 48)).heap[w.heap.size]? = some (Obj.cells msgZ.toArray 48) := heap_alloc_new' _ _
  have sz : (w.alloc (Obj.cells msgZ.toArray 48)).heap.size = w.heap.size + 1 := by simp
  obtain ⟨a, cp, rfl, hc⟩ := hr.shape
  obtain ⟨im, h1, h2, -⟩ := msg_all
  have H2 := Lib.hid h2
  clear h2
  have HQ := Lib.hid hq
  clear hq
  go_enter Tryz.func8, Tryz.ntmps8
  go_wp2_with (refine wpList_alloc_block rfl 48 rfl (msgZero _) w.heap.size rfl ?_)
  have hq := HQ.out
  clear HQ
  generalize w.alloc (Obj.cells msgZ.toArray 48) = w0 at ka hq sz ⊢
  refine (readMsg_c (hr.kept ka (fun _ _ h => h)) (fun k hk => by have := hgl k hk; omega) hm).mono ?_
  rintro e w1 ⟨k1, ⟨x, cs, hp, rfl, hx⟩ | ⟨hp, rfl⟩⟩
  · have z1 := (k1.block _ (lt_in hq) (fun h => h)).trans hq
    have hsa : cs.toArray.size = 46 := by rw [List.size_toArray]; exact hx.size
    have HSA := Lib.hid hsa
    have HONE := Lib.hid hx.one
    have HX := Lib.hid hx
    have HP := Lib.hid hp
    have HZ := Lib.hid z1
    have lz := lt_in z1
    clear hx hp hsa z1 hq
    go_wp2_with (refine wpList_store_block rfl 48 _ _ rfl rfl rfl HZ.out h1 (H2.out.trans HSA.out.symm) (msgZ_size.trans HSA.out.symm) HONE.out ?_; intro w2 k2 b2 s2; have HB2 := Lib.hid b2; clear b2)
    have K3 : Kept (fun _ => False) w w2 := (ka.trans k1).thn k2 (fun i hi => .inr (by omega))
    have lM := run_loadVar_msg HB2.out HSA.out
    refine bodyPost_ret (v := .tuple #[.agg cs.toArray, .int .i64 0]) (by simp [results, Tryz.results8, lM, asAddr]) rfl ?_
    exact ⟨K3, .inl ⟨x, _, HP.out, rfl, MsgT.stable _ _ _ _ _ _ HX.out (fun k hk => ⟨by have := hk.1; omega, by have := hk.2; omega⟩) (fun k hk => k2.block k hk.2 (fun e => by have := hk.1; omega))⟩⟩
  · have z1 := (k1.block _ (lt_in hq) (fun h => h)).trans hq
    have HP := Lib.hid hp
    have HZ := Lib.hid z1
    have lz := lt_in z1
    clear hp z1 hq
    go_wp2_with (refine wpList_store_same rfl 48 _ _ rfl rfl rfl HZ.out h1 (H2.out.trans msgZ_size.symm) msgZ_one ?_)
    have lM := run_loadVar_msg HZ.out msgZ_size
    refine bodyPost_ret (v := .tuple #[.agg msgZ.toArray, .int .i64 74]) (by simp [results, Tryz.results8, lM, asAddr]) rfl ?_
    exact ⟨ka.trans k1, .inr ⟨HP.out, rfl⟩⟩

end Go.Proofs.YtanmfldgillodaaGreat
