/- Lists of texts: read and written. -/
import Derived.Test.YtanmfldgillodaaGreatRr2
import Derived.Test.YtanmfldgillodaaGreatCm2
set_option linter.unusedSimpArgs false
set_option linter.unusedVariables false
namespace Go.Proofs.YtanmfldgillodaaGreat
open Go.RowKit

/-- What a reader of all the bytes comes to: texts. -/
def TookL (bs : List UInt8) (w : World) (e : Ending) (w' : World) : Prop :=
  Kept (fun _ => False) w w' ∧ ((∃ x v, pL pT bs = some (x, []) ∧ e = .returned (.tuple #[v, .int .i64 0]) ∧ ListIs 1 textIs w' (New w w') v x) ∨ ((∀ x, pL pT bs ≠ some (x, [])) ∧ e = .returned (.tuple #[.slice none 0 0, .int .i64 74])))

set_option maxRecDepth 100000 in
theorem textsG_c {w : World} {c p o : Nat} {bs : List UInt8} {g : Option Nat} {cur : Array Value} {t : TypeId} (h : Rd w c bs g) (hgl : ∀ k, g = some k → k < w.heap.size) (hb : Blk w p cur t c g) (hz : cur[o]? = some (.slice none 0 0)) :
    Calls Tryz.prog 60 #[.pointer (some ⟨c, 0, none⟩), .pointer (some ⟨p, o, none⟩)] w (Got (sliceIs 1 textIs) (pL pT) bs w c p o g cur t) := by
  have hmf : ∀ (fn : Fn) (first cap : Array Value) (w : World), (Instr.makeFunc fn first cap).run Tryz.prog w = .ok (.func fn first cap) w := fun _ _ _ _ => rfl
  go_enter Tryz.func60, Tryz.ntmps60
  go_wp2_with fail
  refine (listtextG_c h hgl hb hz).mono ?_
  rintro e w1 ⟨k1, ⟨hp, rfl, hw⟩ | ⟨x, r, cur1, cs, hp, rfl, h1, h2, h3, h4⟩⟩
  · exact ⟨rfl, k1, .inl ⟨hp, rfl, hw⟩⟩
  have H := Lib.hid (show Got (sliceIs 1 textIs) (pL pT) bs w c p o g cur t (.returned (.tuple #[])) w1 from ⟨k1, .inr ⟨x, r, cur1, cs, hp, rfl, h1, h2, h3, h4⟩⟩)
  clear hp h1 h2 h3 h4
  go_wp2
  exact bodyPost_end (v := .tuple #[]) (by simp [results, Tryz.results60]) rfl H.out

set_option maxRecDepth 100000 in
theorem catchTs_bad {w : World} (p q : Nat) {cur : Array Value} {n : Int} (hp : w.heap[p]? = some (.cells cur 46)) (hcs : cur.size = 1) (hq : w.heap[q]? = some (.cells #[.int .i64 n] 38)) :
    CallsD Tryz.prog 136 #[.pointer (some ⟨p, 0, none⟩), .pointer (some ⟨q, 0, none⟩)] (.panicking wrongP) w fun e u' w' =>
      e = .returned (.tuple #[]) ∧ u' = .panicking [{ v := .iface 195 (.agg #[]), recovered := true }] ∧ w'.heap[p]? = some (.cells #[.slice none 0 0] 46) ∧ w'.heap[q]? = some (.cells #[.int .i64 74] 38) ∧ Kept (fun k => k = p ∨ k = q) w w' := by
  obtain ⟨lc⟩ := cur
  match lc, hcs with
  | [v], _ => exact catch_bad p q hp hq

set_option maxRecDepth 100000 in
set_option maxHeartbeats 1600000 in
/-- The deferred closure, in a frame that returns. -/
theorem catchTs_ok {w : World} (p q : Nat) :
    CallsD Tryz.prog 136 #[.pointer (some ⟨p, 0, none⟩), .pointer (some ⟨q, 0, none⟩)] .returning w fun e u' w' => e = .returned (.tuple #[]) ∧ u' = .returning ∧ w = w' := by
  refine callsD_of_wpS Tryz.func136 rfl fun c₀ cs hu => ?_
  apply wpS_seq
  apply wpS_region
  simp [wpOpsS, go_sem, recoverD, hu, Tryz.ntmps136, Exit.thenS]
  have hT : (#[Value.pointer (some ⟨p, 0, none⟩), Value.pointer (some ⟨q, 0, none⟩)] ++ ((Array.replicate 16 undef).setIfInBounds 4 Value.nilIface).setIfInBounds 0 Value.nilIface : Array Value) = #[Value.pointer (some ⟨p, 0, none⟩), Value.pointer (some ⟨q, 0, none⟩), Value.nilIface, undef, undef, undef, Value.nilIface, undef, undef, undef, undef, undef, undef, undef, undef, undef, undef, undef] := rfl
  rw [hT]
  refine wpS_of_wp ?_
  go_wp2
  simp only [bodyPostS, results, Tryz.results136]
  simp [hu]
  rw [← hu]

set_option maxRecDepth 100000 in
set_option maxHeartbeats 1600000 in
theorem readTs_c {w : World} {v : Value} {bs : List UInt8} {g : Option Nat} (hr : Reads w 1 v bs.length (bs.map bv) g) (hgl : ∀ k, g = some k → k < w.heap.size) (hm : bs.length ≤ 140737488351232) :
    Calls Tryz.prog 59 #[v, .func (.func 60) #[] #[]] w (TookL bs w) := by
  obtain ⟨a, cp, rfl, hc⟩ := hr.shape
  have hmf : ∀ (fn : Fn) (first cap : Array Value) (w : World), (Instr.makeFunc fn first cap).run Tryz.prog w = .ok (.func fn first cap) w := fun _ _ _ _ => rfl
  go_enter_defers Tryz.func59, Tryz.ntmps59
  go_wp2_with fail
  obtain ⟨K0, x1, x2⟩ := two_new w (Obj.cells #[Value.slice none 0 0] 46) (Obj.cells #[Value.int IntKind.i64 0] 38)
  have hs0 : ((w.alloc (Obj.cells #[Value.slice none 0 0] 46)).alloc (Obj.cells #[Value.int IntKind.i64 0] 38)).heap.size = w.heap.size + 1 + 1 := by simp
  generalize (w.alloc (Obj.cells #[Value.slice none 0 0] 46)).alloc (Obj.cells #[Value.int IntKind.i64 0] 38) = wz at K0 x1 x2 hs0 ⊢
  have x3 : (wz.alloc (Obj.cells #[Value.slice none 0 0, Value.slice a bs.length cp, Value.bool true] 137)).heap[wz.heap.size]? = some (Obj.cells #[Value.slice none 0 0, Value.slice a bs.length cp, Value.bool true] 137) := heap_alloc_new' _ _
  rw [hs0] at x3
  have y1 : (wz.alloc (Obj.cells #[Value.slice none 0 0, Value.slice a bs.length cp, Value.bool true] 137)).heap[w.heap.size]? = _ := (Below.heap_alloc _ _ _ (lt_in x1)).trans x1
  have y2 : (wz.alloc (Obj.cells #[Value.slice none 0 0, Value.slice a bs.length cp, Value.bool true] 137)).heap[w.heap.size + 1]? = _ := (Below.heap_alloc _ _ _ (lt_in x2)).trans x2
  have K1 := K0.al (Obj.cells #[Value.slice none 0 0, Value.slice a bs.length cp, Value.bool true] 137)
  generalize wz.alloc (Obj.cells #[Value.slice none 0 0, Value.slice a bs.length cp, Value.bool true] 137) = w0 at x3 y1 y2 K1 ⊢
  clear x1 x2 hs0
  have r0 := hr.kept K1 (fun _ _ h => h)
  have sK := K1.size
  have RD : Rd w0 (w.heap.size + 1 + 1) bs g := ⟨⟨_, x3, r0⟩, fun k hk => by have := hgl k hk; omega, hm⟩
  have BK : Blk w0 w.heap.size #[Value.slice none 0 0] 46 (w.heap.size + 1 + 1) g := ⟨y1, by omega, fun e => by have := hgl _ e; omega⟩
  refine (textsG_c RD (fun k hk => by have := hgl k hk; omega) BK (o := 0) rfl).mono ?_
  rintro e w1 ⟨k1, ⟨hp, rfl, hwas⟩ | ⟨x, r1, cur1, cs, hp, rfl, H1, B1, P1, hx⟩⟩
  · obtain ⟨cur1, z1, hcs⟩ := hwas
    have z2 : w1.heap[w.heap.size + 1]? = _ := (k1.block _ (lt_in y2) (fun h => by omega)).trans y2
    have K2 := K1.thn k1 (fun i hi => .inr (by omega))
    clear x3 y1 y2 r0 RD BK
    refine leaves_cons (f := 136) (args := #[.pointer (some ⟨w.heap.size, 0, none⟩), .pointer (some ⟨w.heap.size + 1, 0, none⟩)]) (by simp) (by simp [go_sem]) ?_
    refine (catchTs_bad w.heap.size (w.heap.size + 1) z1 hcs z2).mono ?_
    rintro e u' w2 ⟨rfl, rfl, q1, q2, k2⟩
    have c0 : w2.cell? ⟨w.heap.size, 0, none⟩ = some (Value.slice none 0 0) := cell_in q1
    have cE : w2.cell? ⟨w.heap.size + 1, 0, none⟩ = some (.int .i64 74) := cell_in q2
    have K3 : Kept (fun _ => False) w w2 := K2.thn k2 (fun i hi => .inr (by omega))
    clear q1 q2
    simp [Leaves, settle, results, Tryz.results59, go_sem, c0, cE]
    exact ⟨K3, .inr ⟨fun x h => (by rw [hp] at h; cases h), rfl⟩⟩
  have hx0 := hx
  obtain ⟨u0, rfl, l0⟩ := hx
  obtain ⟨au0, cu0, rfl, -⟩ := l0.shape
  obtain rfl : cur1 = #[Value.slice au0 x.length cu0] := P1.full rfl
  obtain ⟨vi, h2, h3⟩ := H1.ex
  obtain ⟨ai, ci, rfl, -⟩ := h3.shape
  have z2 : w1.heap[w.heap.size + 1]? = _ := (k1.block _ (lt_in y2) (fun h => by omega)).trans y2
  have K2 := K1.thn k1 (fun i hi => .inr (by omega))
  have s1 := k1.size
  have d1 : w1.cell? ⟨w.heap.size + 1 + 1, 1, none⟩ = some (.slice ai r1.length ci) := cell_in h2
  have l1 := lt_in h2
  have z1 := B1.heap
  have xn : (sliceIs 1 textIs) w1 (New w w1) [Value.slice au0 x.length cu0] x := by
    obtain ⟨v, hv, hl⟩ := hx0
    exact ⟨v, hv, hl.stable textIs_stable (fun k hk => ⟨by have := hk.1; omega, hk.2⟩) (fun _ _ => rfl)⟩
  have HX := Lib.hid xn
  have HP := Lib.hid hp
  clear x3 y1 y2 r0 RD BK hx0 xn h2 h3 H1 hp P1
  by_cases hr1 : r1 = []
  · subst hr1
    have c0 : w1.cell? ⟨w.heap.size, 0, none⟩ = some (Value.slice au0 x.length cu0) := cell_in z1
    have g0 : w1.frozen? ⟨w.heap.size, 0, none⟩ = false := frozen_in z1
    have e0 := setCell_same' c0
    have cE : w1.cell? ⟨w.heap.size + 1, 0, none⟩ = some (.int .i64 0) := cell_in z2
    have gE : w1.frozen? ⟨w.heap.size + 1, 0, none⟩ = false := frozen_in z2
    have eE := setCell_same' cE
    have lz1 := lt_in z1
    have lz2 := lt_in z2
    simp only [List.length_nil] at d1
    clear z1 z2 B1
    go_wp2
    refine leaves_cons (f := 136) (args := #[.pointer (some ⟨w.heap.size, 0, none⟩), .pointer (some ⟨w.heap.size + 1, 0, none⟩)]) (by simp) (by simp [go_sem]) ?_
    refine (catchTs_ok w.heap.size (w.heap.size + 1)).mono ?_
    rintro e u' w2 ⟨rfl, rfl, rfl⟩
    simp [Leaves, settle, results, Tryz.results59, go_sem, c0, cE]
    obtain ⟨v, hv, hl⟩ := HX.out
    simp only [List.cons.injEq, and_true] at hv
    exact ⟨K2, .inl ⟨x, _, HP.out, rfl, by rw [hv]; exact hl⟩⟩
  · have hpos : (0 : Int) < (r1.length : Int) := by
      have := List.length_pos_iff.2 hr1
      omega
    go_wp2
    refine leaves_cons (f := 136) (args := #[.pointer (some ⟨w.heap.size, 0, none⟩), .pointer (some ⟨w.heap.size + 1, 0, none⟩)]) (by simp) (by simp [go_sem]) ?_
    refine (catchTs_bad w.heap.size (w.heap.size + 1) z1 rfl z2).mono ?_
    rintro e u' w2 ⟨rfl, rfl, q1, q2, k2⟩
    have c0 : w2.cell? ⟨w.heap.size, 0, none⟩ = some (Value.slice none 0 0) := cell_in q1
    have cE : w2.cell? ⟨w.heap.size + 1, 0, none⟩ = some (.int .i64 74) := cell_in q2
    have K3 : Kept (fun _ => False) w w2 := K2.thn k2 (fun i hi => .inr (by omega))
    clear q1 q2
    simp [Leaves, settle, results, Tryz.results59, go_sem, c0, cE]
    exact ⟨K3, .inr ⟨fun x h => hr1 (by rw [HP.out] at h; simp at h; exact h.2), rfl⟩⟩

set_option maxRecDepth 100000 in
theorem decStrings_c {w : World} {v : Value} {bs : List UInt8} {g : Option Nat} (hr : Reads w 1 v bs.length (bs.map bv) g) (hgl : ∀ k, g = some k → k < w.heap.size) (hm : bs.length ≤ 140737488351232) :
    Calls Tryz.prog 29 #[v] w (TookL bs w) := by
  go_enter Tryz.func29, Tryz.ntmps29
  go_wp2_with fail
  refine (readTs_c hr hgl hm).mono ?_
  rintro e w1 ⟨k1, ⟨x, u, hp, rfl, l⟩ | ⟨hp, rfl⟩⟩
  · have H := Lib.hid (show TookL bs w (.returned (.tuple #[u, .int .i64 0])) w1 from ⟨k1, .inl ⟨x, u, hp, rfl, l⟩⟩)
    obtain ⟨a, c, rfl, -⟩ := l.shape
    clear hp l
    go_wp2
    go_ret2
    exact H.out
  · have H := Lib.hid (show TookL bs w (.returned (.tuple #[.slice none 0 0, .int .i64 74])) w1 from ⟨k1, .inr ⟨hp, rfl⟩⟩)
    clear hp
    go_wp2
    go_ret2
    exact H.out

/-- A list of texts as a slice. -/
theorem ListIs.readsT {w : World} {S : Nat → Prop} {v : Value} {ss : List ByteArray} (h : ListIs 1 textIs w S v ss) : ∃ g, Reads w 1 v ss.length (ss.map Value.string) g ∧ ∀ k, g = some k → S k := by
  obtain ⟨a, c, rfl, h1, h2, h3⟩ := h
  by_cases h0 : ss = []
  · subst h0
    exact ⟨none, ⟨by simp, .inl ⟨_, _, rfl, rfl⟩⟩, fun k hk => by cases hk⟩
  · have hp : 0 < ss.length := List.length_pos_iff.2 h0
    obtain ⟨b, off, cs, rfl, hb, -, -, -⟩ := h3 0 ss[0] (List.getElem?_eq_getElem hp)
    refine ⟨some b, ⟨by simp, .inr ⟨b, off, c, rfl, rfl, h1, h2, fun j hj => ?_⟩⟩, fun k hk => by cases hk; exact hb⟩
    rw [List.length_map] at hj
    obtain ⟨b', off', cs, he, -, hl, hc, hr⟩ := h3 j ss[j] (List.getElem?_eq_getElem hj)
    simp only [Option.some.injEq, Addr.mk.injEq, and_true] at he
    obtain ⟨rfl, rfl⟩ := he
    have := hc 0 (by omega)
    rw [Nat.mul_one, Nat.add_zero] at this
    rw [this, hr, List.getElem?_map, List.getElem?_eq_getElem hj]
    rfl

theorem drewN_add (w : World) (n m : Nat) : (w.drewN n).drewN m = w.drewN (n + m) := by
  simp only [World.drewN]
  congr 1
  omega

set_option maxRecDepth 100000 in
set_option maxHeartbeats 1600000 in
/-- The very same texts. -/
theorem textsSame_c {w : World} {v u : Value} {ss : List ByteArray} {gv gu : Option Nat} (h1 : Reads w 1 v ss.length (ss.map Value.string) gv) (h2 : Reads w 1 u ss.length (ss.map Value.string) gu) (hs : ss.length ≤ 9223372036854775807) :
    Calls Tryz.prog 31 #[v, u] w fun e w' => e = .returned (.bool true) ∧ ∃ n, w' = w.drewN n := by
  obtain ⟨a, c, rfl, hc⟩ := h1.shape
  obtain ⟨a', c', rfl, hc'⟩ := h2.shape
  go_enter Tryz.func31, Tryz.ntmps31
  go_wp2
  go_loopw [13] (fun i w' => ∃ k : Nat, k ≤ ss.length ∧ i = .int .i64 k ∧ ∃ n, w' = w.drewN n) (fun i _ => ss.length - (intOf i).toNat)
  case atStart => exact ⟨0, by omega, rfl, 0, rfl⟩
  case round =>
    obtain ⟨k, hk, rfl, n, rfl⟩ := hrel
    by_cases hk2 : k < ss.length
    · have hki : (k : Int) < (ss.length : Int) := by omega
      have hk0 : (0 : Int) ≤ (k : Int) := by omega
      obtain ⟨b, off, rfl, rfl, hcell⟩ := h1.one hk2
      obtain ⟨b', off', rfl, rfl, hcell'⟩ := h2.one hk2
      have y1 : (w.drewN n).cell? ⟨b, off + k, none⟩ = some (.string ss[k]) := hcell
      have y2 : (w.drewN n).cell? ⟨b', off' + k, none⟩ = some (.string ss[k]) := hcell'
      generalize hW : w.drewN n = W at y1 y2 ⊢
      go_wp2
      go_quiet (fail)
      go_wp2
      refine ⟨⟨k + 1, by omega, by simp, n + nq, ?_⟩, by simp [intOf]; omega⟩
      rw [← hW]
      exact drewN_add w n nq
    · obtain rfl : k = ss.length := by omega
      go_wp2
      go_ret
      exact ⟨rfl, n, rfl⟩

theorem flat_encTs (ss : List ByteArray) : encTs ss = ss.flatMap encT := rfl

end Go.Proofs.YtanmfldgillodaaGreat
