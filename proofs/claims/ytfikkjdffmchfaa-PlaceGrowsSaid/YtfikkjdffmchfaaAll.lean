/- The contract of place.All for a map of one pool. -/
import Derived.Test.YtfikkjdffmchfaaPgNone
import Derived.Lib.MinMax
set_option linter.unusedSimpArgs false
set_option linter.unusedVariables false
namespace Go.Proofs.Ytfikkjdffmchfaa
open Go.RowKit

theorem insert1_c {w : World} (a : Option Addr) (c : Nat) (f : Value) :
    Calls Try.prog 27 #[.slice a 1 c, .int .i64 0, .int .i64 1, f] w fun e w' => e = .returned (.tuple #[]) ∧ w' = w := by
  go_enter Try.func27, Try.ntmps27
  go_wp2
  go_loopw [8] (fun i w' => i = .int .i64 1 ∧ w' = w) (fun _ _ => 0)
  case atStart => exact ⟨rfl, rfl⟩
  case round =>
    obtain ⟨rfl, rfl⟩ := hrel
    go_wp2
    exact bodyPost_end (v := .tuple #[]) (by simp [results, Try.results27]) rfl ⟨rfl, rfl⟩

theorem stable1_c {w : World} (a : Option Addr) (c : Nat) (f : Value) :
    Calls Try.prog 26 #[.slice a 1 c, .int .i64 1, f] w fun e w' => e = .returned (.tuple #[]) ∧ w' = w := by
  go_enter Try.func26, Try.ntmps26
  go_wp2
  go_loopw [7, 8] (fun i j w' => i = .int .i64 0 ∧ j = .int .i64 20 ∧ w' = w) (fun _ _ _ => 0)
  case atStart => exact ⟨rfl, rfl, rfl⟩
  case round =>
    obtain ⟨rfl, rfl, rfl⟩ := hrel
    go_wp2_with fail
    refine (insert1_c a c f).mono ?_
    rintro e w2 ⟨rfl, rfl⟩
    go_wp2
    go_loopw [6, 7, 8, 9] (fun x _ _ _ w' => x = .int .i64 20 ∧ w' = w2) (fun _ _ _ _ _ => 0)
    case atStart => exact ⟨rfl, rfl⟩
    case round =>
      obtain ⟨rfl, rfl⟩ := hrel
      go_wp2
      exact bodyPost_end (v := .tuple #[]) (by simp [results, Try.results26]) rfl ⟨rfl, rfl⟩

theorem sort1_c {w : World} (a : Option Addr) (c : Nat) (f : Value) (hc : 1 ≤ c) :
    Calls Try.prog 19 #[.slice a 1 c, f] w fun e w' => e = .returned (.tuple #[]) ∧ w' = w := by
  go_enter Try.func19, Try.ntmps19
  go_wp2_with fail
  refine (stable1_c a c f).mono ?_
  rintro e w2 ⟨rfl, rfl⟩
  go_wp2
  exact bodyPost_end (v := .tuple #[]) (by simp [results, Try.results19]) rfl ⟨rfl, rfl⟩

theorem info_pool : (Try.prog.info? 35).map (fun i => (i.zero, i.size, i.bytes)) = some (some (.agg #[.int .i64 0, .int .i64 0, .int .i64 0, .int .i64 0]), 4, 32) := by kernel_rfl
theorem info_pg : (Try.prog.info? 28).map (fun i => (i.zero, i.size, i.bytes)) = some (some (.agg #[.int .i64 0, .int .i64 0]), 2, 16) := by kernel_rfl

theorem info_all {P : Program} {t : TypeId} {z : Value} {n b : Nat} (h : (P.info? t).map (fun i => (i.zero, i.size, i.bytes)) = some (some z, n, b)) : ∃ i, P.info? t = some i ∧ i.zero = some z ∧ i.size = n ∧ i.bytes = b := by
  obtain ⟨i, h1, h2⟩ := Option.map_eq_some_iff.1 h
  simp at h2
  exact ⟨i, h1, h2.1, h2.2.1, h2.2.2⟩

theorem pool_one (p : PoolT) : ∀ u ∈ p.cells, u.oneCell' = true := by
  intro u hu
  simp [PoolT.cells] at hu
  rcases hu with rfl | rfl | rfl | rfl <;> rfl

theorem reads_alloc (w : World) (cs : Array Value) (t : TypeId) (n size : Nat) (h : cs.size = n * size) (hn : n ≤ maxLen) : Reads (w.alloc (.cells cs t)) size (.slice (some ⟨w.heap.size, 0, none⟩) n n) n cs.toList (some w.heap.size) :=
  ⟨by simpa using h, .inr ⟨w.heap.size, 0, n, rfl, rfl, Nat.le_refl _, hn, fun j hj => by rw [cell_in (heap_alloc_new' w _)]; simp⟩⟩

set_option maxRecDepth 100000 in
set_option maxHeartbeats 1000000 in
theorem all1_c {w : World} {vp : Value} {p : PoolT} {g : Option Nat} (hr : Reads w 4 vp 1 p.cells g) (ep lf : Int) (vo vb : Value) (ao : Option Addr) (no co : Nat) (ho : vo = .slice ao no co) (ab : Option Addr) (nb cb : Nat) (hb : vb = .slice ab nb cb) (q : Nat) (hq : p.pgs = q) (hq8 : q ≤ 8) :
    Calls Try.prog 15 #[.agg #[.int .i64 ep, vo, vp, vb, .int .i64 lf]] w fun e w' => (∃ a c, e = .returned (.slice a q c)) ∧ Kept (fun _ => False) w w' := by
  subst ho hb
  obtain ⟨i4, hi4, hz4, hs4, hb4⟩ := info_all info_pool
  obtain ⟨i2, hi2, hz2, hs2, hb2⟩ := info_all info_pg
  obtain ⟨ap, cp, rfl, hc⟩ := hr.shape
  go_enter Try.func15, Try.ntmps15
  go_wp2_with (first
    | (at_builtin; refine wpList_append_Own rfl _ _ 23 23 rfl 35 i4 _ 4 32 Try.underlying23 hi4 hz4 hs4 hb4 rfl rfl (Own.nil _ _ _) rfl (by exact Reads.src (hr.kept (Kept.alloc (fun _ => False) _ _) (fun _ _ h => h)) Try.underlying23 (pool_one p)) (by unfold maxLen; omega) (by omega) ?_; intro a1 k1 w1 g1 hown1 hk1 hg1; simp only [Nat.zero_add, List.nil_append] at hown1 ⊢))
  obtain ⟨_, _, he, hk1', -⟩ := hown1.shape
  simp only [Value.slice.injEq, true_and] at he
  obtain ⟨rfl, rfl⟩ := he
  have hrd : Reads w1 4 (.slice a1 1 k1) [p].length ([p].flatMap PoolT.cells) g1 := by simpa using hown1.reads
  obtain ⟨b, off, c, rfl, hv, hlc, c0, c1, c2, c3⟩ := hrd.pool (k := 0) (p := p) rfl
  simp only [List.length_cons, List.length_nil, Nat.zero_add, Value.slice.injEq, true_and, Nat.zero_mul, Nat.add_zero] at hv c0 c1 c2 c3
  obtain ⟨rfl, rfl⟩ := hv
  have K1 : Kept (fun _ => False) w w1 := (Kept.alloc _ _ _).trans (hk1.mono fun i _ e => by cases e)
  refine (sort1_c _ _ _ hk1').mono ?_
  rintro e w1 ⟨rfl, rfl⟩
  clear hk1 hg1 hrd hown1 hr hi4 hz4 hs4 hb4
  have HQ := Lib.hid hq
  clear hq
  go_wp2
  go_loopw [15, 4] (fun i o w' => (i = .int .i64 0 ∧ o = .slice none 0 0 ∧ w' = w1) ∨ (i = .int .i64 1 ∧ (∃ a c, o = .slice a q c) ∧ Kept (fun _ => False) w1 w')) (fun i _ _ => 1 - (intOf i).toNat)
  case atStart => exact .inl ⟨rfl, rfl, rfl⟩
  case round =>
    rcases hrel with ⟨rfl, rfl, rfl⟩ | ⟨rfl, ⟨a, c, rfl⟩, hkr⟩
    · rename World => wo
      go_wp2
      have x0 : (wo.alloc (Obj.cells #[Value.int IntKind.i64 p.id, Value.int IntKind.i64 p.size, Value.int IntKind.i64 p.min, Value.int IntKind.i64 p.pgs] 35)).heap[wo.heap.size]? = some (Obj.cells #[Value.int IntKind.i64 p.id, Value.int IntKind.i64 p.size, Value.int IntKind.i64 p.min, Value.int IntKind.i64 p.pgs] 35) := heap_alloc_new' _ _
      have K2 := Kept.alloc (fun _ => False) wo (Obj.cells #[Value.int IntKind.i64 p.id, Value.int IntKind.i64 p.size, Value.int IntKind.i64 p.min, Value.int IntKind.i64 p.pgs] 35)
      go_quiet (fail)
      have hmin : min (q : Int) 8 = q := by omega
      rw [HQ.out] at x0 K2 ⊢
      have x0' : ((wo.alloc (Obj.cells #[Value.int IntKind.i64 p.id, Value.int IntKind.i64 p.size, Value.int IntKind.i64 p.min, Value.int IntKind.i64 q] 35)).drewN nq).heap[wo.heap.size]? = some (Obj.cells #[Value.int IntKind.i64 p.id, Value.int IntKind.i64 p.size, Value.int IntKind.i64 p.min, Value.int IntKind.i64 q] 35) := x0
      have K2' : Kept (fun _ => False) wo ((wo.alloc (Obj.cells #[Value.int IntKind.i64 p.id, Value.int IntKind.i64 p.size, Value.int IntKind.i64 p.min, Value.int IntKind.i64 q] 35)).drewN nq) := K2.dN nq
      clear x0 K2
      go_wp2
      generalize (wo.alloc (Obj.cells #[Value.int IntKind.i64 p.id, Value.int IntKind.i64 p.size, Value.int IntKind.i64 p.min, Value.int IntKind.i64 q] 35)).drewN nq = w3 at x0' K2' ⊢
      clear c0 c1 c2 c3
      go_loopw [36, 4] (fun i o w' => ∃ (k : Nat) (l : List Value) (g' : Option Nat), k ≤ q ∧ i = .int .i64 k ∧ Own w' 28 2 o k l g' ∧ (∀ z, g' = some z → wo.heap.size < z) ∧ w'.heap[wo.heap.size]? = some (Obj.cells #[Value.int IntKind.i64 p.id, Value.int IntKind.i64 p.size, Value.int IntKind.i64 p.min, Value.int IntKind.i64 q] 35) ∧ Kept (fun _ => False) wo w') (fun i _ _ => q - (intOf i).toNat)
      case atStart => exact ⟨0, [], none, by omega, rfl, Own.nil _ _ _, (by rintro z ⟨⟩), x0', K2'⟩
      case round =>
        obtain ⟨k, l, g', hk, rfl, hown, hg, hp, hkk⟩ := hrel
        obtain ⟨a, c, rfl, hac, -⟩ := hown.shape
        by_cases hkq : k < q
        · have z0 : wr.cell? ⟨wo.heap.size, 0, none⟩ = some (.int .i64 p.id) := cell_in hp
          have hlp := lt_in hp
          have HP := Lib.hid hp
          clear hp x0'
          go_wp2_with (at_builtin; refine wpList_append_Own rfl _ _ 45 45 rfl 28 i2 _ 2 16 Try.underlying45 hi2 hz2 hs2 hb2 rfl rfl (by exact hown.kept (Kept.alloc (fun _ => False) _ _) (fun _ _ h => h)) rfl (by exact Reads.src (reads_alloc wr #[.int .i64 p.id, .int .i64 k] 28 1 2 rfl (by decide)) Try.underlying45 (by simp [Value.oneCell'])) (by unfold maxLen; omega) (by omega) ?_; intro a1 k1 w1 g1 hown1 hk1 hg1)
          have ha : (wr.alloc (Obj.cells #[Value.int IntKind.i64 p.id, Value.int IntKind.i64 k] 28)).heap.size = wr.heap.size + 1 := by simp
          have hal := Kept.alloc (fun _ => False) wr (Obj.cells #[Value.int IntKind.i64 p.id, Value.int IntKind.i64 k] 28)
          refine ⟨⟨k + 1, _, g1, by omega, by simp, hown1, fun z hz => ?_, ?_, ?_⟩, ?_⟩
          · rcases hg1 z hz with h | h
            · exact hg z h
            · omega
          · refine (hk1.block _ (by omega) (fun h => ?_)).trans ((hal.block _ hlp (fun h => h)).trans HP.out)
            exact absurd (hg _ h) (by omega)
          · exact (hkk.trans hal).thn hk1 (fun i hi => .inr (by have := hg i hi; omega))
          · simp [intOf]; omega
        · obtain rfl : k = q := by omega
          go_wp2
          go_roundw
          case rel => exact .inr ⟨rfl, ⟨_, _, rfl⟩, hkk⟩
          case measure => simp [intOf]
    · go_wp2
      go_ret
      exact ⟨⟨_, _, rfl⟩, K1.trans hkr⟩

end Go.Proofs.Ytfikkjdffmchfaa
