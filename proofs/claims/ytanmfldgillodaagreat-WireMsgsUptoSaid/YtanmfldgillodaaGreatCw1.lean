/- The contracts of the codec's writers of the structs of a map. -/
import Derived.Test.YtanmfldgillodaaGreatCw0
set_option linter.unusedSimpArgs false
set_option linter.unusedVariables false
namespace Go.Proofs.YtanmfldgillodaaGreat
open Go.RowKit

theorem Wrote.start {w : World} {c : Nat} {out : List UInt8} {g : Option Nat} (h : Writes w c out g) : Wrote w w c out g [] := ⟨g, by simpa using h, Kept.refl _ _, fun k hk => .inl hk⟩

/-- Where a writer stands. -/
structure Cod (w w' : World) (c : Nat) (out : List UInt8) (g : Option Nat) (more L : List UInt8) (g' : Option Nat) : Prop where
  writes : Writes w' c L g'
  eq : L = out ++ more
  kept : Kept (fun k => k = c ∨ g = some k) w w'
  new : ∀ k, g' = some k → g = some k ∨ w.heap.size ≤ k

theorem Cod.start {w : World} {c : Nat} {out : List UInt8} {g : Option Nat} (h : Writes w c out g) : Cod w w c out g [] out g := ⟨h, by simp, Kept.refl _ _, fun k hk => .inl hk⟩
theorem Writes.al {w : World} {c : Nat} {out : List UInt8} {g : Option Nat} (h : Writes w c out g) (o : Obj) : Writes (w.alloc o) c out g := h.kept (Kept.alloc (fun _ => False) _ _) (fun h => h) (fun _ _ h => h)
theorem Writes.dN {w : World} {c : Nat} {out : List UInt8} {g : Option Nat} (h : Writes w c out g) (n : Nat) : Writes (w.drewN n) c out g := h.kept (Kept.drewN (fun _ => False) _ _) (fun h => h) (fun _ _ h => h)
theorem Cod.alloc {w w' : World} {c : Nat} {out more L : List UInt8} {g g' : Option Nat} (h : Cod w w' c out g more L g') (o : Obj) : Cod w (w'.alloc o) c out g more L g' := ⟨h.writes.al o, h.eq, h.kept.al o, h.new⟩
theorem Cod.dN {w w' : World} {c : Nat} {out more L : List UInt8} {g g' : Option Nat} (h : Cod w w' c out g more L g') (n : Nat) : Cod w (w'.drewN n) c out g more L g' := ⟨h.writes.dN n, h.eq, h.kept.dN n, h.new⟩
theorem Cod.then {w w1 w2 : World} {c : Nat} {out m1 m2 L1 : List UInt8} {g g1 : Option Nat} (h : Cod w w1 c out g m1 L1 g1) (h2 : Wrote w1 w2 c L1 g1 m2) : ∃ L2 g2, Cod w w2 c out g (m1 ++ m2) L2 g2 := by
  rw [h.eq] at h2
  obtain ⟨g2, o2, k2, hg2⟩ := Wrote.more h.kept h.new h2
  exact ⟨_, g2, o2, rfl, k2, hg2⟩
theorem Cod.cast {w w' : World} {c : Nat} {out more more' L : List UInt8} {g g' : Option Nat} (h : Cod w w' c out g more L g') (e : more = more') : Cod w w' c out g more' L g' := by rw [← e]; exact h
theorem Cod.done {w w' : World} {c : Nat} {out more L : List UInt8} {g g' : Option Nat} (h : Cod w w' c out g more L g') : Wrote w w' c out g more := ⟨g', by rw [← h.eq]; exact h.writes, h.kept, h.new⟩
theorem Cod.len {w w' : World} {c : Nat} {out more L : List UInt8} {g g' : Option Nat} (h : Cod w w' c out g more L g') : L.length = out.length + more.length := by rw [h.eq, List.length_append]
theorem Cod.data {w w' : World} {c : Nat} {out more L : List UInt8} {g g' : Option Nat} (h : Cod w w' c out g more L g') {S : Nat → Prop} (hS : ∀ k, S k → k < w.heap.size ∧ k ≠ c ∧ g ≠ some k) : ∀ k, S k → w'.heap[k]? = w.heap[k]? :=
  fun k hk => h.kept.block k (hS k hk).1 (fun e => by rcases e with e | e; exact (hS k hk).2.1 e; exact (hS k hk).2.2 e)
theorem Cod.sets {w w' : World} {c : Nat} {out more L : List UInt8} {g g' : Option Nat} (h : Cod w w' c out g more L g') {S : Nat → Prop} (hS : ∀ k, S k → k < w.heap.size ∧ k ≠ c ∧ g ≠ some k) : ∀ k, S k → k < w'.heap.size ∧ k ≠ c ∧ g' ≠ some k :=
  fun k hk => ⟨Nat.lt_of_lt_of_le (hS k hk).1 h.kept.size, (hS k hk).2.1, fun e => by rcases h.new k e with e | e; exact (hS k hk).2.2 e; exact absurd (hS k hk).1 (by omega)⟩
theorem Cod.var {w w' : World} {c p o : Nat} {out more L : List UInt8} {g g' : Option Nat} {cs : List Value} (h : Cod w w' c out g more L g') (hw : Writes w c out g) (hv : Var w p o cs) : Var w' p o cs := hv.wrote (more := []) hw h.kept
theorem var_new (w : World) (cs : Array Value) (t : TypeId) (h1 : t ≠ 137) (h2 : t ≠ 5) : Var (w.alloc (.cells cs t)) w.heap.size 0 cs.toList :=
  ⟨cs, t, heap_alloc_new' _ _, h1, h2, fun f hf => by simp⟩

set_option maxRecDepth 100000 in
set_option maxHeartbeats 1600000 in
theorem osdWrite_c {w : World} {c p o : Nat} {out : List UInt8} {g : Option Nat} (h : Writes w c out g) (x : OsdT) (hi : in64 x.weight ∧ in64 x.boot ∧ in64 x.upFrom ∧ in64 x.upThru) (hv : Var w p o [Value.bool x.ex, Value.bool x.up, Value.int IntKind.i64 x.weight, Value.int IntKind.i64 x.boot, Value.int IntKind.i64 x.upFrom, Value.int IntKind.i64 x.upThru]) (hm : out.length + x.enc.length ≤ 80000000000000) :
    Calls Tryz.prog 111 #[.pointer (some ⟨c, 0, none⟩), .pointer (some ⟨p, o, none⟩)] w fun e w' => e = .returned (.tuple #[]) ∧ Wrote w w' c out g x.enc := by
  have hmf : ∀ (fn : Fn) (first cap : Array Value) (w : World), (Instr.makeFunc fn first cap).run Tryz.prog w = .ok (.func fn first cap) w := fun _ _ _ _ => rfl
  obtain ⟨i0, i1, i2, i3⟩ := hi
  simp only [OsdT.enc, List.length_append, List.length_nil, encI_length, bB_length, leB_length] at hm
  simp only [OsdT.enc]
  have hlp := hv.lt
  have S0 := Cod.start h
  go_enter Tryz.func111, Tryz.ntmps111
  have hv0 : Var w p (o) [Value.bool x.ex] := (S0.var h hv).sub (i := 0) (by intro f hf; simp at hf; subst hf; simp)
  have lv0 := hv0.lt
  go_wp2_with fail
  refine (flagWrite_c S0.writes x.ex hv0 (by have := S0.len; simp only [List.length_append, List.length_nil, encI_length, bB_length, leB_length] at this; omega)).mono ?_
  rintro _ w1 ⟨rfl, hW1⟩
  obtain ⟨L1, g1, S1⟩ := S0.then hW1
  have hv1 : Var w1 p (o + 1) [Value.bool x.up] := (S1.var h hv).sub (i := 1) (by intro f hf; simp at hf; subst hf; simp)
  have lv1 := hv1.lt
  go_wp2_with fail
  refine (flagWrite_c S1.writes x.up hv1 (by have := S1.len; simp only [List.length_append, List.length_nil, encI_length, bB_length, leB_length] at this; omega)).mono ?_
  rintro _ w2 ⟨rfl, hW2⟩
  obtain ⟨L2, g2, S2⟩ := S1.then hW2
  have lv2 := (S2.var h hv).lt
  go_wp2
  refine wp_region_ord [1, 2, 3, 4, 5, 6, 7, 8, 9, 10, 11, 12] [0] [13, 14] (by kernel_rfl) (by kernel_rfl) (fun _ _ d _ _ h => by cases d <;> exact h) ?_
  simp only [sel, List.filterMap_cons, List.filterMap_nil, List.getElem?_cons_zero, List.getElem?_cons_succ]
  repeat (quiet_step (fail))
  refine wpQuiet_nil ?_
  refine wpIdle_step (fun K hK => ?_)
  go_simp
  refine hK _ ?_
  clear hK
  refine wpIdle_nil ?_
  rintro _ ⟨nr, rfl⟩
  have T2 := S2.dN nr
  generalize w2.drewN nr = y2 at T2 ⊢
  go_wp2_with fail
  have U2 := T2.alloc (Obj.cells #[Value.pointer (some ⟨p, o + 2, none⟩), Value.pointer (some ⟨p, o + 3, none⟩), Value.pointer (some ⟨p, o + 4, none⟩), Value.pointer (some ⟨p, o + 5, none⟩)] 140)
  have r2 := (own_alloc y2 [Value.pointer (some ⟨p, o + 2, none⟩), Value.pointer (some ⟨p, o + 3, none⟩), Value.pointer (some ⟨p, o + 4, none⟩), Value.pointer (some ⟨p, o + 5, none⟩)] 140 4 rfl (by decide)).reads
  generalize y2.alloc (Obj.cells #[Value.pointer (some ⟨p, o + 2, none⟩), Value.pointer (some ⟨p, o + 3, none⟩), Value.pointer (some ⟨p, o + 4, none⟩), Value.pointer (some ⟨p, o + 5, none⟩)] 140) = z2 at U2 r2 ⊢
  have hq2 : ∀ q ∈ ([⟨p, o + 2, x.weight⟩, ⟨p, o + 3, x.boot⟩, ⟨p, o + 4, x.upFrom⟩, ⟨p, o + 5, x.upThru⟩] : List Place), Var z2 q.p q.o [.int .i64 q.n] ∧ in64 q.n := by
    intro q hq
    simp only [List.mem_cons, List.not_mem_nil, or_false] at hq
    rcases hq with rfl | rfl | rfl | rfl
    · exact ⟨(U2.var h hv).sub (i := 2) (by intro f hf; simp at hf; subst hf; simp), i0⟩
    · exact ⟨(U2.var h hv).sub (i := 3) (by intro f hf; simp at hf; subst hf; simp), i1⟩
    · exact ⟨(U2.var h hv).sub (i := 4) (by intro f hf; simp at hf; subst hf; simp), i2⟩
    · exact ⟨(U2.var h hv).sub (i := 5) (by intro f hf; simp at hf; subst hf; simp), i3⟩
  have hyc2 : y2.heap.size ≠ c ∧ g2 ≠ some y2.heap.size := by
    obtain ⟨vo, h1, h2⟩ := T2.writes.ex
    exact ⟨Nat.ne_of_gt (lt_in h1), fun e => absurd (h2.lt _ e) (by omega)⟩
  refine (numsWrite_c (ps := [⟨p, o + 2, x.weight⟩, ⟨p, o + 3, x.boot⟩, ⟨p, o + 4, x.upFrom⟩, ⟨p, o + 5, x.upThru⟩]) U2.writes (gp := some y2.heap.size) r2 (fun k hk => by cases hk; exact hyc2) hq2 (by simp) (by have := U2.len; simp only [List.length_append, List.length_nil, encI_length, bB_length, leB_length] at this; omega)).mono ?_
  rintro _ w3 ⟨rfl, hW3⟩
  obtain ⟨L3, g3, Q3⟩ := U2.then hW3
  have S3 := Q3.cast (more' := [] ++ bB x.ex ++ bB x.up ++ encI x.weight ++ encI x.boot ++ encI x.upFrom ++ encI x.upThru) (by simp [Place.enc])
  clear Q3
  go_wp2
  exact bodyPost_end (v := .tuple #[]) (by simp [results, Tryz.results111]) rfl ⟨rfl, S3.done⟩

set_option maxRecDepth 100000 in
set_option maxHeartbeats 1600000 in
theorem listOsdWrite_c {w : World} {c p o : Nat} {out : List UInt8} {g : Option Nat} (h : Writes w c out g) {S : Nat → Prop} (hS : ∀ k, S k → k < w.heap.size ∧ k ≠ c ∧ g ≠ some k) {v : Value} (xs : List OsdT) (hl : ListIs 6 OsdT.Is w S v xs) (hv : Var w p o [v]) (hm : out.length + (leB 4 xs.length ++ xs.flatMap OsdT.enc).length ≤ 80000000000000) :
    Calls Tryz.prog 110 #[.pointer (some ⟨c, 0, none⟩), .pointer (some ⟨p, o, none⟩), .func (.func 111) #[.pointer (some ⟨c, 0, none⟩)] #[]] w fun e w' => e = .returned (.tuple #[]) ∧ Wrote w w' c out g (leB 4 xs.length ++ xs.flatMap OsdT.enc) := by
  obtain ⟨a, cp, rfl, hc⟩ := hl.shape
  have hnl := hl.small
  have p0 : w.cell? ⟨p, o, none⟩ = some (.slice a xs.length cp) := hv.cell (f := 0) (by simp)
  have hlp := hv.lt
  simp only [List.length_append, leB_length] at hm
  go_enter Tryz.func110, Tryz.ntmps110
  go_wp2_with fail
  refine (countWrite_c h xs.length (by omega) (by omega)).mono ?_
  rintro e w1 ⟨rfl, hW1⟩
  obtain ⟨L1, g1, S1⟩ := (Cod.start h).then hW1
  have c2 : w1.cell? ⟨c, 2, none⟩ = some (.bool false) := by
    obtain ⟨vo, h1, -⟩ := S1.writes.ex
    exact cell_in h1
  have hl1 : c < w1.heap.size := by
    obtain ⟨vo, h1, -⟩ := S1.writes.ex
    exact lt_in h1
  clear p0
  go_wp2
  go_loopw [22] (fun i w' => ∃ (k : Nat) (L : List UInt8) (gL : Option Nat), k ≤ xs.length ∧ i = .int .i64 k ∧ Cod w w' c out g (leB 4 xs.length ++ (xs.take k).flatMap OsdT.enc) L gL) (fun i _ => xs.length - (intOf i).toNat)
  case atStart => exact ⟨0, L1, g1, by omega, rfl, S1.cast (by simp)⟩
  case round =>
    obtain ⟨k, L, gL, hk, rfl, SL⟩ := hrel
    by_cases hk2 : k < xs.length
    · have hki : (k : Int) < (xs.length : Int) := by omega
      have hd := SL.data hS
      obtain ⟨b, off, cs, rfl, hb, hcl, hcell, hr⟩ := (hl.heap (fun _ _ h => OsdT.Is.heap h) (fun _ h => h) hd).at hk2
      have hfl := flatMap_le OsdT.enc xs (k + 1)
      have hft := flatMap_take OsdT.enc xs k hk2
      rw [hft, List.length_append] at hfl
      obtain ⟨e, he⟩ : ∃ e, e = xs[k] := ⟨_, rfl⟩
      rw [← he] at hr hft hfl
      have HFT := Lib.hid hft
      clear hft he hcl
      have hvr := SL.var h hv
      have p0 : wr.cell? ⟨p, o, none⟩ = some (.slice (some ⟨b, off, none⟩) xs.length cp) := hvr.cell (f := 0) (by simp)
      have l2 := hvr.lt
      have hr0 := hr
      obtain ⟨rfl, -⟩ := hr
      have y0 : wr.cell? ⟨b, off + k * 6, none⟩ = some (Value.bool e.ex) := hcell 0 (by omega)
      have y1 : wr.cell? ⟨b, off + k * 6 + 1, none⟩ = some (Value.bool e.up) := hcell 1 (by omega)
      have y2 : wr.cell? ⟨b, off + k * 6 + 2, none⟩ = some (Value.int IntKind.i64 e.weight) := hcell 2 (by omega)
      have y3 : wr.cell? ⟨b, off + k * 6 + 3, none⟩ = some (Value.int IntKind.i64 e.boot) := hcell 3 (by omega)
      have y4 : wr.cell? ⟨b, off + k * 6 + 4, none⟩ = some (Value.int IntKind.i64 e.upFrom) := hcell 4 (by omega)
      have y5 : wr.cell? ⟨b, off + k * 6 + 5, none⟩ = some (Value.int IntKind.i64 e.upThru) := hcell 5 (by omega)
      go_wp2_with fail
      have SA := SL.alloc (Obj.cells #[Value.bool e.ex, Value.bool e.up, Value.int IntKind.i64 e.weight, Value.int IntKind.i64 e.boot, Value.int IntKind.i64 e.upFrom, Value.int IntKind.i64 e.upThru] 215)
      have vA := var_new wr #[Value.bool e.ex, Value.bool e.up, Value.int IntKind.i64 e.weight, Value.int IntKind.i64 e.boot, Value.int IntKind.i64 e.upFrom, Value.int IntKind.i64 e.upThru] 215 (by decide) (by decide)
      have hrA : OsdT.Is (wr.alloc (Obj.cells #[Value.bool e.ex, Value.bool e.up, Value.int IntKind.i64 e.weight, Value.int IntKind.i64 e.boot, Value.int IntKind.i64 e.upFrom, Value.int IntKind.i64 e.upThru] 215)) S _ e := OsdT.Is.heap hr0
      generalize wr.alloc (Obj.cells #[Value.bool e.ex, Value.bool e.up, Value.int IntKind.i64 e.weight, Value.int IntKind.i64 e.boot, Value.int IntKind.i64 e.upFrom, Value.int IntKind.i64 e.upThru] 215) = wa at SA hrA vA ⊢
      have hbnd := SA.len
      simp only [List.length_append, leB_length] at hbnd
      refine (osdWrite_c SA.writes e hrA.2 vA (by omega)).mono ?_
      rintro _ w9 ⟨rfl, hG⟩
      obtain ⟨L9, g9, S9⟩ := SA.then hG
      have HS9 := Lib.hid (S9.cast (more' := leB 4 xs.length ++ (xs.take (k + 1)).flatMap OsdT.enc) (by rw [HFT.out, List.append_assoc]))
      clear S9 hG
      go_wp2
      exact ⟨⟨k + 1, L9, g9, by omega, by simp, HS9.out⟩, by simp [intOf]; omega⟩
    · obtain rfl : k = xs.length := by omega
      go_wp2
      rw [List.take_length] at SL
      exact bodyPost_ret (v := .tuple #[]) (by simp [results, Tryz.results110]) rfl ⟨rfl, SL.done⟩

set_option maxRecDepth 100000 in
set_option maxHeartbeats 1600000 in
theorem poolWrite_c {w : World} {c p o : Nat} {out : List UInt8} {g : Option Nat} (h : Writes w c out g) (x : PoolT) (hi : in64 x.id ∧ in64 x.size ∧ in64 x.min ∧ in64 x.pgs) (hv : Var w p o [Value.int IntKind.i64 x.id, Value.int IntKind.i64 x.size, Value.int IntKind.i64 x.min, Value.int IntKind.i64 x.pgs]) (hm : out.length + x.enc.length ≤ 80000000000000) :
    Calls Tryz.prog 113 #[.pointer (some ⟨c, 0, none⟩), .pointer (some ⟨p, o, none⟩)] w fun e w' => e = .returned (.tuple #[]) ∧ Wrote w w' c out g x.enc := by
  have hmf : ∀ (fn : Fn) (first cap : Array Value) (w : World), (Instr.makeFunc fn first cap).run Tryz.prog w = .ok (.func fn first cap) w := fun _ _ _ _ => rfl
  obtain ⟨i0, i1, i2, i3⟩ := hi
  simp only [PoolT.enc, List.length_append, List.length_nil, encI_length, bB_length, leB_length] at hm
  simp only [PoolT.enc]
  have hlp := hv.lt
  have S0 := Cod.start h
  go_enter Tryz.func113, Tryz.ntmps113
  have lv0 := (S0.var h hv).lt
  go_wp2
  refine wp_region_ord [1, 2, 3, 4, 5, 6, 7, 8, 9, 10, 11, 12] [0] [13, 14] (by kernel_rfl) (by kernel_rfl) (fun _ _ d _ _ h => by cases d <;> exact h) ?_
  simp only [sel, List.filterMap_cons, List.filterMap_nil, List.getElem?_cons_zero, List.getElem?_cons_succ]
  repeat (quiet_step (fail))
  refine wpQuiet_nil ?_
  refine wpIdle_step (fun K hK => ?_)
  go_simp
  refine hK _ ?_
  clear hK
  refine wpIdle_nil ?_
  rintro _ ⟨nr, rfl⟩
  have T0 := S0.dN nr
  generalize w.drewN nr = y0 at T0 ⊢
  go_wp2_with fail
  have U0 := T0.alloc (Obj.cells #[Value.pointer (some ⟨p, o, none⟩), Value.pointer (some ⟨p, o + 1, none⟩), Value.pointer (some ⟨p, o + 2, none⟩), Value.pointer (some ⟨p, o + 3, none⟩)] 140)
  have r0 := (own_alloc y0 [Value.pointer (some ⟨p, o, none⟩), Value.pointer (some ⟨p, o + 1, none⟩), Value.pointer (some ⟨p, o + 2, none⟩), Value.pointer (some ⟨p, o + 3, none⟩)] 140 4 rfl (by decide)).reads
  generalize y0.alloc (Obj.cells #[Value.pointer (some ⟨p, o, none⟩), Value.pointer (some ⟨p, o + 1, none⟩), Value.pointer (some ⟨p, o + 2, none⟩), Value.pointer (some ⟨p, o + 3, none⟩)] 140) = z0 at U0 r0 ⊢
  have hq0 : ∀ q ∈ ([⟨p, o, x.id⟩, ⟨p, o + 1, x.size⟩, ⟨p, o + 2, x.min⟩, ⟨p, o + 3, x.pgs⟩] : List Place), Var z0 q.p q.o [.int .i64 q.n] ∧ in64 q.n := by
    intro q hq
    simp only [List.mem_cons, List.not_mem_nil, or_false] at hq
    rcases hq with rfl | rfl | rfl | rfl
    · exact ⟨(U0.var h hv).sub (i := 0) (by intro f hf; simp at hf; subst hf; simp), i0⟩
    · exact ⟨(U0.var h hv).sub (i := 1) (by intro f hf; simp at hf; subst hf; simp), i1⟩
    · exact ⟨(U0.var h hv).sub (i := 2) (by intro f hf; simp at hf; subst hf; simp), i2⟩
    · exact ⟨(U0.var h hv).sub (i := 3) (by intro f hf; simp at hf; subst hf; simp), i3⟩
  have hyc0 : y0.heap.size ≠ c ∧ g ≠ some y0.heap.size := by
    obtain ⟨vo, h1, h2⟩ := T0.writes.ex
    exact ⟨Nat.ne_of_gt (lt_in h1), fun e => absurd (h2.lt _ e) (by omega)⟩
  refine (numsWrite_c (ps := [⟨p, o, x.id⟩, ⟨p, o + 1, x.size⟩, ⟨p, o + 2, x.min⟩, ⟨p, o + 3, x.pgs⟩]) U0.writes (gp := some y0.heap.size) r0 (fun k hk => by cases hk; exact hyc0) hq0 (by simp) (by have := U0.len; simp only [List.length_append, List.length_nil, encI_length, bB_length, leB_length] at this; omega)).mono ?_
  rintro _ w1 ⟨rfl, hW1⟩
  obtain ⟨L1, g1, Q1⟩ := U0.then hW1
  have S1 := Q1.cast (more' := [] ++ encI x.id ++ encI x.size ++ encI x.min ++ encI x.pgs) (by simp [Place.enc])
  clear Q1
  go_wp2
  exact bodyPost_end (v := .tuple #[]) (by simp [results, Tryz.results113]) rfl ⟨rfl, S1.done⟩

set_option maxRecDepth 100000 in
set_option maxHeartbeats 1600000 in
theorem listPoolWrite_c {w : World} {c p o : Nat} {out : List UInt8} {g : Option Nat} (h : Writes w c out g) {S : Nat → Prop} (hS : ∀ k, S k → k < w.heap.size ∧ k ≠ c ∧ g ≠ some k) {v : Value} (xs : List PoolT) (hl : ListIs 4 PoolT.Is w S v xs) (hv : Var w p o [v]) (hm : out.length + (leB 4 xs.length ++ xs.flatMap PoolT.enc).length ≤ 80000000000000) :
    Calls Tryz.prog 112 #[.pointer (some ⟨c, 0, none⟩), .pointer (some ⟨p, o, none⟩), .func (.func 113) #[.pointer (some ⟨c, 0, none⟩)] #[]] w fun e w' => e = .returned (.tuple #[]) ∧ Wrote w w' c out g (leB 4 xs.length ++ xs.flatMap PoolT.enc) := by
  obtain ⟨a, cp, rfl, hc⟩ := hl.shape
  have hnl := hl.small
  have p0 : w.cell? ⟨p, o, none⟩ = some (.slice a xs.length cp) := hv.cell (f := 0) (by simp)
  have hlp := hv.lt
  simp only [List.length_append, leB_length] at hm
  go_enter Tryz.func112, Tryz.ntmps112
  go_wp2_with fail
  refine (countWrite_c h xs.length (by omega) (by omega)).mono ?_
  rintro e w1 ⟨rfl, hW1⟩
  obtain ⟨L1, g1, S1⟩ := (Cod.start h).then hW1
  have c2 : w1.cell? ⟨c, 2, none⟩ = some (.bool false) := by
    obtain ⟨vo, h1, -⟩ := S1.writes.ex
    exact cell_in h1
  have hl1 : c < w1.heap.size := by
    obtain ⟨vo, h1, -⟩ := S1.writes.ex
    exact lt_in h1
  clear p0
  go_wp2
  go_loopw [22] (fun i w' => ∃ (k : Nat) (L : List UInt8) (gL : Option Nat), k ≤ xs.length ∧ i = .int .i64 k ∧ Cod w w' c out g (leB 4 xs.length ++ (xs.take k).flatMap PoolT.enc) L gL) (fun i _ => xs.length - (intOf i).toNat)
  case atStart => exact ⟨0, L1, g1, by omega, rfl, S1.cast (by simp)⟩
  case round =>
    obtain ⟨k, L, gL, hk, rfl, SL⟩ := hrel
    by_cases hk2 : k < xs.length
    · have hki : (k : Int) < (xs.length : Int) := by omega
      have hd := SL.data hS
      obtain ⟨b, off, cs, rfl, hb, hcl, hcell, hr⟩ := (hl.heap (fun _ _ h => PoolT.Is.heap h) (fun _ h => h) hd).at hk2
      have hfl := flatMap_le PoolT.enc xs (k + 1)
      have hft := flatMap_take PoolT.enc xs k hk2
      rw [hft, List.length_append] at hfl
      obtain ⟨e, he⟩ : ∃ e, e = xs[k] := ⟨_, rfl⟩
      rw [← he] at hr hft hfl
      have HFT := Lib.hid hft
      clear hft he hcl
      have hvr := SL.var h hv
      have p0 : wr.cell? ⟨p, o, none⟩ = some (.slice (some ⟨b, off, none⟩) xs.length cp) := hvr.cell (f := 0) (by simp)
      have l2 := hvr.lt
      have hr0 := hr
      obtain ⟨rfl, -⟩ := hr
      have y0 : wr.cell? ⟨b, off + k * 4, none⟩ = some (Value.int IntKind.i64 e.id) := hcell 0 (by omega)
      have y1 : wr.cell? ⟨b, off + k * 4 + 1, none⟩ = some (Value.int IntKind.i64 e.size) := hcell 1 (by omega)
      have y2 : wr.cell? ⟨b, off + k * 4 + 2, none⟩ = some (Value.int IntKind.i64 e.min) := hcell 2 (by omega)
      have y3 : wr.cell? ⟨b, off + k * 4 + 3, none⟩ = some (Value.int IntKind.i64 e.pgs) := hcell 3 (by omega)
      go_wp2_with fail
      have SA := SL.alloc (Obj.cells #[Value.int IntKind.i64 e.id, Value.int IntKind.i64 e.size, Value.int IntKind.i64 e.min, Value.int IntKind.i64 e.pgs] 155)
      have vA := var_new wr #[Value.int IntKind.i64 e.id, Value.int IntKind.i64 e.size, Value.int IntKind.i64 e.min, Value.int IntKind.i64 e.pgs] 155 (by decide) (by decide)
      have hrA : PoolT.Is (wr.alloc (Obj.cells #[Value.int IntKind.i64 e.id, Value.int IntKind.i64 e.size, Value.int IntKind.i64 e.min, Value.int IntKind.i64 e.pgs] 155)) S _ e := PoolT.Is.heap hr0
      generalize wr.alloc (Obj.cells #[Value.int IntKind.i64 e.id, Value.int IntKind.i64 e.size, Value.int IntKind.i64 e.min, Value.int IntKind.i64 e.pgs] 155) = wa at SA hrA vA ⊢
      have hbnd := SA.len
      simp only [List.length_append, leB_length] at hbnd
      refine (poolWrite_c SA.writes e hrA.2 vA (by omega)).mono ?_
      rintro _ w9 ⟨rfl, hG⟩
      obtain ⟨L9, g9, S9⟩ := SA.then hG
      have HS9 := Lib.hid (S9.cast (more' := leB 4 xs.length ++ (xs.take (k + 1)).flatMap PoolT.enc) (by rw [HFT.out, List.append_assoc]))
      clear S9 hG
      go_wp2
      exact ⟨⟨k + 1, L9, g9, by omega, by simp, HS9.out⟩, by simp [intOf]; omega⟩
    · obtain rfl : k = xs.length := by omega
      go_wp2
      rw [List.take_length] at SL
      exact bodyPost_ret (v := .tuple #[]) (by simp [results, Tryz.results112]) rfl ⟨rfl, SL.done⟩

set_option maxRecDepth 100000 in
set_option maxHeartbeats 1600000 in
theorem listintWrite_c {w : World} {c p o : Nat} {out : List UInt8} {g : Option Nat} (h : Writes w c out g) {S : Nat → Prop} (hS : ∀ k, S k → k < w.heap.size ∧ k ≠ c ∧ g ≠ some k) {v : Value} (xs : List Int) (hl : ListIs 1 intIs w S v xs) (hv : Var w p o [v]) (hm : out.length + (leB 4 xs.length ++ xs.flatMap encI).length ≤ 80000000000000) :
    Calls Tryz.prog 150 #[.pointer (some ⟨c, 0, none⟩), .pointer (some ⟨p, o, none⟩), .func (.func 63) #[.pointer (some ⟨c, 0, none⟩)] #[]] w fun e w' => e = .returned (.tuple #[]) ∧ Wrote w w' c out g (leB 4 xs.length ++ xs.flatMap encI) := by
  obtain ⟨a, cp, rfl, hc⟩ := hl.shape
  have hnl := hl.small
  have p0 : w.cell? ⟨p, o, none⟩ = some (.slice a xs.length cp) := hv.cell (f := 0) (by simp)
  have hlp := hv.lt
  simp only [List.length_append, leB_length] at hm
  go_enter Tryz.func150, Tryz.ntmps150
  go_wp2_with fail
  refine (countWrite_c h xs.length (by omega) (by omega)).mono ?_
  rintro e w1 ⟨rfl, hW1⟩
  obtain ⟨L1, g1, S1⟩ := (Cod.start h).then hW1
  have c2 : w1.cell? ⟨c, 2, none⟩ = some (.bool false) := by
    obtain ⟨vo, h1, -⟩ := S1.writes.ex
    exact cell_in h1
  have hl1 : c < w1.heap.size := by
    obtain ⟨vo, h1, -⟩ := S1.writes.ex
    exact lt_in h1
  clear p0
  go_wp2
  go_loopw [22] (fun i w' => ∃ (k : Nat) (L : List UInt8) (gL : Option Nat), k ≤ xs.length ∧ i = .int .i64 k ∧ Cod w w' c out g (leB 4 xs.length ++ (xs.take k).flatMap encI) L gL) (fun i _ => xs.length - (intOf i).toNat)
  case atStart => exact ⟨0, L1, g1, by omega, rfl, S1.cast (by simp)⟩
  case round =>
    obtain ⟨k, L, gL, hk, rfl, SL⟩ := hrel
    by_cases hk2 : k < xs.length
    · have hki : (k : Int) < (xs.length : Int) := by omega
      have hd := SL.data hS
      obtain ⟨b, off, cs, rfl, hb, hcl, hcell, hr⟩ := (hl.heap (fun _ _ h => intIs.heap h) (fun _ h => h) hd).at hk2
      have hfl := flatMap_le encI xs (k + 1)
      have hft := flatMap_take encI xs k hk2
      rw [hft, List.length_append] at hfl
      obtain ⟨e, he⟩ : ∃ e, e = xs[k] := ⟨_, rfl⟩
      rw [← he] at hr hft hfl
      have HFT := Lib.hid hft
      clear hft he hcl
      have hvr := SL.var h hv
      have p0 : wr.cell? ⟨p, o, none⟩ = some (.slice (some ⟨b, off, none⟩) xs.length cp) := hvr.cell (f := 0) (by simp)
      have l2 := hvr.lt
      have hr0 := hr
      obtain ⟨rfl, hin⟩ := hr
      have y0 := hcell 0 (by omega)
      simp only [Nat.mul_one, Nat.add_zero, List.getElem?_cons_zero] at y0
      go_wp2_with fail
      have SA := SL.alloc (Obj.cells #[Value.int IntKind.i64 e] 3)
      have vA := var_new wr #[Value.int IntKind.i64 e] 3 (by decide) (by decide)
      generalize wr.alloc (Obj.cells #[Value.int IntKind.i64 e] 3) = wa at SA vA ⊢
      have hbnd := SA.len
      simp only [List.length_append, leB_length] at hbnd
      refine (numWrite_c SA.writes e hin vA (by omega)).mono ?_
      rintro _ w9 ⟨rfl, hG⟩
      obtain ⟨L9, g9, S9⟩ := SA.then hG
      have HS9 := Lib.hid (S9.cast (more' := leB 4 xs.length ++ (xs.take (k + 1)).flatMap encI) (by rw [HFT.out, List.append_assoc]))
      clear S9 hG
      go_wp2
      exact ⟨⟨k + 1, L9, g9, by omega, by simp, HS9.out⟩, by simp [intOf]; omega⟩
    · obtain rfl : k = xs.length := by omega
      go_wp2
      rw [List.take_length] at SL
      exact bodyPost_ret (v := .tuple #[]) (by simp [results, Tryz.results150]) rfl ⟨rfl, SL.done⟩

set_option maxRecDepth 100000 in
set_option maxHeartbeats 1600000 in
theorem bucketWrite_c {w : World} {c p o : Nat} {out : List UInt8} {g : Option Nat} (h : Writes w c out g) {S : Nat → Prop} (hS : ∀ k, S k → k < w.heap.size ∧ k ≠ c ∧ g ≠ some k) (x : BucketT) {cs : List Value} (hx : BucketT.Is w S cs x) (hv : Var w p o cs) (hm : out.length + x.enc.length ≤ 80000000000000) :
    Calls Tryz.prog 115 #[.pointer (some ⟨c, 0, none⟩), .pointer (some ⟨p, o, none⟩)] w fun e w' => e = .returned (.tuple #[]) ∧ Wrote w w' c out g x.enc := by
  have hmf : ∀ (fn : Fn) (first cap : Array Value) (w : World), (Instr.makeFunc fn first cap).run Tryz.prog w = .ok (.func fn first cap) w := fun _ _ _ _ => rfl
  obtain ⟨v_items, v_weights, rfl, i0, i1, l0, l1⟩ := hx
  simp only [BucketT.enc, List.length_append, List.length_nil, encI_length, bB_length, leB_length] at hm
  simp only [BucketT.enc]
  have hlp := hv.lt
  have S0 := Cod.start h
  go_enter Tryz.func115, Tryz.ntmps115
  have lv0 := (S0.var h hv).lt
  go_wp2
  refine wp_region_ord [1, 2, 3, 4, 5, 6] [0] [7, 8] (by kernel_rfl) (by kernel_rfl) (fun _ _ d _ _ h => by cases d <;> exact h) ?_
  simp only [sel, List.filterMap_cons, List.filterMap_nil, List.getElem?_cons_zero, List.getElem?_cons_succ]
  repeat (quiet_step (fail))
  refine wpQuiet_nil ?_
  refine wpIdle_step (fun K hK => ?_)
  go_simp
  refine hK _ ?_
  clear hK
  refine wpIdle_nil ?_
  rintro _ ⟨nr, rfl⟩
  have T0 := S0.dN nr
  generalize w.drewN nr = y0 at T0 ⊢
  go_wp2_with fail
  have U0 := T0.alloc (Obj.cells #[Value.pointer (some ⟨p, o, none⟩), Value.pointer (some ⟨p, o + 1, none⟩)] 140)
  have r0 := (own_alloc y0 [Value.pointer (some ⟨p, o, none⟩), Value.pointer (some ⟨p, o + 1, none⟩)] 140 2 rfl (by decide)).reads
  generalize y0.alloc (Obj.cells #[Value.pointer (some ⟨p, o, none⟩), Value.pointer (some ⟨p, o + 1, none⟩)] 140) = z0 at U0 r0 ⊢
  have hq0 : ∀ q ∈ ([⟨p, o, x.id⟩, ⟨p, o + 1, x.kind⟩] : List Place), Var z0 q.p q.o [.int .i64 q.n] ∧ in64 q.n := by
    intro q hq
    simp only [List.mem_cons, List.not_mem_nil, or_false] at hq
    rcases hq with rfl | rfl
    · exact ⟨(U0.var h hv).sub (i := 0) (by intro f hf; simp at hf; subst hf; simp), i0⟩
    · exact ⟨(U0.var h hv).sub (i := 1) (by intro f hf; simp at hf; subst hf; simp), i1⟩
  have hyc0 : y0.heap.size ≠ c ∧ g ≠ some y0.heap.size := by
    obtain ⟨vo, h1, h2⟩ := T0.writes.ex
    exact ⟨Nat.ne_of_gt (lt_in h1), fun e => absurd (h2.lt _ e) (by omega)⟩
  refine (numsWrite_c (ps := [⟨p, o, x.id⟩, ⟨p, o + 1, x.kind⟩]) U0.writes (gp := some y0.heap.size) r0 (fun k hk => by cases hk; exact hyc0) hq0 (by simp) (by have := U0.len; simp only [List.length_append, List.length_nil, encI_length, bB_length, leB_length] at this; omega)).mono ?_
  rintro _ w1 ⟨rfl, hW1⟩
  obtain ⟨L1, g1, Q1⟩ := U0.then hW1
  have S1 := Q1.cast (more' := [] ++ encI x.id ++ encI x.kind) (by simp [Place.enc])
  clear Q1
  have hv1 : Var w1 p (o + 2) [v_items] := (S1.var h hv).sub (i := 2) (by intro f hf; simp at hf; subst hf; simp)
  have lv1 := hv1.lt
  have hd1 := S1.data hS
  go_wp2_with fail
  refine (listintWrite_c S1.writes (S1.sets hS) x.items (l0.heap (fun _ _ h => intIs.heap h) (fun _ h => h) hd1) hv1 (by have := S1.len; simp only [List.length_append, List.length_nil, encI_length, bB_length, leB_length] at this ⊢; omega)).mono ?_
  rintro _ w2 ⟨rfl, hW2⟩
  obtain ⟨L2, g2, Q2⟩ := S1.then hW2
  have S2 := Q2.cast (more' := [] ++ encI x.id ++ encI x.kind ++ leB 4 x.items.length ++ x.items.flatMap encI) (by simp only [List.append_assoc])
  clear Q2
  have hv2 : Var w2 p (o + 3) [v_weights] := (S2.var h hv).sub (i := 3) (by intro f hf; simp at hf; subst hf; simp)
  have lv2 := hv2.lt
  have hd2 := S2.data hS
  go_wp2_with fail
  refine (listintWrite_c S2.writes (S2.sets hS) x.weights (l1.heap (fun _ _ h => intIs.heap h) (fun _ h => h) hd2) hv2 (by have := S2.len; simp only [List.length_append, List.length_nil, encI_length, bB_length, leB_length] at this ⊢; omega)).mono ?_
  rintro _ w3 ⟨rfl, hW3⟩
  obtain ⟨L3, g3, Q3⟩ := S2.then hW3
  have S3 := Q3.cast (more' := [] ++ encI x.id ++ encI x.kind ++ leB 4 x.items.length ++ x.items.flatMap encI ++ leB 4 x.weights.length ++ x.weights.flatMap encI) (by simp only [List.append_assoc])
  clear Q3
  go_wp2
  exact bodyPost_end (v := .tuple #[]) (by simp [results, Tryz.results115]) rfl ⟨rfl, S3.done⟩

set_option maxRecDepth 100000 in
set_option maxHeartbeats 1600000 in
theorem listBucketWrite_c {w : World} {c p o : Nat} {out : List UInt8} {g : Option Nat} (h : Writes w c out g) {S : Nat → Prop} (hS : ∀ k, S k → k < w.heap.size ∧ k ≠ c ∧ g ≠ some k) {v : Value} (xs : List BucketT) (hl : ListIs 4 BucketT.Is w S v xs) (hv : Var w p o [v]) (hm : out.length + (leB 4 xs.length ++ xs.flatMap BucketT.enc).length ≤ 80000000000000) :
    Calls Tryz.prog 114 #[.pointer (some ⟨c, 0, none⟩), .pointer (some ⟨p, o, none⟩), .func (.func 115) #[.pointer (some ⟨c, 0, none⟩)] #[]] w fun e w' => e = .returned (.tuple #[]) ∧ Wrote w w' c out g (leB 4 xs.length ++ xs.flatMap BucketT.enc) := by
  obtain ⟨a, cp, rfl, hc⟩ := hl.shape
  have hnl := hl.small
  have p0 : w.cell? ⟨p, o, none⟩ = some (.slice a xs.length cp) := hv.cell (f := 0) (by simp)
  have hlp := hv.lt
  simp only [List.length_append, leB_length] at hm
  go_enter Tryz.func114, Tryz.ntmps114
  go_wp2_with fail
  refine (countWrite_c h xs.length (by omega) (by omega)).mono ?_
  rintro e w1 ⟨rfl, hW1⟩
  obtain ⟨L1, g1, S1⟩ := (Cod.start h).then hW1
  have c2 : w1.cell? ⟨c, 2, none⟩ = some (.bool false) := by
    obtain ⟨vo, h1, -⟩ := S1.writes.ex
    exact cell_in h1
  have hl1 : c < w1.heap.size := by
    obtain ⟨vo, h1, -⟩ := S1.writes.ex
    exact lt_in h1
  clear p0
  go_wp2
  go_loopw [22] (fun i w' => ∃ (k : Nat) (L : List UInt8) (gL : Option Nat), k ≤ xs.length ∧ i = .int .i64 k ∧ Cod w w' c out g (leB 4 xs.length ++ (xs.take k).flatMap BucketT.enc) L gL) (fun i _ => xs.length - (intOf i).toNat)
  case atStart => exact ⟨0, L1, g1, by omega, rfl, S1.cast (by simp)⟩
  case round =>
    obtain ⟨k, L, gL, hk, rfl, SL⟩ := hrel
    by_cases hk2 : k < xs.length
    · have hki : (k : Int) < (xs.length : Int) := by omega
      have hd := SL.data hS
      obtain ⟨b, off, cs, rfl, hb, hcl, hcell, hr⟩ := (hl.heap (fun _ _ h => BucketT.Is.heap h (fun _ h => h) hd) (fun _ h => h) hd).at hk2
      have hfl := flatMap_le BucketT.enc xs (k + 1)
      have hft := flatMap_take BucketT.enc xs k hk2
      rw [hft, List.length_append] at hfl
      obtain ⟨e, he⟩ : ∃ e, e = xs[k] := ⟨_, rfl⟩
      rw [← he] at hr hft hfl
      have HFT := Lib.hid hft
      clear hft he hcl
      have hvr := SL.var h hv
      have p0 : wr.cell? ⟨p, o, none⟩ = some (.slice (some ⟨b, off, none⟩) xs.length cp) := hvr.cell (f := 0) (by simp)
      have l2 := hvr.lt
      have hr0 := hr
      obtain ⟨uv_items, uv_weights, rfl, -, -, m0, m1⟩ := hr
      obtain ⟨au0, cu0, rfl, -⟩ := m0.shape
      obtain ⟨au1, cu1, rfl, -⟩ := m1.shape
      have y0 : wr.cell? ⟨b, off + k * 4, none⟩ = some (Value.int IntKind.i64 e.id) := hcell 0 (by omega)
      have y1 : wr.cell? ⟨b, off + k * 4 + 1, none⟩ = some (Value.int IntKind.i64 e.kind) := hcell 1 (by omega)
      have y2 : wr.cell? ⟨b, off + k * 4 + 2, none⟩ = some (Value.slice au0 e.items.length cu0) := hcell 2 (by omega)
      have y3 : wr.cell? ⟨b, off + k * 4 + 3, none⟩ = some (Value.slice au1 e.weights.length cu1) := hcell 3 (by omega)
      go_wp2_with fail
      have SA := SL.alloc (Obj.cells #[Value.int IntKind.i64 e.id, Value.int IntKind.i64 e.kind, Value.slice au0 e.items.length cu0, Value.slice au1 e.weights.length cu1] 158)
      have vA := var_new wr #[Value.int IntKind.i64 e.id, Value.int IntKind.i64 e.kind, Value.slice au0 e.items.length cu0, Value.slice au1 e.weights.length cu1] 158 (by decide) (by decide)
      have hrA : BucketT.Is (wr.alloc (Obj.cells #[Value.int IntKind.i64 e.id, Value.int IntKind.i64 e.kind, Value.slice au0 e.items.length cu0, Value.slice au1 e.weights.length cu1] 158)) S _ e := BucketT.Is.heap hr0 (fun _ h => h) (fun k hk => Below.heap_alloc _ _ _ (SL.sets hS k hk).1)
      generalize wr.alloc (Obj.cells #[Value.int IntKind.i64 e.id, Value.int IntKind.i64 e.kind, Value.slice au0 e.items.length cu0, Value.slice au1 e.weights.length cu1] 158) = wa at SA hrA vA ⊢
      have hbnd := SA.len
      simp only [List.length_append, leB_length] at hbnd
      refine (bucketWrite_c SA.writes (SA.sets hS) e hrA vA (by omega)).mono ?_
      rintro _ w9 ⟨rfl, hG⟩
      obtain ⟨L9, g9, S9⟩ := SA.then hG
      have HS9 := Lib.hid (S9.cast (more' := leB 4 xs.length ++ (xs.take (k + 1)).flatMap BucketT.enc) (by rw [HFT.out, List.append_assoc]))
      clear S9 hG
      go_wp2
      exact ⟨⟨k + 1, L9, g9, by omega, by simp, HS9.out⟩, by simp [intOf]; omega⟩
    · obtain rfl : k = xs.length := by omega
      go_wp2
      rw [List.take_length] at SL
      exact bodyPost_ret (v := .tuple #[]) (by simp [results, Tryz.results114]) rfl ⟨rfl, SL.done⟩

set_option maxRecDepth 100000 in
set_option maxHeartbeats 1600000 in
theorem changeWrite_c {w : World} {c p o : Nat} {out : List UInt8} {g : Option Nat} (h : Writes w c out g) {S : Nat → Prop} (hS : ∀ k, S k → k < w.heap.size ∧ k ≠ c ∧ g ≠ some k) (x : ChangeT) {cs : List Value} (hx : ChangeT.Is w S cs x) (hv : Var w p o cs) (hm : out.length + x.enc.length ≤ 80000000000000) :
    Calls Tryz.prog 71 #[.pointer (some ⟨c, 0, none⟩), .pointer (some ⟨p, o, none⟩)] w fun e w' => e = .returned (.tuple #[]) ∧ Wrote w w' c out g x.enc := by
  have hmf : ∀ (fn : Fn) (first cap : Array Value) (w : World), (Instr.makeFunc fn first cap).run Tryz.prog w = .ok (.func fn first cap) w := fun _ _ _ _ => rfl
  obtain ⟨v_bucket_items, v_bucket_weights, rfl, i0, i1, i2, i3, i4, i5, i6, i7, i8, l0, l1⟩ := hx
  simp only [ChangeT.enc, List.length_append, List.length_nil, encI_length, bB_length, leB_length] at hm
  simp only [ChangeT.enc]
  have hlp := hv.lt
  have S0 := Cod.start h
  go_enter Tryz.func71, Tryz.ntmps71
  have lv0 := (S0.var h hv).lt
  go_wp2
  refine wp_region_ord [1, 2, 3, 4, 5, 6, 7, 8, 9] [0] [10, 11] (by kernel_rfl) (by kernel_rfl) (fun _ _ d _ _ h => by cases d <;> exact h) ?_
  simp only [sel, List.filterMap_cons, List.filterMap_nil, List.getElem?_cons_zero, List.getElem?_cons_succ]
  repeat (quiet_step (fail))
  refine wpQuiet_nil ?_
  refine wpIdle_step (fun K hK => ?_)
  go_simp
  refine hK _ ?_
  clear hK
  refine wpIdle_nil ?_
  rintro _ ⟨nr, rfl⟩
  have T0 := S0.dN nr
  generalize w.drewN nr = y0 at T0 ⊢
  go_wp2_with fail
  have U0 := T0.alloc (Obj.cells #[Value.pointer (some ⟨p, o, none⟩), Value.pointer (some ⟨p, o + 1, none⟩), Value.pointer (some ⟨p, o + 2, none⟩)] 140)
  have r0 := (own_alloc y0 [Value.pointer (some ⟨p, o, none⟩), Value.pointer (some ⟨p, o + 1, none⟩), Value.pointer (some ⟨p, o + 2, none⟩)] 140 3 rfl (by decide)).reads
  generalize y0.alloc (Obj.cells #[Value.pointer (some ⟨p, o, none⟩), Value.pointer (some ⟨p, o + 1, none⟩), Value.pointer (some ⟨p, o + 2, none⟩)] 140) = z0 at U0 r0 ⊢
  have hq0 : ∀ q ∈ ([⟨p, o, x.kind⟩, ⟨p, o + 1, x.osd⟩, ⟨p, o + 2, x.value⟩] : List Place), Var z0 q.p q.o [.int .i64 q.n] ∧ in64 q.n := by
    intro q hq
    simp only [List.mem_cons, List.not_mem_nil, or_false] at hq
    rcases hq with rfl | rfl | rfl
    · exact ⟨(U0.var h hv).sub (i := 0) (by intro f hf; simp at hf; subst hf; simp), i0⟩
    · exact ⟨(U0.var h hv).sub (i := 1) (by intro f hf; simp at hf; subst hf; simp), i1⟩
    · exact ⟨(U0.var h hv).sub (i := 2) (by intro f hf; simp at hf; subst hf; simp), i2⟩
  have hyc0 : y0.heap.size ≠ c ∧ g ≠ some y0.heap.size := by
    obtain ⟨vo, h1, h2⟩ := T0.writes.ex
    exact ⟨Nat.ne_of_gt (lt_in h1), fun e => absurd (h2.lt _ e) (by omega)⟩
  refine (numsWrite_c (ps := [⟨p, o, x.kind⟩, ⟨p, o + 1, x.osd⟩, ⟨p, o + 2, x.value⟩]) U0.writes (gp := some y0.heap.size) r0 (fun k hk => by cases hk; exact hyc0) hq0 (by simp) (by have := U0.len; simp only [List.length_append, List.length_nil, encI_length, bB_length, leB_length] at this; omega)).mono ?_
  rintro _ w1 ⟨rfl, hW1⟩
  obtain ⟨L1, g1, Q1⟩ := U0.then hW1
  have S1 := Q1.cast (more' := [] ++ encI x.kind ++ encI x.osd ++ encI x.value) (by simp [Place.enc])
  clear Q1
  have hv1 : Var w1 p (o + 3) [Value.int IntKind.i64 x.pool.id, Value.int IntKind.i64 x.pool.size, Value.int IntKind.i64 x.pool.min, Value.int IntKind.i64 x.pool.pgs] := (S1.var h hv).sub (i := 3) (by
    intro f hf
    simp only [List.length_cons, List.length_nil] at hf
    have : f = 0 ∨ f = 1 ∨ f = 2 ∨ f = 3 := by omega
    rcases this with rfl | rfl | rfl | rfl <;> simp)
  have lv1 := hv1.lt
  go_wp2_with fail
  refine (poolWrite_c S1.writes x.pool ⟨i3, i4, i5, i6⟩ hv1 (by have := S1.len; simp only [List.length_append, List.length_nil, encI_length, bB_length, leB_length] at this; omega)).mono ?_
  rintro _ w2 ⟨rfl, hW2⟩
  obtain ⟨L2, g2, S2⟩ := S1.then hW2
  have hv2 : Var w2 p (o + 7) [Value.int IntKind.i64 x.bucket.id, Value.int IntKind.i64 x.bucket.kind, v_bucket_items, v_bucket_weights] := (S2.var h hv).sub (i := 7) (by
    intro f hf
    simp only [List.length_cons, List.length_nil] at hf
    have : f = 0 ∨ f = 1 ∨ f = 2 ∨ f = 3 := by omega
    rcases this with rfl | rfl | rfl | rfl <;> simp)
  have lv2 := hv2.lt
  go_wp2_with fail
  have hd2 := S2.data hS
  have hx2 : BucketT.Is w2 S [Value.int IntKind.i64 x.bucket.id, Value.int IntKind.i64 x.bucket.kind, v_bucket_items, v_bucket_weights] x.bucket := ⟨_, _, rfl, i7, i8, l0.heap (fun _ _ h => intIs.heap h) (fun _ h => h) hd2, l1.heap (fun _ _ h => intIs.heap h) (fun _ h => h) hd2⟩
  refine (bucketWrite_c S2.writes (S2.sets hS) x.bucket hx2 hv2 (by have := S2.len; simp only [List.length_append, List.length_nil, encI_length, bB_length, leB_length] at this; omega)).mono ?_
  rintro _ w3 ⟨rfl, hW3⟩
  obtain ⟨L3, g3, S3⟩ := S2.then hW3
  go_wp2
  exact bodyPost_end (v := .tuple #[]) (by simp [results, Tryz.results71]) rfl ⟨rfl, S3.done⟩

set_option maxRecDepth 100000 in
set_option maxHeartbeats 1600000 in
theorem listChangeWrite_c {w : World} {c p o : Nat} {out : List UInt8} {g : Option Nat} (h : Writes w c out g) {S : Nat → Prop} (hS : ∀ k, S k → k < w.heap.size ∧ k ≠ c ∧ g ≠ some k) {v : Value} (xs : List ChangeT) (hl : ListIs 11 ChangeT.Is w S v xs) (hv : Var w p o [v]) (hm : out.length + (leB 4 xs.length ++ xs.flatMap ChangeT.enc).length ≤ 80000000000000) :
    Calls Tryz.prog 70 #[.pointer (some ⟨c, 0, none⟩), .pointer (some ⟨p, o, none⟩), .func (.func 71) #[.pointer (some ⟨c, 0, none⟩)] #[]] w fun e w' => e = .returned (.tuple #[]) ∧ Wrote w w' c out g (leB 4 xs.length ++ xs.flatMap ChangeT.enc) := by
  obtain ⟨a, cp, rfl, hc⟩ := hl.shape
  have hnl := hl.small
  have p0 : w.cell? ⟨p, o, none⟩ = some (.slice a xs.length cp) := hv.cell (f := 0) (by simp)
  have hlp := hv.lt
  simp only [List.length_append, leB_length] at hm
  go_enter Tryz.func70, Tryz.ntmps70
  go_wp2_with fail
  refine (countWrite_c h xs.length (by omega) (by omega)).mono ?_
  rintro e w1 ⟨rfl, hW1⟩
  obtain ⟨L1, g1, S1⟩ := (Cod.start h).then hW1
  have c2 : w1.cell? ⟨c, 2, none⟩ = some (.bool false) := by
    obtain ⟨vo, h1, -⟩ := S1.writes.ex
    exact cell_in h1
  have hl1 : c < w1.heap.size := by
    obtain ⟨vo, h1, -⟩ := S1.writes.ex
    exact lt_in h1
  clear p0
  go_wp2
  go_loopw [22] (fun i w' => ∃ (k : Nat) (L : List UInt8) (gL : Option Nat), k ≤ xs.length ∧ i = .int .i64 k ∧ Cod w w' c out g (leB 4 xs.length ++ (xs.take k).flatMap ChangeT.enc) L gL) (fun i _ => xs.length - (intOf i).toNat)
  case atStart => exact ⟨0, L1, g1, by omega, rfl, S1.cast (by simp)⟩
  case round =>
    obtain ⟨k, L, gL, hk, rfl, SL⟩ := hrel
    by_cases hk2 : k < xs.length
    · have hki : (k : Int) < (xs.length : Int) := by omega
      have hd := SL.data hS
      obtain ⟨b, off, cs, rfl, hb, hcl, hcell, hr⟩ := (hl.heap (fun _ _ h => ChangeT.Is.heap h (fun _ h => h) hd) (fun _ h => h) hd).at hk2
      have hfl := flatMap_le ChangeT.enc xs (k + 1)
      have hft := flatMap_take ChangeT.enc xs k hk2
      rw [hft, List.length_append] at hfl
      obtain ⟨e, he⟩ : ∃ e, e = xs[k] := ⟨_, rfl⟩
      rw [← he] at hr hft hfl
      have HFT := Lib.hid hft
      clear hft he hcl
      have hvr := SL.var h hv
      have p0 : wr.cell? ⟨p, o, none⟩ = some (.slice (some ⟨b, off, none⟩) xs.length cp) := hvr.cell (f := 0) (by simp)
      have l2 := hvr.lt
      have hr0 := hr
      obtain ⟨uv_bucket_items, uv_bucket_weights, rfl, -, -, -, -, -, -, -, -, -, m0, m1⟩ := hr
      obtain ⟨au0, cu0, rfl, -⟩ := m0.shape
      obtain ⟨au1, cu1, rfl, -⟩ := m1.shape
      have y0 : wr.cell? ⟨b, off + k * 11, none⟩ = some (Value.int IntKind.i64 e.kind) := hcell 0 (by omega)
      have y1 : wr.cell? ⟨b, off + k * 11 + 1, none⟩ = some (Value.int IntKind.i64 e.osd) := hcell 1 (by omega)
      have y2 : wr.cell? ⟨b, off + k * 11 + 2, none⟩ = some (Value.int IntKind.i64 e.value) := hcell 2 (by omega)
      have y3 : wr.cell? ⟨b, off + k * 11 + 3, none⟩ = some (Value.int IntKind.i64 e.pool.id) := hcell 3 (by omega)
      have y4 : wr.cell? ⟨b, off + k * 11 + 4, none⟩ = some (Value.int IntKind.i64 e.pool.size) := hcell 4 (by omega)
      have y5 : wr.cell? ⟨b, off + k * 11 + 5, none⟩ = some (Value.int IntKind.i64 e.pool.min) := hcell 5 (by omega)
      have y6 : wr.cell? ⟨b, off + k * 11 + 6, none⟩ = some (Value.int IntKind.i64 e.pool.pgs) := hcell 6 (by omega)
      have y7 : wr.cell? ⟨b, off + k * 11 + 7, none⟩ = some (Value.int IntKind.i64 e.bucket.id) := hcell 7 (by omega)
      have y8 : wr.cell? ⟨b, off + k * 11 + 8, none⟩ = some (Value.int IntKind.i64 e.bucket.kind) := hcell 8 (by omega)
      have y9 : wr.cell? ⟨b, off + k * 11 + 9, none⟩ = some (Value.slice au0 e.bucket.items.length cu0) := hcell 9 (by omega)
      have y10 : wr.cell? ⟨b, off + k * 11 + 10, none⟩ = some (Value.slice au1 e.bucket.weights.length cu1) := hcell 10 (by omega)
      go_wp2_with fail
      have SA := SL.alloc (Obj.cells #[Value.int IntKind.i64 e.kind, Value.int IntKind.i64 e.osd, Value.int IntKind.i64 e.value, Value.int IntKind.i64 e.pool.id, Value.int IntKind.i64 e.pool.size, Value.int IntKind.i64 e.pool.min, Value.int IntKind.i64 e.pool.pgs, Value.int IntKind.i64 e.bucket.id, Value.int IntKind.i64 e.bucket.kind, Value.slice au0 e.bucket.items.length cu0, Value.slice au1 e.bucket.weights.length cu1] 160)
      have vA := var_new wr #[Value.int IntKind.i64 e.kind, Value.int IntKind.i64 e.osd, Value.int IntKind.i64 e.value, Value.int IntKind.i64 e.pool.id, Value.int IntKind.i64 e.pool.size, Value.int IntKind.i64 e.pool.min, Value.int IntKind.i64 e.pool.pgs, Value.int IntKind.i64 e.bucket.id, Value.int IntKind.i64 e.bucket.kind, Value.slice au0 e.bucket.items.length cu0, Value.slice au1 e.bucket.weights.length cu1] 160 (by decide) (by decide)
      have hrA : ChangeT.Is (wr.alloc (Obj.cells #[Value.int IntKind.i64 e.kind, Value.int IntKind.i64 e.osd, Value.int IntKind.i64 e.value, Value.int IntKind.i64 e.pool.id, Value.int IntKind.i64 e.pool.size, Value.int IntKind.i64 e.pool.min, Value.int IntKind.i64 e.pool.pgs, Value.int IntKind.i64 e.bucket.id, Value.int IntKind.i64 e.bucket.kind, Value.slice au0 e.bucket.items.length cu0, Value.slice au1 e.bucket.weights.length cu1] 160)) S _ e := ChangeT.Is.heap hr0 (fun _ h => h) (fun k hk => Below.heap_alloc _ _ _ (SL.sets hS k hk).1)
      generalize wr.alloc (Obj.cells #[Value.int IntKind.i64 e.kind, Value.int IntKind.i64 e.osd, Value.int IntKind.i64 e.value, Value.int IntKind.i64 e.pool.id, Value.int IntKind.i64 e.pool.size, Value.int IntKind.i64 e.pool.min, Value.int IntKind.i64 e.pool.pgs, Value.int IntKind.i64 e.bucket.id, Value.int IntKind.i64 e.bucket.kind, Value.slice au0 e.bucket.items.length cu0, Value.slice au1 e.bucket.weights.length cu1] 160) = wa at SA hrA vA ⊢
      have hbnd := SA.len
      simp only [List.length_append, leB_length] at hbnd
      refine (changeWrite_c SA.writes (SA.sets hS) e hrA vA (by omega)).mono ?_
      rintro _ w9 ⟨rfl, hG⟩
      obtain ⟨L9, g9, S9⟩ := SA.then hG
      have HS9 := Lib.hid (S9.cast (more' := leB 4 xs.length ++ (xs.take (k + 1)).flatMap ChangeT.enc) (by rw [HFT.out, List.append_assoc]))
      clear S9 hG
      go_wp2
      exact ⟨⟨k + 1, L9, g9, by omega, by simp, HS9.out⟩, by simp [intOf]; omega⟩
    · obtain rfl : k = xs.length := by omega
      go_wp2
      rw [List.take_length] at SL
      exact bodyPost_ret (v := .tuple #[]) (by simp [results, Tryz.results70]) rfl ⟨rfl, SL.done⟩

set_option maxRecDepth 100000 in
set_option maxHeartbeats 1600000 in
theorem clusterWrite_c {w : World} {c p o : Nat} {out : List UInt8} {g : Option Nat} (h : Writes w c out g) {S : Nat → Prop} (hS : ∀ k, S k → k < w.heap.size ∧ k ≠ c ∧ g ≠ some k) (x : MapT) {cs : List Value} (hx : MapT.Is w S cs x) (hv : Var w p o cs) (hm : out.length + x.enc.length ≤ 80000000000000) :
    Calls Tryz.prog 45 #[.pointer (some ⟨c, 0, none⟩), .pointer (some ⟨p, o, none⟩)] w fun e w' => e = .returned (.tuple #[]) ∧ Wrote w w' c out g x.enc := by
  have hmf : ∀ (fn : Fn) (first cap : Array Value) (w : World), (Instr.makeFunc fn first cap).run Tryz.prog w = .ok (.func fn first cap) w := fun _ _ _ _ => rfl
  obtain ⟨v_osds, v_pools, v_buckets, rfl, i0, i1, l0, l1, l2⟩ := hx
  simp only [MapT.enc, List.length_append, List.length_nil, encI_length, bB_length, leB_length] at hm
  simp only [MapT.enc]
  have hlp := hv.lt
  have S0 := Cod.start h
  go_enter Tryz.func45, Tryz.ntmps45
  have hv0 : Var w p (o) [Value.int IntKind.i64 x.epoch] := (S0.var h hv).sub (i := 0) (by intro f hf; simp at hf; subst hf; simp)
  have lv0 := hv0.lt
  go_wp2_with fail
  refine (numWrite_c S0.writes x.epoch i0 hv0 (by have := S0.len; simp only [List.length_append, List.length_nil, encI_length, bB_length, leB_length] at this; omega)).mono ?_
  rintro _ w1 ⟨rfl, hW1⟩
  obtain ⟨L1, g1, S1⟩ := S0.then hW1
  have hv1 : Var w1 p (o + 1) [v_osds] := (S1.var h hv).sub (i := 1) (by intro f hf; simp at hf; subst hf; simp)
  have lv1 := hv1.lt
  have hd1 := S1.data hS
  go_wp2_with fail
  refine (listOsdWrite_c S1.writes (S1.sets hS) x.osds (l0.heap (fun _ _ h => OsdT.Is.heap h) (fun _ h => h) hd1) hv1 (by have := S1.len; simp only [List.length_append, List.length_nil, encI_length, bB_length, leB_length] at this ⊢; omega)).mono ?_
  rintro _ w2 ⟨rfl, hW2⟩
  obtain ⟨L2, g2, Q2⟩ := S1.then hW2
  have S2 := Q2.cast (more' := [] ++ encI x.epoch ++ leB 4 x.osds.length ++ x.osds.flatMap OsdT.enc) (by simp only [List.append_assoc])
  clear Q2
  have hv2 : Var w2 p (o + 2) [v_pools] := (S2.var h hv).sub (i := 2) (by intro f hf; simp at hf; subst hf; simp)
  have lv2 := hv2.lt
  have hd2 := S2.data hS
  go_wp2_with fail
  refine (listPoolWrite_c S2.writes (S2.sets hS) x.pools (l1.heap (fun _ _ h => PoolT.Is.heap h) (fun _ h => h) hd2) hv2 (by have := S2.len; simp only [List.length_append, List.length_nil, encI_length, bB_length, leB_length] at this ⊢; omega)).mono ?_
  rintro _ w3 ⟨rfl, hW3⟩
  obtain ⟨L3, g3, Q3⟩ := S2.then hW3
  have S3 := Q3.cast (more' := [] ++ encI x.epoch ++ leB 4 x.osds.length ++ x.osds.flatMap OsdT.enc ++ leB 4 x.pools.length ++ x.pools.flatMap PoolT.enc) (by simp only [List.append_assoc])
  clear Q3
  have hv3 : Var w3 p (o + 3) [v_buckets] := (S3.var h hv).sub (i := 3) (by intro f hf; simp at hf; subst hf; simp)
  have lv3 := hv3.lt
  have hd3 := S3.data hS
  go_wp2_with fail
  refine (listBucketWrite_c S3.writes (S3.sets hS) x.buckets (l2.heap (fun _ _ h => BucketT.Is.heap h (fun _ h => h) hd3) (fun _ h => h) hd3) hv3 (by have := S3.len; simp only [List.length_append, List.length_nil, encI_length, bB_length, leB_length] at this ⊢; omega)).mono ?_
  rintro _ w4 ⟨rfl, hW4⟩
  obtain ⟨L4, g4, Q4⟩ := S3.then hW4
  have S4 := Q4.cast (more' := [] ++ encI x.epoch ++ leB 4 x.osds.length ++ x.osds.flatMap OsdT.enc ++ leB 4 x.pools.length ++ x.pools.flatMap PoolT.enc ++ leB 4 x.buckets.length ++ x.buckets.flatMap BucketT.enc) (by simp only [List.append_assoc])
  clear Q4
  have hv4 : Var w4 p (o + 4) [Value.int IntKind.i64 x.leaf] := (S4.var h hv).sub (i := 4) (by intro f hf; simp at hf; subst hf; simp)
  have lv4 := hv4.lt
  go_wp2_with fail
  refine (numWrite_c S4.writes x.leaf i1 hv4 (by have := S4.len; simp only [List.length_append, List.length_nil, encI_length, bB_length, leB_length] at this; omega)).mono ?_
  rintro _ w5 ⟨rfl, hW5⟩
  obtain ⟨L5, g5, S5⟩ := S4.then hW5
  go_wp2
  exact bodyPost_end (v := .tuple #[]) (by simp [results, Tryz.results45]) rfl ⟨rfl, S5.done⟩

set_option maxRecDepth 100000 in
set_option maxHeartbeats 1600000 in
theorem incWrite_c {w : World} {c p o : Nat} {out : List UInt8} {g : Option Nat} (h : Writes w c out g) {S : Nat → Prop} (hS : ∀ k, S k → k < w.heap.size ∧ k ≠ c ∧ g ≠ some k) (x : IncT) {cs : List Value} (hx : IncT.Is w S cs x) (hv : Var w p o cs) (hm : out.length + x.enc.length ≤ 80000000000000) :
    Calls Tryz.prog 40 #[.pointer (some ⟨c, 0, none⟩), .pointer (some ⟨p, o, none⟩)] w fun e w' => e = .returned (.tuple #[]) ∧ Wrote w w' c out g x.enc := by
  have hmf : ∀ (fn : Fn) (first cap : Array Value) (w : World), (Instr.makeFunc fn first cap).run Tryz.prog w = .ok (.func fn first cap) w := fun _ _ _ _ => rfl
  obtain ⟨v_changes, rfl, i0, l0⟩ := hx
  simp only [IncT.enc, List.length_append, List.length_nil, encI_length, bB_length, leB_length] at hm
  simp only [IncT.enc]
  have hlp := hv.lt
  have S0 := Cod.start h
  go_enter Tryz.func40, Tryz.ntmps40
  have hv0 : Var w p (o) [Value.int IntKind.i64 x.epoch] := (S0.var h hv).sub (i := 0) (by intro f hf; simp at hf; subst hf; simp)
  have lv0 := hv0.lt
  go_wp2_with fail
  refine (numWrite_c S0.writes x.epoch i0 hv0 (by have := S0.len; simp only [List.length_append, List.length_nil, encI_length, bB_length, leB_length] at this; omega)).mono ?_
  rintro _ w1 ⟨rfl, hW1⟩
  obtain ⟨L1, g1, S1⟩ := S0.then hW1
  have hv1 : Var w1 p (o + 1) [v_changes] := (S1.var h hv).sub (i := 1) (by intro f hf; simp at hf; subst hf; simp)
  have lv1 := hv1.lt
  have hd1 := S1.data hS
  go_wp2_with fail
  refine (listChangeWrite_c S1.writes (S1.sets hS) x.changes (l0.heap (fun _ _ h => ChangeT.Is.heap h (fun _ h => h) hd1) (fun _ h => h) hd1) hv1 (by have := S1.len; simp only [List.length_append, List.length_nil, encI_length, bB_length, leB_length] at this ⊢; omega)).mono ?_
  rintro _ w2 ⟨rfl, hW2⟩
  obtain ⟨L2, g2, Q2⟩ := S1.then hW2
  have S2 := Q2.cast (more' := [] ++ encI x.epoch ++ leB 4 x.changes.length ++ x.changes.flatMap ChangeT.enc) (by simp only [List.append_assoc])
  clear Q2
  go_wp2
  exact bodyPost_end (v := .tuple #[]) (by simp [results, Tryz.results40]) rfl ⟨rfl, S2.done⟩

end Go.Proofs.YtanmfldgillodaaGreat
