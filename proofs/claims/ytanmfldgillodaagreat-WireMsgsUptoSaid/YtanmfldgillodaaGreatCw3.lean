/- The contracts of the codec's writers of the structs. -/
import Derived.Test.YtanmfldgillodaaGreatPut3
set_option linter.unusedSimpArgs false
set_option linter.unusedVariables false
namespace Go.Proofs.YtanmfldgillodaaGreat
open Go.RowKit

set_option maxRecDepth 100000 in
set_option maxHeartbeats 1600000 in
theorem listIncWrite_c {w : World} {c p o : Nat} {out : List UInt8} {g : Option Nat} (h : Writes w c out g) {S : Nat → Prop} (hS : ∀ k, S k → k < w.heap.size ∧ k ≠ c ∧ g ≠ some k) {v : Value} (xs : List IncT) (hl : ListIs 2 IncT.Is w S v xs) (hv : Var w p o [v]) (hm : out.length + (leB 4 xs.length ++ xs.flatMap IncT.enc).length ≤ 80000000000000) :
    Calls Tryz.prog 69 #[.pointer (some ⟨c, 0, none⟩), .pointer (some ⟨p, o, none⟩), .func (.func 40) #[.pointer (some ⟨c, 0, none⟩)] #[]] w fun e w' => e = .returned (.tuple #[]) ∧ Wrote w w' c out g (leB 4 xs.length ++ xs.flatMap IncT.enc) := by
  obtain ⟨a, cp, rfl, hc⟩ := hl.shape
  have hnl := hl.small
  have p0 : w.cell? ⟨p, o, none⟩ = some (.slice a xs.length cp) := hv.cell (f := 0) (by simp)
  have hlp := hv.lt
  simp only [List.length_append, leB_length] at hm
  go_enter Tryz.func69, Tryz.ntmps69
  go_wp2_with fail
  refine (countWrite_c h xs.length (by omega) (by omega)).mono ?_
  rintro e w1 ⟨rfl, hW1⟩
  obtain ⟨L1, g1, S1⟩ := (Cod.start h).then hW1
  have c2 : w1.cell? ⟨c, 2, none⟩ = some (.bool false) := by
    obtain ⟨vo, h1, -⟩ := S1.writes.ex
    exact cell_in h1
  have hl1 : c < w1.heap.size := by
    obtain ⟨vo, h1, -⟩ := S1.writes.ex
    exact lt_in h1
  clear p0
  go_wp2
  go_loopw [22] (fun i w' => ∃ (k : Nat) (L : List UInt8) (gL : Option Nat), k ≤ xs.length ∧ i = .int .i64 k ∧ Cod w w' c out g (leB 4 xs.length ++ (xs.take k).flatMap IncT.enc) L gL) (fun i _ => xs.length - (intOf i).toNat)
  case atStart => exact ⟨0, L1, g1, by omega, rfl, S1.cast (by simp)⟩
  case round =>
    obtain ⟨k, L, gL, hk, rfl, SL⟩ := hrel
    by_cases hk2 : k < xs.length
    · have hki : (k : Int) < (xs.length : Int) := by omega
      have hd := SL.data hS
      obtain ⟨b, off, cs, rfl, hb, hcl, hcell, hr⟩ := (hl.heap (fun _ _ h => IncT.Is.heap h (fun _ h => h) hd) (fun _ h => h) hd).at hk2
      have hfl := flatMap_le IncT.enc xs (k + 1)
      have hft := flatMap_take IncT.enc xs k hk2
      rw [hft, List.length_append] at hfl
      obtain ⟨e, he⟩ : ∃ e, e = xs[k] := ⟨_, rfl⟩
      rw [← he] at hr hft hfl
      have HFT := Lib.hid hft
      clear hft he hcl
      have hvr := SL.var h hv
      have p0 : wr.cell? ⟨p, o, none⟩ = some (.slice (some ⟨b, off, none⟩) xs.length cp) := hvr.cell (f := 0) (by simp)
      have l2 := hvr.lt
      have hr0 := hr
      obtain ⟨uv_changes, rfl, j0, m0⟩ := hr
      obtain ⟨au0, cu0, rfl, -⟩ := m0.shape
      have y0 : wr.cell? ⟨b, off + k * 2, none⟩ = some (Value.int IntKind.i64 e.epoch) := hcell 0 (by omega)
      have y1 : wr.cell? ⟨b, off + k * 2 + 1, none⟩ = some (Value.slice au0 e.changes.length cu0) := hcell 1 (by omega)
      go_wp2_with fail
      have SA := SL.alloc (Obj.cells #[Value.int IntKind.i64 e.epoch, Value.slice au0 e.changes.length cu0] 60)
      have vA := var_new wr #[Value.int IntKind.i64 e.epoch, Value.slice au0 e.changes.length cu0] 60 (by decide) (by decide)
      have hrA : IncT.Is (wr.alloc (Obj.cells #[Value.int IntKind.i64 e.epoch, Value.slice au0 e.changes.length cu0] 60)) S _ e := IncT.Is.heap hr0 (fun _ h => h) (fun k hk => Below.heap_alloc _ _ _ (SL.sets hS k hk).1)
      generalize wr.alloc (Obj.cells #[Value.int IntKind.i64 e.epoch, Value.slice au0 e.changes.length cu0] 60) = wa at SA hrA vA ⊢
      have hbnd := SA.len
      simp only [List.length_append, leB_length] at hbnd
      refine (incWrite_c SA.writes (SA.sets hS) e hrA vA (by omega)).mono ?_
      rintro _ w9 ⟨rfl, hG⟩
      obtain ⟨L9, g9, S9⟩ := SA.then hG
      have HS9 := Lib.hid (S9.cast (more' := leB 4 xs.length ++ (xs.take (k + 1)).flatMap IncT.enc) (by rw [HFT.out, List.append_assoc]))
      clear S9 hG
      go_wp2
      exact ⟨⟨k + 1, L9, g9, by omega, by simp, HS9.out⟩, by simp [intOf]; omega⟩
    · obtain rfl : k = xs.length := by omega
      go_wp2
      rw [List.take_length] at SL
      exact bodyPost_ret (v := .tuple #[]) (by simp [results, Tryz.results69]) rfl ⟨rfl, SL.done⟩

set_option maxRecDepth 100000 in
set_option maxHeartbeats 1600000 in
theorem nodeWrite_c {w : World} {c p o : Nat} {out : List UInt8} {g : Option Nat} (h : Writes w c out g) (x : NodeT) (hi : in64 x.kind ∧ in64 x.id) (hv : Var w p o [Value.int IntKind.i64 x.kind, Value.int IntKind.i64 x.id]) (hm : out.length + x.enc.length ≤ 80000000000000) :
    Calls Tryz.prog 64 #[.pointer (some ⟨c, 0, none⟩), .pointer (some ⟨p, o, none⟩)] w fun e w' => e = .returned (.tuple #[]) ∧ Wrote w w' c out g x.enc := by
  have hmf : ∀ (fn : Fn) (first cap : Array Value) (w : World), (Instr.makeFunc fn first cap).run Tryz.prog w = .ok (.func fn first cap) w := fun _ _ _ _ => rfl
  obtain ⟨i0, i1⟩ := hi
  simp only [NodeT.enc, List.length_append, List.length_nil, encI_length, bB_length, leB_length, encT_length, encBy_length] at hm
  simp only [NodeT.enc]
  have hlp := hv.lt
  have S0 := Cod.start h
  go_enter Tryz.func64, Tryz.ntmps64
  have lv0 := (S0.var h hv).lt
  go_wp2
  refine wp_region_ord [1, 2, 3, 4, 5, 6] [0] [7, 8] (by kernel_rfl) (by kernel_rfl) (fun _ _ d _ _ h => by cases d <;> exact h) ?_
  simp only [sel, List.filterMap_cons, List.filterMap_nil, List.getElem?_cons_zero, List.getElem?_cons_succ]
  repeat (quiet_step (fail))
  refine wpQuiet_nil ?_
  refine wpIdle_step (fun K hK => ?_)
  go_simp
  refine hK _ ?_
  clear hK
  refine wpIdle_nil ?_
  rintro _ ⟨nr, rfl⟩
  have T0 := S0.dN nr
  generalize w.drewN nr = y0 at T0 ⊢
  go_wp2_with fail
  have U0 := T0.alloc (Obj.cells #[Value.pointer (some ⟨p, o, none⟩), Value.pointer (some ⟨p, o + 1, none⟩)] 140)
  have r0 := (own_alloc y0 [Value.pointer (some ⟨p, o, none⟩), Value.pointer (some ⟨p, o + 1, none⟩)] 140 2 rfl (by decide)).reads
  generalize y0.alloc (Obj.cells #[Value.pointer (some ⟨p, o, none⟩), Value.pointer (some ⟨p, o + 1, none⟩)] 140) = z0 at U0 r0 ⊢
  have hq0 : ∀ q ∈ ([⟨p, o, x.kind⟩, ⟨p, o + 1, x.id⟩] : List Place), Var z0 q.p q.o [.int .i64 q.n] ∧ in64 q.n := by
    intro q hq
    simp only [List.mem_cons, List.not_mem_nil, or_false] at hq
    rcases hq with rfl | rfl
    · exact ⟨(U0.var h hv).sub (i := 0) (by intro f hf; simp at hf; subst hf; simp), i0⟩
    · exact ⟨(U0.var h hv).sub (i := 1) (by intro f hf; simp at hf; subst hf; simp), i1⟩
  have hyc0 : y0.heap.size ≠ c ∧ g ≠ some y0.heap.size := by
    obtain ⟨vo, h1, h2⟩ := T0.writes.ex
    exact ⟨Nat.ne_of_gt (lt_in h1), fun e => absurd (h2.lt _ e) (by omega)⟩
  refine (numsWrite_c (ps := [⟨p, o, x.kind⟩, ⟨p, o + 1, x.id⟩]) U0.writes (gp := some y0.heap.size) r0 (fun k hk => by cases hk; exact hyc0) hq0 (by simp) (by have := U0.len; simp only [List.length_append, List.length_nil, encI_length, bB_length, leB_length, encT_length, encBy_length] at this; omega)).mono ?_
  rintro _ w1 ⟨rfl, hW1⟩
  obtain ⟨L1, g1, Q1⟩ := U0.then hW1
  have S1 := Q1.cast (more' := [] ++ encI x.kind ++ encI x.id) (by simp [Place.enc])
  clear Q1
  go_wp2
  exact bodyPost_end (v := .tuple #[]) (by simp [results, Tryz.results64]) rfl ⟨rfl, S1.done⟩

set_option maxRecDepth 100000 in
set_option maxHeartbeats 1600000 in
theorem slotWrite_c {w : World} {c p o : Nat} {out : List UInt8} {g : Option Nat} (h : Writes w c out g) {S : Nat → Prop} (hS : ∀ k, S k → k < w.heap.size ∧ k ≠ c ∧ g ≠ some k) (x : SlotT) {cs : List Value} (hx : SlotT.Is w S cs x) (hv : Var w p o cs) (hm : out.length + x.enc.length ≤ 80000000000000) :
    Calls Tryz.prog 68 #[.pointer (some ⟨c, 0, none⟩), .pointer (some ⟨p, o, none⟩)] w fun e w' => e = .returned (.tuple #[]) ∧ Wrote w w' c out g x.enc := by
  have hmf : ∀ (fn : Fn) (first cap : Array Value) (w : World), (Instr.makeFunc fn first cap).run Tryz.prog w = .ok (.func fn first cap) w := fun _ _ _ _ => rfl
  obtain ⟨v_value, rfl, i0, i1, l0⟩ := hx
  simp only [SlotT.enc, List.length_append, List.length_nil, encI_length, bB_length, leB_length, encT_length, encBy_length] at hm
  simp only [SlotT.enc]
  have hlp := hv.lt
  have S0 := Cod.start h
  go_enter Tryz.func68, Tryz.ntmps68
  have lv0 := (S0.var h hv).lt
  go_wp2
  refine wp_region_ord [1, 2, 3, 4, 5, 6] [0] [7, 8] (by kernel_rfl) (by kernel_rfl) (fun _ _ d _ _ h => by cases d <;> exact h) ?_
  simp only [sel, List.filterMap_cons, List.filterMap_nil, List.getElem?_cons_zero, List.getElem?_cons_succ]
  repeat (quiet_step (fail))
  refine wpQuiet_nil ?_
  refine wpIdle_step (fun K hK => ?_)
  go_simp
  refine hK _ ?_
  clear hK
  refine wpIdle_nil ?_
  rintro _ ⟨nr, rfl⟩
  have T0 := S0.dN nr
  generalize w.drewN nr = y0 at T0 ⊢
  go_wp2_with fail
  have U0 := T0.alloc (Obj.cells #[Value.pointer (some ⟨p, o, none⟩), Value.pointer (some ⟨p, o + 1, none⟩)] 140)
  have r0 := (own_alloc y0 [Value.pointer (some ⟨p, o, none⟩), Value.pointer (some ⟨p, o + 1, none⟩)] 140 2 rfl (by decide)).reads
  generalize y0.alloc (Obj.cells #[Value.pointer (some ⟨p, o, none⟩), Value.pointer (some ⟨p, o + 1, none⟩)] 140) = z0 at U0 r0 ⊢
  have hq0 : ∀ q ∈ ([⟨p, o, x.slot⟩, ⟨p, o + 1, x.ballot⟩] : List Place), Var z0 q.p q.o [.int .i64 q.n] ∧ in64 q.n := by
    intro q hq
    simp only [List.mem_cons, List.not_mem_nil, or_false] at hq
    rcases hq with rfl | rfl
    · exact ⟨(U0.var h hv).sub (i := 0) (by intro f hf; simp at hf; subst hf; simp), i0⟩
    · exact ⟨(U0.var h hv).sub (i := 1) (by intro f hf; simp at hf; subst hf; simp), i1⟩
  have hyc0 : y0.heap.size ≠ c ∧ g ≠ some y0.heap.size := by
    obtain ⟨vo, h1, h2⟩ := T0.writes.ex
    exact ⟨Nat.ne_of_gt (lt_in h1), fun e => absurd (h2.lt _ e) (by omega)⟩
  refine (numsWrite_c (ps := [⟨p, o, x.slot⟩, ⟨p, o + 1, x.ballot⟩]) U0.writes (gp := some y0.heap.size) r0 (fun k hk => by cases hk; exact hyc0) hq0 (by simp) (by have := U0.len; simp only [List.length_append, List.length_nil, encI_length, bB_length, leB_length, encT_length, encBy_length] at this; omega)).mono ?_
  rintro _ w1 ⟨rfl, hW1⟩
  obtain ⟨L1, g1, Q1⟩ := U0.then hW1
  have S1 := Q1.cast (more' := [] ++ encI x.slot ++ encI x.ballot) (by simp [Place.enc])
  clear Q1
  have hv1 : Var w1 p (o + 2) [v_value] := (S1.var h hv).sub (i := 2) (by intro f hf; simp at hf; subst hf; simp)
  have lv1 := hv1.lt
  have hd1 := S1.data hS
  go_wp2_with fail
  refine (bytesW_c S1.writes (S1.sets hS) x.value (l0.heap (fun _ _ h => byteIs_stable _ _ _ _ _ _ h (fun _ h => h) hd1) (fun _ h => h) hd1) hv1 (by have := S1.len; simp only [List.length_append, List.length_nil, encI_length, bB_length, leB_length, encT_length, encBy_length] at this ⊢; omega)).mono ?_
  rintro _ w2 ⟨rfl, hW2⟩
  obtain ⟨L2, g2, Q2⟩ := S1.then hW2
  have S2 := Q2.cast (more' := [] ++ encI x.slot ++ encI x.ballot ++ encBy x.value) (by simp only [List.append_assoc])
  clear Q2
  go_wp2
  exact bodyPost_end (v := .tuple #[]) (by simp [results, Tryz.results68]) rfl ⟨rfl, S2.done⟩

set_option maxRecDepth 100000 in
set_option maxHeartbeats 1600000 in
theorem listSlotWrite_c {w : World} {c p o : Nat} {out : List UInt8} {g : Option Nat} (h : Writes w c out g) {S : Nat → Prop} (hS : ∀ k, S k → k < w.heap.size ∧ k ≠ c ∧ g ≠ some k) {v : Value} (xs : List SlotT) (hl : ListIs 3 SlotT.Is w S v xs) (hv : Var w p o [v]) (hm : out.length + (leB 4 xs.length ++ xs.flatMap SlotT.enc).length ≤ 80000000000000) :
    Calls Tryz.prog 67 #[.pointer (some ⟨c, 0, none⟩), .pointer (some ⟨p, o, none⟩), .func (.func 68) #[.pointer (some ⟨c, 0, none⟩)] #[]] w fun e w' => e = .returned (.tuple #[]) ∧ Wrote w w' c out g (leB 4 xs.length ++ xs.flatMap SlotT.enc) := by
  obtain ⟨a, cp, rfl, hc⟩ := hl.shape
  have hnl := hl.small
  have p0 : w.cell? ⟨p, o, none⟩ = some (.slice a xs.length cp) := hv.cell (f := 0) (by simp)
  have hlp := hv.lt
  simp only [List.length_append, leB_length] at hm
  go_enter Tryz.func67, Tryz.ntmps67
  go_wp2_with fail
  refine (countWrite_c h xs.length (by omega) (by omega)).mono ?_
  rintro e w1 ⟨rfl, hW1⟩
  obtain ⟨L1, g1, S1⟩ := (Cod.start h).then hW1
  have c2 : w1.cell? ⟨c, 2, none⟩ = some (.bool false) := by
    obtain ⟨vo, h1, -⟩ := S1.writes.ex
    exact cell_in h1
  have hl1 : c < w1.heap.size := by
    obtain ⟨vo, h1, -⟩ := S1.writes.ex
    exact lt_in h1
  clear p0
  go_wp2
  go_loopw [22] (fun i w' => ∃ (k : Nat) (L : List UInt8) (gL : Option Nat), k ≤ xs.length ∧ i = .int .i64 k ∧ Cod w w' c out g (leB 4 xs.length ++ (xs.take k).flatMap SlotT.enc) L gL) (fun i _ => xs.length - (intOf i).toNat)
  case atStart => exact ⟨0, L1, g1, by omega, rfl, S1.cast (by simp)⟩
  case round =>
    obtain ⟨k, L, gL, hk, rfl, SL⟩ := hrel
    by_cases hk2 : k < xs.length
    · have hki : (k : Int) < (xs.length : Int) := by omega
      have hd := SL.data hS
      obtain ⟨b, off, cs, rfl, hb, hcl, hcell, hr⟩ := (hl.heap (fun _ _ h => SlotT.Is.heap h (fun _ h => h) hd) (fun _ h => h) hd).at hk2
      have hfl := flatMap_le SlotT.enc xs (k + 1)
      have hft := flatMap_take SlotT.enc xs k hk2
      rw [hft, List.length_append] at hfl
      obtain ⟨e, he⟩ : ∃ e, e = xs[k] := ⟨_, rfl⟩
      rw [← he] at hr hft hfl
      have HFT := Lib.hid hft
      clear hft he hcl
      have hvr := SL.var h hv
      have p0 : wr.cell? ⟨p, o, none⟩ = some (.slice (some ⟨b, off, none⟩) xs.length cp) := hvr.cell (f := 0) (by simp)
      have l2 := hvr.lt
      have hr0 := hr
      obtain ⟨uv_value, rfl, j0, j1, m0⟩ := hr
      obtain ⟨au0, cu0, rfl, -⟩ := m0.shape
      have y0 : wr.cell? ⟨b, off + k * 3, none⟩ = some (Value.int IntKind.i64 e.slot) := hcell 0 (by omega)
      have y1 : wr.cell? ⟨b, off + k * 3 + 1, none⟩ = some (Value.int IntKind.i64 e.ballot) := hcell 1 (by omega)
      have y2 : wr.cell? ⟨b, off + k * 3 + 2, none⟩ = some (Value.slice au0 e.value.length cu0) := hcell 2 (by omega)
      go_wp2_with fail
      have SA := SL.alloc (Obj.cells #[Value.int IntKind.i64 e.slot, Value.int IntKind.i64 e.ballot, Value.slice au0 e.value.length cu0] 148)
      have vA := var_new wr #[Value.int IntKind.i64 e.slot, Value.int IntKind.i64 e.ballot, Value.slice au0 e.value.length cu0] 148 (by decide) (by decide)
      have hrA : SlotT.Is (wr.alloc (Obj.cells #[Value.int IntKind.i64 e.slot, Value.int IntKind.i64 e.ballot, Value.slice au0 e.value.length cu0] 148)) S _ e := SlotT.Is.heap hr0 (fun _ h => h) (fun k hk => Below.heap_alloc _ _ _ (SL.sets hS k hk).1)
      generalize wr.alloc (Obj.cells #[Value.int IntKind.i64 e.slot, Value.int IntKind.i64 e.ballot, Value.slice au0 e.value.length cu0] 148) = wa at SA hrA vA ⊢
      have hbnd := SA.len
      simp only [List.length_append, leB_length] at hbnd
      refine (slotWrite_c SA.writes (SA.sets hS) e hrA vA (by omega)).mono ?_
      rintro _ w9 ⟨rfl, hG⟩
      obtain ⟨L9, g9, S9⟩ := SA.then hG
      have HS9 := Lib.hid (S9.cast (more' := leB 4 xs.length ++ (xs.take (k + 1)).flatMap SlotT.enc) (by rw [HFT.out, List.append_assoc]))
      clear S9 hG
      go_wp2
      exact ⟨⟨k + 1, L9, g9, by omega, by simp, HS9.out⟩, by simp [intOf]; omega⟩
    · obtain rfl : k = xs.length := by omega
      go_wp2
      rw [List.take_length] at SL
      exact bodyPost_ret (v := .tuple #[]) (by simp [results, Tryz.results67]) rfl ⟨rfl, SL.done⟩

set_option maxRecDepth 100000 in
set_option maxHeartbeats 1600000 in
theorem objectWrite_c {w : World} {c p o : Nat} {out : List UInt8} {g : Option Nat} (h : Writes w c out g) {S : Nat → Prop} (hS : ∀ k, S k → k < w.heap.size ∧ k ≠ c ∧ g ≠ some k) (x : ObjectT) {cs : List Value} (hx : ObjectT.Is w S cs x) (hv : Var w p o cs) (hm : out.length + x.enc.length ≤ 80000000000000) :
    Calls Tryz.prog 74 #[.pointer (some ⟨c, 0, none⟩), .pointer (some ⟨p, o, none⟩)] w fun e w' => e = .returned (.tuple #[]) ∧ Wrote w w' c out g x.enc := by
  have hmf : ∀ (fn : Fn) (first cap : Array Value) (w : World), (Instr.makeFunc fn first cap).run Tryz.prog w = .ok (.func fn first cap) w := fun _ _ _ _ => rfl
  obtain ⟨v_data, rfl, i0, i1, l0⟩ := hx
  simp only [ObjectT.enc, List.length_append, List.length_nil, encI_length, bB_length, leB_length, encT_length, encBy_length] at hm
  simp only [ObjectT.enc]
  have hlp := hv.lt
  have S0 := Cod.start h
  go_enter Tryz.func74, Tryz.ntmps74
  have hv0 : Var w p (o) [Value.string x.name] := (S0.var h hv).sub (i := 0) (by intro f hf; simp at hf; subst hf; simp)
  have lv0 := hv0.lt
  go_wp2_with fail
  refine (textW_c S0.writes x.name hv0 (by have := S0.len; simp only [List.length_append, List.length_nil, encI_length, bB_length, leB_length, encT_length, encBy_length] at this ⊢; omega)).mono ?_
  rintro _ w1 ⟨rfl, hW1⟩
  obtain ⟨L1, g1, S1⟩ := S0.then hW1
  have hv1 : Var w1 p (o + 1) [Value.int IntKind.i64 x.version.epoch, Value.int IntKind.i64 x.version.n] := (S1.var h hv).sub (i := 1) (by
    intro f hf
    simp only [List.length_cons, List.length_nil] at hf
    have : f = 0 ∨ f = 1 := by omega
    rcases this with rfl | rfl <;> simp)
  have lv1 := hv1.lt
  go_wp2_with fail
  refine (versionWrite_c S1.writes x.version ⟨i0, i1⟩ hv1 (by have := S1.len; simp only [List.length_append, List.length_nil, encI_length, bB_length, leB_length, encT_length, encBy_length] at this; omega)).mono ?_
  rintro _ w2 ⟨rfl, hW2⟩
  obtain ⟨L2, g2, S2⟩ := S1.then hW2
  have hv2 : Var w2 p (o + 3) [v_data] := (S2.var h hv).sub (i := 3) (by intro f hf; simp at hf; subst hf; simp)
  have lv2 := hv2.lt
  have hd2 := S2.data hS
  go_wp2_with fail
  refine (bytesW_c S2.writes (S2.sets hS) x.data (l0.heap (fun _ _ h => byteIs_stable _ _ _ _ _ _ h (fun _ h => h) hd2) (fun _ h => h) hd2) hv2 (by have := S2.len; simp only [List.length_append, List.length_nil, encI_length, bB_length, leB_length, encT_length, encBy_length] at this ⊢; omega)).mono ?_
  rintro _ w3 ⟨rfl, hW3⟩
  obtain ⟨L3, g3, Q3⟩ := S2.then hW3
  have S3 := Q3.cast (more' := [] ++ encT x.name ++ x.version.enc ++ encBy x.data) (by simp only [List.append_assoc])
  clear Q3
  go_wp2
  exact bodyPost_end (v := .tuple #[]) (by simp [results, Tryz.results74]) rfl ⟨rfl, S3.done⟩

set_option maxRecDepth 100000 in
set_option maxHeartbeats 1600000 in
theorem infoWrite_c {w : World} {c p o : Nat} {out : List UInt8} {g : Option Nat} (h : Writes w c out g) (x : InfoT) (hi : in64 x.les ∧ in64 x.head.epoch ∧ in64 x.head.n ∧ in64 x.tail.epoch ∧ in64 x.tail.n ∧ in64 x.born) (hv : Var w p o [Value.int IntKind.i64 x.les, Value.int IntKind.i64 x.head.epoch, Value.int IntKind.i64 x.head.n, Value.int IntKind.i64 x.tail.epoch, Value.int IntKind.i64 x.tail.n, Value.int IntKind.i64 x.born]) (hm : out.length + x.enc.length ≤ 80000000000000) :
    Calls Tryz.prog 72 #[.pointer (some ⟨c, 0, none⟩), .pointer (some ⟨p, o, none⟩)] w fun e w' => e = .returned (.tuple #[]) ∧ Wrote w w' c out g x.enc := by
  have hmf : ∀ (fn : Fn) (first cap : Array Value) (w : World), (Instr.makeFunc fn first cap).run Tryz.prog w = .ok (.func fn first cap) w := fun _ _ _ _ => rfl
  obtain ⟨i0, i1, i2, i3, i4, i5⟩ := hi
  simp only [InfoT.enc, List.length_append, List.length_nil, encI_length, bB_length, leB_length, encT_length, encBy_length] at hm
  simp only [InfoT.enc]
  have hlp := hv.lt
  have S0 := Cod.start h
  go_enter Tryz.func72, Tryz.ntmps72
  have hv0 : Var w p (o) [Value.int IntKind.i64 x.les] := (S0.var h hv).sub (i := 0) (by intro f hf; simp at hf; subst hf; simp)
  have lv0 := hv0.lt
  go_wp2_with fail
  refine (numWrite_c S0.writes x.les i0 hv0 (by have := S0.len; simp only [List.length_append, List.length_nil, encI_length, bB_length, leB_length, encT_length, encBy_length] at this; omega)).mono ?_
  rintro _ w1 ⟨rfl, hW1⟩
  obtain ⟨L1, g1, S1⟩ := S0.then hW1
  have hv1 : Var w1 p (o + 1) [Value.int IntKind.i64 x.head.epoch, Value.int IntKind.i64 x.head.n] := (S1.var h hv).sub (i := 1) (by
    intro f hf
    simp only [List.length_cons, List.length_nil] at hf
    have : f = 0 ∨ f = 1 := by omega
    rcases this with rfl | rfl <;> simp)
  have lv1 := hv1.lt
  go_wp2_with fail
  refine (versionWrite_c S1.writes x.head ⟨i1, i2⟩ hv1 (by have := S1.len; simp only [List.length_append, List.length_nil, encI_length, bB_length, leB_length, encT_length, encBy_length] at this; omega)).mono ?_
  rintro _ w2 ⟨rfl, hW2⟩
  obtain ⟨L2, g2, S2⟩ := S1.then hW2
  have hv2 : Var w2 p (o + 3) [Value.int IntKind.i64 x.tail.epoch, Value.int IntKind.i64 x.tail.n] := (S2.var h hv).sub (i := 3) (by
    intro f hf
    simp only [List.length_cons, List.length_nil] at hf
    have : f = 0 ∨ f = 1 := by omega
    rcases this with rfl | rfl <;> simp)
  have lv2 := hv2.lt
  go_wp2_with fail
  refine (versionWrite_c S2.writes x.tail ⟨i3, i4⟩ hv2 (by have := S2.len; simp only [List.length_append, List.length_nil, encI_length, bB_length, leB_length, encT_length, encBy_length] at this; omega)).mono ?_
  rintro _ w3 ⟨rfl, hW3⟩
  obtain ⟨L3, g3, S3⟩ := S2.then hW3
  have hv3 : Var w3 p (o + 5) [Value.int IntKind.i64 x.born] := (S3.var h hv).sub (i := 5) (by intro f hf; simp at hf; subst hf; simp)
  have lv3 := hv3.lt
  go_wp2_with fail
  refine (numWrite_c S3.writes x.born i5 hv3 (by have := S3.len; simp only [List.length_append, List.length_nil, encI_length, bB_length, leB_length, encT_length, encBy_length] at this; omega)).mono ?_
  rintro _ w4 ⟨rfl, hW4⟩
  obtain ⟨L4, g4, S4⟩ := S3.then hW4
  go_wp2
  exact bodyPost_end (v := .tuple #[]) (by simp [results, Tryz.results72]) rfl ⟨rfl, S4.done⟩

set_option maxRecDepth 100000 in
set_option maxHeartbeats 1600000 in
theorem opWrite_c {w : World} {c p o : Nat} {out : List UInt8} {g : Option Nat} (h : Writes w c out g) {S : Nat → Prop} (hS : ∀ k, S k → k < w.heap.size ∧ k ≠ c ∧ g ≠ some k) (x : OpT) {cs : List Value} (hx : OpT.Is w S cs x) (hv : Var w p o cs) (hm : out.length + x.enc.length ≤ 80000000000000) :
    Calls Tryz.prog 75 #[.pointer (some ⟨c, 0, none⟩), .pointer (some ⟨p, o, none⟩)] w fun e w' => e = .returned (.tuple #[]) ∧ Wrote w w' c out g x.enc := by
  have hmf : ∀ (fn : Fn) (first cap : Array Value) (w : World), (Instr.makeFunc fn first cap).run Tryz.prog w = .ok (.func fn first cap) w := fun _ _ _ _ => rfl
  obtain ⟨v_data, rfl, i0, i1, i2, l0⟩ := hx
  simp only [OpT.enc, List.length_append, List.length_nil, encI_length, bB_length, leB_length, encT_length, encBy_length] at hm
  simp only [OpT.enc]
  have hlp := hv.lt
  have S0 := Cod.start h
  go_enter Tryz.func75, Tryz.ntmps75
  have hv0 : Var w p (o) [Value.int IntKind.i64 x.kind] := (S0.var h hv).sub (i := 0) (by intro f hf; simp at hf; subst hf; simp)
  have lv0 := hv0.lt
  go_wp2_with fail
  refine (numWrite_c S0.writes x.kind i0 hv0 (by have := S0.len; simp only [List.length_append, List.length_nil, encI_length, bB_length, leB_length, encT_length, encBy_length] at this; omega)).mono ?_
  rintro _ w1 ⟨rfl, hW1⟩
  obtain ⟨L1, g1, S1⟩ := S0.then hW1
  have hv1 : Var w1 p (o + 1) [Value.string x.name] := (S1.var h hv).sub (i := 1) (by intro f hf; simp at hf; subst hf; simp)
  have lv1 := hv1.lt
  go_wp2_with fail
  refine (textW_c S1.writes x.name hv1 (by have := S1.len; simp only [List.length_append, List.length_nil, encI_length, bB_length, leB_length, encT_length, encBy_length] at this ⊢; omega)).mono ?_
  rintro _ w2 ⟨rfl, hW2⟩
  obtain ⟨L2, g2, S2⟩ := S1.then hW2
  have hv2 : Var w2 p (o + 2) [v_data] := (S2.var h hv).sub (i := 2) (by intro f hf; simp at hf; subst hf; simp)
  have lv2 := hv2.lt
  have hd2 := S2.data hS
  go_wp2_with fail
  refine (bytesW_c S2.writes (S2.sets hS) x.data (l0.heap (fun _ _ h => byteIs_stable _ _ _ _ _ _ h (fun _ h => h) hd2) (fun _ h => h) hd2) hv2 (by have := S2.len; simp only [List.length_append, List.length_nil, encI_length, bB_length, leB_length, encT_length, encBy_length] at this ⊢; omega)).mono ?_
  rintro _ w3 ⟨rfl, hW3⟩
  obtain ⟨L3, g3, Q3⟩ := S2.then hW3
  have S3 := Q3.cast (more' := [] ++ encI x.kind ++ encT x.name ++ encBy x.data) (by simp only [List.append_assoc])
  clear Q3
  have hv3 : Var w3 p (o + 3) [Value.int IntKind.i64 x.expect.epoch, Value.int IntKind.i64 x.expect.n] := (S3.var h hv).sub (i := 3) (by
    intro f hf
    simp only [List.length_cons, List.length_nil] at hf
    have : f = 0 ∨ f = 1 := by omega
    rcases this with rfl | rfl <;> simp)
  have lv3 := hv3.lt
  go_wp2_with fail
  refine (versionWrite_c S3.writes x.expect ⟨i1, i2⟩ hv3 (by have := S3.len; simp only [List.length_append, List.length_nil, encI_length, bB_length, leB_length, encT_length, encBy_length] at this; omega)).mono ?_
  rintro _ w4 ⟨rfl, hW4⟩
  obtain ⟨L4, g4, S4⟩ := S3.then hW4
  go_wp2
  exact bodyPost_end (v := .tuple #[]) (by simp [results, Tryz.results75]) rfl ⟨rfl, S4.done⟩

set_option maxRecDepth 100000 in
set_option maxHeartbeats 1600000 in
theorem msgWrite_c {w : World} {c p o : Nat} {out : List UInt8} {g : Option Nat} (h : Writes w c out g) {S : Nat → Prop} (hS : ∀ k, S k → k < w.heap.size ∧ k ≠ c ∧ g ≠ some k) (x : MsgT) {cs : List Value} (hx : MsgT.Is w S cs x) (hv : Var w p o cs) (hm : out.length + x.enc.length ≤ 80000000000000) :
    Calls Tryz.prog 33 #[.pointer (some ⟨c, 0, none⟩), .pointer (some ⟨p, o, none⟩)] w fun e w' => e = .returned (.tuple #[]) ∧ Wrote w w' c out g x.enc := by
  have hmf : ∀ (fn : Fn) (first cap : Array Value) (w : World), (Instr.makeFunc fn first cap).run Tryz.prog w = .ok (.func fn first cap) w := fun _ _ _ _ => rfl
  obtain ⟨v_slots, v_incs, v_changes, v_state_log, v_state_lasts, v_state_items, v_object_data, v_op_data, v_items, v_names, rfl, i0, i1, i2, i3, i4, i5, i6, i7, i8, i9, i10, i11, i12, i13, i14, i15, i16, i17, i18, i19, i20, i21, i22, i23, i24, i25, i26, i27, i28, i29, i30, i31, l0, l1, l2, l3, l4, l5, l6, l7, l8, l9⟩ := hx
  (unfold MsgT.enc at hm; simp only [List.length_append, List.length_nil, encI_length, bB_length, leB_length, encT_length, encBy_length] at hm)
  (unfold MsgT.enc)
  have hlp := hv.lt
  have S0 := Cod.start h
  go_enter Tryz.func33, Tryz.ntmps33
  have hv0 : Var w p (o) [Value.int IntKind.i64 x.kind] := (S0.var h hv).sub (i := 0) (by intro f hf; simp at hf; subst hf; simp)
  have lv0 := hv0.lt
  go_wp2_with fail
  refine (numWrite_c S0.writes x.kind i0 hv0 (by have := S0.len; simp only [List.length_append, List.length_nil, encI_length, bB_length, leB_length, encT_length, encBy_length] at this; omega)).mono ?_
  rintro _ w1 ⟨rfl, hW1⟩
  obtain ⟨L1, g1, S1⟩ := S0.then hW1
  have hv1 : Var w1 p (o + 1) [Value.int IntKind.i64 x.src.kind, Value.int IntKind.i64 x.src.id] := (S1.var h hv).sub (i := 1) (by
    intro f hf
    simp only [List.length_cons, List.length_nil] at hf
    have : f = 0 ∨ f = 1 := by omega
    rcases this with rfl | rfl <;> simp)
  have lv1 := hv1.lt
  go_wp2_with fail
  refine (nodeWrite_c S1.writes x.src ⟨i1, i2⟩ hv1 (by have := S1.len; simp only [List.length_append, List.length_nil, encI_length, bB_length, leB_length, encT_length, encBy_length] at this; omega)).mono ?_
  rintro _ w2 ⟨rfl, hW2⟩
  obtain ⟨L2, g2, S2⟩ := S1.then hW2
  have hv2 : Var w2 p (o + 3) [Value.int IntKind.i64 x.dst.kind, Value.int IntKind.i64 x.dst.id] := (S2.var h hv).sub (i := 3) (by
    intro f hf
    simp only [List.length_cons, List.length_nil] at hf
    have : f = 0 ∨ f = 1 := by omega
    rcases this with rfl | rfl <;> simp)
  have lv2 := hv2.lt
  go_wp2_with fail
  refine (nodeWrite_c S2.writes x.dst ⟨i3, i4⟩ hv2 (by have := S2.len; simp only [List.length_append, List.length_nil, encI_length, bB_length, leB_length, encT_length, encBy_length] at this; omega)).mono ?_
  rintro _ w3 ⟨rfl, hW3⟩
  obtain ⟨L3, g3, S3⟩ := S2.then hW3
  have lv3 := (S3.var h hv).lt
  go_wp2
  refine wp_region_ord [1, 2, 3, 4, 5, 6] [0] [7, 8] (by kernel_rfl) (by kernel_rfl) (fun _ _ d _ _ h => by cases d <;> exact h) ?_
  simp only [sel, List.filterMap_cons, List.filterMap_nil, List.getElem?_cons_zero, List.getElem?_cons_succ]
  repeat (quiet_step (fail))
  refine wpQuiet_nil ?_
  refine wpIdle_step (fun K hK => ?_)
  go_simp
  refine hK _ ?_
  clear hK
  refine wpIdle_nil ?_
  rintro _ ⟨nr, rfl⟩
  have T3 := S3.dN nr
  generalize w3.drewN nr = y3 at T3 ⊢
  go_wp2_with fail
  have U3 := T3.alloc (Obj.cells #[Value.pointer (some ⟨p, o + 5, none⟩), Value.pointer (some ⟨p, o + 6, none⟩)] 140)
  have r3 := (own_alloc y3 [Value.pointer (some ⟨p, o + 5, none⟩), Value.pointer (some ⟨p, o + 6, none⟩)] 140 2 rfl (by decide)).reads
  generalize y3.alloc (Obj.cells #[Value.pointer (some ⟨p, o + 5, none⟩), Value.pointer (some ⟨p, o + 6, none⟩)] 140) = z3 at U3 r3 ⊢
  have hq3 : ∀ q ∈ ([⟨p, o + 5, x.boot⟩, ⟨p, o + 6, x.epoch⟩] : List Place), Var z3 q.p q.o [.int .i64 q.n] ∧ in64 q.n := by
    intro q hq
    simp only [List.mem_cons, List.not_mem_nil, or_false] at hq
    rcases hq with rfl | rfl
    · exact ⟨(U3.var h hv).sub (i := 5) (by intro f hf; simp at hf; subst hf; simp), i5⟩
    · exact ⟨(U3.var h hv).sub (i := 6) (by intro f hf; simp at hf; subst hf; simp), i6⟩
  have hyc3 : y3.heap.size ≠ c ∧ g3 ≠ some y3.heap.size := by
    obtain ⟨vo, h1, h2⟩ := T3.writes.ex
    exact ⟨Nat.ne_of_gt (lt_in h1), fun e => absurd (h2.lt _ e) (by omega)⟩
  refine (numsWrite_c (ps := [⟨p, o + 5, x.boot⟩, ⟨p, o + 6, x.epoch⟩]) U3.writes (gp := some y3.heap.size) r3 (fun k hk => by cases hk; exact hyc3) hq3 (by simp) (by have := U3.len; simp only [List.length_append, List.length_nil, encI_length, bB_length, leB_length, encT_length, encBy_length] at this; omega)).mono ?_
  rintro _ w4 ⟨rfl, hW4⟩
  obtain ⟨L4, g4, Q4⟩ := U3.then hW4
  have S4 := Q4.cast (more' := [] ++ encI x.kind ++ x.src.enc ++ x.dst.enc ++ encI x.boot ++ encI x.epoch) (by simp [Place.enc])
  clear Q4
  have hv4 : Var w4 p (o + 7) [Value.int IntKind.i64 x.pg.pool, Value.int IntKind.i64 x.pg.seed] := (S4.var h hv).sub (i := 7) (by
    intro f hf
    simp only [List.length_cons, List.length_nil] at hf
    have : f = 0 ∨ f = 1 := by omega
    rcases this with rfl | rfl <;> simp)
  have lv4 := hv4.lt
  go_wp2_with fail
  refine (pgWrite_c S4.writes x.pg ⟨i7, i8⟩ hv4 (by have := S4.len; simp only [List.length_append, List.length_nil, encI_length, bB_length, leB_length, encT_length, encBy_length] at this; omega)).mono ?_
  rintro _ w5 ⟨rfl, hW5⟩
  obtain ⟨L5, g5, S5⟩ := S4.then hW5
  have lv5 := (S5.var h hv).lt
  go_wp2
  refine wp_region_ord [1, 2, 3, 4, 5, 6, 7, 8, 9] [0] [10, 11] (by kernel_rfl) (by kernel_rfl) (fun _ _ d _ _ h => by cases d <;> exact h) ?_
  simp only [sel, List.filterMap_cons, List.filterMap_nil, List.getElem?_cons_zero, List.getElem?_cons_succ]
  repeat (quiet_step (fail))
  refine wpQuiet_nil ?_
  refine wpIdle_step (fun K hK => ?_)
  go_simp
  refine hK _ ?_
  clear hK
  refine wpIdle_nil ?_
  rintro _ ⟨nr, rfl⟩
  have T5 := S5.dN nr
  generalize w5.drewN nr = y5 at T5 ⊢
  go_wp2_with fail
  have U5 := T5.alloc (Obj.cells #[Value.pointer (some ⟨p, o + 9, none⟩), Value.pointer (some ⟨p, o + 10, none⟩), Value.pointer (some ⟨p, o + 11, none⟩)] 140)
  have r5 := (own_alloc y5 [Value.pointer (some ⟨p, o + 9, none⟩), Value.pointer (some ⟨p, o + 10, none⟩), Value.pointer (some ⟨p, o + 11, none⟩)] 140 3 rfl (by decide)).reads
  generalize y5.alloc (Obj.cells #[Value.pointer (some ⟨p, o + 9, none⟩), Value.pointer (some ⟨p, o + 10, none⟩), Value.pointer (some ⟨p, o + 11, none⟩)] 140) = z5 at U5 r5 ⊢
  have hq5 : ∀ q ∈ ([⟨p, o + 9, x.client⟩, ⟨p, o + 10, x.number⟩, ⟨p, o + 11, x.ballot⟩] : List Place), Var z5 q.p q.o [.int .i64 q.n] ∧ in64 q.n := by
    intro q hq
    simp only [List.mem_cons, List.not_mem_nil, or_false] at hq
    rcases hq with rfl | rfl | rfl
    · exact ⟨(U5.var h hv).sub (i := 9) (by intro f hf; simp at hf; subst hf; simp), i9⟩
    · exact ⟨(U5.var h hv).sub (i := 10) (by intro f hf; simp at hf; subst hf; simp), i10⟩
    · exact ⟨(U5.var h hv).sub (i := 11) (by intro f hf; simp at hf; subst hf; simp), i11⟩
  have hyc5 : y5.heap.size ≠ c ∧ g5 ≠ some y5.heap.size := by
    obtain ⟨vo, h1, h2⟩ := T5.writes.ex
    exact ⟨Nat.ne_of_gt (lt_in h1), fun e => absurd (h2.lt _ e) (by omega)⟩
  refine (numsWrite_c (ps := [⟨p, o + 9, x.client⟩, ⟨p, o + 10, x.number⟩, ⟨p, o + 11, x.ballot⟩]) U5.writes (gp := some y5.heap.size) r5 (fun k hk => by cases hk; exact hyc5) hq5 (by simp) (by have := U5.len; simp only [List.length_append, List.length_nil, encI_length, bB_length, leB_length, encT_length, encBy_length] at this; omega)).mono ?_
  rintro _ w6 ⟨rfl, hW6⟩
  obtain ⟨L6, g6, Q6⟩ := U5.then hW6
  have S6 := Q6.cast (more' := [] ++ encI x.kind ++ x.src.enc ++ x.dst.enc ++ encI x.boot ++ encI x.epoch ++ x.pg.enc ++ encI x.client ++ encI x.number ++ encI x.ballot) (by simp [Place.enc])
  clear Q6
  have hv6 : Var w6 p (o + 12) [v_slots] := (S6.var h hv).sub (i := 12) (by intro f hf; simp at hf; subst hf; simp)
  have lv6 := hv6.lt
  have hd6 := S6.data hS
  go_wp2_with fail
  refine (listSlotWrite_c S6.writes (S6.sets hS) x.slots (l0.heap (fun _ _ h => SlotT.Is.heap h (fun _ h => h) hd6) (fun _ h => h) hd6) hv6 (by have := S6.len; simp only [List.length_append, List.length_nil, encI_length, bB_length, leB_length, encT_length, encBy_length] at this ⊢; omega)).mono ?_
  rintro _ w7 ⟨rfl, hW7⟩
  obtain ⟨L7, g7, Q7⟩ := S6.then hW7
  have S7 := Q7.cast (more' := [] ++ encI x.kind ++ x.src.enc ++ x.dst.enc ++ encI x.boot ++ encI x.epoch ++ x.pg.enc ++ encI x.client ++ encI x.number ++ encI x.ballot ++ leB 4 x.slots.length ++ x.slots.flatMap SlotT.enc) (by simp only [List.append_assoc])
  clear Q7
  have hv7 : Var w7 p (o + 13) [v_incs] := (S7.var h hv).sub (i := 13) (by intro f hf; simp at hf; subst hf; simp)
  have lv7 := hv7.lt
  have hd7 := S7.data hS
  go_wp2_with fail
  refine (listIncWrite_c S7.writes (S7.sets hS) x.incs (l1.heap (fun _ _ h => IncT.Is.heap h (fun _ h => h) hd7) (fun _ h => h) hd7) hv7 (by have := S7.len; simp only [List.length_append, List.length_nil, encI_length, bB_length, leB_length, encT_length, encBy_length] at this ⊢; omega)).mono ?_
  rintro _ w8 ⟨rfl, hW8⟩
  obtain ⟨L8, g8, Q8⟩ := S7.then hW8
  have S8 := Q8.cast (more' := [] ++ encI x.kind ++ x.src.enc ++ x.dst.enc ++ encI x.boot ++ encI x.epoch ++ x.pg.enc ++ encI x.client ++ encI x.number ++ encI x.ballot ++ leB 4 x.slots.length ++ x.slots.flatMap SlotT.enc ++ leB 4 x.incs.length ++ x.incs.flatMap IncT.enc) (by simp only [List.append_assoc])
  clear Q8
  have hv8 : Var w8 p (o + 14) [v_changes] := (S8.var h hv).sub (i := 14) (by intro f hf; simp at hf; subst hf; simp)
  have lv8 := hv8.lt
  have hd8 := S8.data hS
  go_wp2_with fail
  refine (listChangeWrite_c S8.writes (S8.sets hS) x.changes (l2.heap (fun _ _ h => ChangeT.Is.heap h (fun _ h => h) hd8) (fun _ h => h) hd8) hv8 (by have := S8.len; simp only [List.length_append, List.length_nil, encI_length, bB_length, leB_length, encT_length, encBy_length] at this ⊢; omega)).mono ?_
  rintro _ w9 ⟨rfl, hW9⟩
  obtain ⟨L9, g9, Q9⟩ := S8.then hW9
  have S9 := Q9.cast (more' := [] ++ encI x.kind ++ x.src.enc ++ x.dst.enc ++ encI x.boot ++ encI x.epoch ++ x.pg.enc ++ encI x.client ++ encI x.number ++ encI x.ballot ++ leB 4 x.slots.length ++ x.slots.flatMap SlotT.enc ++ leB 4 x.incs.length ++ x.incs.flatMap IncT.enc ++ leB 4 x.changes.length ++ x.changes.flatMap ChangeT.enc) (by simp only [List.append_assoc])
  clear Q9
  have hv9 : Var w9 p (o + 15) [Value.int IntKind.i64 x.info.les, Value.int IntKind.i64 x.info.head.epoch, Value.int IntKind.i64 x.info.head.n, Value.int IntKind.i64 x.info.tail.epoch, Value.int IntKind.i64 x.info.tail.n, Value.int IntKind.i64 x.info.born] := (S9.var h hv).sub (i := 15) (by
    intro f hf
    simp only [List.length_cons, List.length_nil] at hf
    have : f = 0 ∨ f = 1 ∨ f = 2 ∨ f = 3 ∨ f = 4 ∨ f = 5 := by omega
    rcases this with rfl | rfl | rfl | rfl | rfl | rfl <;> simp)
  have lv9 := hv9.lt
  go_wp2_with fail
  refine (infoWrite_c S9.writes x.info ⟨i12, i13, i14, i15, i16, i17⟩ hv9 (by have := S9.len; simp only [List.length_append, List.length_nil, encI_length, bB_length, leB_length, encT_length, encBy_length] at this; omega)).mono ?_
  rintro _ w10 ⟨rfl, hW10⟩
  obtain ⟨L10, g10, S10⟩ := S9.then hW10
  have hv10 : Var w10 p (o + 21) [Value.int IntKind.i64 x.state.les, Value.int IntKind.i64 x.state.tail.epoch, Value.int IntKind.i64 x.state.tail.n, v_state_log, v_state_lasts, v_state_items] := (S10.var h hv).sub (i := 21) (by
    intro f hf
    simp only [List.length_cons, List.length_nil] at hf
    have : f = 0 ∨ f = 1 ∨ f = 2 ∨ f = 3 ∨ f = 4 ∨ f = 5 := by omega
    rcases this with rfl | rfl | rfl | rfl | rfl | rfl <;> simp)
  have lv10 := hv10.lt
  go_wp2_with fail
  have hd10 := S10.data hS
  have hx10 : StateT.Is w10 S [Value.int IntKind.i64 x.state.les, Value.int IntKind.i64 x.state.tail.epoch, Value.int IntKind.i64 x.state.tail.n, v_state_log, v_state_lasts, v_state_items] x.state := ⟨_, _, _, rfl, i18, i19, i20, l3.heap (fun _ _ h => EntryT.Is.heap h) (fun _ h => h) hd10, l4.heap (fun _ _ h => LastT.Is.heap h) (fun _ h => h) hd10, l5.heap (fun _ _ h => ItemT.Is.heap h) (fun _ h => h) hd10⟩
  refine (stateWrite_c S10.writes (S10.sets hS) x.state hx10 hv10 (by have := S10.len; simp only [List.length_append, List.length_nil, encI_length, bB_length, leB_length, encT_length, encBy_length] at this; omega)).mono ?_
  rintro _ w11 ⟨rfl, hW11⟩
  obtain ⟨L11, g11, S11⟩ := S10.then hW11
  have hv11 : Var w11 p (o + 27) [Value.int IntKind.i64 x.entry.version.epoch, Value.int IntKind.i64 x.entry.version.n, Value.bool x.entry.remove, Value.int IntKind.i64 x.entry.errno, Value.string x.entry.name, Value.int IntKind.i64 x.entry.client, Value.int IntKind.i64 x.entry.number] := (S11.var h hv).sub (i := 27) (by
    intro f hf
    simp only [List.length_cons, List.length_nil] at hf
    have : f = 0 ∨ f = 1 ∨ f = 2 ∨ f = 3 ∨ f = 4 ∨ f = 5 ∨ f = 6 := by omega
    rcases this with rfl | rfl | rfl | rfl | rfl | rfl | rfl <;> simp)
  have lv11 := hv11.lt
  go_wp2_with fail
  refine (entryWrite_c S11.writes x.entry ⟨i21, i22, i23, i24, i25⟩ hv11 (by have := S11.len; simp only [List.length_append, List.length_nil, encI_length, bB_length, leB_length, encT_length, encBy_length] at this; omega)).mono ?_
  rintro _ w12 ⟨rfl, hW12⟩
  obtain ⟨L12, g12, S12⟩ := S11.then hW12
  have hv12 : Var w12 p (o + 34) [Value.string x.object.name, Value.int IntKind.i64 x.object.version.epoch, Value.int IntKind.i64 x.object.version.n, v_object_data] := (S12.var h hv).sub (i := 34) (by
    intro f hf
    simp only [List.length_cons, List.length_nil] at hf
    have : f = 0 ∨ f = 1 ∨ f = 2 ∨ f = 3 := by omega
    rcases this with rfl | rfl | rfl | rfl <;> simp)
  have lv12 := hv12.lt
  go_wp2_with fail
  have hd12 := S12.data hS
  have hx12 : ObjectT.Is w12 S [Value.string x.object.name, Value.int IntKind.i64 x.object.version.epoch, Value.int IntKind.i64 x.object.version.n, v_object_data] x.object := ⟨_, rfl, i26, i27, l6.heap (fun _ _ h => byteIs_stable _ _ _ _ _ _ h (fun _ h => h) hd12) (fun _ h => h) hd12⟩
  refine (objectWrite_c S12.writes (S12.sets hS) x.object hx12 hv12 (by have := S12.len; simp only [List.length_append, List.length_nil, encI_length, bB_length, leB_length, encT_length, encBy_length] at this; omega)).mono ?_
  rintro _ w13 ⟨rfl, hW13⟩
  obtain ⟨L13, g13, S13⟩ := S12.then hW13
  have hv13 : Var w13 p (o + 38) [Value.int IntKind.i64 x.op.kind, Value.string x.op.name, v_op_data, Value.int IntKind.i64 x.op.expect.epoch, Value.int IntKind.i64 x.op.expect.n] := (S13.var h hv).sub (i := 38) (by
    intro f hf
    simp only [List.length_cons, List.length_nil] at hf
    have : f = 0 ∨ f = 1 ∨ f = 2 ∨ f = 3 ∨ f = 4 := by omega
    rcases this with rfl | rfl | rfl | rfl | rfl <;> simp)
  have lv13 := hv13.lt
  go_wp2_with fail
  have hd13 := S13.data hS
  have hx13 : OpT.Is w13 S [Value.int IntKind.i64 x.op.kind, Value.string x.op.name, v_op_data, Value.int IntKind.i64 x.op.expect.epoch, Value.int IntKind.i64 x.op.expect.n] x.op := ⟨_, rfl, i28, i29, i30, l7.heap (fun _ _ h => byteIs_stable _ _ _ _ _ _ h (fun _ h => h) hd13) (fun _ h => h) hd13⟩
  refine (opWrite_c S13.writes (S13.sets hS) x.op hx13 hv13 (by have := S13.len; simp only [List.length_append, List.length_nil, encI_length, bB_length, leB_length, encT_length, encBy_length] at this; omega)).mono ?_
  rintro _ w14 ⟨rfl, hW14⟩
  obtain ⟨L14, g14, S14⟩ := S13.then hW14
  have hv14 : Var w14 p (o + 43) [v_items] := (S14.var h hv).sub (i := 43) (by intro f hf; simp at hf; subst hf; simp)
  have lv14 := hv14.lt
  have hd14 := S14.data hS
  go_wp2_with fail
  refine (listItemWrite_c S14.writes (S14.sets hS) x.items (l8.heap (fun _ _ h => ItemT.Is.heap h) (fun _ h => h) hd14) hv14 (by have := S14.len; simp only [List.length_append, List.length_nil, encI_length, bB_length, leB_length, encT_length, encBy_length] at this ⊢; omega)).mono ?_
  rintro _ w15 ⟨rfl, hW15⟩
  obtain ⟨L15, g15, Q15⟩ := S14.then hW15
  have S15 := Q15.cast (more' := [] ++ encI x.kind ++ x.src.enc ++ x.dst.enc ++ encI x.boot ++ encI x.epoch ++ x.pg.enc ++ encI x.client ++ encI x.number ++ encI x.ballot ++ leB 4 x.slots.length ++ x.slots.flatMap SlotT.enc ++ leB 4 x.incs.length ++ x.incs.flatMap IncT.enc ++ leB 4 x.changes.length ++ x.changes.flatMap ChangeT.enc ++ x.info.enc ++ x.state.enc ++ x.entry.enc ++ x.object.enc ++ x.op.enc ++ leB 4 x.items.length ++ x.items.flatMap ItemT.enc) (by simp only [List.append_assoc])
  clear Q15
  have hv15 : Var w15 p (o + 44) [v_names] := (S15.var h hv).sub (i := 44) (by intro f hf; simp at hf; subst hf; simp)
  have lv15 := hv15.lt
  have hd15 := S15.data hS
  go_wp2_with fail
  refine (listtextWrite_c S15.writes (S15.sets hS) x.names (l9.heap (fun _ _ h => textIs_stable _ _ _ _ _ _ h (fun _ h => h) hd15) (fun _ h => h) hd15) hv15 (by have := S15.len; simp only [List.length_append, List.length_nil, encI_length, bB_length, leB_length, encT_length, encBy_length] at this ⊢; omega)).mono ?_
  rintro _ w16 ⟨rfl, hW16⟩
  obtain ⟨L16, g16, Q16⟩ := S15.then hW16
  have S16 := Q16.cast (more' := [] ++ encI x.kind ++ x.src.enc ++ x.dst.enc ++ encI x.boot ++ encI x.epoch ++ x.pg.enc ++ encI x.client ++ encI x.number ++ encI x.ballot ++ leB 4 x.slots.length ++ x.slots.flatMap SlotT.enc ++ leB 4 x.incs.length ++ x.incs.flatMap IncT.enc ++ leB 4 x.changes.length ++ x.changes.flatMap ChangeT.enc ++ x.info.enc ++ x.state.enc ++ x.entry.enc ++ x.object.enc ++ x.op.enc ++ leB 4 x.items.length ++ x.items.flatMap ItemT.enc ++ leB 4 x.names.length ++ x.names.flatMap encT) (by simp only [List.append_assoc])
  clear Q16
  have hv16 : Var w16 p (o + 45) [Value.int IntKind.i64 x.errno] := (S16.var h hv).sub (i := 45) (by intro f hf; simp at hf; subst hf; simp)
  have lv16 := hv16.lt
  go_wp2_with fail
  refine (errnoW_c S16.writes x.errno i31 hv16 (by have := S16.len; simp only [List.length_append, List.length_nil, encI_length, bB_length, leB_length, encT_length, encBy_length] at this; omega)).mono ?_
  rintro _ w17 ⟨rfl, hW17⟩
  obtain ⟨L17, g17, S17⟩ := S16.then hW17
  go_wp2
  exact bodyPost_end (v := .tuple #[]) (by simp [results, Tryz.results33]) rfl ⟨rfl, S17.done⟩

end Go.Proofs.YtanmfldgillodaaGreat
