/- The contracts of the codec's writers of the structs. -/
import Derived.Test.YtanmfldgillodaaGreatPut2
set_option linter.unusedSimpArgs false
set_option linter.unusedVariables false
namespace Go.Proofs.YtanmfldgillodaaGreat
open Go.RowKit

set_option maxRecDepth 100000 in
set_option maxHeartbeats 1600000 in
theorem listtextWrite_c {w : World} {c p o : Nat} {out : List UInt8} {g : Option Nat} (h : Writes w c out g) {S : Nat → Prop} (hS : ∀ k, S k → k < w.heap.size ∧ k ≠ c ∧ g ≠ some k) {v : Value} (xs : List ByteArray) (hl : ListIs 1 textIs w S v xs) (hv : Var w p o [v]) (hm : out.length + (leB 4 xs.length ++ xs.flatMap encT).length ≤ 80000000000000) :
    Calls Tryz.prog 78 #[.pointer (some ⟨c, 0, none⟩), .pointer (some ⟨p, o, none⟩), .func (.func 79) #[.pointer (some ⟨c, 0, none⟩)] #[]] w fun e w' => e = .returned (.tuple #[]) ∧ Wrote w w' c out g (leB 4 xs.length ++ xs.flatMap encT) := by
  obtain ⟨a, cp, rfl, hc⟩ := hl.shape
  have hnl := hl.small
  have p0 : w.cell? ⟨p, o, none⟩ = some (.slice a xs.length cp) := hv.cell (f := 0) (by simp)
  have hlp := hv.lt
  simp only [List.length_append, leB_length] at hm
  go_enter Tryz.func78, Tryz.ntmps78
  go_wp2_with fail
  refine (countWrite_c h xs.length (by omega) (by omega)).mono ?_
  rintro e w1 ⟨rfl, hW1⟩
  obtain ⟨L1, g1, S1⟩ := (Cod.start h).then hW1
  have c2 : w1.cell? ⟨c, 2, none⟩ = some (.bool false) := by
    obtain ⟨vo, h1, -⟩ := S1.writes.ex
    exact cell_in h1
  have hl1 : c < w1.heap.size := by
    obtain ⟨vo, h1, -⟩ := S1.writes.ex
    exact lt_in h1
  clear p0
  go_wp2
  go_loopw [22] (fun i w' => ∃ (k : Nat) (L : List UInt8) (gL : Option Nat), k ≤ xs.length ∧ i = .int .i64 k ∧ Cod w w' c out g (leB 4 xs.length ++ (xs.take k).flatMap encT) L gL) (fun i _ => xs.length - (intOf i).toNat)
  case atStart => exact ⟨0, L1, g1, by omega, rfl, S1.cast (by simp)⟩
  case round =>
    obtain ⟨k, L, gL, hk, rfl, SL⟩ := hrel
    by_cases hk2 : k < xs.length
    · have hki : (k : Int) < (xs.length : Int) := by omega
      have hd := SL.data hS
      obtain ⟨b, off, cs, rfl, hb, hcl, hcell, hr⟩ := (hl.heap (fun _ _ h => textIs_stable _ _ _ _ _ _ h (fun _ h => h) hd) (fun _ h => h) hd).at hk2
      have hfl := flatMap_le encT xs (k + 1)
      have hft := flatMap_take encT xs k hk2
      rw [hft, List.length_append] at hfl
      obtain ⟨e, he⟩ : ∃ e, e = xs[k] := ⟨_, rfl⟩
      rw [← he] at hr hft hfl
      have HFT := Lib.hid hft
      clear hft he hcl
      have hvr := SL.var h hv
      have p0 : wr.cell? ⟨p, o, none⟩ = some (.slice (some ⟨b, off, none⟩) xs.length cp) := hvr.cell (f := 0) (by simp)
      have l2 := hvr.lt
      have hr0 := hr
      obtain rfl := hr
      have y0 := hcell 0 (by omega)
      simp only [Nat.mul_one, Nat.add_zero, List.getElem?_cons_zero] at y0
      go_wp2_with fail
      have SA := SL.alloc (Obj.cells #[Value.string e] 9)
      have vA := var_new wr #[Value.string e] 9 (by decide) (by decide)
      generalize wr.alloc (Obj.cells #[Value.string e] 9) = wa at SA vA ⊢
      have hbnd := SA.len
      simp only [List.length_append, leB_length] at hbnd
      refine (textW_c SA.writes e vA (by omega)).mono ?_
      rintro _ w9 ⟨rfl, hG⟩
      obtain ⟨L9, g9, S9⟩ := SA.then hG
      have HS9 := Lib.hid (S9.cast (more' := leB 4 xs.length ++ (xs.take (k + 1)).flatMap encT) (by rw [HFT.out, List.append_assoc]))
      clear S9 hG
      go_wp2
      exact ⟨⟨k + 1, L9, g9, by omega, by simp, HS9.out⟩, by simp [intOf]; omega⟩
    · obtain rfl : k = xs.length := by omega
      go_wp2
      rw [List.take_length] at SL
      exact bodyPost_ret (v := .tuple #[]) (by simp [results, Tryz.results78]) rfl ⟨rfl, SL.done⟩

set_option maxRecDepth 100000 in
set_option maxHeartbeats 1600000 in
theorem versionWrite_c {w : World} {c p o : Nat} {out : List UInt8} {g : Option Nat} (h : Writes w c out g) (x : VersionT) (hi : in64 x.epoch ∧ in64 x.n) (hv : Var w p o [Value.int IntKind.i64 x.epoch, Value.int IntKind.i64 x.n]) (hm : out.length + x.enc.length ≤ 80000000000000) :
    Calls Tryz.prog 123 #[.pointer (some ⟨c, 0, none⟩), .pointer (some ⟨p, o, none⟩)] w fun e w' => e = .returned (.tuple #[]) ∧ Wrote w w' c out g x.enc := by
  have hmf : ∀ (fn : Fn) (first cap : Array Value) (w : World), (Instr.makeFunc fn first cap).run Tryz.prog w = .ok (.func fn first cap) w := fun _ _ _ _ => rfl
  obtain ⟨i0, i1⟩ := hi
  simp only [VersionT.enc, List.length_append, List.length_nil, encI_length, bB_length, leB_length, encT_length, encBy_length] at hm
  simp only [VersionT.enc]
  have hlp := hv.lt
  have S0 := Cod.start h
  go_enter Tryz.func123, Tryz.ntmps123
  have lv0 := (S0.var h hv).lt
  go_wp2
  refine wp_region_ord [1, 2, 3, 4, 5, 6] [0] [7, 8] (by kernel_rfl) (by kernel_rfl) (fun _ _ d _ _ h => by cases d <;> exact h) ?_
  simp only [sel, List.filterMap_cons, List.filterMap_nil, List.getElem?_cons_zero, List.getElem?_cons_succ]
  repeat (quiet_step (fail))
  refine wpQuiet_nil ?_
  refine wpIdle_step (fun K hK => ?_)
  go_simp
  refine hK _ ?_
  clear hK
  refine wpIdle_nil ?_
  rintro _ ⟨nr, rfl⟩
  have T0 := S0.dN nr
  generalize w.drewN nr = y0 at T0 ⊢
  go_wp2_with fail
  have U0 := T0.alloc (Obj.cells #[Value.pointer (some ⟨p, o, none⟩), Value.pointer (some ⟨p, o + 1, none⟩)] 140)
  have r0 := (own_alloc y0 [Value.pointer (some ⟨p, o, none⟩), Value.pointer (some ⟨p, o + 1, none⟩)] 140 2 rfl (by decide)).reads
  generalize y0.alloc (Obj.cells #[Value.pointer (some ⟨p, o, none⟩), Value.pointer (some ⟨p, o + 1, none⟩)] 140) = z0 at U0 r0 ⊢
  have hq0 : ∀ q ∈ ([⟨p, o, x.epoch⟩, ⟨p, o + 1, x.n⟩] : List Place), Var z0 q.p q.o [.int .i64 q.n] ∧ in64 q.n := by
    intro q hq
    simp only [List.mem_cons, List.not_mem_nil, or_false] at hq
    rcases hq with rfl | rfl
    · exact ⟨(U0.var h hv).sub (i := 0) (by intro f hf; simp at hf; subst hf; simp), i0⟩
    · exact ⟨(U0.var h hv).sub (i := 1) (by intro f hf; simp at hf; subst hf; simp), i1⟩
  have hyc0 : y0.heap.size ≠ c ∧ g ≠ some y0.heap.size := by
    obtain ⟨vo, h1, h2⟩ := T0.writes.ex
    exact ⟨Nat.ne_of_gt (lt_in h1), fun e => absurd (h2.lt _ e) (by omega)⟩
  refine (numsWrite_c (ps := [⟨p, o, x.epoch⟩, ⟨p, o + 1, x.n⟩]) U0.writes (gp := some y0.heap.size) r0 (fun k hk => by cases hk; exact hyc0) hq0 (by simp) (by have := U0.len; simp only [List.length_append, List.length_nil, encI_length, bB_length, leB_length, encT_length, encBy_length] at this; omega)).mono ?_
  rintro _ w1 ⟨rfl, hW1⟩
  obtain ⟨L1, g1, Q1⟩ := U0.then hW1
  have S1 := Q1.cast (more' := [] ++ encI x.epoch ++ encI x.n) (by simp [Place.enc])
  clear Q1
  go_wp2
  exact bodyPost_end (v := .tuple #[]) (by simp [results, Tryz.results123]) rfl ⟨rfl, S1.done⟩

set_option maxRecDepth 100000 in
set_option maxHeartbeats 1600000 in
theorem pgWrite_c {w : World} {c p o : Nat} {out : List UInt8} {g : Option Nat} (h : Writes w c out g) (x : PgT) (hi : in64 x.pool ∧ in64 x.seed) (hv : Var w p o [Value.int IntKind.i64 x.pool, Value.int IntKind.i64 x.seed]) (hm : out.length + x.enc.length ≤ 80000000000000) :
    Calls Tryz.prog 66 #[.pointer (some ⟨c, 0, none⟩), .pointer (some ⟨p, o, none⟩)] w fun e w' => e = .returned (.tuple #[]) ∧ Wrote w w' c out g x.enc := by
  have hmf : ∀ (fn : Fn) (first cap : Array Value) (w : World), (Instr.makeFunc fn first cap).run Tryz.prog w = .ok (.func fn first cap) w := fun _ _ _ _ => rfl
  obtain ⟨i0, i1⟩ := hi
  simp only [PgT.enc, List.length_append, List.length_nil, encI_length, bB_length, leB_length, encT_length, encBy_length] at hm
  simp only [PgT.enc]
  have hlp := hv.lt
  have S0 := Cod.start h
  go_enter Tryz.func66, Tryz.ntmps66
  have lv0 := (S0.var h hv).lt
  go_wp2
  refine wp_region_ord [1, 2, 3, 4, 5, 6] [0] [7, 8] (by kernel_rfl) (by kernel_rfl) (fun _ _ d _ _ h => by cases d <;> exact h) ?_
  simp only [sel, List.filterMap_cons, List.filterMap_nil, List.getElem?_cons_zero, List.getElem?_cons_succ]
  repeat (quiet_step (fail))
  refine wpQuiet_nil ?_
  refine wpIdle_step (fun K hK => ?_)
  go_simp
  refine hK _ ?_
  clear hK
  refine wpIdle_nil ?_
  rintro _ ⟨nr, rfl⟩
  have T0 := S0.dN nr
  generalize w.drewN nr = y0 at T0 ⊢
  go_wp2_with fail
  have U0 := T0.alloc (Obj.cells #[Value.pointer (some ⟨p, o, none⟩), Value.pointer (some ⟨p, o + 1, none⟩)] 140)
  have r0 := (own_alloc y0 [Value.pointer (some ⟨p, o, none⟩), Value.pointer (some ⟨p, o + 1, none⟩)] 140 2 rfl (by decide)).reads
  generalize y0.alloc (Obj.cells #[Value.pointer (some ⟨p, o, none⟩), Value.pointer (some ⟨p, o + 1, none⟩)] 140) = z0 at U0 r0 ⊢
  have hq0 : ∀ q ∈ ([⟨p, o, x.pool⟩, ⟨p, o + 1, x.seed⟩] : List Place), Var z0 q.p q.o [.int .i64 q.n] ∧ in64 q.n := by
    intro q hq
    simp only [List.mem_cons, List.not_mem_nil, or_false] at hq
    rcases hq with rfl | rfl
    · exact ⟨(U0.var h hv).sub (i := 0) (by intro f hf; simp at hf; subst hf; simp), i0⟩
    · exact ⟨(U0.var h hv).sub (i := 1) (by intro f hf; simp at hf; subst hf; simp), i1⟩
  have hyc0 : y0.heap.size ≠ c ∧ g ≠ some y0.heap.size := by
    obtain ⟨vo, h1, h2⟩ := T0.writes.ex
    exact ⟨Nat.ne_of_gt (lt_in h1), fun e => absurd (h2.lt _ e) (by omega)⟩
  refine (numsWrite_c (ps := [⟨p, o, x.pool⟩, ⟨p, o + 1, x.seed⟩]) U0.writes (gp := some y0.heap.size) r0 (fun k hk => by cases hk; exact hyc0) hq0 (by simp) (by have := U0.len; simp only [List.length_append, List.length_nil, encI_length, bB_length, leB_length, encT_length, encBy_length] at this; omega)).mono ?_
  rintro _ w1 ⟨rfl, hW1⟩
  obtain ⟨L1, g1, Q1⟩ := U0.then hW1
  have S1 := Q1.cast (more' := [] ++ encI x.pool ++ encI x.seed) (by simp [Place.enc])
  clear Q1
  go_wp2
  exact bodyPost_end (v := .tuple #[]) (by simp [results, Tryz.results66]) rfl ⟨rfl, S1.done⟩

set_option maxRecDepth 100000 in
set_option maxHeartbeats 1600000 in
theorem entryWrite_c {w : World} {c p o : Nat} {out : List UInt8} {g : Option Nat} (h : Writes w c out g) (x : EntryT) (hi : in64 x.version.epoch ∧ in64 x.version.n ∧ in64 x.errno ∧ in64 x.client ∧ in64 x.number) (hv : Var w p o [Value.int IntKind.i64 x.version.epoch, Value.int IntKind.i64 x.version.n, Value.bool x.remove, Value.int IntKind.i64 x.errno, Value.string x.name, Value.int IntKind.i64 x.client, Value.int IntKind.i64 x.number]) (hm : out.length + x.enc.length ≤ 80000000000000) :
    Calls Tryz.prog 73 #[.pointer (some ⟨c, 0, none⟩), .pointer (some ⟨p, o, none⟩)] w fun e w' => e = .returned (.tuple #[]) ∧ Wrote w w' c out g x.enc := by
  have hmf : ∀ (fn : Fn) (first cap : Array Value) (w : World), (Instr.makeFunc fn first cap).run Tryz.prog w = .ok (.func fn first cap) w := fun _ _ _ _ => rfl
  obtain ⟨i0, i1, i2, i3, i4⟩ := hi
  simp only [EntryT.enc, List.length_append, List.length_nil, encI_length, bB_length, leB_length, encT_length, encBy_length] at hm
  simp only [EntryT.enc]
  have hlp := hv.lt
  have S0 := Cod.start h
  go_enter Tryz.func73, Tryz.ntmps73
  have hv0 : Var w p (o) [Value.int IntKind.i64 x.version.epoch, Value.int IntKind.i64 x.version.n] := (S0.var h hv).sub (i := 0) (by
    intro f hf
    simp only [List.length_cons, List.length_nil] at hf
    have : f = 0 ∨ f = 1 := by omega
    rcases this with rfl | rfl <;> simp)
  have lv0 := hv0.lt
  go_wp2_with fail
  refine (versionWrite_c S0.writes x.version ⟨i0, i1⟩ hv0 (by have := S0.len; simp only [List.length_append, List.length_nil, encI_length, bB_length, leB_length, encT_length, encBy_length] at this; omega)).mono ?_
  rintro _ w1 ⟨rfl, hW1⟩
  obtain ⟨L1, g1, S1⟩ := S0.then hW1
  have hv1 : Var w1 p (o + 2) [Value.bool x.remove] := (S1.var h hv).sub (i := 2) (by intro f hf; simp at hf; subst hf; simp)
  have lv1 := hv1.lt
  go_wp2_with fail
  refine (flagWrite_c S1.writes x.remove hv1 (by have := S1.len; simp only [List.length_append, List.length_nil, encI_length, bB_length, leB_length, encT_length, encBy_length] at this; omega)).mono ?_
  rintro _ w2 ⟨rfl, hW2⟩
  obtain ⟨L2, g2, S2⟩ := S1.then hW2
  have hv2 : Var w2 p (o + 3) [Value.int IntKind.i64 x.errno] := (S2.var h hv).sub (i := 3) (by intro f hf; simp at hf; subst hf; simp)
  have lv2 := hv2.lt
  go_wp2_with fail
  refine (errnoW_c S2.writes x.errno i2 hv2 (by have := S2.len; simp only [List.length_append, List.length_nil, encI_length, bB_length, leB_length, encT_length, encBy_length] at this; omega)).mono ?_
  rintro _ w3 ⟨rfl, hW3⟩
  obtain ⟨L3, g3, S3⟩ := S2.then hW3
  have hv3 : Var w3 p (o + 4) [Value.string x.name] := (S3.var h hv).sub (i := 4) (by intro f hf; simp at hf; subst hf; simp)
  have lv3 := hv3.lt
  go_wp2_with fail
  refine (textW_c S3.writes x.name hv3 (by have := S3.len; simp only [List.length_append, List.length_nil, encI_length, bB_length, leB_length, encT_length, encBy_length] at this ⊢; omega)).mono ?_
  rintro _ w4 ⟨rfl, hW4⟩
  obtain ⟨L4, g4, S4⟩ := S3.then hW4
  have lv4 := (S4.var h hv).lt
  go_wp2
  refine wp_region_ord [1, 2, 3, 4, 5, 6] [0] [7, 8] (by kernel_rfl) (by kernel_rfl) (fun _ _ d _ _ h => by cases d <;> exact h) ?_
  simp only [sel, List.filterMap_cons, List.filterMap_nil, List.getElem?_cons_zero, List.getElem?_cons_succ]
  repeat (quiet_step (fail))
  refine wpQuiet_nil ?_
  refine wpIdle_step (fun K hK => ?_)
  go_simp
  refine hK _ ?_
  clear hK
  refine wpIdle_nil ?_
  rintro _ ⟨nr, rfl⟩
  have T4 := S4.dN nr
  generalize w4.drewN nr = y4 at T4 ⊢
  go_wp2_with fail
  have U4 := T4.alloc (Obj.cells #[Value.pointer (some ⟨p, o + 5, none⟩), Value.pointer (some ⟨p, o + 6, none⟩)] 140)
  have r4 := (own_alloc y4 [Value.pointer (some ⟨p, o + 5, none⟩), Value.pointer (some ⟨p, o + 6, none⟩)] 140 2 rfl (by decide)).reads
  generalize y4.alloc (Obj.cells #[Value.pointer (some ⟨p, o + 5, none⟩), Value.pointer (some ⟨p, o + 6, none⟩)] 140) = z4 at U4 r4 ⊢
  have hq4 : ∀ q ∈ ([⟨p, o + 5, x.client⟩, ⟨p, o + 6, x.number⟩] : List Place), Var z4 q.p q.o [.int .i64 q.n] ∧ in64 q.n := by
    intro q hq
    simp only [List.mem_cons, List.not_mem_nil, or_false] at hq
    rcases hq with rfl | rfl
    · exact ⟨(U4.var h hv).sub (i := 5) (by intro f hf; simp at hf; subst hf; simp), i3⟩
    · exact ⟨(U4.var h hv).sub (i := 6) (by intro f hf; simp at hf; subst hf; simp), i4⟩
  have hyc4 : y4.heap.size ≠ c ∧ g4 ≠ some y4.heap.size := by
    obtain ⟨vo, h1, h2⟩ := T4.writes.ex
    exact ⟨Nat.ne_of_gt (lt_in h1), fun e => absurd (h2.lt _ e) (by omega)⟩
  refine (numsWrite_c (ps := [⟨p, o + 5, x.client⟩, ⟨p, o + 6, x.number⟩]) U4.writes (gp := some y4.heap.size) r4 (fun k hk => by cases hk; exact hyc4) hq4 (by simp) (by have := U4.len; simp only [List.length_append, List.length_nil, encI_length, bB_length, leB_length, encT_length, encBy_length] at this; omega)).mono ?_
  rintro _ w5 ⟨rfl, hW5⟩
  obtain ⟨L5, g5, Q5⟩ := U4.then hW5
  have S5 := Q5.cast (more' := [] ++ x.version.enc ++ bB x.remove ++ encI x.errno ++ encT x.name ++ encI x.client ++ encI x.number) (by simp [Place.enc])
  clear Q5
  go_wp2
  exact bodyPost_end (v := .tuple #[]) (by simp [results, Tryz.results73]) rfl ⟨rfl, S5.done⟩

set_option maxRecDepth 100000 in
set_option maxHeartbeats 1600000 in
theorem listEntryWrite_c {w : World} {c p o : Nat} {out : List UInt8} {g : Option Nat} (h : Writes w c out g) {S : Nat → Prop} (hS : ∀ k, S k → k < w.heap.size ∧ k ≠ c ∧ g ≠ some k) {v : Value} (xs : List EntryT) (hl : ListIs 7 EntryT.Is w S v xs) (hv : Var w p o [v]) (hm : out.length + (leB 4 xs.length ++ xs.flatMap EntryT.enc).length ≤ 80000000000000) :
    Calls Tryz.prog 124 #[.pointer (some ⟨c, 0, none⟩), .pointer (some ⟨p, o, none⟩), .func (.func 73) #[.pointer (some ⟨c, 0, none⟩)] #[]] w fun e w' => e = .returned (.tuple #[]) ∧ Wrote w w' c out g (leB 4 xs.length ++ xs.flatMap EntryT.enc) := by
  obtain ⟨a, cp, rfl, hc⟩ := hl.shape
  have hnl := hl.small
  have p0 : w.cell? ⟨p, o, none⟩ = some (.slice a xs.length cp) := hv.cell (f := 0) (by simp)
  have hlp := hv.lt
  simp only [List.length_append, leB_length] at hm
  go_enter Tryz.func124, Tryz.ntmps124
  go_wp2_with fail
  refine (countWrite_c h xs.length (by omega) (by omega)).mono ?_
  rintro e w1 ⟨rfl, hW1⟩
  obtain ⟨L1, g1, S1⟩ := (Cod.start h).then hW1
  have c2 : w1.cell? ⟨c, 2, none⟩ = some (.bool false) := by
    obtain ⟨vo, h1, -⟩ := S1.writes.ex
    exact cell_in h1
  have hl1 : c < w1.heap.size := by
    obtain ⟨vo, h1, -⟩ := S1.writes.ex
    exact lt_in h1
  clear p0
  go_wp2
  go_loopw [22] (fun i w' => ∃ (k : Nat) (L : List UInt8) (gL : Option Nat), k ≤ xs.length ∧ i = .int .i64 k ∧ Cod w w' c out g (leB 4 xs.length ++ (xs.take k).flatMap EntryT.enc) L gL) (fun i _ => xs.length - (intOf i).toNat)
  case atStart => exact ⟨0, L1, g1, by omega, rfl, S1.cast (by simp)⟩
  case round =>
    obtain ⟨k, L, gL, hk, rfl, SL⟩ := hrel
    by_cases hk2 : k < xs.length
    · have hki : (k : Int) < (xs.length : Int) := by omega
      have hd := SL.data hS
      obtain ⟨b, off, cs, rfl, hb, hcl, hcell, hr⟩ := (hl.heap (fun _ _ h => EntryT.Is.heap h) (fun _ h => h) hd).at hk2
      have hfl := flatMap_le EntryT.enc xs (k + 1)
      have hft := flatMap_take EntryT.enc xs k hk2
      rw [hft, List.length_append] at hfl
      obtain ⟨e, he⟩ : ∃ e, e = xs[k] := ⟨_, rfl⟩
      rw [← he] at hr hft hfl
      have HFT := Lib.hid hft
      clear hft he hcl
      have hvr := SL.var h hv
      have p0 : wr.cell? ⟨p, o, none⟩ = some (.slice (some ⟨b, off, none⟩) xs.length cp) := hvr.cell (f := 0) (by simp)
      have l2 := hvr.lt
      have hr0 := hr
      obtain ⟨rfl, j0, j1, j2, j3, j4⟩ := hr
      have y0 : wr.cell? ⟨b, off + k * 7, none⟩ = some (Value.int IntKind.i64 e.version.epoch) := hcell 0 (by omega)
      have y1 : wr.cell? ⟨b, off + k * 7 + 1, none⟩ = some (Value.int IntKind.i64 e.version.n) := hcell 1 (by omega)
      have y2 : wr.cell? ⟨b, off + k * 7 + 2, none⟩ = some (Value.bool e.remove) := hcell 2 (by omega)
      have y3 : wr.cell? ⟨b, off + k * 7 + 3, none⟩ = some (Value.int IntKind.i64 e.errno) := hcell 3 (by omega)
      have y4 : wr.cell? ⟨b, off + k * 7 + 4, none⟩ = some (Value.string e.name) := hcell 4 (by omega)
      have y5 : wr.cell? ⟨b, off + k * 7 + 5, none⟩ = some (Value.int IntKind.i64 e.client) := hcell 5 (by omega)
      have y6 : wr.cell? ⟨b, off + k * 7 + 6, none⟩ = some (Value.int IntKind.i64 e.number) := hcell 6 (by omega)
      go_wp2_with fail
      have SA := SL.alloc (Obj.cells #[Value.int IntKind.i64 e.version.epoch, Value.int IntKind.i64 e.version.n, Value.bool e.remove, Value.int IntKind.i64 e.errno, Value.string e.name, Value.int IntKind.i64 e.client, Value.int IntKind.i64 e.number] 40)
      have vA := var_new wr #[Value.int IntKind.i64 e.version.epoch, Value.int IntKind.i64 e.version.n, Value.bool e.remove, Value.int IntKind.i64 e.errno, Value.string e.name, Value.int IntKind.i64 e.client, Value.int IntKind.i64 e.number] 40 (by decide) (by decide)
      generalize wr.alloc (Obj.cells #[Value.int IntKind.i64 e.version.epoch, Value.int IntKind.i64 e.version.n, Value.bool e.remove, Value.int IntKind.i64 e.errno, Value.string e.name, Value.int IntKind.i64 e.client, Value.int IntKind.i64 e.number] 40) = wa at SA vA ⊢
      have hbnd := SA.len
      simp only [List.length_append, leB_length] at hbnd
      refine (entryWrite_c SA.writes e ⟨j0, j1, j2, j3, j4⟩ vA (by omega)).mono ?_
      rintro _ w9 ⟨rfl, hG⟩
      obtain ⟨L9, g9, S9⟩ := SA.then hG
      have HS9 := Lib.hid (S9.cast (more' := leB 4 xs.length ++ (xs.take (k + 1)).flatMap EntryT.enc) (by rw [HFT.out, List.append_assoc]))
      clear S9 hG
      go_wp2
      exact ⟨⟨k + 1, L9, g9, by omega, by simp, HS9.out⟩, by simp [intOf]; omega⟩
    · obtain rfl : k = xs.length := by omega
      go_wp2
      rw [List.take_length] at SL
      exact bodyPost_ret (v := .tuple #[]) (by simp [results, Tryz.results124]) rfl ⟨rfl, SL.done⟩

set_option maxRecDepth 100000 in
set_option maxHeartbeats 1600000 in
theorem lastWrite_c {w : World} {c p o : Nat} {out : List UInt8} {g : Option Nat} (h : Writes w c out g) (x : LastT) (hi : in64 x.client ∧ in64 x.number ∧ in64 x.errno ∧ in64 x.version.epoch ∧ in64 x.version.n) (hv : Var w p o [Value.int IntKind.i64 x.client, Value.int IntKind.i64 x.number, Value.int IntKind.i64 x.errno, Value.int IntKind.i64 x.version.epoch, Value.int IntKind.i64 x.version.n]) (hm : out.length + x.enc.length ≤ 80000000000000) :
    Calls Tryz.prog 126 #[.pointer (some ⟨c, 0, none⟩), .pointer (some ⟨p, o, none⟩)] w fun e w' => e = .returned (.tuple #[]) ∧ Wrote w w' c out g x.enc := by
  have hmf : ∀ (fn : Fn) (first cap : Array Value) (w : World), (Instr.makeFunc fn first cap).run Tryz.prog w = .ok (.func fn first cap) w := fun _ _ _ _ => rfl
  obtain ⟨i0, i1, i2, i3, i4⟩ := hi
  simp only [LastT.enc, List.length_append, List.length_nil, encI_length, bB_length, leB_length, encT_length, encBy_length] at hm
  simp only [LastT.enc]
  have hlp := hv.lt
  have S0 := Cod.start h
  go_enter Tryz.func126, Tryz.ntmps126
  have lv0 := (S0.var h hv).lt
  go_wp2
  refine wp_region_ord [1, 2, 3, 4, 5, 6] [0] [7, 8] (by kernel_rfl) (by kernel_rfl) (fun _ _ d _ _ h => by cases d <;> exact h) ?_
  simp only [sel, List.filterMap_cons, List.filterMap_nil, List.getElem?_cons_zero, List.getElem?_cons_succ]
  repeat (quiet_step (fail))
  refine wpQuiet_nil ?_
  refine wpIdle_step (fun K hK => ?_)
  go_simp
  refine hK _ ?_
  clear hK
  refine wpIdle_nil ?_
  rintro _ ⟨nr, rfl⟩
  have T0 := S0.dN nr
  generalize w.drewN nr = y0 at T0 ⊢
  go_wp2_with fail
  have U0 := T0.alloc (Obj.cells #[Value.pointer (some ⟨p, o, none⟩), Value.pointer (some ⟨p, o + 1, none⟩)] 140)
  have r0 := (own_alloc y0 [Value.pointer (some ⟨p, o, none⟩), Value.pointer (some ⟨p, o + 1, none⟩)] 140 2 rfl (by decide)).reads
  generalize y0.alloc (Obj.cells #[Value.pointer (some ⟨p, o, none⟩), Value.pointer (some ⟨p, o + 1, none⟩)] 140) = z0 at U0 r0 ⊢
  have hq0 : ∀ q ∈ ([⟨p, o, x.client⟩, ⟨p, o + 1, x.number⟩] : List Place), Var z0 q.p q.o [.int .i64 q.n] ∧ in64 q.n := by
    intro q hq
    simp only [List.mem_cons, List.not_mem_nil, or_false] at hq
    rcases hq with rfl | rfl
    · exact ⟨(U0.var h hv).sub (i := 0) (by intro f hf; simp at hf; subst hf; simp), i0⟩
    · exact ⟨(U0.var h hv).sub (i := 1) (by intro f hf; simp at hf; subst hf; simp), i1⟩
  have hyc0 : y0.heap.size ≠ c ∧ g ≠ some y0.heap.size := by
    obtain ⟨vo, h1, h2⟩ := T0.writes.ex
    exact ⟨Nat.ne_of_gt (lt_in h1), fun e => absurd (h2.lt _ e) (by omega)⟩
  refine (numsWrite_c (ps := [⟨p, o, x.client⟩, ⟨p, o + 1, x.number⟩]) U0.writes (gp := some y0.heap.size) r0 (fun k hk => by cases hk; exact hyc0) hq0 (by simp) (by have := U0.len; simp only [List.length_append, List.length_nil, encI_length, bB_length, leB_length, encT_length, encBy_length] at this; omega)).mono ?_
  rintro _ w1 ⟨rfl, hW1⟩
  obtain ⟨L1, g1, Q1⟩ := U0.then hW1
  have S1 := Q1.cast (more' := [] ++ encI x.client ++ encI x.number) (by simp [Place.enc])
  clear Q1
  have hv1 : Var w1 p (o + 2) [Value.int IntKind.i64 x.errno] := (S1.var h hv).sub (i := 2) (by intro f hf; simp at hf; subst hf; simp)
  have lv1 := hv1.lt
  go_wp2_with fail
  refine (errnoW_c S1.writes x.errno i2 hv1 (by have := S1.len; simp only [List.length_append, List.length_nil, encI_length, bB_length, leB_length, encT_length, encBy_length] at this; omega)).mono ?_
  rintro _ w2 ⟨rfl, hW2⟩
  obtain ⟨L2, g2, S2⟩ := S1.then hW2
  have hv2 : Var w2 p (o + 3) [Value.int IntKind.i64 x.version.epoch, Value.int IntKind.i64 x.version.n] := (S2.var h hv).sub (i := 3) (by
    intro f hf
    simp only [List.length_cons, List.length_nil] at hf
    have : f = 0 ∨ f = 1 := by omega
    rcases this with rfl | rfl <;> simp)
  have lv2 := hv2.lt
  go_wp2_with fail
  refine (versionWrite_c S2.writes x.version ⟨i3, i4⟩ hv2 (by have := S2.len; simp only [List.length_append, List.length_nil, encI_length, bB_length, leB_length, encT_length, encBy_length] at this; omega)).mono ?_
  rintro _ w3 ⟨rfl, hW3⟩
  obtain ⟨L3, g3, S3⟩ := S2.then hW3
  go_wp2
  exact bodyPost_end (v := .tuple #[]) (by simp [results, Tryz.results126]) rfl ⟨rfl, S3.done⟩

set_option maxRecDepth 100000 in
set_option maxHeartbeats 1600000 in
theorem listLastWrite_c {w : World} {c p o : Nat} {out : List UInt8} {g : Option Nat} (h : Writes w c out g) {S : Nat → Prop} (hS : ∀ k, S k → k < w.heap.size ∧ k ≠ c ∧ g ≠ some k) {v : Value} (xs : List LastT) (hl : ListIs 5 LastT.Is w S v xs) (hv : Var w p o [v]) (hm : out.length + (leB 4 xs.length ++ xs.flatMap LastT.enc).length ≤ 80000000000000) :
    Calls Tryz.prog 125 #[.pointer (some ⟨c, 0, none⟩), .pointer (some ⟨p, o, none⟩), .func (.func 126) #[.pointer (some ⟨c, 0, none⟩)] #[]] w fun e w' => e = .returned (.tuple #[]) ∧ Wrote w w' c out g (leB 4 xs.length ++ xs.flatMap LastT.enc) := by
  obtain ⟨a, cp, rfl, hc⟩ := hl.shape
  have hnl := hl.small
  have p0 : w.cell? ⟨p, o, none⟩ = some (.slice a xs.length cp) := hv.cell (f := 0) (by simp)
  have hlp := hv.lt
  simp only [List.length_append, leB_length] at hm
  go_enter Tryz.func125, Tryz.ntmps125
  go_wp2_with fail
  refine (countWrite_c h xs.length (by omega) (by omega)).mono ?_
  rintro e w1 ⟨rfl, hW1⟩
  obtain ⟨L1, g1, S1⟩ := (Cod.start h).then hW1
  have c2 : w1.cell? ⟨c, 2, none⟩ = some (.bool false) := by
    obtain ⟨vo, h1, -⟩ := S1.writes.ex
    exact cell_in h1
  have hl1 : c < w1.heap.size := by
    obtain ⟨vo, h1, -⟩ := S1.writes.ex
    exact lt_in h1
  clear p0
  go_wp2
  go_loopw [22] (fun i w' => ∃ (k : Nat) (L : List UInt8) (gL : Option Nat), k ≤ xs.length ∧ i = .int .i64 k ∧ Cod w w' c out g (leB 4 xs.length ++ (xs.take k).flatMap LastT.enc) L gL) (fun i _ => xs.length - (intOf i).toNat)
  case atStart => exact ⟨0, L1, g1, by omega, rfl, S1.cast (by simp)⟩
  case round =>
    obtain ⟨k, L, gL, hk, rfl, SL⟩ := hrel
    by_cases hk2 : k < xs.length
    · have hki : (k : Int) < (xs.length : Int) := by omega
      have hd := SL.data hS
      obtain ⟨b, off, cs, rfl, hb, hcl, hcell, hr⟩ := (hl.heap (fun _ _ h => LastT.Is.heap h) (fun _ h => h) hd).at hk2
      have hfl := flatMap_le LastT.enc xs (k + 1)
      have hft := flatMap_take LastT.enc xs k hk2
      rw [hft, List.length_append] at hfl
      obtain ⟨e, he⟩ : ∃ e, e = xs[k] := ⟨_, rfl⟩
      rw [← he] at hr hft hfl
      have HFT := Lib.hid hft
      clear hft he hcl
      have hvr := SL.var h hv
      have p0 : wr.cell? ⟨p, o, none⟩ = some (.slice (some ⟨b, off, none⟩) xs.length cp) := hvr.cell (f := 0) (by simp)
      have l2 := hvr.lt
      have hr0 := hr
      obtain ⟨rfl, j0, j1, j2, j3, j4⟩ := hr
      have y0 : wr.cell? ⟨b, off + k * 5, none⟩ = some (Value.int IntKind.i64 e.client) := hcell 0 (by omega)
      have y1 : wr.cell? ⟨b, off + k * 5 + 1, none⟩ = some (Value.int IntKind.i64 e.number) := hcell 1 (by omega)
      have y2 : wr.cell? ⟨b, off + k * 5 + 2, none⟩ = some (Value.int IntKind.i64 e.errno) := hcell 2 (by omega)
      have y3 : wr.cell? ⟨b, off + k * 5 + 3, none⟩ = some (Value.int IntKind.i64 e.version.epoch) := hcell 3 (by omega)
      have y4 : wr.cell? ⟨b, off + k * 5 + 4, none⟩ = some (Value.int IntKind.i64 e.version.n) := hcell 4 (by omega)
      go_wp2_with fail
      have SA := SL.alloc (Obj.cells #[Value.int IntKind.i64 e.client, Value.int IntKind.i64 e.number, Value.int IntKind.i64 e.errno, Value.int IntKind.i64 e.version.epoch, Value.int IntKind.i64 e.version.n] 236)
      have vA := var_new wr #[Value.int IntKind.i64 e.client, Value.int IntKind.i64 e.number, Value.int IntKind.i64 e.errno, Value.int IntKind.i64 e.version.epoch, Value.int IntKind.i64 e.version.n] 236 (by decide) (by decide)
      generalize wr.alloc (Obj.cells #[Value.int IntKind.i64 e.client, Value.int IntKind.i64 e.number, Value.int IntKind.i64 e.errno, Value.int IntKind.i64 e.version.epoch, Value.int IntKind.i64 e.version.n] 236) = wa at SA vA ⊢
      have hbnd := SA.len
      simp only [List.length_append, leB_length] at hbnd
      refine (lastWrite_c SA.writes e ⟨j0, j1, j2, j3, j4⟩ vA (by omega)).mono ?_
      rintro _ w9 ⟨rfl, hG⟩
      obtain ⟨L9, g9, S9⟩ := SA.then hG
      have HS9 := Lib.hid (S9.cast (more' := leB 4 xs.length ++ (xs.take (k + 1)).flatMap LastT.enc) (by rw [HFT.out, List.append_assoc]))
      clear S9 hG
      go_wp2
      exact ⟨⟨k + 1, L9, g9, by omega, by simp, HS9.out⟩, by simp [intOf]; omega⟩
    · obtain rfl : k = xs.length := by omega
      go_wp2
      rw [List.take_length] at SL
      exact bodyPost_ret (v := .tuple #[]) (by simp [results, Tryz.results125]) rfl ⟨rfl, SL.done⟩

set_option maxRecDepth 100000 in
set_option maxHeartbeats 1600000 in
theorem itemWrite_c {w : World} {c p o : Nat} {out : List UInt8} {g : Option Nat} (h : Writes w c out g) (x : ItemT) (hi : in64 x.version.epoch ∧ in64 x.version.n ∧ x.crc < 4294967296) (hv : Var w p o [Value.string x.name, Value.int IntKind.i64 x.version.epoch, Value.int IntKind.i64 x.version.n, Value.int IntKind.u32 (x.crc : Nat)]) (hm : out.length + x.enc.length ≤ 80000000000000) :
    Calls Tryz.prog 77 #[.pointer (some ⟨c, 0, none⟩), .pointer (some ⟨p, o, none⟩)] w fun e w' => e = .returned (.tuple #[]) ∧ Wrote w w' c out g x.enc := by
  have hmf : ∀ (fn : Fn) (first cap : Array Value) (w : World), (Instr.makeFunc fn first cap).run Tryz.prog w = .ok (.func fn first cap) w := fun _ _ _ _ => rfl
  obtain ⟨i0, i1, i2⟩ := hi
  simp only [ItemT.enc, List.length_append, List.length_nil, encI_length, bB_length, leB_length, encT_length, encBy_length] at hm
  simp only [ItemT.enc]
  have hlp := hv.lt
  have S0 := Cod.start h
  go_enter Tryz.func77, Tryz.ntmps77
  have hv0 : Var w p (o) [Value.string x.name] := (S0.var h hv).sub (i := 0) (by intro f hf; simp at hf; subst hf; simp)
  have lv0 := hv0.lt
  go_wp2_with fail
  refine (textW_c S0.writes x.name hv0 (by have := S0.len; simp only [List.length_append, List.length_nil, encI_length, bB_length, leB_length, encT_length, encBy_length] at this ⊢; omega)).mono ?_
  rintro _ w1 ⟨rfl, hW1⟩
  obtain ⟨L1, g1, S1⟩ := S0.then hW1
  have hv1 : Var w1 p (o + 1) [Value.int IntKind.i64 x.version.epoch, Value.int IntKind.i64 x.version.n] := (S1.var h hv).sub (i := 1) (by
    intro f hf
    simp only [List.length_cons, List.length_nil] at hf
    have : f = 0 ∨ f = 1 := by omega
    rcases this with rfl | rfl <;> simp)
  have lv1 := hv1.lt
  go_wp2_with fail
  refine (versionWrite_c S1.writes x.version ⟨i0, i1⟩ hv1 (by have := S1.len; simp only [List.length_append, List.length_nil, encI_length, bB_length, leB_length, encT_length, encBy_length] at this; omega)).mono ?_
  rintro _ w2 ⟨rfl, hW2⟩
  obtain ⟨L2, g2, S2⟩ := S1.then hW2
  have hv2 : Var w2 p (o + 3) [Value.int IntKind.u32 (x.crc : Nat)] := (S2.var h hv).sub (i := 3) (by intro f hf; simp at hf; subst hf; simp)
  have lv2 := hv2.lt
  go_wp2_with fail
  refine (crcW_c S2.writes x.crc i2 hv2 (by have := S2.len; simp only [List.length_append, List.length_nil, encI_length, bB_length, leB_length, encT_length, encBy_length] at this; omega)).mono ?_
  rintro _ w3 ⟨rfl, hW3⟩
  obtain ⟨L3, g3, S3⟩ := S2.then hW3
  go_wp2
  exact bodyPost_end (v := .tuple #[]) (by simp [results, Tryz.results77]) rfl ⟨rfl, S3.done⟩

set_option maxRecDepth 100000 in
set_option maxHeartbeats 1600000 in
theorem listItemWrite_c {w : World} {c p o : Nat} {out : List UInt8} {g : Option Nat} (h : Writes w c out g) {S : Nat → Prop} (hS : ∀ k, S k → k < w.heap.size ∧ k ≠ c ∧ g ≠ some k) {v : Value} (xs : List ItemT) (hl : ListIs 4 ItemT.Is w S v xs) (hv : Var w p o [v]) (hm : out.length + (leB 4 xs.length ++ xs.flatMap ItemT.enc).length ≤ 80000000000000) :
    Calls Tryz.prog 76 #[.pointer (some ⟨c, 0, none⟩), .pointer (some ⟨p, o, none⟩), .func (.func 77) #[.pointer (some ⟨c, 0, none⟩)] #[]] w fun e w' => e = .returned (.tuple #[]) ∧ Wrote w w' c out g (leB 4 xs.length ++ xs.flatMap ItemT.enc) := by
  obtain ⟨a, cp, rfl, hc⟩ := hl.shape
  have hnl := hl.small
  have p0 : w.cell? ⟨p, o, none⟩ = some (.slice a xs.length cp) := hv.cell (f := 0) (by simp)
  have hlp := hv.lt
  simp only [List.length_append, leB_length] at hm
  go_enter Tryz.func76, Tryz.ntmps76
  go_wp2_with fail
  refine (countWrite_c h xs.length (by omega) (by omega)).mono ?_
  rintro e w1 ⟨rfl, hW1⟩
  obtain ⟨L1, g1, S1⟩ := (Cod.start h).then hW1
  have c2 : w1.cell? ⟨c, 2, none⟩ = some (.bool false) := by
    obtain ⟨vo, h1, -⟩ := S1.writes.ex
    exact cell_in h1
  have hl1 : c < w1.heap.size := by
    obtain ⟨vo, h1, -⟩ := S1.writes.ex
    exact lt_in h1
  clear p0
  go_wp2
  go_loopw [22] (fun i w' => ∃ (k : Nat) (L : List UInt8) (gL : Option Nat), k ≤ xs.length ∧ i = .int .i64 k ∧ Cod w w' c out g (leB 4 xs.length ++ (xs.take k).flatMap ItemT.enc) L gL) (fun i _ => xs.length - (intOf i).toNat)
  case atStart => exact ⟨0, L1, g1, by omega, rfl, S1.cast (by simp)⟩
  case round =>
    obtain ⟨k, L, gL, hk, rfl, SL⟩ := hrel
    by_cases hk2 : k < xs.length
    · have hki : (k : Int) < (xs.length : Int) := by omega
      have hd := SL.data hS
      obtain ⟨b, off, cs, rfl, hb, hcl, hcell, hr⟩ := (hl.heap (fun _ _ h => ItemT.Is.heap h) (fun _ h => h) hd).at hk2
      have hfl := flatMap_le ItemT.enc xs (k + 1)
      have hft := flatMap_take ItemT.enc xs k hk2
      rw [hft, List.length_append] at hfl
      obtain ⟨e, he⟩ : ∃ e, e = xs[k] := ⟨_, rfl⟩
      rw [← he] at hr hft hfl
      have HFT := Lib.hid hft
      clear hft he hcl
      have hvr := SL.var h hv
      have p0 : wr.cell? ⟨p, o, none⟩ = some (.slice (some ⟨b, off, none⟩) xs.length cp) := hvr.cell (f := 0) (by simp)
      have l2 := hvr.lt
      have hr0 := hr
      obtain ⟨rfl, j0, j1, j2⟩ := hr
      have y0 : wr.cell? ⟨b, off + k * 4, none⟩ = some (Value.string e.name) := hcell 0 (by omega)
      have y1 : wr.cell? ⟨b, off + k * 4 + 1, none⟩ = some (Value.int IntKind.i64 e.version.epoch) := hcell 1 (by omega)
      have y2 : wr.cell? ⟨b, off + k * 4 + 2, none⟩ = some (Value.int IntKind.i64 e.version.n) := hcell 2 (by omega)
      have y3 : wr.cell? ⟨b, off + k * 4 + 3, none⟩ = some (Value.int IntKind.u32 (e.crc : Nat)) := hcell 3 (by omega)
      go_wp2_with fail
      have SA := SL.alloc (Obj.cells #[Value.string e.name, Value.int IntKind.i64 e.version.epoch, Value.int IntKind.i64 e.version.n, Value.int IntKind.u32 (e.crc : Nat)] 175)
      have vA := var_new wr #[Value.string e.name, Value.int IntKind.i64 e.version.epoch, Value.int IntKind.i64 e.version.n, Value.int IntKind.u32 (e.crc : Nat)] 175 (by decide) (by decide)
      generalize wr.alloc (Obj.cells #[Value.string e.name, Value.int IntKind.i64 e.version.epoch, Value.int IntKind.i64 e.version.n, Value.int IntKind.u32 (e.crc : Nat)] 175) = wa at SA vA ⊢
      have hbnd := SA.len
      simp only [List.length_append, leB_length] at hbnd
      refine (itemWrite_c SA.writes e ⟨j0, j1, j2⟩ vA (by omega)).mono ?_
      rintro _ w9 ⟨rfl, hG⟩
      obtain ⟨L9, g9, S9⟩ := SA.then hG
      have HS9 := Lib.hid (S9.cast (more' := leB 4 xs.length ++ (xs.take (k + 1)).flatMap ItemT.enc) (by rw [HFT.out, List.append_assoc]))
      clear S9 hG
      go_wp2
      exact ⟨⟨k + 1, L9, g9, by omega, by simp, HS9.out⟩, by simp [intOf]; omega⟩
    · obtain rfl : k = xs.length := by omega
      go_wp2
      rw [List.take_length] at SL
      exact bodyPost_ret (v := .tuple #[]) (by simp [results, Tryz.results76]) rfl ⟨rfl, SL.done⟩

set_option maxRecDepth 100000 in
set_option maxHeartbeats 1600000 in
theorem stateWrite_c {w : World} {c p o : Nat} {out : List UInt8} {g : Option Nat} (h : Writes w c out g) {S : Nat → Prop} (hS : ∀ k, S k → k < w.heap.size ∧ k ≠ c ∧ g ≠ some k) (x : StateT) {cs : List Value} (hx : StateT.Is w S cs x) (hv : Var w p o cs) (hm : out.length + x.enc.length ≤ 80000000000000) :
    Calls Tryz.prog 50 #[.pointer (some ⟨c, 0, none⟩), .pointer (some ⟨p, o, none⟩)] w fun e w' => e = .returned (.tuple #[]) ∧ Wrote w w' c out g x.enc := by
  have hmf : ∀ (fn : Fn) (first cap : Array Value) (w : World), (Instr.makeFunc fn first cap).run Tryz.prog w = .ok (.func fn first cap) w := fun _ _ _ _ => rfl
  obtain ⟨v_log, v_lasts, v_items, rfl, i0, i1, i2, l0, l1, l2⟩ := hx
  simp only [StateT.enc, List.length_append, List.length_nil, encI_length, bB_length, leB_length, encT_length, encBy_length] at hm
  simp only [StateT.enc]
  have hlp := hv.lt
  have S0 := Cod.start h
  go_enter Tryz.func50, Tryz.ntmps50
  have hv0 : Var w p (o) [Value.int IntKind.i64 x.les] := (S0.var h hv).sub (i := 0) (by intro f hf; simp at hf; subst hf; simp)
  have lv0 := hv0.lt
  go_wp2_with fail
  refine (numWrite_c S0.writes x.les i0 hv0 (by have := S0.len; simp only [List.length_append, List.length_nil, encI_length, bB_length, leB_length, encT_length, encBy_length] at this; omega)).mono ?_
  rintro _ w1 ⟨rfl, hW1⟩
  obtain ⟨L1, g1, S1⟩ := S0.then hW1
  have hv1 : Var w1 p (o + 1) [Value.int IntKind.i64 x.tail.epoch, Value.int IntKind.i64 x.tail.n] := (S1.var h hv).sub (i := 1) (by
    intro f hf
    simp only [List.length_cons, List.length_nil] at hf
    have : f = 0 ∨ f = 1 := by omega
    rcases this with rfl | rfl <;> simp)
  have lv1 := hv1.lt
  go_wp2_with fail
  refine (versionWrite_c S1.writes x.tail ⟨i1, i2⟩ hv1 (by have := S1.len; simp only [List.length_append, List.length_nil, encI_length, bB_length, leB_length, encT_length, encBy_length] at this; omega)).mono ?_
  rintro _ w2 ⟨rfl, hW2⟩
  obtain ⟨L2, g2, S2⟩ := S1.then hW2
  have hv2 : Var w2 p (o + 3) [v_log] := (S2.var h hv).sub (i := 3) (by intro f hf; simp at hf; subst hf; simp)
  have lv2 := hv2.lt
  have hd2 := S2.data hS
  go_wp2_with fail
  refine (listEntryWrite_c S2.writes (S2.sets hS) x.log (l0.heap (fun _ _ h => EntryT.Is.heap h) (fun _ h => h) hd2) hv2 (by have := S2.len; simp only [List.length_append, List.length_nil, encI_length, bB_length, leB_length, encT_length, encBy_length] at this ⊢; omega)).mono ?_
  rintro _ w3 ⟨rfl, hW3⟩
  obtain ⟨L3, g3, Q3⟩ := S2.then hW3
  have S3 := Q3.cast (more' := [] ++ encI x.les ++ x.tail.enc ++ leB 4 x.log.length ++ x.log.flatMap EntryT.enc) (by simp only [List.append_assoc])
  clear Q3
  have hv3 : Var w3 p (o + 4) [v_lasts] := (S3.var h hv).sub (i := 4) (by intro f hf; simp at hf; subst hf; simp)
  have lv3 := hv3.lt
  have hd3 := S3.data hS
  go_wp2_with fail
  refine (listLastWrite_c S3.writes (S3.sets hS) x.lasts (l1.heap (fun _ _ h => LastT.Is.heap h) (fun _ h => h) hd3) hv3 (by have := S3.len; simp only [List.length_append, List.length_nil, encI_length, bB_length, leB_length, encT_length, encBy_length] at this ⊢; omega)).mono ?_
  rintro _ w4 ⟨rfl, hW4⟩
  obtain ⟨L4, g4, Q4⟩ := S3.then hW4
  have S4 := Q4.cast (more' := [] ++ encI x.les ++ x.tail.enc ++ leB 4 x.log.length ++ x.log.flatMap EntryT.enc ++ leB 4 x.lasts.length ++ x.lasts.flatMap LastT.enc) (by simp only [List.append_assoc])
  clear Q4
  have hv4 : Var w4 p (o + 5) [v_items] := (S4.var h hv).sub (i := 5) (by intro f hf; simp at hf; subst hf; simp)
  have lv4 := hv4.lt
  have hd4 := S4.data hS
  go_wp2_with fail
  refine (listItemWrite_c S4.writes (S4.sets hS) x.items (l2.heap (fun _ _ h => ItemT.Is.heap h) (fun _ h => h) hd4) hv4 (by have := S4.len; simp only [List.length_append, List.length_nil, encI_length, bB_length, leB_length, encT_length, encBy_length] at this ⊢; omega)).mono ?_
  rintro _ w5 ⟨rfl, hW5⟩
  obtain ⟨L5, g5, Q5⟩ := S4.then hW5
  have S5 := Q5.cast (more' := [] ++ encI x.les ++ x.tail.enc ++ leB 4 x.log.length ++ x.log.flatMap EntryT.enc ++ leB 4 x.lasts.length ++ x.lasts.flatMap LastT.enc ++ leB 4 x.items.length ++ x.items.flatMap ItemT.enc) (by simp only [List.append_assoc])
  clear Q5
  go_wp2
  exact bodyPost_end (v := .tuple #[]) (by simp [results, Tryz.results50]) rfl ⟨rfl, S5.done⟩

set_option maxRecDepth 100000 in
set_option maxHeartbeats 1600000 in
theorem stepWrite_c {w : World} {c p o : Nat} {out : List UInt8} {g : Option Nat} (h : Writes w c out g) {S : Nat → Prop} (hS : ∀ k, S k → k < w.heap.size ∧ k ≠ c ∧ g ≠ some k) (x : StepT) {cs : List Value} (hx : StepT.Is w S cs x) (hv : Var w p o cs) (hm : out.length + x.enc.length ≤ 80000000000000) :
    Calls Tryz.prog 133 #[.pointer (some ⟨c, 0, none⟩), .pointer (some ⟨p, o, none⟩)] w fun e w' => e = .returned (.tuple #[]) ∧ Wrote w w' c out g x.enc := by
  have hmf : ∀ (fn : Fn) (first cap : Array Value) (w : World), (Instr.makeFunc fn first cap).run Tryz.prog w = .ok (.func fn first cap) w := fun _ _ _ _ => rfl
  obtain ⟨v_data, rfl, i0, i1, i2, i3, i4, l0⟩ := hx
  simp only [StepT.enc, List.length_append, List.length_nil, encI_length, bB_length, leB_length, encT_length, encBy_length] at hm
  simp only [StepT.enc]
  have hlp := hv.lt
  have S0 := Cod.start h
  go_enter Tryz.func133, Tryz.ntmps133
  have hv0 : Var w p (o) [Value.int IntKind.i64 x.kind] := (S0.var h hv).sub (i := 0) (by intro f hf; simp at hf; subst hf; simp)
  have lv0 := hv0.lt
  go_wp2_with fail
  refine (numWrite_c S0.writes x.kind i0 hv0 (by have := S0.len; simp only [List.length_append, List.length_nil, encI_length, bB_length, leB_length, encT_length, encBy_length] at this; omega)).mono ?_
  rintro _ w1 ⟨rfl, hW1⟩
  obtain ⟨L1, g1, S1⟩ := S0.then hW1
  have hv1 : Var w1 p (o + 1) [Value.int IntKind.i64 x.pg.pool, Value.int IntKind.i64 x.pg.seed] := (S1.var h hv).sub (i := 1) (by
    intro f hf
    simp only [List.length_cons, List.length_nil] at hf
    have : f = 0 ∨ f = 1 := by omega
    rcases this with rfl | rfl <;> simp)
  have lv1 := hv1.lt
  go_wp2_with fail
  refine (pgWrite_c S1.writes x.pg ⟨i1, i2⟩ hv1 (by have := S1.len; simp only [List.length_append, List.length_nil, encI_length, bB_length, leB_length, encT_length, encBy_length] at this; omega)).mono ?_
  rintro _ w2 ⟨rfl, hW2⟩
  obtain ⟨L2, g2, S2⟩ := S1.then hW2
  have hv2 : Var w2 p (o + 3) [Value.string x.name] := (S2.var h hv).sub (i := 3) (by intro f hf; simp at hf; subst hf; simp)
  have lv2 := hv2.lt
  go_wp2_with fail
  refine (textW_c S2.writes x.name hv2 (by have := S2.len; simp only [List.length_append, List.length_nil, encI_length, bB_length, leB_length, encT_length, encBy_length] at this ⊢; omega)).mono ?_
  rintro _ w3 ⟨rfl, hW3⟩
  obtain ⟨L3, g3, S3⟩ := S2.then hW3
  have lv3 := (S3.var h hv).lt
  go_wp2
  refine wp_region_ord [1, 2, 3, 4, 5, 6] [0] [7, 8] (by kernel_rfl) (by kernel_rfl) (fun _ _ d _ _ h => by cases d <;> exact h) ?_
  simp only [sel, List.filterMap_cons, List.filterMap_nil, List.getElem?_cons_zero, List.getElem?_cons_succ]
  repeat (quiet_step (fail))
  refine wpQuiet_nil ?_
  refine wpIdle_step (fun K hK => ?_)
  go_simp
  refine hK _ ?_
  clear hK
  refine wpIdle_nil ?_
  rintro _ ⟨nr, rfl⟩
  have T3 := S3.dN nr
  generalize w3.drewN nr = y3 at T3 ⊢
  go_wp2_with fail
  have U3 := T3.alloc (Obj.cells #[Value.pointer (some ⟨p, o + 4, none⟩), Value.pointer (some ⟨p, o + 5, none⟩)] 140)
  have r3 := (own_alloc y3 [Value.pointer (some ⟨p, o + 4, none⟩), Value.pointer (some ⟨p, o + 5, none⟩)] 140 2 rfl (by decide)).reads
  generalize y3.alloc (Obj.cells #[Value.pointer (some ⟨p, o + 4, none⟩), Value.pointer (some ⟨p, o + 5, none⟩)] 140) = z3 at U3 r3 ⊢
  have hq3 : ∀ q ∈ ([⟨p, o + 4, x.pos⟩, ⟨p, o + 5, x.n⟩] : List Place), Var z3 q.p q.o [.int .i64 q.n] ∧ in64 q.n := by
    intro q hq
    simp only [List.mem_cons, List.not_mem_nil, or_false] at hq
    rcases hq with rfl | rfl
    · exact ⟨(U3.var h hv).sub (i := 4) (by intro f hf; simp at hf; subst hf; simp), i3⟩
    · exact ⟨(U3.var h hv).sub (i := 5) (by intro f hf; simp at hf; subst hf; simp), i4⟩
  have hyc3 : y3.heap.size ≠ c ∧ g3 ≠ some y3.heap.size := by
    obtain ⟨vo, h1, h2⟩ := T3.writes.ex
    exact ⟨Nat.ne_of_gt (lt_in h1), fun e => absurd (h2.lt _ e) (by omega)⟩
  refine (numsWrite_c (ps := [⟨p, o + 4, x.pos⟩, ⟨p, o + 5, x.n⟩]) U3.writes (gp := some y3.heap.size) r3 (fun k hk => by cases hk; exact hyc3) hq3 (by simp) (by have := U3.len; simp only [List.length_append, List.length_nil, encI_length, bB_length, leB_length, encT_length, encBy_length] at this; omega)).mono ?_
  rintro _ w4 ⟨rfl, hW4⟩
  obtain ⟨L4, g4, Q4⟩ := U3.then hW4
  have S4 := Q4.cast (more' := [] ++ encI x.kind ++ x.pg.enc ++ encT x.name ++ encI x.pos ++ encI x.n) (by simp [Place.enc])
  clear Q4
  have hv4 : Var w4 p (o + 6) [Value.string x.key] := (S4.var h hv).sub (i := 6) (by intro f hf; simp at hf; subst hf; simp)
  have lv4 := hv4.lt
  go_wp2_with fail
  refine (textW_c S4.writes x.key hv4 (by have := S4.len; simp only [List.length_append, List.length_nil, encI_length, bB_length, leB_length, encT_length, encBy_length] at this ⊢; omega)).mono ?_
  rintro _ w5 ⟨rfl, hW5⟩
  obtain ⟨L5, g5, S5⟩ := S4.then hW5
  have hv5 : Var w5 p (o + 7) [v_data] := (S5.var h hv).sub (i := 7) (by intro f hf; simp at hf; subst hf; simp)
  have lv5 := hv5.lt
  have hd5 := S5.data hS
  go_wp2_with fail
  refine (bytesW_c S5.writes (S5.sets hS) x.data (l0.heap (fun _ _ h => byteIs_stable _ _ _ _ _ _ h (fun _ h => h) hd5) (fun _ h => h) hd5) hv5 (by have := S5.len; simp only [List.length_append, List.length_nil, encI_length, bB_length, leB_length, encT_length, encBy_length] at this ⊢; omega)).mono ?_
  rintro _ w6 ⟨rfl, hW6⟩
  obtain ⟨L6, g6, Q6⟩ := S5.then hW6
  have S6 := Q6.cast (more' := [] ++ encI x.kind ++ x.pg.enc ++ encT x.name ++ encI x.pos ++ encI x.n ++ encT x.key ++ encBy x.data) (by simp only [List.append_assoc])
  clear Q6
  go_wp2
  exact bodyPost_end (v := .tuple #[]) (by simp [results, Tryz.results133]) rfl ⟨rfl, S6.done⟩

set_option maxRecDepth 100000 in
set_option maxHeartbeats 1600000 in
theorem listStepWrite_c {w : World} {c p o : Nat} {out : List UInt8} {g : Option Nat} (h : Writes w c out g) {S : Nat → Prop} (hS : ∀ k, S k → k < w.heap.size ∧ k ≠ c ∧ g ≠ some k) {v : Value} (xs : List StepT) (hl : ListIs 8 StepT.Is w S v xs) (hv : Var w p o [v]) (hm : out.length + (leB 4 xs.length ++ xs.flatMap StepT.enc).length ≤ 80000000000000) :
    Calls Tryz.prog 132 #[.pointer (some ⟨c, 0, none⟩), .pointer (some ⟨p, o, none⟩), .func (.func 133) #[.pointer (some ⟨c, 0, none⟩)] #[]] w fun e w' => e = .returned (.tuple #[]) ∧ Wrote w w' c out g (leB 4 xs.length ++ xs.flatMap StepT.enc) := by
  obtain ⟨a, cp, rfl, hc⟩ := hl.shape
  have hnl := hl.small
  have p0 : w.cell? ⟨p, o, none⟩ = some (.slice a xs.length cp) := hv.cell (f := 0) (by simp)
  have hlp := hv.lt
  simp only [List.length_append, leB_length] at hm
  go_enter Tryz.func132, Tryz.ntmps132
  go_wp2_with fail
  refine (countWrite_c h xs.length (by omega) (by omega)).mono ?_
  rintro e w1 ⟨rfl, hW1⟩
  obtain ⟨L1, g1, S1⟩ := (Cod.start h).then hW1
  have c2 : w1.cell? ⟨c, 2, none⟩ = some (.bool false) := by
    obtain ⟨vo, h1, -⟩ := S1.writes.ex
    exact cell_in h1
  have hl1 : c < w1.heap.size := by
    obtain ⟨vo, h1, -⟩ := S1.writes.ex
    exact lt_in h1
  clear p0
  go_wp2
  go_loopw [22] (fun i w' => ∃ (k : Nat) (L : List UInt8) (gL : Option Nat), k ≤ xs.length ∧ i = .int .i64 k ∧ Cod w w' c out g (leB 4 xs.length ++ (xs.take k).flatMap StepT.enc) L gL) (fun i _ => xs.length - (intOf i).toNat)
  case atStart => exact ⟨0, L1, g1, by omega, rfl, S1.cast (by simp)⟩
  case round =>
    obtain ⟨k, L, gL, hk, rfl, SL⟩ := hrel
    by_cases hk2 : k < xs.length
    · have hki : (k : Int) < (xs.length : Int) := by omega
      have hd := SL.data hS
      obtain ⟨b, off, cs, rfl, hb, hcl, hcell, hr⟩ := (hl.heap (fun _ _ h => StepT.Is.heap h (fun _ h => h) hd) (fun _ h => h) hd).at hk2
      have hfl := flatMap_le StepT.enc xs (k + 1)
      have hft := flatMap_take StepT.enc xs k hk2
      rw [hft, List.length_append] at hfl
      obtain ⟨e, he⟩ : ∃ e, e = xs[k] := ⟨_, rfl⟩
      rw [← he] at hr hft hfl
      have HFT := Lib.hid hft
      clear hft he hcl
      have hvr := SL.var h hv
      have p0 : wr.cell? ⟨p, o, none⟩ = some (.slice (some ⟨b, off, none⟩) xs.length cp) := hvr.cell (f := 0) (by simp)
      have l2 := hvr.lt
      have hr0 := hr
      obtain ⟨uv_data, rfl, j0, j1, j2, j3, j4, m0⟩ := hr
      obtain ⟨au0, cu0, rfl, -⟩ := m0.shape
      have y0 : wr.cell? ⟨b, off + k * 8, none⟩ = some (Value.int IntKind.i64 e.kind) := hcell 0 (by omega)
      have y1 : wr.cell? ⟨b, off + k * 8 + 1, none⟩ = some (Value.int IntKind.i64 e.pg.pool) := hcell 1 (by omega)
      have y2 : wr.cell? ⟨b, off + k * 8 + 2, none⟩ = some (Value.int IntKind.i64 e.pg.seed) := hcell 2 (by omega)
      have y3 : wr.cell? ⟨b, off + k * 8 + 3, none⟩ = some (Value.string e.name) := hcell 3 (by omega)
      have y4 : wr.cell? ⟨b, off + k * 8 + 4, none⟩ = some (Value.int IntKind.i64 e.pos) := hcell 4 (by omega)
      have y5 : wr.cell? ⟨b, off + k * 8 + 5, none⟩ = some (Value.int IntKind.i64 e.n) := hcell 5 (by omega)
      have y6 : wr.cell? ⟨b, off + k * 8 + 6, none⟩ = some (Value.string e.key) := hcell 6 (by omega)
      have y7 : wr.cell? ⟨b, off + k * 8 + 7, none⟩ = some (Value.slice au0 e.data.length cu0) := hcell 7 (by omega)
      go_wp2_with fail
      have SA := SL.alloc (Obj.cells #[Value.int IntKind.i64 e.kind, Value.int IntKind.i64 e.pg.pool, Value.int IntKind.i64 e.pg.seed, Value.string e.name, Value.int IntKind.i64 e.pos, Value.int IntKind.i64 e.n, Value.string e.key, Value.slice au0 e.data.length cu0] 246)
      have vA := var_new wr #[Value.int IntKind.i64 e.kind, Value.int IntKind.i64 e.pg.pool, Value.int IntKind.i64 e.pg.seed, Value.string e.name, Value.int IntKind.i64 e.pos, Value.int IntKind.i64 e.n, Value.string e.key, Value.slice au0 e.data.length cu0] 246 (by decide) (by decide)
      have hrA : StepT.Is (wr.alloc (Obj.cells #[Value.int IntKind.i64 e.kind, Value.int IntKind.i64 e.pg.pool, Value.int IntKind.i64 e.pg.seed, Value.string e.name, Value.int IntKind.i64 e.pos, Value.int IntKind.i64 e.n, Value.string e.key, Value.slice au0 e.data.length cu0] 246)) S _ e := StepT.Is.heap hr0 (fun _ h => h) (fun k hk => Below.heap_alloc _ _ _ (SL.sets hS k hk).1)
      generalize wr.alloc (Obj.cells #[Value.int IntKind.i64 e.kind, Value.int IntKind.i64 e.pg.pool, Value.int IntKind.i64 e.pg.seed, Value.string e.name, Value.int IntKind.i64 e.pos, Value.int IntKind.i64 e.n, Value.string e.key, Value.slice au0 e.data.length cu0] 246) = wa at SA hrA vA ⊢
      have hbnd := SA.len
      simp only [List.length_append, leB_length] at hbnd
      refine (stepWrite_c SA.writes (SA.sets hS) e hrA vA (by omega)).mono ?_
      rintro _ w9 ⟨rfl, hG⟩
      obtain ⟨L9, g9, S9⟩ := SA.then hG
      have HS9 := Lib.hid (S9.cast (more' := leB 4 xs.length ++ (xs.take (k + 1)).flatMap StepT.enc) (by rw [HFT.out, List.append_assoc]))
      clear S9 hG
      go_wp2
      exact ⟨⟨k + 1, L9, g9, by omega, by simp, HS9.out⟩, by simp [intOf]; omega⟩
    · obtain rfl : k = xs.length := by omega
      go_wp2
      rw [List.take_length] at SL
      exact bodyPost_ret (v := .tuple #[]) (by simp [results, Tryz.results132]) rfl ⟨rfl, SL.done⟩

set_option maxRecDepth 100000 in
set_option maxHeartbeats 1600000 in
theorem txWrite_c {w : World} {c p o : Nat} {out : List UInt8} {g : Option Nat} (h : Writes w c out g) {S : Nat → Prop} (hS : ∀ k, S k → k < w.heap.size ∧ k ≠ c ∧ g ≠ some k) (x : TxT) {cs : List Value} (hx : TxT.Is w S cs x) (hv : Var w p o cs) (hm : out.length + x.enc.length ≤ 80000000000000) :
    Calls Tryz.prog 55 #[.pointer (some ⟨c, 0, none⟩), .pointer (some ⟨p, o, none⟩)] w fun e w' => e = .returned (.tuple #[]) ∧ Wrote w w' c out g x.enc := by
  have hmf : ∀ (fn : Fn) (first cap : Array Value) (w : World), (Instr.makeFunc fn first cap).run Tryz.prog w = .ok (.func fn first cap) w := fun _ _ _ _ => rfl
  obtain ⟨v_steps, rfl, l0⟩ := hx
  simp only [TxT.enc, List.length_append, List.length_nil, encI_length, bB_length, leB_length, encT_length, encBy_length] at hm
  simp only [TxT.enc]
  have hlp := hv.lt
  have S0 := Cod.start h
  go_enter Tryz.func55, Tryz.ntmps55
  have hv0 : Var w p (o) [v_steps] := (S0.var h hv).sub (i := 0) (by intro f hf; simp at hf; subst hf; simp)
  have lv0 := hv0.lt
  skip
  go_wp2_with fail
  refine (listStepWrite_c S0.writes (S0.sets hS) x.steps l0 hv0 (by have := S0.len; simp only [List.length_append, List.length_nil, encI_length, bB_length, leB_length, encT_length, encBy_length] at this ⊢; omega)).mono ?_
  rintro _ w1 ⟨rfl, hW1⟩
  obtain ⟨L1, g1, Q1⟩ := S0.then hW1
  have S1 := Q1.cast (more' := [] ++ leB 4 x.steps.length ++ x.steps.flatMap StepT.enc) (by simp only [List.append_assoc])
  clear Q1
  go_wp2
  exact bodyPost_end (v := .tuple #[]) (by simp [results, Tryz.results55]) rfl ⟨rfl, S1.done⟩

end Go.Proofs.YtanmfldgillodaaGreat
