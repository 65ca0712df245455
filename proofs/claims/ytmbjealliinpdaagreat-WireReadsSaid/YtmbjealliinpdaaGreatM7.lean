/- Part 7 of the proof: RegionM, Cw3, Cm3, Rr3, WrU, WireReadsWalk. -/
import Derived.Test.YtmbjealliinpdaaGreatM6
set_option linter.unusedSimpArgs false
set_option linter.unusedVariables false
set_option maxRecDepth 100000
set_option maxHeartbeats 16000000
section

namespace Go.Proofs.YtmbjealliinpdaaGreat
open Go.RowKit
section
variable {P : Program} {ops : Array Oper} {md : Region.Mode} {S : World → Prop}
/-- The walk: (true, o) is a read that yields one value wherever S holds; behind (false, o) S holds. -/
def wpMx (P : Program) (ops : Array Oper) (S : World → Prop) (Q : Exit → Act → World → Prop) : List (Bool × Oper) → Act → World → Prop
  | [], a, w => Q .normal a w
  | (true, o) :: rest, a, w => if Region.wanted o (yielded ops a.tmps) then ∃ v, (∀ w, S w → (execOp a.eval o).run P w = .ok (.value v) w) ∧ wpMx P ops S Q rest (a.put o.dst v) w else wpMx P ops S Q rest (a.put o.dst undef) w
  | (false, o) :: rest, a, w => if Region.wanted o (yielded ops a.tmps) then o.wp P a w (fun a' w' => S w' ∧ wpMx P ops S Q rest a' w') Q else S w ∧ wpMx P ops S Q rest (a.put o.dst undef) w
theorem wpMx_nil {Q : Exit → Act → World → Prop} {a : Act} {w : World} (h : Q .normal a w) : wpMx P ops S Q [] a w := h
theorem wpMx_held {Q : Exit → Act → World → Prop} {a : Act} {w : World} {o : Oper} {rest : List (Bool × Oper)}
    (h : ∀ K : Act → Prop, (∀ a, wpMx P ops S Q rest a w → K a) → if Region.wanted o (yielded ops a.tmps) then ∃ v, (∀ w, S w → (execOp a.eval o).run P w = .ok (.value v) w) ∧ K (a.put o.dst v) else K (a.put o.dst undef)) : wpMx P ops S Q ((true, o) :: rest) a w :=
  h _ (fun _ h => h)
theorem wpMx_step {Q : Exit → Act → World → Prop} {a : Act} {w : World} {o : Oper} {rest : List (Bool × Oper)}
    (h : ∀ K : Act → World → Prop, (∀ a w, S w → wpMx P ops S Q rest a w → K a w) → if Region.wanted o (yielded ops a.tmps) then o.wp P a w K Q else K (a.put o.dst undef) w) : wpMx P ops S Q ((false, o) :: rest) a w := by
  have := h (fun a w => S w ∧ wpMx P ops S Q rest a w) (fun _ _ h1 h2 => ⟨h1, h2⟩)
  unfold wpMx
  exact this
def selM (l : List Oper) (T : List (Bool × Nat)) : List (Bool × Oper) := T.filterMap fun x => (l[x.2]?).map fun o => (x.1, o)
def mxB (md : Region.Mode) (ops : Array Oper) : List (Bool × Nat) → Array Bool → Bool
  | [], listed => (Region.ready md ops listed).isEmpty
  | (true, i) :: r, listed => (Region.ready md ops listed).contains i && Region.free md ops listed i && mxB md ops r (listed.setIfInBounds i true)
  | (false, i) :: r, listed => decide (Region.ready md ops listed = [i]) && mxB md ops r (listed.setIfInBounds i true)
theorem wpAnyH_of_mx {Q : Exit → Act → World → Prop} {l : List Oper} (hl : ops = l.toArray) (hQ : ∀ c (a : Act) d v w, Q (.panic c) (a.put d v) w → Q (.panic c) a w) (hsel : Region.noSelect ops = true) :
    ∀ (T : List (Bool × Nat)) (listed : Array Bool) (a : Act) (w : World), mxB md ops T listed = true → S w → wpMx P ops S Q (selM l T) a w → wpAnyH P md ops Q S T.length listed a w
  | [], _, _, _, hB, _, h => ⟨by simpa [mxB] using hB, h⟩
  | (true, i) :: r, listed, a, w, hB, hS, h => by
    simp only [mxB, Bool.and_eq_true] at hB
    obtain ⟨⟨hr, hf⟩, hB'⟩ := hB
    have hr' : i ∈ Region.ready md ops listed := by simpa using hr
    obtain ⟨_, o, ho, _⟩ := mem_ready.1 hr'
    have ho' : l[i]? = some o := by subst hl; simpa using ho
    have h' : wpMx P ops S Q ((true, o) :: selM l r) a w := by simpa [selM, ho'] using h
    unfold wpMx at h'
    obtain ⟨v, hy, hK⟩ : ∃ v, YieldsIf P ops S o v a ∧ wpMx P ops S Q (selM l r) (a.put o.dst v) w := by
      by_cases hw : Region.wanted o (yielded ops a.tmps) = true
      · simp only [hw, if_true] at h'
        obtain ⟨v, h1, h2⟩ := h'
        exact ⟨v, .inl ⟨hw, h1⟩, h2⟩
      · simp only [hw] at h'
        exact ⟨undef, .inr ⟨by simpa using hw, rfl⟩, h'⟩
    exact wpAnyH_first ho (Region.noSelect_spec hsel) (fun c a w => hQ c a _ _ w) r.length listed a w (Region.free_spec ho hf) hr' hy hS (wpAnyH_of_mx hl hQ hsel r _ _ w hB' hS hK)
  | (false, i) :: r, listed, a, w, hB, hS, h => by
    simp only [mxB, Bool.and_eq_true, decide_eq_true_eq] at hB
    have hmem : i ∈ Region.ready md ops listed := by rw [hB.1]; simp
    obtain ⟨_, o, ho, _⟩ := mem_ready.1 hmem
    have ho' : l[i]? = some o := by subst hl; simpa using ho
    refine ⟨fun h1 => (by rw [hB.1] at h1; cases h1), fun k hk => ?_⟩
    rw [hB.1] at hk
    have hki : k = i := by simpa using hk
    subst hki
    have h' : wpMx P ops S Q ((false, o) :: selM l r) a w := by simpa [selM, ho'] using h
    have hw : wpOp P ops Q k (fun a' w' => S w' ∧ wpMx P ops S Q (selM l r) a' w') a w := by
      unfold wpOp
      simp only [ho]
      unfold wpMx at h'
      split
      · rename_i hwt; rw [if_pos hwt] at h'; exact .inl h'
      · rename_i hwt; rw [if_neg hwt] at h'; exact h'
    exact wpOp_mono (fun a' w' h'' => ⟨h''.1, wpAnyH_of_mx hl hQ hsel r _ a' w' hB.2 h''.1 h''.2⟩) hw
theorem wp_region_mx {id : Nat} {Q : Exit → Act → World → Prop} {a : Act} {w : World} {l : List Oper} (S : World → Prop) (T : List (Bool × Nat)) (hm : P.follows .mixedOrders = true)
    (hB : (Region.noSelect l.toArray && decide (T.length = l.toArray.size) && mxB .any l.toArray T (Array.replicate l.toArray.size false)) = true)
    (hQ : ∀ c (a : Act) d v w, Q (.panic c) (a.put d v) w → Q (.panic c) a w) (hS : S w.drew) (h : wpMx P l.toArray S Q (selM l T) a w.drew) : (Code.region id l.toArray true).wp P Q a w := by
  simp only [Bool.and_eq_true, decide_eq_true_eq] at hB
  obtain ⟨⟨hsel, hlen⟩, hmix⟩ := hB
  refine wp_region_held (S := S) hm ?_
  have := wpAnyH_of_mx (P := P) (md := .any) rfl hQ hsel T (Array.replicate l.toArray.size false) a w.drew hmix hS h
  rw [hlen] at this
  exact this
end
end Go.Proofs.YtmbjealliinpdaaGreat
end

section

namespace Go.Proofs.YtmbjealliinpdaaGreat
open Go.RowKit
theorem listIncWrite_c {w : World} {c p o : Nat} {out : List UInt8} {g : Option Nat} (h : Writes w c out g) {S : Nat → Prop} (hS : ∀ k, S k → k < w.heap.size ∧ k ≠ c ∧ g ≠ some k) {v : Value} (xs : List IncT) (hl : ListIs 2 IncT.Is w S v xs) (hv : Var w p o [v]) (hm : out.length + (leB 4 xs.length ++ xs.flatMap IncT.enc).length ≤ 140737488352000) :
    Calls Tryz.prog 68 #[.pointer (some ⟨c, 0, none⟩), .pointer (some ⟨p, o, none⟩), .func (.func 36) #[.pointer (some ⟨c, 0, none⟩)] #[]] w fun e w' => e = .returned (.tuple #[]) ∧ Wrote w w' c out g (leB 4 xs.length ++ xs.flatMap IncT.enc) := by
  obtain ⟨a, cp, rfl, hc⟩ := hl.shape
  have hnl := hl.small
  have p0 : w.cell? ⟨p, o, none⟩ = some (.slice a xs.length cp) := hv.cell (f := 0) (by simp)
  have hlp := hv.lt
  simp only [List.length_append, leB_length] at hm
  go_enter Tryz.func68, Tryz.ntmps68
  go_wp2_with fail
  refine (countWrite_c h xs.length (by omega) (by omega)).mono ?_
  rintro e w1 ⟨rfl, hW1⟩
  obtain ⟨L1, g1, S1⟩ := (Cod.start h).then hW1
  have c2 : w1.cell? ⟨c, 2, none⟩ = some (.bool false) := by
    obtain ⟨vo, h1, -⟩ := S1.writes.ex
    exact cell_in h1
  have hl1 : c < w1.heap.size := by
    obtain ⟨vo, h1, -⟩ := S1.writes.ex
    exact lt_in h1
  clear p0
  go_wp2
  go_loopw [22] (fun i w' => ∃ (k : Nat) (L : List UInt8) (gL : Option Nat), k ≤ xs.length ∧ i = .int .i64 k ∧ Cod w w' c out g (leB 4 xs.length ++ (xs.take k).flatMap IncT.enc) L gL) (fun i _ => xs.length - (intOf i).toNat)
  case atStart => exact ⟨0, L1, g1, by omega, rfl, S1.cast (by simp)⟩
  case round =>
    obtain ⟨k, L, gL, hk, rfl, SL⟩ := hrel
    by_cases hk2 : k < xs.length
    · have hki : (k : Int) < (xs.length : Int) := by omega
      have hd := SL.data hS
      obtain ⟨b, off, cs, rfl, hb, hcl, hcell, hr⟩ := (hl.heap (fun _ _ h => IncT.Is.heap h (fun _ h => h) hd) (fun _ h => h) hd).at hk2
      have hfl := flatMap_le IncT.enc xs (k + 1)
      have hft := flatMap_take IncT.enc xs k hk2
      rw [hft, List.length_append] at hfl
      obtain ⟨e, he⟩ : ∃ e, e = xs[k] := ⟨_, rfl⟩
      rw [← he] at hr hft hfl
      have HFT := Lib.hid hft
      clear hft he hcl
      have hvr := SL.var h hv
      have p0 : wr.cell? ⟨p, o, none⟩ = some (.slice (some ⟨b, off, none⟩) xs.length cp) := hvr.cell (f := 0) (by simp)
      have l2 := hvr.lt
      have hr0 := hr
      obtain ⟨uv_changes, rfl, j0, m0⟩ := hr
      obtain ⟨au0, cu0, rfl, -⟩ := m0.shape
      have y0 : wr.cell? ⟨b, off + k * 2, none⟩ = some (Value.int IntKind.i64 e.epoch) := hcell 0 (by omega)
      have y1 : wr.cell? ⟨b, off + k * 2 + 1, none⟩ = some (Value.slice au0 e.changes.length cu0) := hcell 1 (by omega)
      go_wp2_with fail
      have SA := SL.alloc (Obj.cells #[Value.int IntKind.i64 e.epoch, Value.slice au0 e.changes.length cu0] 57)
      have vA := var_new wr #[Value.int IntKind.i64 e.epoch, Value.slice au0 e.changes.length cu0] 57 (by decide) (by decide)
      have hrA : IncT.Is (wr.alloc (Obj.cells #[Value.int IntKind.i64 e.epoch, Value.slice au0 e.changes.length cu0] 57)) S _ e := IncT.Is.heap hr0 (fun _ h => h) (fun k hk => Below.heap_alloc _ _ _ (SL.sets hS k hk).1)
      generalize wr.alloc (Obj.cells #[Value.int IntKind.i64 e.epoch, Value.slice au0 e.changes.length cu0] 57) = wa at SA hrA vA ⊢
      have hbnd := SA.len
      simp only [List.length_append, leB_length] at hbnd
      refine (incWrite_c SA.writes (SA.sets hS) e hrA vA (by omega)).mono ?_
      rintro _ w9 ⟨rfl, hG⟩
      obtain ⟨L9, g9, S9⟩ := SA.then hG
      have HS9 := Lib.hid (S9.cast (more' := leB 4 xs.length ++ (xs.take (k + 1)).flatMap IncT.enc) (by rw [HFT.out, List.append_assoc]))
      clear S9 hG
      go_wp2
      exact ⟨⟨k + 1, L9, g9, by omega, by simp, HS9.out⟩, by simp [intOf]; omega⟩
    · obtain rfl : k = xs.length := by omega
      go_wp2
      rw [List.take_length] at SL
      exact bodyPost_ret (v := .tuple #[]) (by simp [results, Tryz.results68]) rfl ⟨rfl, SL.done⟩
theorem nodeWrite_c {w : World} {c p o : Nat} {out : List UInt8} {g : Option Nat} (h : Writes w c out g) (x : NodeT) (hi : in64 x.kind ∧ in64 x.id) (hv : Var w p o [Value.int IntKind.i64 x.kind, Value.int IntKind.i64 x.id]) (hm : out.length + x.enc.length ≤ 140737488352000) :
    Calls Tryz.prog 63 #[.pointer (some ⟨c, 0, none⟩), .pointer (some ⟨p, o, none⟩)] w fun e w' => e = .returned (.tuple #[]) ∧ Wrote w w' c out g x.enc := by
  have hmf : ∀ (fn : Fn) (first cap : Array Value) (w : World), (Instr.makeFunc fn first cap).run Tryz.prog w = .ok (.func fn first cap) w := fun _ _ _ _ => rfl
  obtain ⟨i0, i1⟩ := hi
  simp only [NodeT.enc, List.length_append, List.length_nil, encI_length, bB_length, leB_length, encT_length, encBy_length] at hm
  simp only [NodeT.enc]
  have hlp := hv.lt
  have S0 := Cod.start h
  go_enter Tryz.func63, Tryz.ntmps63
  have lv0 := (S0.var h hv).lt
  go_wp2
  refine wp_region_ord [1, 2, 3, 4, 5, 6] [0] [7, 8] (by kernel_rfl) (by kernel_rfl) (fun _ _ d _ _ h => by cases d <;> exact h) ?_
  simp only [sel, List.filterMap_cons, List.filterMap_nil, List.getElem?_cons_zero, List.getElem?_cons_succ]
  repeat (quiet_step (fail))
  refine wpQuiet_nil ?_
  refine wpIdle_step (fun K hK => ?_)
  go_simp
  refine hK _ ?_
  clear hK
  refine wpIdle_nil ?_
  rintro _ ⟨nr, rfl⟩
  have T0 := S0.dN nr
  generalize w.drewN nr = y0 at T0 ⊢
  go_wp2_with fail
  have U0 := T0.alloc (Obj.cells #[Value.pointer (some ⟨p, o, none⟩), Value.pointer (some ⟨p, o + 1, none⟩)] 141)
  have r0 := (own_alloc y0 [Value.pointer (some ⟨p, o, none⟩), Value.pointer (some ⟨p, o + 1, none⟩)] 141 2 rfl (by decide)).reads
  generalize y0.alloc (Obj.cells #[Value.pointer (some ⟨p, o, none⟩), Value.pointer (some ⟨p, o + 1, none⟩)] 141) = z0 at U0 r0 ⊢
  have hq0 : ∀ q ∈ ([⟨p, o, x.kind⟩, ⟨p, o + 1, x.id⟩] : List Place), Var z0 q.p q.o [.int .i64 q.n] ∧ in64 q.n := by
    intro q hq
    simp only [List.mem_cons, List.not_mem_nil, or_false] at hq
    rcases hq with rfl | rfl
    · exact ⟨(U0.var h hv).sub (i := 0) (by intro f hf; simp at hf; subst hf; simp), i0⟩
    · exact ⟨(U0.var h hv).sub (i := 1) (by intro f hf; simp at hf; subst hf; simp), i1⟩
  have hyc0 : y0.heap.size ≠ c ∧ g ≠ some y0.heap.size := by
    obtain ⟨vo, h1, h2⟩ := T0.writes.ex
    exact ⟨Nat.ne_of_gt (lt_in h1), fun e => absurd (h2.lt _ e) (by omega)⟩
  refine (numsWrite_c (ps := [⟨p, o, x.kind⟩, ⟨p, o + 1, x.id⟩]) U0.writes (gp := some y0.heap.size) r0 (fun k hk => by cases hk; exact hyc0) hq0 (by simp) (by have := U0.len; simp only [List.length_append, List.length_nil, encI_length, bB_length, leB_length, encT_length, encBy_length] at this; omega)).mono ?_
  rintro _ w1 ⟨rfl, hW1⟩
  obtain ⟨L1, g1, Q1⟩ := U0.then hW1
  have S1 := Q1.cast (more' := [] ++ encI x.kind ++ encI x.id) (by simp [Place.enc])
  clear Q1
  go_wp2
  exact bodyPost_end (v := .tuple #[]) (by simp [results, Tryz.results63]) rfl ⟨rfl, S1.done⟩
theorem slotWrite_c {w : World} {c p o : Nat} {out : List UInt8} {g : Option Nat} (h : Writes w c out g) {S : Nat → Prop} (hS : ∀ k, S k → k < w.heap.size ∧ k ≠ c ∧ g ≠ some k) (x : SlotT) {cs : List Value} (hx : SlotT.Is w S cs x) (hv : Var w p o cs) (hm : out.length + x.enc.length ≤ 140737488352000) :
    Calls Tryz.prog 67 #[.pointer (some ⟨c, 0, none⟩), .pointer (some ⟨p, o, none⟩)] w fun e w' => e = .returned (.tuple #[]) ∧ Wrote w w' c out g x.enc := by
  have hmf : ∀ (fn : Fn) (first cap : Array Value) (w : World), (Instr.makeFunc fn first cap).run Tryz.prog w = .ok (.func fn first cap) w := fun _ _ _ _ => rfl
  obtain ⟨v_value, rfl, i0, i1, l0⟩ := hx
  simp only [SlotT.enc, List.length_append, List.length_nil, encI_length, bB_length, leB_length, encT_length, encBy_length] at hm
  simp only [SlotT.enc]
  have hlp := hv.lt
  have S0 := Cod.start h
  go_enter Tryz.func67, Tryz.ntmps67
  have lv0 := (S0.var h hv).lt
  go_wp2
  refine wp_region_ord [1, 2, 3, 4, 5, 6] [0] [7, 8] (by kernel_rfl) (by kernel_rfl) (fun _ _ d _ _ h => by cases d <;> exact h) ?_
  simp only [sel, List.filterMap_cons, List.filterMap_nil, List.getElem?_cons_zero, List.getElem?_cons_succ]
  repeat (quiet_step (fail))
  refine wpQuiet_nil ?_
  refine wpIdle_step (fun K hK => ?_)
  go_simp
  refine hK _ ?_
  clear hK
  refine wpIdle_nil ?_
  rintro _ ⟨nr, rfl⟩
  have T0 := S0.dN nr
  generalize w.drewN nr = y0 at T0 ⊢
  go_wp2_with fail
  have U0 := T0.alloc (Obj.cells #[Value.pointer (some ⟨p, o, none⟩), Value.pointer (some ⟨p, o + 1, none⟩)] 141)
  have r0 := (own_alloc y0 [Value.pointer (some ⟨p, o, none⟩), Value.pointer (some ⟨p, o + 1, none⟩)] 141 2 rfl (by decide)).reads
  generalize y0.alloc (Obj.cells #[Value.pointer (some ⟨p, o, none⟩), Value.pointer (some ⟨p, o + 1, none⟩)] 141) = z0 at U0 r0 ⊢
  have hq0 : ∀ q ∈ ([⟨p, o, x.slot⟩, ⟨p, o + 1, x.ballot⟩] : List Place), Var z0 q.p q.o [.int .i64 q.n] ∧ in64 q.n := by
    intro q hq
    simp only [List.mem_cons, List.not_mem_nil, or_false] at hq
    rcases hq with rfl | rfl
    · exact ⟨(U0.var h hv).sub (i := 0) (by intro f hf; simp at hf; subst hf; simp), i0⟩
    · exact ⟨(U0.var h hv).sub (i := 1) (by intro f hf; simp at hf; subst hf; simp), i1⟩
  have hyc0 : y0.heap.size ≠ c ∧ g ≠ some y0.heap.size := by
    obtain ⟨vo, h1, h2⟩ := T0.writes.ex
    exact ⟨Nat.ne_of_gt (lt_in h1), fun e => absurd (h2.lt _ e) (by omega)⟩
  refine (numsWrite_c (ps := [⟨p, o, x.slot⟩, ⟨p, o + 1, x.ballot⟩]) U0.writes (gp := some y0.heap.size) r0 (fun k hk => by cases hk; exact hyc0) hq0 (by simp) (by have := U0.len; simp only [List.length_append, List.length_nil, encI_length, bB_length, leB_length, encT_length, encBy_length] at this; omega)).mono ?_
  rintro _ w1 ⟨rfl, hW1⟩
  obtain ⟨L1, g1, Q1⟩ := U0.then hW1
  have S1 := Q1.cast (more' := [] ++ encI x.slot ++ encI x.ballot) (by simp [Place.enc])
  clear Q1
  have hv1 : Var w1 p (o + 2) [v_value] := (S1.var h hv).sub (i := 2) (by intro f hf; simp at hf; subst hf; simp)
  have lv1 := hv1.lt
  have hd1 := S1.data hS
  go_wp2_with fail
  refine (bytesW_c S1.writes (S1.sets hS) x.value (l0.heap (fun _ _ h => byteIs_stable _ _ _ _ _ _ h (fun _ h => h) hd1) (fun _ h => h) hd1) hv1 (by have := S1.len; simp only [List.length_append, List.length_nil, encI_length, bB_length, leB_length, encT_length, encBy_length] at this ⊢; omega)).mono ?_
  rintro _ w2 ⟨rfl, hW2⟩
  obtain ⟨L2, g2, Q2⟩ := S1.then hW2
  have S2 := Q2.cast (more' := [] ++ encI x.slot ++ encI x.ballot ++ encBy x.value) (by simp only [List.append_assoc])
  clear Q2
  go_wp2
  exact bodyPost_end (v := .tuple #[]) (by simp [results, Tryz.results67]) rfl ⟨rfl, S2.done⟩
theorem listSlotWrite_c {w : World} {c p o : Nat} {out : List UInt8} {g : Option Nat} (h : Writes w c out g) {S : Nat → Prop} (hS : ∀ k, S k → k < w.heap.size ∧ k ≠ c ∧ g ≠ some k) {v : Value} (xs : List SlotT) (hl : ListIs 3 SlotT.Is w S v xs) (hv : Var w p o [v]) (hm : out.length + (leB 4 xs.length ++ xs.flatMap SlotT.enc).length ≤ 140737488352000) :
    Calls Tryz.prog 66 #[.pointer (some ⟨c, 0, none⟩), .pointer (some ⟨p, o, none⟩), .func (.func 67) #[.pointer (some ⟨c, 0, none⟩)] #[]] w fun e w' => e = .returned (.tuple #[]) ∧ Wrote w w' c out g (leB 4 xs.length ++ xs.flatMap SlotT.enc) := by
  obtain ⟨a, cp, rfl, hc⟩ := hl.shape
  have hnl := hl.small
  have p0 : w.cell? ⟨p, o, none⟩ = some (.slice a xs.length cp) := hv.cell (f := 0) (by simp)
  have hlp := hv.lt
  simp only [List.length_append, leB_length] at hm
  go_enter Tryz.func66, Tryz.ntmps66
  go_wp2_with fail
  refine (countWrite_c h xs.length (by omega) (by omega)).mono ?_
  rintro e w1 ⟨rfl, hW1⟩
  obtain ⟨L1, g1, S1⟩ := (Cod.start h).then hW1
  have c2 : w1.cell? ⟨c, 2, none⟩ = some (.bool false) := by
    obtain ⟨vo, h1, -⟩ := S1.writes.ex
    exact cell_in h1
  have hl1 : c < w1.heap.size := by
    obtain ⟨vo, h1, -⟩ := S1.writes.ex
    exact lt_in h1
  clear p0
  go_wp2
  go_loopw [22] (fun i w' => ∃ (k : Nat) (L : List UInt8) (gL : Option Nat), k ≤ xs.length ∧ i = .int .i64 k ∧ Cod w w' c out g (leB 4 xs.length ++ (xs.take k).flatMap SlotT.enc) L gL) (fun i _ => xs.length - (intOf i).toNat)
  case atStart => exact ⟨0, L1, g1, by omega, rfl, S1.cast (by simp)⟩
  case round =>
    obtain ⟨k, L, gL, hk, rfl, SL⟩ := hrel
    by_cases hk2 : k < xs.length
    · have hki : (k : Int) < (xs.length : Int) := by omega
      have hd := SL.data hS
      obtain ⟨b, off, cs, rfl, hb, hcl, hcell, hr⟩ := (hl.heap (fun _ _ h => SlotT.Is.heap h (fun _ h => h) hd) (fun _ h => h) hd).at hk2
      have hfl := flatMap_le SlotT.enc xs (k + 1)
      have hft := flatMap_take SlotT.enc xs k hk2
      rw [hft, List.length_append] at hfl
      obtain ⟨e, he⟩ : ∃ e, e = xs[k] := ⟨_, rfl⟩
      rw [← he] at hr hft hfl
      have HFT := Lib.hid hft
      clear hft he hcl
      have hvr := SL.var h hv
      have p0 : wr.cell? ⟨p, o, none⟩ = some (.slice (some ⟨b, off, none⟩) xs.length cp) := hvr.cell (f := 0) (by simp)
      have l2 := hvr.lt
      have hr0 := hr
      obtain ⟨uv_value, rfl, j0, j1, m0⟩ := hr
      obtain ⟨au0, cu0, rfl, -⟩ := m0.shape
      have y0 : wr.cell? ⟨b, off + k * 3, none⟩ = some (Value.int IntKind.i64 e.slot) := hcell 0 (by omega)
      have y1 : wr.cell? ⟨b, off + k * 3 + 1, none⟩ = some (Value.int IntKind.i64 e.ballot) := hcell 1 (by omega)
      have y2 : wr.cell? ⟨b, off + k * 3 + 2, none⟩ = some (Value.slice au0 e.value.length cu0) := hcell 2 (by omega)
      go_wp2_with fail
      have SA := SL.alloc (Obj.cells #[Value.int IntKind.i64 e.slot, Value.int IntKind.i64 e.ballot, Value.slice au0 e.value.length cu0] 149)
      have vA := var_new wr #[Value.int IntKind.i64 e.slot, Value.int IntKind.i64 e.ballot, Value.slice au0 e.value.length cu0] 149 (by decide) (by decide)
      have hrA : SlotT.Is (wr.alloc (Obj.cells #[Value.int IntKind.i64 e.slot, Value.int IntKind.i64 e.ballot, Value.slice au0 e.value.length cu0] 149)) S _ e := SlotT.Is.heap hr0 (fun _ h => h) (fun k hk => Below.heap_alloc _ _ _ (SL.sets hS k hk).1)
      generalize wr.alloc (Obj.cells #[Value.int IntKind.i64 e.slot, Value.int IntKind.i64 e.ballot, Value.slice au0 e.value.length cu0] 149) = wa at SA hrA vA ⊢
      have hbnd := SA.len
      simp only [List.length_append, leB_length] at hbnd
      refine (slotWrite_c SA.writes (SA.sets hS) e hrA vA (by omega)).mono ?_
      rintro _ w9 ⟨rfl, hG⟩
      obtain ⟨L9, g9, S9⟩ := SA.then hG
      have HS9 := Lib.hid (S9.cast (more' := leB 4 xs.length ++ (xs.take (k + 1)).flatMap SlotT.enc) (by rw [HFT.out, List.append_assoc]))
      clear S9 hG
      go_wp2
      exact ⟨⟨k + 1, L9, g9, by omega, by simp, HS9.out⟩, by simp [intOf]; omega⟩
    · obtain rfl : k = xs.length := by omega
      go_wp2
      rw [List.take_length] at SL
      exact bodyPost_ret (v := .tuple #[]) (by simp [results, Tryz.results66]) rfl ⟨rfl, SL.done⟩
theorem objectWrite_c {w : World} {c p o : Nat} {out : List UInt8} {g : Option Nat} (h : Writes w c out g) {S : Nat → Prop} (hS : ∀ k, S k → k < w.heap.size ∧ k ≠ c ∧ g ≠ some k) (x : ObjectT) {cs : List Value} (hx : ObjectT.Is w S cs x) (hv : Var w p o cs) (hm : out.length + x.enc.length ≤ 140737488352000) :
    Calls Tryz.prog 73 #[.pointer (some ⟨c, 0, none⟩), .pointer (some ⟨p, o, none⟩)] w fun e w' => e = .returned (.tuple #[]) ∧ Wrote w w' c out g x.enc := by
  have hmf : ∀ (fn : Fn) (first cap : Array Value) (w : World), (Instr.makeFunc fn first cap).run Tryz.prog w = .ok (.func fn first cap) w := fun _ _ _ _ => rfl
  obtain ⟨v_data, rfl, i0, i1, l0⟩ := hx
  simp only [ObjectT.enc, List.length_append, List.length_nil, encI_length, bB_length, leB_length, encT_length, encBy_length] at hm
  simp only [ObjectT.enc]
  have hlp := hv.lt
  have S0 := Cod.start h
  go_enter Tryz.func73, Tryz.ntmps73
  have hv0 : Var w p (o) [Value.string x.name] := (S0.var h hv).sub (i := 0) (by intro f hf; simp at hf; subst hf; simp)
  have lv0 := hv0.lt
  go_wp2_with fail
  refine (textW_c S0.writes x.name hv0 (by have := S0.len; simp only [List.length_append, List.length_nil, encI_length, bB_length, leB_length, encT_length, encBy_length] at this ⊢; omega)).mono ?_
  rintro _ w1 ⟨rfl, hW1⟩
  obtain ⟨L1, g1, S1⟩ := S0.then hW1
  have hv1 : Var w1 p (o + 1) [Value.int IntKind.i64 x.version.epoch, Value.int IntKind.i64 x.version.n] := (S1.var h hv).sub (i := 1) (by
    intro f hf
    simp only [List.length_cons, List.length_nil] at hf
    have : f = 0 ∨ f = 1 := by omega
    rcases this with rfl | rfl <;> simp)
  have lv1 := hv1.lt
  go_wp2_with fail
  refine (versionWrite_c S1.writes x.version ⟨i0, i1⟩ hv1 (by have := S1.len; simp only [List.length_append, List.length_nil, encI_length, bB_length, leB_length, encT_length, encBy_length] at this; omega)).mono ?_
  rintro _ w2 ⟨rfl, hW2⟩
  obtain ⟨L2, g2, S2⟩ := S1.then hW2
  have hv2 : Var w2 p (o + 3) [v_data] := (S2.var h hv).sub (i := 3) (by intro f hf; simp at hf; subst hf; simp)
  have lv2 := hv2.lt
  have hd2 := S2.data hS
  go_wp2_with fail
  refine (bytesW_c S2.writes (S2.sets hS) x.data (l0.heap (fun _ _ h => byteIs_stable _ _ _ _ _ _ h (fun _ h => h) hd2) (fun _ h => h) hd2) hv2 (by have := S2.len; simp only [List.length_append, List.length_nil, encI_length, bB_length, leB_length, encT_length, encBy_length] at this ⊢; omega)).mono ?_
  rintro _ w3 ⟨rfl, hW3⟩
  obtain ⟨L3, g3, Q3⟩ := S2.then hW3
  have S3 := Q3.cast (more' := [] ++ encT x.name ++ x.version.enc ++ encBy x.data) (by simp only [List.append_assoc])
  clear Q3
  go_wp2
  exact bodyPost_end (v := .tuple #[]) (by simp [results, Tryz.results73]) rfl ⟨rfl, S3.done⟩
theorem infoWrite_c {w : World} {c p o : Nat} {out : List UInt8} {g : Option Nat} (h : Writes w c out g) (x : InfoT) (hi : in64 x.les ∧ in64 x.head.epoch ∧ in64 x.head.n ∧ in64 x.tail.epoch ∧ in64 x.tail.n ∧ in64 x.born) (hv : Var w p o [Value.int IntKind.i64 x.les, Value.int IntKind.i64 x.head.epoch, Value.int IntKind.i64 x.head.n, Value.int IntKind.i64 x.tail.epoch, Value.int IntKind.i64 x.tail.n, Value.int IntKind.i64 x.born]) (hm : out.length + x.enc.length ≤ 140737488352000) :
    Calls Tryz.prog 71 #[.pointer (some ⟨c, 0, none⟩), .pointer (some ⟨p, o, none⟩)] w fun e w' => e = .returned (.tuple #[]) ∧ Wrote w w' c out g x.enc := by
  have hmf : ∀ (fn : Fn) (first cap : Array Value) (w : World), (Instr.makeFunc fn first cap).run Tryz.prog w = .ok (.func fn first cap) w := fun _ _ _ _ => rfl
  obtain ⟨i0, i1, i2, i3, i4, i5⟩ := hi
  simp only [InfoT.enc, List.length_append, List.length_nil, encI_length, bB_length, leB_length, encT_length, encBy_length] at hm
  simp only [InfoT.enc]
  have hlp := hv.lt
  have S0 := Cod.start h
  go_enter Tryz.func71, Tryz.ntmps71
  have hv0 : Var w p (o) [Value.int IntKind.i64 x.les] := (S0.var h hv).sub (i := 0) (by intro f hf; simp at hf; subst hf; simp)
  have lv0 := hv0.lt
  go_wp2_with fail
  refine (numWrite_c S0.writes x.les i0 hv0 (by have := S0.len; simp only [List.length_append, List.length_nil, encI_length, bB_length, leB_length, encT_length, encBy_length] at this; omega)).mono ?_
  rintro _ w1 ⟨rfl, hW1⟩
  obtain ⟨L1, g1, S1⟩ := S0.then hW1
  have hv1 : Var w1 p (o + 1) [Value.int IntKind.i64 x.head.epoch, Value.int IntKind.i64 x.head.n] := (S1.var h hv).sub (i := 1) (by
    intro f hf
    simp only [List.length_cons, List.length_nil] at hf
    have : f = 0 ∨ f = 1 := by omega
    rcases this with rfl | rfl <;> simp)
  have lv1 := hv1.lt
  go_wp2_with fail
  refine (versionWrite_c S1.writes x.head ⟨i1, i2⟩ hv1 (by have := S1.len; simp only [List.length_append, List.length_nil, encI_length, bB_length, leB_length, encT_length, encBy_length] at this; omega)).mono ?_
  rintro _ w2 ⟨rfl, hW2⟩
  obtain ⟨L2, g2, S2⟩ := S1.then hW2
  have hv2 : Var w2 p (o + 3) [Value.int IntKind.i64 x.tail.epoch, Value.int IntKind.i64 x.tail.n] := (S2.var h hv).sub (i := 3) (by
    intro f hf
    simp only [List.length_cons, List.length_nil] at hf
    have : f = 0 ∨ f = 1 := by omega
    rcases this with rfl | rfl <;> simp)
  have lv2 := hv2.lt
  go_wp2_with fail
  refine (versionWrite_c S2.writes x.tail ⟨i3, i4⟩ hv2 (by have := S2.len; simp only [List.length_append, List.length_nil, encI_length, bB_length, leB_length, encT_length, encBy_length] at this; omega)).mono ?_
  rintro _ w3 ⟨rfl, hW3⟩
  obtain ⟨L3, g3, S3⟩ := S2.then hW3
  have hv3 : Var w3 p (o + 5) [Value.int IntKind.i64 x.born] := (S3.var h hv).sub (i := 5) (by intro f hf; simp at hf; subst hf; simp)
  have lv3 := hv3.lt
  go_wp2_with fail
  refine (numWrite_c S3.writes x.born i5 hv3 (by have := S3.len; simp only [List.length_append, List.length_nil, encI_length, bB_length, leB_length, encT_length, encBy_length] at this; omega)).mono ?_
  rintro _ w4 ⟨rfl, hW4⟩
  obtain ⟨L4, g4, S4⟩ := S3.then hW4
  go_wp2
  exact bodyPost_end (v := .tuple #[]) (by simp [results, Tryz.results71]) rfl ⟨rfl, S4.done⟩
theorem opWrite_c {w : World} {c p o : Nat} {out : List UInt8} {g : Option Nat} (h : Writes w c out g) {S : Nat → Prop} (hS : ∀ k, S k → k < w.heap.size ∧ k ≠ c ∧ g ≠ some k) (x : OpT) {cs : List Value} (hx : OpT.Is w S cs x) (hv : Var w p o cs) (hm : out.length + x.enc.length ≤ 140737488352000) :
    Calls Tryz.prog 74 #[.pointer (some ⟨c, 0, none⟩), .pointer (some ⟨p, o, none⟩)] w fun e w' => e = .returned (.tuple #[]) ∧ Wrote w w' c out g x.enc := by
  have hmf : ∀ (fn : Fn) (first cap : Array Value) (w : World), (Instr.makeFunc fn first cap).run Tryz.prog w = .ok (.func fn first cap) w := fun _ _ _ _ => rfl
  obtain ⟨v_data, rfl, i0, i1, i2, l0⟩ := hx
  simp only [OpT.enc, List.length_append, List.length_nil, encI_length, bB_length, leB_length, encT_length, encBy_length] at hm
  simp only [OpT.enc]
  have hlp := hv.lt
  have S0 := Cod.start h
  go_enter Tryz.func74, Tryz.ntmps74
  have hv0 : Var w p (o) [Value.int IntKind.i64 x.kind] := (S0.var h hv).sub (i := 0) (by intro f hf; simp at hf; subst hf; simp)
  have lv0 := hv0.lt
  go_wp2_with fail
  refine (numWrite_c S0.writes x.kind i0 hv0 (by have := S0.len; simp only [List.length_append, List.length_nil, encI_length, bB_length, leB_length, encT_length, encBy_length] at this; omega)).mono ?_
  rintro _ w1 ⟨rfl, hW1⟩
  obtain ⟨L1, g1, S1⟩ := S0.then hW1
  have hv1 : Var w1 p (o + 1) [Value.string x.name] := (S1.var h hv).sub (i := 1) (by intro f hf; simp at hf; subst hf; simp)
  have lv1 := hv1.lt
  go_wp2_with fail
  refine (textW_c S1.writes x.name hv1 (by have := S1.len; simp only [List.length_append, List.length_nil, encI_length, bB_length, leB_length, encT_length, encBy_length] at this ⊢; omega)).mono ?_
  rintro _ w2 ⟨rfl, hW2⟩
  obtain ⟨L2, g2, S2⟩ := S1.then hW2
  have hv2 : Var w2 p (o + 2) [v_data] := (S2.var h hv).sub (i := 2) (by intro f hf; simp at hf; subst hf; simp)
  have lv2 := hv2.lt
  have hd2 := S2.data hS
  go_wp2_with fail
  refine (bytesW_c S2.writes (S2.sets hS) x.data (l0.heap (fun _ _ h => byteIs_stable _ _ _ _ _ _ h (fun _ h => h) hd2) (fun _ h => h) hd2) hv2 (by have := S2.len; simp only [List.length_append, List.length_nil, encI_length, bB_length, leB_length, encT_length, encBy_length] at this ⊢; omega)).mono ?_
  rintro _ w3 ⟨rfl, hW3⟩
  obtain ⟨L3, g3, Q3⟩ := S2.then hW3
  have S3 := Q3.cast (more' := [] ++ encI x.kind ++ encT x.name ++ encBy x.data) (by simp only [List.append_assoc])
  clear Q3
  have hv3 : Var w3 p (o + 3) [Value.int IntKind.i64 x.expect.epoch, Value.int IntKind.i64 x.expect.n] := (S3.var h hv).sub (i := 3) (by
    intro f hf
    simp only [List.length_cons, List.length_nil] at hf
    have : f = 0 ∨ f = 1 := by omega
    rcases this with rfl | rfl <;> simp)
  have lv3 := hv3.lt
  go_wp2_with fail
  refine (versionWrite_c S3.writes x.expect ⟨i1, i2⟩ hv3 (by have := S3.len; simp only [List.length_append, List.length_nil, encI_length, bB_length, leB_length, encT_length, encBy_length] at this; omega)).mono ?_
  rintro _ w4 ⟨rfl, hW4⟩
  obtain ⟨L4, g4, S4⟩ := S3.then hW4
  go_wp2
  exact bodyPost_end (v := .tuple #[]) (by simp [results, Tryz.results74]) rfl ⟨rfl, S4.done⟩
theorem msgWrite_c {w : World} {c p o : Nat} {out : List UInt8} {g : Option Nat} (h : Writes w c out g) {S : Nat → Prop} (hS : ∀ k, S k → k < w.heap.size ∧ k ≠ c ∧ g ≠ some k) (x : MsgT) {cs : List Value} (hx : MsgT.Is w S cs x) (hv : Var w p o cs) (hm : out.length + x.enc.length ≤ 140737488352000) :
    Calls Tryz.prog 31 #[.pointer (some ⟨c, 0, none⟩), .pointer (some ⟨p, o, none⟩)] w fun e w' => e = .returned (.tuple #[]) ∧ Wrote w w' c out g x.enc := by
  have hmf : ∀ (fn : Fn) (first cap : Array Value) (w : World), (Instr.makeFunc fn first cap).run Tryz.prog w = .ok (.func fn first cap) w := fun _ _ _ _ => rfl
  obtain ⟨v_slots, v_incs, v_changes, v_state_log, v_state_lasts, v_state_items, v_object_data, v_op_data, v_items, v_names, rfl, i0, i1, i2, i3, i4, i5, i6, i7, i8, i9, i10, i11, i12, i13, i14, i15, i16, i17, i18, i19, i20, i21, i22, i23, i24, i25, i26, i27, i28, i29, i30, i31, l0, l1, l2, l3, l4, l5, l6, l7, l8, l9⟩ := hx
  (unfold MsgT.enc at hm; simp only [List.length_append, List.length_nil, encI_length, bB_length, leB_length, encT_length, encBy_length] at hm)
  (unfold MsgT.enc)
  have hlp := hv.lt
  have S0 := Cod.start h
  go_enter Tryz.func31, Tryz.ntmps31
  have hv0 : Var w p (o) [Value.int IntKind.i64 x.kind] := (S0.var h hv).sub (i := 0) (by intro f hf; simp at hf; subst hf; simp)
  have lv0 := hv0.lt
  go_wp2_with fail
  refine (numWrite_c S0.writes x.kind i0 hv0 (by have := S0.len; simp only [List.length_append, List.length_nil, encI_length, bB_length, leB_length, encT_length, encBy_length] at this; omega)).mono ?_
  rintro _ w1 ⟨rfl, hW1⟩
  obtain ⟨L1, g1, S1⟩ := S0.then hW1
  have hv1 : Var w1 p (o + 1) [Value.int IntKind.i64 x.src.kind, Value.int IntKind.i64 x.src.id] := (S1.var h hv).sub (i := 1) (by
    intro f hf
    simp only [List.length_cons, List.length_nil] at hf
    have : f = 0 ∨ f = 1 := by omega
    rcases this with rfl | rfl <;> simp)
  have lv1 := hv1.lt
  go_wp2_with fail
  refine (nodeWrite_c S1.writes x.src ⟨i1, i2⟩ hv1 (by have := S1.len; simp only [List.length_append, List.length_nil, encI_length, bB_length, leB_length, encT_length, encBy_length] at this; omega)).mono ?_
  rintro _ w2 ⟨rfl, hW2⟩
  obtain ⟨L2, g2, S2⟩ := S1.then hW2
  have hv2 : Var w2 p (o + 3) [Value.int IntKind.i64 x.dst.kind, Value.int IntKind.i64 x.dst.id] := (S2.var h hv).sub (i := 3) (by
    intro f hf
    simp only [List.length_cons, List.length_nil] at hf
    have : f = 0 ∨ f = 1 := by omega
    rcases this with rfl | rfl <;> simp)
  have lv2 := hv2.lt
  go_wp2_with fail
  refine (nodeWrite_c S2.writes x.dst ⟨i3, i4⟩ hv2 (by have := S2.len; simp only [List.length_append, List.length_nil, encI_length, bB_length, leB_length, encT_length, encBy_length] at this; omega)).mono ?_
  rintro _ w3 ⟨rfl, hW3⟩
  obtain ⟨L3, g3, S3⟩ := S2.then hW3
  have lv3 := (S3.var h hv).lt
  go_wp2
  refine wp_region_ord [1, 2, 3, 4, 5, 6] [0] [7, 8] (by kernel_rfl) (by kernel_rfl) (fun _ _ d _ _ h => by cases d <;> exact h) ?_
  simp only [sel, List.filterMap_cons, List.filterMap_nil, List.getElem?_cons_zero, List.getElem?_cons_succ]
  repeat (quiet_step (fail))
  refine wpQuiet_nil ?_
  refine wpIdle_step (fun K hK => ?_)
  go_simp
  refine hK _ ?_
  clear hK
  refine wpIdle_nil ?_
  rintro _ ⟨nr, rfl⟩
  have T3 := S3.dN nr
  generalize w3.drewN nr = y3 at T3 ⊢
  go_wp2_with fail
  have U3 := T3.alloc (Obj.cells #[Value.pointer (some ⟨p, o + 5, none⟩), Value.pointer (some ⟨p, o + 6, none⟩)] 141)
  have r3 := (own_alloc y3 [Value.pointer (some ⟨p, o + 5, none⟩), Value.pointer (some ⟨p, o + 6, none⟩)] 141 2 rfl (by decide)).reads
  generalize y3.alloc (Obj.cells #[Value.pointer (some ⟨p, o + 5, none⟩), Value.pointer (some ⟨p, o + 6, none⟩)] 141) = z3 at U3 r3 ⊢
  have hq3 : ∀ q ∈ ([⟨p, o + 5, x.boot⟩, ⟨p, o + 6, x.epoch⟩] : List Place), Var z3 q.p q.o [.int .i64 q.n] ∧ in64 q.n := by
    intro q hq
    simp only [List.mem_cons, List.not_mem_nil, or_false] at hq
    rcases hq with rfl | rfl
    · exact ⟨(U3.var h hv).sub (i := 5) (by intro f hf; simp at hf; subst hf; simp), i5⟩
    · exact ⟨(U3.var h hv).sub (i := 6) (by intro f hf; simp at hf; subst hf; simp), i6⟩
  have hyc3 : y3.heap.size ≠ c ∧ g3 ≠ some y3.heap.size := by
    obtain ⟨vo, h1, h2⟩ := T3.writes.ex
    exact ⟨Nat.ne_of_gt (lt_in h1), fun e => absurd (h2.lt _ e) (by omega)⟩
  refine (numsWrite_c (ps := [⟨p, o + 5, x.boot⟩, ⟨p, o + 6, x.epoch⟩]) U3.writes (gp := some y3.heap.size) r3 (fun k hk => by cases hk; exact hyc3) hq3 (by simp) (by have := U3.len; simp only [List.length_append, List.length_nil, encI_length, bB_length, leB_length, encT_length, encBy_length] at this; omega)).mono ?_
  rintro _ w4 ⟨rfl, hW4⟩
  obtain ⟨L4, g4, Q4⟩ := U3.then hW4
  have S4 := Q4.cast (more' := [] ++ encI x.kind ++ x.src.enc ++ x.dst.enc ++ encI x.boot ++ encI x.epoch) (by simp [Place.enc])
  clear Q4
  have hv4 : Var w4 p (o + 7) [Value.int IntKind.i64 x.pg.pool, Value.int IntKind.i64 x.pg.seed] := (S4.var h hv).sub (i := 7) (by
    intro f hf
    simp only [List.length_cons, List.length_nil] at hf
    have : f = 0 ∨ f = 1 := by omega
    rcases this with rfl | rfl <;> simp)
  have lv4 := hv4.lt
  go_wp2_with fail
  refine (pgWrite_c S4.writes x.pg ⟨i7, i8⟩ hv4 (by have := S4.len; simp only [List.length_append, List.length_nil, encI_length, bB_length, leB_length, encT_length, encBy_length] at this; omega)).mono ?_
  rintro _ w5 ⟨rfl, hW5⟩
  obtain ⟨L5, g5, S5⟩ := S4.then hW5
  have lv5 := (S5.var h hv).lt
  go_wp2
  refine wp_region_ord [1, 2, 3, 4, 5, 6, 7, 8, 9] [0] [10, 11] (by kernel_rfl) (by kernel_rfl) (fun _ _ d _ _ h => by cases d <;> exact h) ?_
  simp only [sel, List.filterMap_cons, List.filterMap_nil, List.getElem?_cons_zero, List.getElem?_cons_succ]
  repeat (quiet_step (fail))
  refine wpQuiet_nil ?_
  refine wpIdle_step (fun K hK => ?_)
  go_simp
  refine hK _ ?_
  clear hK
  refine wpIdle_nil ?_
  rintro _ ⟨nr, rfl⟩
  have T5 := S5.dN nr
  generalize w5.drewN nr = y5 at T5 ⊢
  go_wp2_with fail
  have U5 := T5.alloc (Obj.cells #[Value.pointer (some ⟨p, o + 9, none⟩), Value.pointer (some ⟨p, o + 10, none⟩), Value.pointer (some ⟨p, o + 11, none⟩)] 141)
  have r5 := (own_alloc y5 [Value.pointer (some ⟨p, o + 9, none⟩), Value.pointer (some ⟨p, o + 10, none⟩), Value.pointer (some ⟨p, o + 11, none⟩)] 141 3 rfl (by decide)).reads
  generalize y5.alloc (Obj.cells #[Value.pointer (some ⟨p, o + 9, none⟩), Value.pointer (some ⟨p, o + 10, none⟩), Value.pointer (some ⟨p, o + 11, none⟩)] 141) = z5 at U5 r5 ⊢
  have hq5 : ∀ q ∈ ([⟨p, o + 9, x.client⟩, ⟨p, o + 10, x.number⟩, ⟨p, o + 11, x.ballot⟩] : List Place), Var z5 q.p q.o [.int .i64 q.n] ∧ in64 q.n := by
    intro q hq
    simp only [List.mem_cons, List.not_mem_nil, or_false] at hq
    rcases hq with rfl | rfl | rfl
    · exact ⟨(U5.var h hv).sub (i := 9) (by intro f hf; simp at hf; subst hf; simp), i9⟩
    · exact ⟨(U5.var h hv).sub (i := 10) (by intro f hf; simp at hf; subst hf; simp), i10⟩
    · exact ⟨(U5.var h hv).sub (i := 11) (by intro f hf; simp at hf; subst hf; simp), i11⟩
  have hyc5 : y5.heap.size ≠ c ∧ g5 ≠ some y5.heap.size := by
    obtain ⟨vo, h1, h2⟩ := T5.writes.ex
    exact ⟨Nat.ne_of_gt (lt_in h1), fun e => absurd (h2.lt _ e) (by omega)⟩
  refine (numsWrite_c (ps := [⟨p, o + 9, x.client⟩, ⟨p, o + 10, x.number⟩, ⟨p, o + 11, x.ballot⟩]) U5.writes (gp := some y5.heap.size) r5 (fun k hk => by cases hk; exact hyc5) hq5 (by simp) (by have := U5.len; simp only [List.length_append, List.length_nil, encI_length, bB_length, leB_length, encT_length, encBy_length] at this; omega)).mono ?_
  rintro _ w6 ⟨rfl, hW6⟩
  obtain ⟨L6, g6, Q6⟩ := U5.then hW6
  have S6 := Q6.cast (more' := [] ++ encI x.kind ++ x.src.enc ++ x.dst.enc ++ encI x.boot ++ encI x.epoch ++ x.pg.enc ++ encI x.client ++ encI x.number ++ encI x.ballot) (by simp [Place.enc])
  clear Q6
  have hv6 : Var w6 p (o + 12) [v_slots] := (S6.var h hv).sub (i := 12) (by intro f hf; simp at hf; subst hf; simp)
  have lv6 := hv6.lt
  have hd6 := S6.data hS
  go_wp2_with fail
  refine (listSlotWrite_c S6.writes (S6.sets hS) x.slots (l0.heap (fun _ _ h => SlotT.Is.heap h (fun _ h => h) hd6) (fun _ h => h) hd6) hv6 (by have := S6.len; simp only [List.length_append, List.length_nil, encI_length, bB_length, leB_length, encT_length, encBy_length] at this ⊢; omega)).mono ?_
  rintro _ w7 ⟨rfl, hW7⟩
  obtain ⟨L7, g7, Q7⟩ := S6.then hW7
  have S7 := Q7.cast (more' := [] ++ encI x.kind ++ x.src.enc ++ x.dst.enc ++ encI x.boot ++ encI x.epoch ++ x.pg.enc ++ encI x.client ++ encI x.number ++ encI x.ballot ++ leB 4 x.slots.length ++ x.slots.flatMap SlotT.enc) (by simp only [List.append_assoc])
  clear Q7
  have hv7 : Var w7 p (o + 13) [v_incs] := (S7.var h hv).sub (i := 13) (by intro f hf; simp at hf; subst hf; simp)
  have lv7 := hv7.lt
  have hd7 := S7.data hS
  go_wp2_with fail
  refine (listIncWrite_c S7.writes (S7.sets hS) x.incs (l1.heap (fun _ _ h => IncT.Is.heap h (fun _ h => h) hd7) (fun _ h => h) hd7) hv7 (by have := S7.len; simp only [List.length_append, List.length_nil, encI_length, bB_length, leB_length, encT_length, encBy_length] at this ⊢; omega)).mono ?_
  rintro _ w8 ⟨rfl, hW8⟩
  obtain ⟨L8, g8, Q8⟩ := S7.then hW8
  have S8 := Q8.cast (more' := [] ++ encI x.kind ++ x.src.enc ++ x.dst.enc ++ encI x.boot ++ encI x.epoch ++ x.pg.enc ++ encI x.client ++ encI x.number ++ encI x.ballot ++ leB 4 x.slots.length ++ x.slots.flatMap SlotT.enc ++ leB 4 x.incs.length ++ x.incs.flatMap IncT.enc) (by simp only [List.append_assoc])
  clear Q8
  have hv8 : Var w8 p (o + 14) [v_changes] := (S8.var h hv).sub (i := 14) (by intro f hf; simp at hf; subst hf; simp)
  have lv8 := hv8.lt
  have hd8 := S8.data hS
  go_wp2_with fail
  refine (listChangeWrite_c S8.writes (S8.sets hS) x.changes (l2.heap (fun _ _ h => ChangeT.Is.heap h (fun _ h => h) hd8) (fun _ h => h) hd8) hv8 (by have := S8.len; simp only [List.length_append, List.length_nil, encI_length, bB_length, leB_length, encT_length, encBy_length] at this ⊢; omega)).mono ?_
  rintro _ w9 ⟨rfl, hW9⟩
  obtain ⟨L9, g9, Q9⟩ := S8.then hW9
  have S9 := Q9.cast (more' := [] ++ encI x.kind ++ x.src.enc ++ x.dst.enc ++ encI x.boot ++ encI x.epoch ++ x.pg.enc ++ encI x.client ++ encI x.number ++ encI x.ballot ++ leB 4 x.slots.length ++ x.slots.flatMap SlotT.enc ++ leB 4 x.incs.length ++ x.incs.flatMap IncT.enc ++ leB 4 x.changes.length ++ x.changes.flatMap ChangeT.enc) (by simp only [List.append_assoc])
  clear Q9
  have hv9 : Var w9 p (o + 15) [Value.int IntKind.i64 x.info.les, Value.int IntKind.i64 x.info.head.epoch, Value.int IntKind.i64 x.info.head.n, Value.int IntKind.i64 x.info.tail.epoch, Value.int IntKind.i64 x.info.tail.n, Value.int IntKind.i64 x.info.born] := (S9.var h hv).sub (i := 15) (by
    intro f hf
    simp only [List.length_cons, List.length_nil] at hf
    have : f = 0 ∨ f = 1 ∨ f = 2 ∨ f = 3 ∨ f = 4 ∨ f = 5 := by omega
    rcases this with rfl | rfl | rfl | rfl | rfl | rfl <;> simp)
  have lv9 := hv9.lt
  go_wp2_with fail
  refine (infoWrite_c S9.writes x.info ⟨i12, i13, i14, i15, i16, i17⟩ hv9 (by have := S9.len; simp only [List.length_append, List.length_nil, encI_length, bB_length, leB_length, encT_length, encBy_length] at this; omega)).mono ?_
  rintro _ w10 ⟨rfl, hW10⟩
  obtain ⟨L10, g10, S10⟩ := S9.then hW10
  have hv10 : Var w10 p (o + 21) [Value.int IntKind.i64 x.state.les, Value.int IntKind.i64 x.state.tail.epoch, Value.int IntKind.i64 x.state.tail.n, v_state_log, v_state_lasts, v_state_items] := (S10.var h hv).sub (i := 21) (by
    intro f hf
    simp only [List.length_cons, List.length_nil] at hf
    have : f = 0 ∨ f = 1 ∨ f = 2 ∨ f = 3 ∨ f = 4 ∨ f = 5 := by omega
    rcases this with rfl | rfl | rfl | rfl | rfl | rfl <;> simp)
  have lv10 := hv10.lt
  go_wp2_with fail
  have hd10 := S10.data hS
  have hx10 : StateT.Is w10 S [Value.int IntKind.i64 x.state.les, Value.int IntKind.i64 x.state.tail.epoch, Value.int IntKind.i64 x.state.tail.n, v_state_log, v_state_lasts, v_state_items] x.state := ⟨_, _, _, rfl, i18, i19, i20, l3.heap (fun _ _ h => EntryT.Is.heap h) (fun _ h => h) hd10, l4.heap (fun _ _ h => LastT.Is.heap h) (fun _ h => h) hd10, l5.heap (fun _ _ h => ItemT.Is.heap h) (fun _ h => h) hd10⟩
  refine (stateWrite_c S10.writes (S10.sets hS) x.state hx10 hv10 (by have := S10.len; simp only [List.length_append, List.length_nil, encI_length, bB_length, leB_length, encT_length, encBy_length] at this; omega)).mono ?_
  rintro _ w11 ⟨rfl, hW11⟩
  obtain ⟨L11, g11, S11⟩ := S10.then hW11
  have hv11 : Var w11 p (o + 27) [Value.int IntKind.i64 x.entry.version.epoch, Value.int IntKind.i64 x.entry.version.n, Value.bool x.entry.remove, Value.int IntKind.i64 x.entry.errno, Value.string x.entry.name, Value.int IntKind.i64 x.entry.client, Value.int IntKind.i64 x.entry.number] := (S11.var h hv).sub (i := 27) (by
    intro f hf
    simp only [List.length_cons, List.length_nil] at hf
    have : f = 0 ∨ f = 1 ∨ f = 2 ∨ f = 3 ∨ f = 4 ∨ f = 5 ∨ f = 6 := by omega
    rcases this with rfl | rfl | rfl | rfl | rfl | rfl | rfl <;> simp)
  have lv11 := hv11.lt
  go_wp2_with fail
  refine (entryWrite_c S11.writes x.entry ⟨i21, i22, i23, i24, i25⟩ hv11 (by have := S11.len; simp only [List.length_append, List.length_nil, encI_length, bB_length, leB_length, encT_length, encBy_length] at this; omega)).mono ?_
  rintro _ w12 ⟨rfl, hW12⟩
  obtain ⟨L12, g12, S12⟩ := S11.then hW12
  have hv12 : Var w12 p (o + 34) [Value.string x.object.name, Value.int IntKind.i64 x.object.version.epoch, Value.int IntKind.i64 x.object.version.n, v_object_data] := (S12.var h hv).sub (i := 34) (by
    intro f hf
    simp only [List.length_cons, List.length_nil] at hf
    have : f = 0 ∨ f = 1 ∨ f = 2 ∨ f = 3 := by omega
    rcases this with rfl | rfl | rfl | rfl <;> simp)
  have lv12 := hv12.lt
  go_wp2_with fail
  have hd12 := S12.data hS
  have hx12 : ObjectT.Is w12 S [Value.string x.object.name, Value.int IntKind.i64 x.object.version.epoch, Value.int IntKind.i64 x.object.version.n, v_object_data] x.object := ⟨_, rfl, i26, i27, l6.heap (fun _ _ h => byteIs_stable _ _ _ _ _ _ h (fun _ h => h) hd12) (fun _ h => h) hd12⟩
  refine (objectWrite_c S12.writes (S12.sets hS) x.object hx12 hv12 (by have := S12.len; simp only [List.length_append, List.length_nil, encI_length, bB_length, leB_length, encT_length, encBy_length] at this; omega)).mono ?_
  rintro _ w13 ⟨rfl, hW13⟩
  obtain ⟨L13, g13, S13⟩ := S12.then hW13
  have hv13 : Var w13 p (o + 38) [Value.int IntKind.i64 x.op.kind, Value.string x.op.name, v_op_data, Value.int IntKind.i64 x.op.expect.epoch, Value.int IntKind.i64 x.op.expect.n] := (S13.var h hv).sub (i := 38) (by
    intro f hf
    simp only [List.length_cons, List.length_nil] at hf
    have : f = 0 ∨ f = 1 ∨ f = 2 ∨ f = 3 ∨ f = 4 := by omega
    rcases this with rfl | rfl | rfl | rfl | rfl <;> simp)
  have lv13 := hv13.lt
  go_wp2_with fail
  have hd13 := S13.data hS
  have hx13 : OpT.Is w13 S [Value.int IntKind.i64 x.op.kind, Value.string x.op.name, v_op_data, Value.int IntKind.i64 x.op.expect.epoch, Value.int IntKind.i64 x.op.expect.n] x.op := ⟨_, rfl, i28, i29, i30, l7.heap (fun _ _ h => byteIs_stable _ _ _ _ _ _ h (fun _ h => h) hd13) (fun _ h => h) hd13⟩
  refine (opWrite_c S13.writes (S13.sets hS) x.op hx13 hv13 (by have := S13.len; simp only [List.length_append, List.length_nil, encI_length, bB_length, leB_length, encT_length, encBy_length] at this; omega)).mono ?_
  rintro _ w14 ⟨rfl, hW14⟩
  obtain ⟨L14, g14, S14⟩ := S13.then hW14
  have hv14 : Var w14 p (o + 43) [v_items] := (S14.var h hv).sub (i := 43) (by intro f hf; simp at hf; subst hf; simp)
  have lv14 := hv14.lt
  have hd14 := S14.data hS
  go_wp2_with fail
  refine (listItemWrite_c S14.writes (S14.sets hS) x.items (l8.heap (fun _ _ h => ItemT.Is.heap h) (fun _ h => h) hd14) hv14 (by have := S14.len; simp only [List.length_append, List.length_nil, encI_length, bB_length, leB_length, encT_length, encBy_length] at this ⊢; omega)).mono ?_
  rintro _ w15 ⟨rfl, hW15⟩
  obtain ⟨L15, g15, Q15⟩ := S14.then hW15
  have S15 := Q15.cast (more' := [] ++ encI x.kind ++ x.src.enc ++ x.dst.enc ++ encI x.boot ++ encI x.epoch ++ x.pg.enc ++ encI x.client ++ encI x.number ++ encI x.ballot ++ leB 4 x.slots.length ++ x.slots.flatMap SlotT.enc ++ leB 4 x.incs.length ++ x.incs.flatMap IncT.enc ++ leB 4 x.changes.length ++ x.changes.flatMap ChangeT.enc ++ x.info.enc ++ x.state.enc ++ x.entry.enc ++ x.object.enc ++ x.op.enc ++ leB 4 x.items.length ++ x.items.flatMap ItemT.enc) (by simp only [List.append_assoc])
  clear Q15
  have hv15 : Var w15 p (o + 44) [v_names] := (S15.var h hv).sub (i := 44) (by intro f hf; simp at hf; subst hf; simp)
  have lv15 := hv15.lt
  have hd15 := S15.data hS
  go_wp2_with fail
  refine (listtextWrite_c S15.writes (S15.sets hS) x.names (l9.heap (fun _ _ h => textIs_stable _ _ _ _ _ _ h (fun _ h => h) hd15) (fun _ h => h) hd15) hv15 (by have := S15.len; simp only [List.length_append, List.length_nil, encI_length, bB_length, leB_length, encT_length, encBy_length] at this ⊢; omega)).mono ?_
  rintro _ w16 ⟨rfl, hW16⟩
  obtain ⟨L16, g16, Q16⟩ := S15.then hW16
  have S16 := Q16.cast (more' := [] ++ encI x.kind ++ x.src.enc ++ x.dst.enc ++ encI x.boot ++ encI x.epoch ++ x.pg.enc ++ encI x.client ++ encI x.number ++ encI x.ballot ++ leB 4 x.slots.length ++ x.slots.flatMap SlotT.enc ++ leB 4 x.incs.length ++ x.incs.flatMap IncT.enc ++ leB 4 x.changes.length ++ x.changes.flatMap ChangeT.enc ++ x.info.enc ++ x.state.enc ++ x.entry.enc ++ x.object.enc ++ x.op.enc ++ leB 4 x.items.length ++ x.items.flatMap ItemT.enc ++ leB 4 x.names.length ++ x.names.flatMap encT) (by simp only [List.append_assoc])
  clear Q16
  have hv16 : Var w16 p (o + 45) [Value.int IntKind.i64 x.errno] := (S16.var h hv).sub (i := 45) (by intro f hf; simp at hf; subst hf; simp)
  have lv16 := hv16.lt
  go_wp2_with fail
  refine (errnoW_c S16.writes x.errno i31 hv16 (by have := S16.len; simp only [List.length_append, List.length_nil, encI_length, bB_length, leB_length, encT_length, encBy_length] at this; omega)).mono ?_
  rintro _ w17 ⟨rfl, hW17⟩
  obtain ⟨L17, g17, S17⟩ := S16.then hW17
  go_wp2
  exact bodyPost_end (v := .tuple #[]) (by simp [results, Tryz.results31]) rfl ⟨rfl, S17.done⟩
end Go.Proofs.YtmbjealliinpdaaGreat
end

section

namespace Go.Proofs.YtmbjealliinpdaaGreat
open Go.RowKit
theorem writtenMsg_c {w : World} {S : Nat → Prop} (hS : ∀ k, S k → k < w.heap.size) (x : MsgT) {cs : List Value} (hx : MsgT.Is w S cs x) (hm : x.enc.length ≤ 140737488352000) :
    Calls Tryz.prog 33 #[.agg cs.toArray, .func (.func 31) #[] #[]] w fun e w' => (∃ vc, e = .returned vc ∧ Fresh w w' vc x.enc) ∧ Kept (fun _ => False) w w' := by
  have hx0 := hx
  obtain ⟨v0, v1, v2, v3, v4, v5, v6, v7, v8, v9, rfl, -, -, -, -, -, -, -, -, -, -, -, -, -, -, -, -, -, -, -, -, -, -, -, -, -, -, -, -, -, -, -, -, l0, l1, l2, l3, l4, l5, l6, l7, l8, l9⟩ := hx
  have sh0 := l0.shape
  have sh1 := l1.shape
  have sh2 := l2.shape
  have sh3 := l3.shape
  have sh4 := l4.shape
  have sh5 := l5.shape
  have sh6 := l6.shape
  have sh7 := l7.shape
  have sh8 := l8.shape
  have sh9 := l9.shape
  obtain ⟨a0, c0, eh0, qh0⟩ := sh0
  clear qh0
  obtain ⟨a1, c1, eh1, qh1⟩ := sh1
  clear qh1
  obtain ⟨a2, c2, eh2, qh2⟩ := sh2
  clear qh2
  obtain ⟨a3, c3, eh3, qh3⟩ := sh3
  clear qh3
  obtain ⟨a4, c4, eh4, qh4⟩ := sh4
  clear qh4
  obtain ⟨a5, c5, eh5, qh5⟩ := sh5
  clear qh5
  obtain ⟨a6, c6, eh6, qh6⟩ := sh6
  clear qh6
  obtain ⟨a7, c7, eh7, qh7⟩ := sh7
  clear qh7
  obtain ⟨a8, c8, eh8, qh8⟩ := sh8
  clear qh8
  obtain ⟨a9, c9, eh9, qh9⟩ := sh9
  clear qh9
  subst eh0 eh1 eh2 eh3 eh4 eh5 eh6 eh7 eh8 eh9
  obtain ⟨E, hE⟩ : ∃ E, E = x.enc := ⟨_, rfl⟩
  have hm' := hm
  rw [← hE] at hm ⊢
  have HE := Lib.hid hE
  clear hE
  go_enter Tryz.func33, Tryz.ntmps33
  go_wp2_with fail
  obtain ⟨K0, x1, x2⟩ := two_new w (Obj.cells #[Value.int IntKind.i64 x.kind, Value.int IntKind.i64 x.src.kind, Value.int IntKind.i64 x.src.id, Value.int IntKind.i64 x.dst.kind, Value.int IntKind.i64 x.dst.id, Value.int IntKind.i64 x.boot, Value.int IntKind.i64 x.epoch, Value.int IntKind.i64 x.pg.pool, Value.int IntKind.i64 x.pg.seed, Value.int IntKind.i64 x.client, Value.int IntKind.i64 x.number, Value.int IntKind.i64 x.ballot, Value.slice a0 x.slots.length c0, Value.slice a1 x.incs.length c1, Value.slice a2 x.changes.length c2, Value.int IntKind.i64 x.info.les, Value.int IntKind.i64 x.info.head.epoch, Value.int IntKind.i64 x.info.head.n, Value.int IntKind.i64 x.info.tail.epoch, Value.int IntKind.i64 x.info.tail.n, Value.int IntKind.i64 x.info.born, Value.int IntKind.i64 x.state.les, Value.int IntKind.i64 x.state.tail.epoch, Value.int IntKind.i64 x.state.tail.n, Value.slice a3 x.state.log.length c3, Value.slice a4 x.state.lasts.length c4, Value.slice a5 x.state.items.length c5, Value.int IntKind.i64 x.entry.version.epoch, Value.int IntKind.i64 x.entry.version.n, Value.bool x.entry.remove, Value.int IntKind.i64 x.entry.errno, Value.string x.entry.name, Value.int IntKind.i64 x.entry.client, Value.int IntKind.i64 x.entry.number, Value.string x.object.name, Value.int IntKind.i64 x.object.version.epoch, Value.int IntKind.i64 x.object.version.n, Value.slice a6 x.object.data.length c6, Value.int IntKind.i64 x.op.kind, Value.string x.op.name, Value.slice a7 x.op.data.length c7, Value.int IntKind.i64 x.op.expect.epoch, Value.int IntKind.i64 x.op.expect.n, Value.slice a8 x.items.length c8, Value.slice a9 x.names.length c9, Value.int IntKind.i64 x.errno] 48) (Obj.cells #[Value.slice none 0 0, Value.slice none 0 0, Value.bool false] 138)
  generalize (w.alloc (Obj.cells #[Value.int IntKind.i64 x.kind, Value.int IntKind.i64 x.src.kind, Value.int IntKind.i64 x.src.id, Value.int IntKind.i64 x.dst.kind, Value.int IntKind.i64 x.dst.id, Value.int IntKind.i64 x.boot, Value.int IntKind.i64 x.epoch, Value.int IntKind.i64 x.pg.pool, Value.int IntKind.i64 x.pg.seed, Value.int IntKind.i64 x.client, Value.int IntKind.i64 x.number, Value.int IntKind.i64 x.ballot, Value.slice a0 x.slots.length c0, Value.slice a1 x.incs.length c1, Value.slice a2 x.changes.length c2, Value.int IntKind.i64 x.info.les, Value.int IntKind.i64 x.info.head.epoch, Value.int IntKind.i64 x.info.head.n, Value.int IntKind.i64 x.info.tail.epoch, Value.int IntKind.i64 x.info.tail.n, Value.int IntKind.i64 x.info.born, Value.int IntKind.i64 x.state.les, Value.int IntKind.i64 x.state.tail.epoch, Value.int IntKind.i64 x.state.tail.n, Value.slice a3 x.state.log.length c3, Value.slice a4 x.state.lasts.length c4, Value.slice a5 x.state.items.length c5, Value.int IntKind.i64 x.entry.version.epoch, Value.int IntKind.i64 x.entry.version.n, Value.bool x.entry.remove, Value.int IntKind.i64 x.entry.errno, Value.string x.entry.name, Value.int IntKind.i64 x.entry.client, Value.int IntKind.i64 x.entry.number, Value.string x.object.name, Value.int IntKind.i64 x.object.version.epoch, Value.int IntKind.i64 x.object.version.n, Value.slice a6 x.object.data.length c6, Value.int IntKind.i64 x.op.kind, Value.string x.op.name, Value.slice a7 x.op.data.length c7, Value.int IntKind.i64 x.op.expect.epoch, Value.int IntKind.i64 x.op.expect.n, Value.slice a8 x.items.length c8, Value.slice a9 x.names.length c9, Value.int IntKind.i64 x.errno] 48)).alloc (Obj.cells #[Value.slice none 0 0, Value.slice none 0 0, Value.bool false] 138) = w0 at K0 x1 x2 ⊢
  have hw0 : Writes w0 (w.heap.size + 1) [] none := ⟨_, x2, Own.nil _ _ _⟩
  have hv0 : Var w0 w.heap.size 0 [Value.int IntKind.i64 x.kind, Value.int IntKind.i64 x.src.kind, Value.int IntKind.i64 x.src.id, Value.int IntKind.i64 x.dst.kind, Value.int IntKind.i64 x.dst.id, Value.int IntKind.i64 x.boot, Value.int IntKind.i64 x.epoch, Value.int IntKind.i64 x.pg.pool, Value.int IntKind.i64 x.pg.seed, Value.int IntKind.i64 x.client, Value.int IntKind.i64 x.number, Value.int IntKind.i64 x.ballot, Value.slice a0 x.slots.length c0, Value.slice a1 x.incs.length c1, Value.slice a2 x.changes.length c2, Value.int IntKind.i64 x.info.les, Value.int IntKind.i64 x.info.head.epoch, Value.int IntKind.i64 x.info.head.n, Value.int IntKind.i64 x.info.tail.epoch, Value.int IntKind.i64 x.info.tail.n, Value.int IntKind.i64 x.info.born, Value.int IntKind.i64 x.state.les, Value.int IntKind.i64 x.state.tail.epoch, Value.int IntKind.i64 x.state.tail.n, Value.slice a3 x.state.log.length c3, Value.slice a4 x.state.lasts.length c4, Value.slice a5 x.state.items.length c5, Value.int IntKind.i64 x.entry.version.epoch, Value.int IntKind.i64 x.entry.version.n, Value.bool x.entry.remove, Value.int IntKind.i64 x.entry.errno, Value.string x.entry.name, Value.int IntKind.i64 x.entry.client, Value.int IntKind.i64 x.entry.number, Value.string x.object.name, Value.int IntKind.i64 x.object.version.epoch, Value.int IntKind.i64 x.object.version.n, Value.slice a6 x.object.data.length c6, Value.int IntKind.i64 x.op.kind, Value.string x.op.name, Value.slice a7 x.op.data.length c7, Value.int IntKind.i64 x.op.expect.epoch, Value.int IntKind.i64 x.op.expect.n, Value.slice a8 x.items.length c8, Value.slice a9 x.names.length c9, Value.int IntKind.i64 x.errno] := ⟨_, _, x1, by decide, by decide, fun f hf => by simp⟩
  have hxw := hx0.heap (w' := w0) (S' := S) (fun _ h => h) (fun k hk => K0.block k (hS k hk) (fun h => h))
  refine (msgWrite_c hw0 (S := S) (fun k hk => ⟨Nat.lt_of_lt_of_le (hS k hk) K0.size, by have := hS k hk; omega, by simp⟩) x hxw hv0 (by simpa using hm')).mono ?_
  rintro e w1 ⟨rfl, g1, hw1, k1, hg1⟩
  obtain ⟨vo, q1, o1⟩ := hw1.ex
  rw [List.nil_append, ← HE.out] at o1
  have z0 : w1.cell? ⟨w.heap.size + 1, 0, none⟩ = some vo := cell_in q1
  have hl := lt_in q1
  have hs := lt_in x2
  obtain ⟨ao, co, rfl, -, -⟩ := o1.shape
  have HO := Lib.hid o1
  clear q1 x1 x2 o1
  go_wp2
  go_ret
  refine ⟨⟨_, rfl, g1, HO.out, fun k hk => ?_⟩, K0.thn k1 (fun i hi => ?_)⟩
  · rcases hg1 k hk with h | h
    · cases h
    · omega
  · rcases hi with h | h
    · exact .inr (by omega)
    · cases h
theorem msg_info : ∃ i, Tryz.prog.info? 48 = some i ∧ i.size = 46 := by
  have h : (Tryz.prog.info? 48).map (·.size) = some 46 := by kernel_rfl
  cases hq : Tryz.prog.info? 48 with
  | none => simp [hq] at h
  | some i => exact ⟨i, rfl, by simpa [hq] using h⟩
theorem MsgT.Is.len {w : World} {S : Nat → Prop} {cs : List Value} {x : MsgT} (hx : MsgT.Is w S cs x) : cs.length = 46 := by
  obtain ⟨_, _, _, _, _, _, _, _, _, _, h, _⟩ := hx
  rw [h]
  rfl
theorem encMsg_c {w : World} {S : Nat → Prop} (hS : ∀ k, S k → k < w.heap.size) (x : MsgT) {cs : List Value} (hx : MsgT.Is w S cs x) (hm : x.enc.length ≤ 140737488352000) :
    Calls Tryz.prog 8 #[.agg cs.toArray] w fun e w' => (∃ vc, e = .returned vc ∧ Fresh w w' vc x.enc) ∧ Kept (fun _ => False) w w' := by
  have hlen := hx.len
  have HL := Lib.hid hlen
  clear hlen
  obtain ⟨im, him, hism⟩ := msg_info
  go_enter Tryz.func8, Tryz.ntmps8
  go_wp2_with (refine wpList_load_block rfl 48 _ rfl rfl (heap_alloc_new' w (Obj.cells cs.toArray 48)) (Tryz.isAgg48 _) him (hism.trans (by rw [List.size_toArray]; exact HL.out.symm)) ?_)
  have K0 := Kept.alloc (fun _ => False) w (Obj.cells cs.toArray 48)
  have hxw := hx.heap (w' := w.alloc (Obj.cells cs.toArray 48)) (S' := S) (fun _ h => h) (fun k hk => K0.block k (hS k hk) (fun h => h))
  generalize w.alloc (Obj.cells cs.toArray 48) = w0 at K0 hxw ⊢
  refine (writtenMsg_c (S := S) (fun k hk => Nat.lt_of_lt_of_le (hS k hk) K0.size) x hxw hm).mono ?_
  rintro e w1 ⟨⟨vc, rfl, hf⟩, hk⟩
  have hf' := hf.from' K0.size
  obtain ⟨ao, co, rfl, -, -⟩ := (hf.choose_spec.1).shape
  go_wp2
  go_ret
  exact ⟨⟨_, rfl, hf'⟩, K0.trans hk⟩
theorem encRefMsg_c {w : World} {S : Nat → Prop} (hS : ∀ k, S k → k < w.heap.size) (x : MsgT) {cs : List Value} (hx : MsgT.Is w S cs x) (hm : x.enc.length ≤ 140737488352000) :
    Calls Tryz.prog 9 #[.agg cs.toArray] w fun e w' => (∃ vc, e = .returned vc ∧ Fresh w w' vc x.enc) ∧ Kept (fun _ => False) w w' := by
  have hlen := hx.len
  have HL := Lib.hid hlen
  clear hlen
  obtain ⟨im, him, hism⟩ := msg_info
  go_enter Tryz.func9, Tryz.ntmps9
  go_wp2_with (refine wpList_load_block rfl 48 _ rfl rfl (heap_alloc_new' w (Obj.cells cs.toArray 48)) (Tryz.isAgg48 _) him (hism.trans (by rw [List.size_toArray]; exact HL.out.symm)) ?_)
  have K0 := Kept.alloc (fun _ => False) w (Obj.cells cs.toArray 48)
  have hxw := hx.heap (w' := w.alloc (Obj.cells cs.toArray 48)) (S' := S) (fun _ h => h) (fun k hk => K0.block k (hS k hk) (fun h => h))
  generalize w.alloc (Obj.cells cs.toArray 48) = w0 at K0 hxw ⊢
  refine (putMsg_c (out := []) (Own.nil w0 _ _) (S := S) (fun k hk => ⟨Nat.lt_of_lt_of_le (hS k hk) K0.size, by simp⟩) x hxw (by simp only [List.length_nil]; omega)).mono ?_
  rintro e w1 ⟨vc, rfl, g1, o1, k1, hg1⟩
  rw [List.nil_append] at o1
  obtain ⟨ao, co, rfl, -, -⟩ := o1.shape
  have hs := K0.size
  go_wp2
  go_ret
  exact ⟨⟨_, rfl, g1, o1, fun k hk => (hg1 k hk).elim (fun h => by cases h) (fun h => Nat.le_trans hs h)⟩, K0.trans (k1.mono (fun _ _ h => by cases h))⟩
end Go.Proofs.YtmbjealliinpdaaGreat
end

section

namespace Go.Proofs.YtmbjealliinpdaaGreat
open Go.RowKit
/-- The cells of a message of noughts. -/
def msgZ : List Value := [Value.int IntKind.i64 0, Value.int IntKind.i64 0, Value.int IntKind.i64 0, Value.int IntKind.i64 0, Value.int IntKind.i64 0, Value.int IntKind.i64 0, Value.int IntKind.i64 0, Value.int IntKind.i64 0, Value.int IntKind.i64 0, Value.int IntKind.i64 0, Value.int IntKind.i64 0, Value.int IntKind.i64 0, Value.slice none 0 0, Value.slice none 0 0, Value.slice none 0 0, Value.int IntKind.i64 0, Value.int IntKind.i64 0, Value.int IntKind.i64 0, Value.int IntKind.i64 0, Value.int IntKind.i64 0, Value.int IntKind.i64 0, Value.int IntKind.i64 0, Value.int IntKind.i64 0, Value.int IntKind.i64 0, Value.slice none 0 0, Value.slice none 0 0, Value.slice none 0 0, Value.int IntKind.i64 0, Value.int IntKind.i64 0, Value.bool false, Value.int IntKind.i64 0, Value.string ⟨#[]⟩, Value.int IntKind.i64 0, Value.int IntKind.i64 0, Value.string ⟨#[]⟩, Value.int IntKind.i64 0, Value.int IntKind.i64 0, Value.slice none 0 0, Value.int IntKind.i64 0, Value.string ⟨#[]⟩, Value.slice none 0 0, Value.int IntKind.i64 0, Value.int IntKind.i64 0, Value.slice none 0 0, Value.slice none 0 0, Value.int IntKind.i64 0]
theorem msgZ_size : msgZ.toArray.size = 46 := rfl
theorem msgZ_one : msgZ.toArray.toList.all (·.oneCell') = true := rfl
theorem msg_all : ∃ i, Tryz.prog.info? 48 = some i ∧ i.size = 46 ∧ i.zero = some (.agg msgZ.toArray) := by
  have h : (Tryz.prog.info? 48).map (fun i => (i.size, i.zero)) = some (46, some (.agg msgZ.toArray)) := by kernel_rfl
  cases hq : Tryz.prog.info? 48 with
  | none => simp [hq] at h
  | some i =>
    simp [hq] at h
    exact ⟨i, rfl, h.1, h.2⟩
theorem msgZero (w : World) : (zeroValue 48).run Tryz.prog w = .ok (.agg msgZ.toArray) w := by
  obtain ⟨i, h1, h2, h3⟩ := msg_all
  simp [zeroValue, typeInfo, h1, h3]
theorem MsgT.Is.one {w : World} {S : Nat → Prop} {cs : List Value} {x : MsgT} (hx : MsgT.Is w S cs x) : cs.toArray.toList.all (·.oneCell') = true := by
  obtain ⟨v0, v1, v2, v3, v4, v5, v6, v7, v8, v9, rfl, -, -, -, -, -, -, -, -, -, -, -, -, -, -, -, -, -, -, -, -, -, -, -, -, -, -, -, -, -, -, -, -, l0, l1, l2, l3, l4, l5, l6, l7, l8, l9⟩ := hx
  have sh0 := l0.shape
  have sh1 := l1.shape
  have sh2 := l2.shape
  have sh3 := l3.shape
  have sh4 := l4.shape
  have sh5 := l5.shape
  have sh6 := l6.shape
  have sh7 := l7.shape
  have sh8 := l8.shape
  have sh9 := l9.shape
  obtain ⟨a0, c0, eh0, qh0⟩ := sh0
  clear qh0
  obtain ⟨a1, c1, eh1, qh1⟩ := sh1
  clear qh1
  obtain ⟨a2, c2, eh2, qh2⟩ := sh2
  clear qh2
  obtain ⟨a3, c3, eh3, qh3⟩ := sh3
  clear qh3
  obtain ⟨a4, c4, eh4, qh4⟩ := sh4
  clear qh4
  obtain ⟨a5, c5, eh5, qh5⟩ := sh5
  clear qh5
  obtain ⟨a6, c6, eh6, qh6⟩ := sh6
  clear qh6
  obtain ⟨a7, c7, eh7, qh7⟩ := sh7
  clear qh7
  obtain ⟨a8, c8, eh8, qh8⟩ := sh8
  clear qh8
  obtain ⟨a9, c9, eh9, qh9⟩ := sh9
  clear qh9
  subst eh0 eh1 eh2 eh3 eh4 eh5 eh6 eh7 eh8 eh9
  rfl
theorem MsgT.Is.size {w : World} {S : Nat → Prop} {cs : List Value} {x : MsgT} (hx : MsgT.Is w S cs x) : cs.length = 46 := by
  obtain ⟨_, _, _, _, _, _, _, _, _, _, h, _⟩ := hx
  rw [h]
  rfl
theorem run_loadVar_msg {w : World} {b : Nat} {cs : Array Value} (hh : w.heap[b]? = some (.cells cs 48)) (hn : cs.size = 46) : (loadVar 48 ⟨b, 0, none⟩).run Tryz.prog w = .ok (.agg cs) w := by
  obtain ⟨i, h1, h2, h3⟩ := msg_all
  have h := run_load_block (P := Tryz.prog) hh (Tryz.isAgg48 _) h1 (h2.trans hn.symm)
  simpa [Instr.loadAt, Instr.sureAddr] using h
theorem run_loadVar_one {P : Program} {w : World} {b : Nat} {t : TypeId} {v : Value} (ha : (isAgg t).run P w = .ok false w) (hh : w.cell? ⟨b, 0, none⟩ = some v) : (loadVar t ⟨b, 0, none⟩).run P w = .ok v w := by
  simp [loadVar, ha, load, Sem.run, hh]
/-- The deferred closure, in a frame that panics so. -/
theorem catchMsg_bad {w : World} (p q : Nat) {cur : Array Value} {n : Int} (hp : w.heap[p]? = some (.cells cur 48)) (hcs : cur.size = 46) (hq : w.heap[q]? = some (.cells #[.int .i64 n] 39)) :
    CallsD Tryz.prog 61 #[.pointer (some ⟨p, 0, none⟩), .pointer (some ⟨q, 0, none⟩)] (.panicking wrongP) w fun e u' w' =>
      e = .returned (.tuple #[]) ∧ u' = .panicking [{ v := .iface 135 (.agg #[]), recovered := true }] ∧ w'.heap[p]? = some (.cells msgZ.toArray 48) ∧ w'.heap[q]? = some (.cells #[.int .i64 74] 39) ∧ Kept (fun k => k = p ∨ k = q) w w' := by
  refine callsD_of_wpS Tryz.func61 rfl fun c₀ cs hu => ?_
  have hpq : p ≠ q := fun e => by
    subst e
    rw [hp] at hq
    have := congrArg (fun o => match o with | some (Obj.cells _ t _) => t | _ => 0) hq
    simp at this
  obtain ⟨im, h1, h2, h3⟩ := msg_all
  have lp := lt_in hp
  have lq := lt_in hq
  have HP := Lib.hid hp
  have HQ := Lib.hid hq
  have H2 := Lib.hid h2
  have HC := Lib.hid hcs
  have H3 := Lib.hid h3
  clear hp hq h2 hcs h3
  apply wpS_seq
  apply wpS_region
  simp [wpOpsS, go_sem, recoverD, hu, wrongP, Tryz.ntmps61, Exit.thenS]
  have hT : (#[Value.pointer (some ⟨p, 0, none⟩), Value.pointer (some ⟨q, 0, none⟩)] ++ ((Array.replicate 16 undef).setIfInBounds 4 (Value.iface 135 (Value.agg #[]))).setIfInBounds 0 (Value.iface 135 (Value.agg #[])) : Array Value) = #[Value.pointer (some ⟨p, 0, none⟩), Value.pointer (some ⟨q, 0, none⟩), (Value.iface 135 (Value.agg #[])), undef, undef, undef, (Value.iface 135 (Value.agg #[])), undef, undef, undef, undef, undef, undef, undef, undef, undef, undef, undef] := rfl
  rw [hT]
  have hta : ∀ w, (Instr.typeAssert (Value.iface 135 (Value.agg #[])) 20 135 true).run Tryz.prog w = .ok (.tuple #[.agg #[], .bool true]) w := fun _ => by kernel_rfl
  refine wpS_of_wp ?_
  have hA : ((w.alloc (Obj.cells #[] 135)).alloc (Obj.cells msgZ.toArray 48)).heap[w.heap.size + 1]? = some (Obj.cells msgZ.toArray 48) := (two_new w _ _).2.2
  have kA := (two_new w (Obj.cells #[] 135) (Obj.cells msgZ.toArray 48)).1
  have hB := (kA.block p lp (fun h => h)).trans HP.out
  have hQA := (kA.block q lq (fun h => h)).trans HQ.out
  have HQA := Lib.hid hQA
  have HQL := Lib.hid (lt_in hQA)
  clear hQA
  have HA := Lib.hid hA
  have HKA := Lib.hid kA
  have HB := Lib.hid hB
  clear hA kA hB
  go_wp2_with (first | (refine wpList_alloc_block rfl 48 rfl (msgZero _) (w.heap.size + 1) (by simp) ?_) | (refine wpList_load_block rfl 48 _ rfl rfl HA.out (Tryz.isAgg48 _) h1 (H2.out.trans msgZ_size.symm) ?_) | (refine wpList_store_block rfl 48 _ _ rfl rfl rfl HB.out h1 (H2.out.trans msgZ_size.symm) (HC.out.trans msgZ_size.symm) msgZ_one ?_; intro w1 k1 b1 s1; have y1 := (k1.block q HQL.out (fun h => hpq h.symm)).trans HQA.out; have zq : w1.cell? ⟨q, 0, none⟩ = some (.int .i64 n) := cell_in y1; have fq : w1.frozen? ⟨q, 0, none⟩ = false := frozen_in y1; have l1 := lt_in y1; have Y1 := Lib.hid y1; have B1 := Lib.hid b1; have K1 := Lib.hid k1; clear y1 b1 k1 s1))
  have h3 := heap_setCell_same (o := 0) Y1.out (.int .i64 74)
  have K2 : Kept (fun k => k = p ∨ k = q) w w1 := (HKA.out.mono (G := fun k => k = p ∨ k = q) (fun _ _ h => h.elim)).thn K1.out (fun i hi => .inl (.inl hi))
  have h4 : (w1.setCell ⟨q, 0, none⟩ (.int .i64 74)).heap[p]? = _ := ((Kept.setCell (F := (· = q)) _ ⟨q, 0, none⟩ (.int .i64 74) rfl).block p (lt_in B1.out) (fun h => hpq h)).trans B1.out
  have k4 : Kept (fun k => k = p ∨ k = q) w (w1.setCell ⟨q, 0, none⟩ (.int .i64 74)) := K2.st _ (.inl (.inr rfl))
  generalize w1.setCell ⟨q, 0, none⟩ (.int .i64 74) = w2 at h3 h4 k4 ⊢
  simp only [bodyPostS, results, Tryz.results61]
  simp
  exact ⟨h4, h3, k4⟩
/-- The deferred closure, in a frame that returns. -/
theorem catchMsg_ok {w : World} (p q : Nat) :
    CallsD Tryz.prog 61 #[.pointer (some ⟨p, 0, none⟩), .pointer (some ⟨q, 0, none⟩)] .returning w fun e u' w' => e = .returned (.tuple #[]) ∧ u' = .returning ∧ w = w' := by
  refine callsD_of_wpS Tryz.func61 rfl fun c₀ cs hu => ?_
  apply wpS_seq
  apply wpS_region
  simp [wpOpsS, go_sem, recoverD, hu, Tryz.ntmps61, Exit.thenS]
  have hT : (#[Value.pointer (some ⟨p, 0, none⟩), Value.pointer (some ⟨q, 0, none⟩)] ++ ((Array.replicate 16 undef).setIfInBounds 4 Value.nilIface).setIfInBounds 0 Value.nilIface : Array Value) = #[Value.pointer (some ⟨p, 0, none⟩), Value.pointer (some ⟨q, 0, none⟩), Value.nilIface, undef, undef, undef, Value.nilIface, undef, undef, undef, undef, undef, undef, undef, undef, undef, undef, undef] := rfl
  rw [hT]
  refine wpS_of_wp ?_
  go_wp2
  simp only [bodyPostS, results, Tryz.results61]
  simp [hu]
  rw [← hu]
theorem readMsg_c {w : World} {v : Value} {bs : List UInt8} {g : Option Nat} (hr : Reads w 1 v bs.length (bs.map bv) g) (hgl : ∀ k, g = some k → k < w.heap.size) (hm : bs.length ≤ 140737488351232) :
    Calls Tryz.prog 30 #[v, .func (.func 31) #[] #[]] w (Took MsgT.Is pMsg msgZ bs w) := by
  obtain ⟨a, cp, rfl, hc⟩ := hr.shape
  obtain ⟨im, h1, h2, -⟩ := msg_all
  have H2 := Lib.hid h2
  clear h2
  have hmf : ∀ (fn : Fn) (first cap : Array Value) (w : World), (Instr.makeFunc fn first cap).run Tryz.prog w = .ok (.func fn first cap) w := fun _ _ _ _ => rfl
  go_enter_defers Tryz.func30, Tryz.ntmps30
  go_wp2_with (first | (go_at_call 31; fail) | (refine wpList_alloc_block rfl 48 rfl (msgZero _) w.heap.size rfl ?_))
  obtain ⟨K0, x1, x2⟩ := two_new w (Obj.cells msgZ.toArray 48) (Obj.cells #[Value.int IntKind.i64 0] 39)
  have hs0 : ((w.alloc (Obj.cells msgZ.toArray 48)).alloc (Obj.cells #[Value.int IntKind.i64 0] 39)).heap.size = w.heap.size + 1 + 1 := by simp
  generalize (w.alloc (Obj.cells msgZ.toArray 48)).alloc (Obj.cells #[Value.int IntKind.i64 0] 39) = wz at K0 x1 x2 hs0 ⊢
  have x3 : (wz.alloc (Obj.cells #[Value.slice none 0 0, Value.slice a bs.length cp, Value.bool true] 138)).heap[wz.heap.size]? = some (Obj.cells #[Value.slice none 0 0, Value.slice a bs.length cp, Value.bool true] 138) := heap_alloc_new' _ _
  rw [hs0] at x3
  have y1 : (wz.alloc (Obj.cells #[Value.slice none 0 0, Value.slice a bs.length cp, Value.bool true] 138)).heap[w.heap.size]? = _ := (Below.heap_alloc _ _ _ (lt_in x1)).trans x1
  have y2 : (wz.alloc (Obj.cells #[Value.slice none 0 0, Value.slice a bs.length cp, Value.bool true] 138)).heap[w.heap.size + 1]? = _ := (Below.heap_alloc _ _ _ (lt_in x2)).trans x2
  have K1 := K0.al (Obj.cells #[Value.slice none 0 0, Value.slice a bs.length cp, Value.bool true] 138)
  generalize wz.alloc (Obj.cells #[Value.slice none 0 0, Value.slice a bs.length cp, Value.bool true] 138) = w0 at x3 y1 y2 K1 ⊢
  clear x1 x2 hs0
  have r0 := hr.kept K1 (fun _ _ h => h)
  have sK := K1.size
  have RD : Rd w0 (w.heap.size + 1 + 1) bs g := ⟨⟨_, x3, r0⟩, fun k hk => by have := hgl k hk; omega, hm⟩
  have BK : Blk w0 w.heap.size msgZ.toArray 48 (w.heap.size + 1 + 1) g := ⟨y1, by omega, fun e => by have := hgl _ e; omega⟩
  refine (msgG_c RD (fun k hk => by have := hgl k hk; omega) BK (o := 0) (by intro f hf; rw [Nat.zero_add, List.getElem?_toArray]; rfl)).mono ?_
  rintro e w1 ⟨k1, ⟨hp, rfl, hwas⟩ | ⟨x, r1, cur1, cs, hp, rfl, H1, B1, P1, hx⟩⟩
  · obtain ⟨cur1, z1, hcs⟩ := hwas
    have z2 : w1.heap[w.heap.size + 1]? = _ := (k1.block _ (lt_in y2) (fun h => by omega)).trans y2
    have K2 := K1.thn k1 (fun i hi => .inr (by omega))
    clear x3 y1 y2 r0 RD BK
    refine leaves_cons (f := 61) (args := #[.pointer (some ⟨w.heap.size, 0, none⟩), .pointer (some ⟨w.heap.size + 1, 0, none⟩)]) (by simp) (by simp [go_sem]) ?_
    refine (catchMsg_bad w.heap.size (w.heap.size + 1) z1 hcs z2).mono ?_
    rintro e u' w2 ⟨rfl, rfl, q1, q2, k2⟩
    have lM := run_loadVar_msg q1 msgZ_size
    have lE := run_loadVar_one (P := Tryz.prog) (Tryz.isAgg39 w2) (b := w.heap.size + 1) (v := .int .i64 74) (cell_in q2)
    have K3 : Kept (fun _ => False) w w2 := K2.thn k2 (fun i hi => .inr (by omega))
    clear q1 q2
    simp [Leaves, settle, results, Tryz.results30, lM, lE, asAddr]
    exact ⟨K3, .inr ⟨fun x h => (by rw [hp] at h; cases h), rfl⟩⟩
  have hx0 := hx
  have hsz := hx.size
  obtain rfl : cur1 = cs.toArray := P1.full (by rw [hsz]; rfl)
  obtain ⟨vi, h4, h3⟩ := H1.ex
  obtain ⟨ai, ci, rfl, -⟩ := h3.shape
  have z2 : w1.heap[w.heap.size + 1]? = _ := (k1.block _ (lt_in y2) (fun h => by omega)).trans y2
  have K2 := K1.thn k1 (fun i hi => .inr (by omega))
  have s1 := k1.size
  have d1 : w1.cell? ⟨w.heap.size + 1 + 1, 1, none⟩ = some (.slice ai r1.length ci) := cell_in h4
  have l1 := lt_in h4
  have z1 := B1.heap
  have xn : MsgT.Is w1 (New w w1) _ x := MsgT.stable _ _ _ _ _ _ hx0 (fun k hk => ⟨by have := hk.1; omega, hk.2⟩) (fun _ _ => rfl)
  have HX := Lib.hid xn
  have HP := Lib.hid hp
  have hsa : cs.toArray.size = 46 := by rw [List.size_toArray]; exact hsz
  have HSA := Lib.hid hsa
  have HSZ := Lib.hid hsz
  have HONE := Lib.hid hx.one
  clear x3 y1 y2 r0 RD BK hx0 xn h4 h3 H1 hp P1 hx hsz hsa
  by_cases hr1 : r1 = []
  · subst hr1
    have cE : w1.cell? ⟨w.heap.size + 1, 0, none⟩ = some (.int .i64 0) := cell_in z2
    have gE : w1.frozen? ⟨w.heap.size + 1, 0, none⟩ = false := frozen_in z2
    have eE := setCell_same' cE
    have lz1 := lt_in z1
    have lz2 := lt_in z2
    simp only [List.length_nil] at d1
    have HZ1 := Lib.hid z1
    have HZ2 := Lib.hid z2
    clear z1 z2 B1
    go_wp2_with (first | (refine wpList_load_block rfl 48 _ rfl rfl HZ1.out (Tryz.isAgg48 _) h1 (H2.out.trans HSA.out.symm) ?_) | (refine wpList_store_same rfl 48 _ _ rfl rfl rfl HZ1.out h1 (H2.out.trans HSA.out.symm) HONE.out ?_))
    refine leaves_cons (f := 61) (args := #[.pointer (some ⟨w.heap.size, 0, none⟩), .pointer (some ⟨w.heap.size + 1, 0, none⟩)]) (by simp) (by simp [go_sem]) ?_
    refine (catchMsg_ok w.heap.size (w.heap.size + 1)).mono ?_
    rintro e u' w2 ⟨rfl, rfl, rfl⟩
    have lM := run_loadVar_msg HZ1.out HSA.out
    have lE := run_loadVar_one (P := Tryz.prog) (Tryz.isAgg39 w1) (b := w.heap.size + 1) (v := .int .i64 0) (cell_in HZ2.out)
    simp [Leaves, settle, results, Tryz.results30, lM, lE, asAddr]
    exact ⟨K2, .inl ⟨x, _, HP.out, rfl, HX.out⟩⟩
  · have hpos : (0 : Int) < (r1.length : Int) := by
      have := List.length_pos_iff.2 hr1
      omega
    have HZ1 := Lib.hid z1
    have HZ2 := Lib.hid z2
    clear z1 z2 B1
    go_wp2
    refine leaves_cons (f := 61) (args := #[.pointer (some ⟨w.heap.size, 0, none⟩), .pointer (some ⟨w.heap.size + 1, 0, none⟩)]) (by simp) (by simp [go_sem]) ?_
    refine (catchMsg_bad w.heap.size (w.heap.size + 1) HZ1.out HSA.out HZ2.out).mono ?_
    rintro e u' w2 ⟨rfl, rfl, q1, q2, k2⟩
    have lM := run_loadVar_msg q1 msgZ_size
    have lE := run_loadVar_one (P := Tryz.prog) (Tryz.isAgg39 w2) (b := w.heap.size + 1) (v := .int .i64 74) (cell_in q2)
    have K3 : Kept (fun _ => False) w w2 := K2.thn k2 (fun i hi => .inr (by omega))
    clear q1 q2
    simp [Leaves, settle, results, Tryz.results30, lM, lE, asAddr]
    exact ⟨K3, .inr ⟨fun x h => hr1 (by rw [HP.out] at h; simp at h; exact h.2), rfl⟩⟩
theorem decMsg_c {w : World} {v : Value} {bs : List UInt8} {g : Option Nat} (hr : Reads w 1 v bs.length (bs.map bv) g) (hgl : ∀ k, g = some k → k < w.heap.size) (hm : bs.length ≤ 140737488351232) :
    Calls Tryz.prog 4 #[v] w (Took MsgT.Is pMsg msgZ bs w) := by
  have ka := Kept.alloc (fun _ => False) w (Obj.cells msgZ.toArray 48)
  have hq : (w.alloc (Obj.cells msgZ.toArray 48)).heap[w.heap.size]? = some (Obj.cells msgZ.toArray 48) := heap_alloc_new' _ _
  have sz : (w.alloc (Obj.cells msgZ.toArray 48)).heap.size = w.heap.size + 1 := by simp
  obtain ⟨a, cp, rfl, hc⟩ := hr.shape
  obtain ⟨im, h1, h2, -⟩ := msg_all
  have H2 := Lib.hid h2
  clear h2
  have HQ := Lib.hid hq
  clear hq
  go_enter Tryz.func4, Tryz.ntmps4
  go_wp2_with (refine wpList_alloc_block rfl 48 rfl (msgZero _) w.heap.size rfl ?_)
  have hq := HQ.out
  clear HQ
  generalize w.alloc (Obj.cells msgZ.toArray 48) = w0 at ka hq sz ⊢
  refine (readMsg_c (hr.kept ka (fun _ _ h => h)) (fun k hk => by have := hgl k hk; omega) hm).mono ?_
  rintro e w1 ⟨k1, ⟨x, cs, hp, rfl, hx⟩ | ⟨hp, rfl⟩⟩
  · have z1 := (k1.block _ (lt_in hq) (fun h => h)).trans hq
    have hsa : cs.toArray.size = 46 := by rw [List.size_toArray]; exact hx.size
    have HSA := Lib.hid hsa
    have HONE := Lib.hid hx.one
    have HX := Lib.hid hx
    have HP := Lib.hid hp
    have HZ := Lib.hid z1
    have lz := lt_in z1
    clear hx hp hsa z1 hq
    go_wp2_with (refine wpList_store_block rfl 48 _ _ rfl rfl rfl HZ.out h1 (H2.out.trans HSA.out.symm) (msgZ_size.trans HSA.out.symm) HONE.out ?_; intro w2 k2 b2 s2; have HB2 := Lib.hid b2; clear b2)
    have K3 : Kept (fun _ => False) w w2 := (ka.trans k1).thn k2 (fun i hi => .inr (by omega))
    have lM := run_loadVar_msg HB2.out HSA.out
    refine bodyPost_ret (v := .tuple #[.agg cs.toArray, .int .i64 0]) (by simp [results, Tryz.results4, lM, asAddr]) rfl ?_
    exact ⟨K3, .inl ⟨x, _, HP.out, rfl, MsgT.stable _ _ _ _ _ _ HX.out (fun k hk => ⟨by have := hk.1; omega, by have := hk.2; omega⟩) (fun k hk => k2.block k hk.2 (fun e => by have := hk.1; omega))⟩⟩
  · have z1 := (k1.block _ (lt_in hq) (fun h => h)).trans hq
    have HP := Lib.hid hp
    have HZ := Lib.hid z1
    have lz := lt_in z1
    clear hp z1 hq
    go_wp2_with (refine wpList_store_same rfl 48 _ _ rfl rfl rfl HZ.out h1 (H2.out.trans msgZ_size.symm) msgZ_one ?_)
    have lM := run_loadVar_msg HZ.out msgZ_size
    refine bodyPost_ret (v := .tuple #[.agg msgZ.toArray, .int .i64 74]) (by simp [results, Tryz.results4, lM, asAddr]) rfl ?_
    exact ⟨ka.trans k1, .inr ⟨HP.out, rfl⟩⟩
end Go.Proofs.YtmbjealliinpdaaGreat
end

section

namespace Go.Proofs.YtmbjealliinpdaaGreat
open Go.RowKit
section
variable {P : Program} {ops : Array Oper} {S : World → Prop}
/-- A read that may be left out. -/
theorem wpMx_held_may {Q : Exit → Act → World → Prop} {a : Act} {w : World} {o : Oper} {rest : List (Bool × Oper)} (b : Bool) (X : Value) (hb : Region.wanted o (yielded ops a.tmps) = b)
    (hX : b = true → ∀ w, S w → (execOp a.eval o).run P w = .ok (.value X) w) (h : ∀ v, (b = true → v = X) → wpMx P ops S Q rest (a.put o.dst v) w) : wpMx P ops S Q ((true, o) :: rest) a w := by
  unfold wpMx
  rw [hb]
  cases b with
  | true => exact ⟨X, hX rfl, h X (fun _ => rfl)⟩
  | false => exact h undef (fun h => by cases h)
/-- An operation that may be left out. -/
theorem wpMx_step_may {Q : Exit → Act → World → Prop} {a : Act} {w : World} {o : Oper} {rest : List (Bool × Oper)} (b : Bool) (G : Value → World → Prop) (hb : Region.wanted o (yielded ops a.tmps) = b) (hS : S w)
    (hw : b = true → ∀ K : Act → World → Prop, (∀ v w', S w' → G v w' → K (a.put o.dst v) w') → o.wp P a w K Q) (h : ∀ v w', S w' → (b = true → G v w') → wpMx P ops S Q rest (a.put o.dst v) w') : wpMx P ops S Q ((false, o) :: rest) a w := by
  unfold wpMx
  rw [hb]
  cases b with
  | true => exact hw rfl _ (fun v w' h1 h2 => ⟨h1, h v w' h1 (fun _ => h2)⟩)
  | false => exact ⟨hS, h undef w hS (fun h => by cases h)⟩
/-- A block that is read whole, or left out. -/
theorem wpMx_load {Q : Exit → Act → World → Prop} {a : Act} {w : World} {o : Oper} {rest : List (Bool × Oper)} (b : Bool) (t : TypeId) (x : Operand) (ho : o.op = .load t x) {p : Nat} (hx : a.eval x = .pointer (some ⟨p, 0, none⟩)) (hb : Region.wanted o (yielded ops a.tmps) = b)
    {cs : Array Value} {e : TypeId} {i : TypeInfo} (hh : ∀ w, S w → w.heap[p]? = some (.cells cs e)) (ha : ∀ w, (isAgg t).run P w = .ok true w) (hi : P.info? t = some i) (hn : i.size = cs.size) (h : ∀ v, (b = true → v = .agg cs) → wpMx P ops S Q rest (a.put o.dst v) w) : wpMx P ops S Q ((true, o) :: rest) a w := by
  refine wpMx_held_may b (.agg cs) hb (fun _ w' hw' => ?_) h
  have hr := run_load_block (P := P) (hh w' hw') (ha w') hi hn
  unfold execOp
  simp only [ho, hx, Sem.run_bind, Sem.run_pure, Result.andThen_ok, hr]
end
/-- What comes of reading all the bytes. -/
def Res {α : Type} (p : Pr α) (zx : α) (bs : List UInt8) (x : α) (n : Int) : Prop := (p bs = some (x, []) ∧ n = 0) ∨ ((∀ y, p bs ≠ some (y, [])) ∧ x = zx ∧ n = 74)
theorem Res.uniq {α : Type} {p : Pr α} {zx : α} {bs : List UInt8} {x y : α} {n m : Int} (h : Res p zx bs x n) (k : Res p zx bs y m) : x = y ∧ n = m := by
  rcases h with ⟨h1, rfl⟩ | ⟨h1, rfl, rfl⟩ <;> rcases k with ⟨k1, rfl⟩ | ⟨k1, rfl, rfl⟩
  · rw [h1] at k1
    cases k1
    exact ⟨rfl, rfl⟩
  · exact absurd h1 (k1 x)
  · exact absurd k1 (h1 y)
  · exact ⟨rfl, rfl⟩
theorem Res.enc {α : Type} {p : Pr α} {zx : α} {bs : List UInt8} {x : α} {n : Int} {e : α → List UInt8} {ok : α → Prop} (h : Res p zx bs x n) (hl : Law p e ok) (hz : (e zx).length ≤ 1000) (hb : bs.length ≤ 140737488351232) : (e x).length ≤ 140737488352000 ∧ ∃ b : Bool, decide (n = 0) = b ∧ (b = true → e x = bs) := by
  rcases h with ⟨h1, rfl⟩ | ⟨h1, rfl, rfl⟩
  · obtain ⟨h2, -⟩ := hl.dec _ _ _ h1
    rw [List.append_nil] at h2
    exact ⟨by rw [← h2]; omega, true, rfl, fun _ => h2.symm⟩
  · exact ⟨by omega, false, rfl, fun h => by cases h⟩
theorem Took.u {α : Type} {R : World → (Nat → Prop) → List Value → α → Prop} {p : Pr α} {zs : List Value} {bs : List UInt8} {w w' : World} {e : Ending} {zx : α} (h : Took R p zs bs w e w') (hz : ∀ w S, R w S zs zx) :
    Kept (fun _ => False) w w' ∧ ∃ x cs, ∃ n : Int, e = .returned (.tuple #[.agg cs.toArray, .int .i64 n]) ∧ R w' (New w w') cs x ∧ Res p zx bs x n := by
  obtain ⟨k, ⟨x, cs, h1, rfl, h2⟩ | ⟨h1, rfl⟩⟩ := h
  · exact ⟨k, x, cs, 0, rfl, h2, .inl ⟨h1, rfl⟩⟩
  · exact ⟨k, zx, zs, 74, rfl, hz _ _, .inr ⟨h1, rfl, rfl⟩⟩
theorem TookL.u {bs : List UInt8} {w w' : World} {e : Ending} (h : TookL bs w e w') :
    Kept (fun _ => False) w w' ∧ ∃ (ss : List ByteArray) (v : Value) (n : Int) (g : Option Nat), e = .returned (.tuple #[v, .int .i64 n]) ∧ Reads w' 1 v ss.length (ss.map Value.string) g ∧ ss.length ≤ 9223372036854775807 ∧ Res (pL pT) [] bs ss n := by
  obtain ⟨k, ⟨x, v, h1, rfl, h2⟩ | ⟨h1, rfl⟩⟩ := h
  · have hs := h2.small
    obtain ⟨g, hr, -⟩ := h2.readsT
    exact ⟨k, x, v, 0, g, rfl, hr, hs, .inl ⟨h1, rfl⟩⟩
  · exact ⟨k, [], _, 74, none, rfl, ⟨rfl, .inl ⟨_, _, rfl, rfl⟩⟩, Nat.zero_le _, .inr ⟨h1, rfl, rfl⟩⟩
theorem ListIs.none {α : Type} {size : Nat} {R : World → (Nat → Prop) → List Value → α → Prop} {w : World} {S : Nat → Prop} : ListIs size R w S (.slice none 0 0) ([] : List α) := ⟨_, _, rfl, Nat.le_refl _, Nat.zero_le _, fun k x h => by simp at h⟩
theorem in64_0 : in64 0 := by unfold in64; omega
def zxMap : MapT := ⟨0, [], [], [], 0⟩
theorem zisMap (w : World) (S : Nat → Prop) : MapT.Is w S [Value.int IntKind.i64 0, Value.slice none 0 0, Value.slice none 0 0, Value.slice none 0 0, Value.int IntKind.i64 0] zxMap := ⟨_, _, _, rfl, in64_0, in64_0, ListIs.none, ListIs.none, ListIs.none⟩
theorem szMap {w : World} {S : Nat → Prop} {cs : List Value} {x : MapT} (hx : MapT.Is w S cs x) : cs.toArray.size = 5 ∧ cs.toArray.toList.all (·.oneCell') = true := by
  obtain ⟨v0, v1, v2, rfl, -, -, l0, l1, l2⟩ := hx
  obtain ⟨a0, c0, e0, -⟩ := l0.shape
  clear l0
  obtain ⟨a1, c1, e1, -⟩ := l1.shape
  clear l1
  obtain ⟨a2, c2, e2, -⟩ := l2.shape
  clear l2
  subst e0 e1 e2
  exact ⟨rfl, rfl⟩
def zxInc : IncT := ⟨0, []⟩
theorem zisInc (w : World) (S : Nat → Prop) : IncT.Is w S [Value.int IntKind.i64 0, Value.slice none 0 0] zxInc := ⟨_, rfl, in64_0, ListIs.none⟩
theorem szInc {w : World} {S : Nat → Prop} {cs : List Value} {x : IncT} (hx : IncT.Is w S cs x) : cs.toArray.size = 2 ∧ cs.toArray.toList.all (·.oneCell') = true := by
  obtain ⟨v0, rfl, -, l0⟩ := hx
  obtain ⟨a0, c0, e0, -⟩ := l0.shape
  clear l0
  subst e0
  exact ⟨rfl, rfl⟩
def zxState : StateT := ⟨0, ⟨0, 0⟩, [], [], []⟩
theorem zisState (w : World) (S : Nat → Prop) : StateT.Is w S [Value.int IntKind.i64 0, Value.int IntKind.i64 0, Value.int IntKind.i64 0, Value.slice none 0 0, Value.slice none 0 0, Value.slice none 0 0] zxState := ⟨_, _, _, rfl, in64_0, in64_0, in64_0, ListIs.none, ListIs.none, ListIs.none⟩
theorem szState {w : World} {S : Nat → Prop} {cs : List Value} {x : StateT} (hx : StateT.Is w S cs x) : cs.toArray.size = 6 ∧ cs.toArray.toList.all (·.oneCell') = true := by
  obtain ⟨v0, v1, v2, rfl, -, -, -, l0, l1, l2⟩ := hx
  obtain ⟨a0, c0, e0, -⟩ := l0.shape
  clear l0
  obtain ⟨a1, c1, e1, -⟩ := l1.shape
  clear l1
  obtain ⟨a2, c2, e2, -⟩ := l2.shape
  clear l2
  subst e0 e1 e2
  exact ⟨rfl, rfl⟩
def zxTx : TxT := ⟨[]⟩
theorem zisTx (w : World) (S : Nat → Prop) : TxT.Is w S [Value.slice none 0 0] zxTx := ⟨_, rfl, ListIs.none⟩
theorem szTx {w : World} {S : Nat → Prop} {cs : List Value} {x : TxT} (hx : TxT.Is w S cs x) : cs.toArray.size = 1 ∧ cs.toArray.toList.all (·.oneCell') = true := by
  obtain ⟨v0, rfl, l0⟩ := hx
  obtain ⟨a0, c0, e0, -⟩ := l0.shape
  clear l0
  subst e0
  exact ⟨rfl, rfl⟩
def zxMsg : MsgT := ⟨0, ⟨0, 0⟩, ⟨0, 0⟩, 0, 0, ⟨0, 0⟩, 0, 0, 0, [], [], [], ⟨0, ⟨0, 0⟩, ⟨0, 0⟩, 0⟩, ⟨0, ⟨0, 0⟩, [], [], []⟩, ⟨⟨0, 0⟩, false, 0, ⟨#[]⟩, 0, 0⟩, ⟨⟨#[]⟩, ⟨0, 0⟩, []⟩, ⟨0, ⟨#[]⟩, [], ⟨0, 0⟩⟩, [], [], 0⟩
theorem zisMsg (w : World) (S : Nat → Prop) : MsgT.Is w S [Value.int IntKind.i64 0, Value.int IntKind.i64 0, Value.int IntKind.i64 0, Value.int IntKind.i64 0, Value.int IntKind.i64 0, Value.int IntKind.i64 0, Value.int IntKind.i64 0, Value.int IntKind.i64 0, Value.int IntKind.i64 0, Value.int IntKind.i64 0, Value.int IntKind.i64 0, Value.int IntKind.i64 0, Value.slice none 0 0, Value.slice none 0 0, Value.slice none 0 0, Value.int IntKind.i64 0, Value.int IntKind.i64 0, Value.int IntKind.i64 0, Value.int IntKind.i64 0, Value.int IntKind.i64 0, Value.int IntKind.i64 0, Value.int IntKind.i64 0, Value.int IntKind.i64 0, Value.int IntKind.i64 0, Value.slice none 0 0, Value.slice none 0 0, Value.slice none 0 0, Value.int IntKind.i64 0, Value.int IntKind.i64 0, Value.bool false, Value.int IntKind.i64 0, Value.string ⟨#[]⟩, Value.int IntKind.i64 0, Value.int IntKind.i64 0, Value.string ⟨#[]⟩, Value.int IntKind.i64 0, Value.int IntKind.i64 0, Value.slice none 0 0, Value.int IntKind.i64 0, Value.string ⟨#[]⟩, Value.slice none 0 0, Value.int IntKind.i64 0, Value.int IntKind.i64 0, Value.slice none 0 0, Value.slice none 0 0, Value.int IntKind.i64 0] zxMsg := ⟨_, _, _, _, _, _, _, _, _, _, rfl, in64_0, in64_0, in64_0, in64_0, in64_0, in64_0, in64_0, in64_0, in64_0, in64_0, in64_0, in64_0, in64_0, in64_0, in64_0, in64_0, in64_0, in64_0, in64_0, in64_0, in64_0, in64_0, in64_0, in64_0, in64_0, in64_0, in64_0, in64_0, in64_0, in64_0, in64_0, in64_0, ListIs.none, ListIs.none, ListIs.none, ListIs.none, ListIs.none, ListIs.none, ListIs.none, ListIs.none, ListIs.none, ListIs.none⟩
theorem szMsg {w : World} {S : Nat → Prop} {cs : List Value} {x : MsgT} (hx : MsgT.Is w S cs x) : cs.toArray.size = 46 ∧ cs.toArray.toList.all (·.oneCell') = true := by
  obtain ⟨v0, v1, v2, v3, v4, v5, v6, v7, v8, v9, rfl, -, -, -, -, -, -, -, -, -, -, -, -, -, -, -, -, -, -, -, -, -, -, -, -, -, -, -, -, -, -, -, -, l0, l1, l2, l3, l4, l5, l6, l7, l8, l9⟩ := hx
  obtain ⟨a0, c0, e0, -⟩ := l0.shape
  clear l0
  obtain ⟨a1, c1, e1, -⟩ := l1.shape
  clear l1
  obtain ⟨a2, c2, e2, -⟩ := l2.shape
  clear l2
  obtain ⟨a3, c3, e3, -⟩ := l3.shape
  clear l3
  obtain ⟨a4, c4, e4, -⟩ := l4.shape
  clear l4
  obtain ⟨a5, c5, e5, -⟩ := l5.shape
  clear l5
  obtain ⟨a6, c6, e6, -⟩ := l6.shape
  clear l6
  obtain ⟨a7, c7, e7, -⟩ := l7.shape
  clear l7
  obtain ⟨a8, c8, e8, -⟩ := l8.shape
  clear l8
  obtain ⟨a9, c9, e9, -⟩ := l9.shape
  clear l9
  subst e0 e1 e2 e3 e4 e5 e6 e7 e8 e9
  exact ⟨rfl, rfl⟩
end Go.Proofs.YtmbjealliinpdaaGreat
end

section

namespace Go.Proofs.YtmbjealliinpdaaGreat
open Go.RowKit Go.ChangeShapes Go.WideShapes Go.ChangeAt
theorem reads_core {w : World} {v : Value} {bs : List UInt8} {g : Option Nat} (hr : Reads w 1 v bs.length (bs.map bv) g) (hgl : ∀ k, g = some k → k < w.heap.size) (hm : bs.length ≤ 140737488351232) :
    Calls Tryz.prog 3 #[v] w fun e w' => e = .returned (.bool true) ∧ Kept (fun _ => False) w w' := by
  obtain ⟨ab, cb, rfl, hcb⟩ := hr.shape
  have HR := Lib.hid hr
  clear hr
  obtain ⟨iMsg, hiMsg, hsMsg, -⟩ := info_sz ziMsg
  have HSMsg : Hid (iMsg.size = 46) := Lib.hid hsMsg
  clear hsMsg
  obtain ⟨iInc, hiInc, hsInc, -⟩ := info_sz ziInc
  have HSInc : Hid (iInc.size = 2) := Lib.hid hsInc
  clear hsInc
  obtain ⟨iMap, hiMap, hsMap, -⟩ := info_sz ziMap
  have HSMap : Hid (iMap.size = 5) := Lib.hid hsMap
  clear hsMap
  obtain ⟨iState, hiState, hsState, -⟩ := info_sz ziState
  have HSState : Hid (iState.size = 6) := Lib.hid hsState
  clear hsState
  obtain ⟨iTx, hiTx, hsTx, -⟩ := info_sz ziTx
  have HSTx : Hid (iTx.size = 1) := Lib.hid hsTx
  clear hsTx
  go_enter Tryz.func3, Tryz.ntmps3
  go_wp2_with fail
  have KU := Kept.refl (fun _ => False) w
  -- Msg
  have sU := KU.size
  refine (decMsg_c (HR.out.kept KU (fun _ _ h => h)) (fun k hk => by have := hgl k hk; omega) hm).mono ?_
  rintro e w01 T1
  obtain ⟨k1, x, ca, n, rfl, XA, R1⟩ := T1.u zisMsg
  obtain ⟨qa1, qa2⟩ := szMsg XA
  have HAs := Lib.hid qa1
  have HAo := Lib.hid qa2
  have HXA := Lib.hid XA
  have s1 := k1.size
  have ka := Kept.alloc (fun _ => False) w01 (Obj.cells zMsg 48)
  have HZ := Lib.hid (heap_alloc_new' w01 (Obj.cells zMsg 48))
  have sa : (w01.alloc (Obj.cells zMsg 48)).heap.size = w01.heap.size + 1 := by simp
  clear XA qa1 qa2 T1
  go_wp2_with (first | (refine wpList_alloc_block rfl 48 rfl (zero_run ziMsg _) w01.heap.size rfl ?_) | (refine wpList_store_block rfl 48 _ _ rfl rfl rfl HZ.out hiMsg (HSMsg.out.trans HAs.out.symm) HAs.out.symm HAo.out ?_; intro w02 k2 b2 s2; have HB2 := Lib.hid b2; clear b2))
  have K2 : Kept (fun _ => False) w w02 := ((KU.trans k1).trans ka).thn k2 (fun i hi => .inr (by omega))
  have KA2 : Kept (fun k => w01.heap.size ≤ k) w01 w02 := (ka.mono (fun _ _ h => h.elim)).trans (k2.mono (fun _ _ e => by omega))
  have sK2 := K2.size
  refine (decDMsg_c (HR.out.kept K2 (fun _ _ h => h)) (fun k hk => by have := hgl k hk; omega) hm).mono ?_
  rintro e w03 T3
  obtain ⟨k3, y, cd, m, rfl, XB, R3⟩ := T3.u zisMsg
  obtain ⟨rfl, rfl⟩ := R1.uniq R3
  obtain ⟨hle, b, hb, hbs⟩ := R1.enc lawMsg (by decide) hm
  have HLE := Lib.hid hle
  have HBS := Lib.hid hbs
  have HBB := Lib.hid hb
  obtain ⟨qb1, qb2⟩ := szMsg XB
  have HBs := Lib.hid qb1
  have HBo := Lib.hid qb2
  have HXB := Lib.hid XB
  have s3 := k3.size
  have ka3 := Kept.alloc (fun _ => False) w03 (Obj.cells zMsg 48)
  have HZ3 := Lib.hid (heap_alloc_new' w03 (Obj.cells zMsg 48))
  have sa3 : (w03.alloc (Obj.cells zMsg 48)).heap.size = w03.heap.size + 1 := by simp
  clear XB qb1 qb2 T3 R1 R3 hle hbs hb KU k1 ka
  go_wp2_with (first | (refine wpList_alloc_block rfl 48 rfl (zero_run ziMsg _) w03.heap.size rfl ?_) | (refine wpList_store_block rfl 48 _ _ rfl rfl rfl HZ3.out hiMsg (HSMsg.out.trans HBs.out.symm) HBs.out.symm HBo.out ?_; intro w04 k4 b4 s4; have HB4 := Lib.hid b4; clear b4))
  have KB4 : Kept (fun k => w03.heap.size ≤ k) w03 w04 := (ka3.mono (fun _ _ h => h.elim)).trans (k4.mono (fun _ _ e => by omega))
  have KA4 : Kept (fun k => w01.heap.size ≤ k) w01 w04 := (KA2.trans (k3.mono (fun _ _ h => h.elim))).trans (KB4.mono (fun _ _ e => by omega))
  have K4 : Kept (fun _ => False) w w04 := (K2.trans k3).thn KB4 (fun i hi => .inr (by omega))
  have sK4 := K4.size
  have HA4 : Hid (MsgT.Is w04 (fun k => k < w04.heap.size) ca x) := Lib.hid (MsgT.stable _ _ _ _ _ _ HXA.out (fun k hk => by have := hk.2; omega) (fun k hk => KA4.block k hk.2 (fun e => by have := hk.2; omega)))
  have HD4 : Hid (MsgT.Is w04 (fun k => k < w04.heap.size) cd x) := Lib.hid (MsgT.stable _ _ _ _ _ _ HXB.out (fun k hk => by have := hk.2; omega) (fun k hk => KB4.block k hk.2 (fun e => by have := hk.2; omega)))
  have BA : Hid (w04.heap[w01.heap.size]? = some (.cells ca.toArray 48)) := Lib.hid (by
    have l2 := lt_in HB2.out
    rw [KB4.block _ (by omega) (by omega), k3.block _ l2 (fun h => h)]
    exact HB2.out)
  clear HXA HXB HB2 KA2 KA4 KB4 HZ HZ3 k2 k3 k4 ka3 K2 s2 s4 sa sa3 HAo HBo
  refine wp_region_mx (fun w' => Kept (fun _ => False) w04 w') [(true, 0), (true, 2), (false, 1), (false, 3), (false, 4), (true, 5), (true, 7), (false, 6), (false, 8), (false, 9), (false, 10), (false, 11), (false, 12), (false, 13), (false, 14), (false, 15), (true, 16), (true, 18), (false, 17), (false, 19), (false, 20), (false, 21), (false, 22)] (by kernel_rfl) (by kernel_rfl) (fun _ _ d _ _ h => by cases d <;> exact h) (Kept.drew _ _) ?_
  simp only [selM, List.filterMap_cons, List.filterMap_nil, List.getElem?_cons_zero, List.getElem?_cons_succ, Option.map_some]
  have KD := Kept.drew (fun _ => False) w04
  generalize w04.drew = w05 at KD ⊢
  refine wpMx_held (fun K hK => ?_)
  go_simp
  refine ⟨_, fun _ _ => rfl, hK _ ?_⟩
  clear hK
  refine wpMx_held (fun K hK => ?_)
  go_simp
  refine ⟨_, fun _ _ => rfl, hK _ ?_⟩
  clear hK
  refine wpMx_step (fun K hK => ?_)
  go_simp
  go_wp2_with fail
  refine (num_c _).mono ?_
  rintro e _ ⟨rfl, rfl⟩
  rename World => w05
  refine hK _ _ KD ?_
  clear hK
  refine wpMx_step (fun K hK => ?_)
  go_simp
  refine hK _ _ KD ?_
  clear hK
  refine wpMx_step (fun K hK => ?_)
  go_simp
  refine hK _ _ KD ?_
  clear hK
  refine wpMx_load true 48 _ rfl rfl rfl (fun w' hw' => (hw'.block _ (lt_in BA.out) (fun h => h)).trans BA.out) (fun w' => Tryz.isAgg48 w') hiMsg (HSMsg.out.trans HAs.out.symm) ?_
  intro z5 hz5
  obtain rfl := hz5 rfl
  refine wpMx_load true 48 _ rfl rfl rfl (fun w' hw' => (hw'.block _ (lt_in HB4.out) (fun h => h)).trans HB4.out) (fun w' => Tryz.isAgg48 w') hiMsg (HSMsg.out.trans HBs.out.symm) ?_
  intro z7 hz7
  obtain rfl := hz7 rfl
  refine wpMx_step (fun K hK => ?_)
  go_simp
  go_wp2_with fail
  refine (encMsg_c (S := fun k => k < w04.heap.size) (fun k hk => by have := KD.size; omega) x (MsgT.stable _ _ _ _ _ _ HA4.out (fun _ h => h) (fun k hk => KD.block k hk (fun h => h))) HLE.out).mono ?_
  rintro e w06 ⟨⟨vA, rfl, gA, oA, hgA⟩, k6⟩
  refine hK _ _ (KD.trans k6) ?_
  clear hK
  replace KD := KD.trans k6
  obtain ⟨aA, cA, rfl, -⟩ := oA.shape
  refine wpMx_step (fun K hK => ?_)
  go_simp
  go_wp2_with fail
  refine (encRefMsg_c (S := fun k => k < w04.heap.size) (fun k hk => by have := KD.size; omega) x (MsgT.stable _ _ _ _ _ _ HD4.out (fun _ h => h) (fun k hk => KD.block k hk (fun h => h))) HLE.out).mono ?_
  rintro e w07 ⟨⟨vB, rfl, gB, oB, hgB⟩, k7⟩
  refine hK _ _ (KD.trans k7) ?_
  clear hK
  replace KD := KD.trans k7
  obtain ⟨aB, cB, rfl, -⟩ := oB.shape
  have HOA := Lib.hid (oA.kept k7 (fun _ _ h => h))
  have HOB := Lib.hid oB
  clear oA oB k6 k7 hgA hgB
  refine wpMx_step (fun K hK => ?_)
  go_simp
  go_wp2_with fail
  refine (same_c HOA.out.reads HOB.out.reads).mono ?_
  rintro e _ ⟨rfl, rfl⟩
  rename World => w07
  refine hK _ _ KD ?_
  clear hK
  clear HOA HOB
  refine wpMx_step (fun K hK => ?_)
  go_simp
  refine hK _ _ KD ?_
  clear hK
  refine wpMx_step (fun K hK => ?_)
  go_simp
  refine hK _ _ KD ?_
  clear hK
  refine wpMx_step (fun K hK => ?_)
  go_simp
  refine hK _ _ KD ?_
  clear hK
  refine wpMx_step (fun K hK => ?_)
  go_simp
  refine hK _ _ KD ?_
  clear hK
  refine wpMx_step (fun K hK => ?_)
  go_simp
  rw [show (n == 0) = b from HBB.out]
  refine hK _ _ KD ?_
  clear hK
  refine wpMx_step (fun K hK => ?_)
  go_simp
  refine hK _ _ KD ?_
  clear hK
  refine wpMx_load b 48 _ rfl rfl (by cases b <;> rfl) (fun w' hw' => (hw'.block _ (lt_in BA.out) (fun h => h)).trans BA.out) (fun w' => Tryz.isAgg48 w') hiMsg (HSMsg.out.trans HAs.out.symm) ?_
  intro z16 hz16
  go_simp
  refine wpMx_held_may b (.slice ab bs.length cb) (by cases b <;> rfl) (fun _ _ _ => rfl) ?_
  intro z18 hz18
  go_simp
  refine wpMx_step_may b (fun v w' => ∃ a c g, v = .slice a x.enc.length c ∧ Own w' 5 1 v x.enc.length (x.enc.map bv) g) (by cases b <;> rfl) KD (fun hb K hK => ?_) ?_
  · subst hb
    obtain rfl := hz16 rfl
    clear hz16 hz18
    go_simp
    go_wp2_with fail
    refine (encMsg_c (S := fun k => k < w04.heap.size) (fun k hk => by have := KD.size; omega) x (MsgT.stable _ _ _ _ _ _ HA4.out (fun _ h => h) (fun k hk => KD.block k hk (fun h => h))) HLE.out).mono ?_
    rintro e w08 ⟨⟨vC, rfl, gC, oC, hgC⟩, k8⟩
    obtain ⟨aC, cC, rfl, -⟩ := oC.shape
    exact hK _ _ (KD.trans k8) ⟨_, _, _, rfl, oC⟩
  intro z17 w08 KE hz17
  go_simp
  refine wpMx_step_may b (fun v w' => v = .bool true) (by cases b <;> rfl) KE (fun hb K hK => ?_) ?_
  · subst hb
    obtain rfl := hz18 rfl
    obtain ⟨aC, cC, gC, rfl, oC⟩ := hz17 rfl
    have rC := oC.reads
    rw [show x.enc.map bv = bs.map bv by rw [HBS.out rfl]] at rC
    have HRC := Lib.hid rC
    clear hz16 hz17 hz18 rC oC
    go_simp
    go_wp2_with fail
    refine (same_c HRC.out (HR.out.kept (K4.trans KE) (fun _ _ h => h))).mono ?_
    rintro e _ ⟨rfl, rfl⟩
    rename World => w08
    exact hK _ _ KE rfl
  intro z19 w09 KF hz19
  go_simp
  refine wpMx_step_may b (fun v w' => v = .bool false) (by cases b <;> rfl) KF (fun hb K hK => ?_) ?_
  · subst hb
    obtain rfl := hz19 rfl
    clear hz16 hz17 hz18 hz19
    go_simp
    exact hK _ _ KF rfl
  intro z20 w010 KG hz20
  go_simp
  clear hz16 hz17 hz18 hz19 KD KE KF
  refine wpMx_step_may true (fun v w' => v = .bool false) rfl KG (fun _ K hK => ?_) ?_
  · cases b with
    | true =>
      obtain rfl := hz20 rfl
      clear hz20
      go_simp
      exact hK _ _ KG rfl
    | false =>
      clear hz20
      go_simp
      exact hK _ _ KG rfl
  clear hz20
  intro z21 w011 KH hz21
  obtain rfl := hz21 rfl
  clear hz21 KG
  refine wpMx_step (fun K hK => ?_)
  go_simp
  refine hK _ _ KH ?_
  clear hK
  refine wpMx_nil ?_
  have KU : Kept (fun _ => False) w w011 := K4.trans KH
  clear KH K4 HBB HBS HLE HA4 HD4 BA HB4 HAs HBs sU s1 sK2 s3 sK4 hz5 hz7
  go_wp2_with fail
  -- Inc
  have sU := KU.size
  refine (decInc_c (HR.out.kept KU (fun _ _ h => h)) (fun k hk => by have := hgl k hk; omega) hm).mono ?_
  rintro e w11 T1
  obtain ⟨k1, x, ca, n, rfl, XA, R1⟩ := T1.u zisInc
  obtain ⟨qa1, qa2⟩ := szInc XA
  have HAs := Lib.hid qa1
  have HAo := Lib.hid qa2
  have HXA := Lib.hid XA
  have s1 := k1.size
  have ka := Kept.alloc (fun _ => False) w11 (Obj.cells zInc 57)
  have HZ := Lib.hid (heap_alloc_new' w11 (Obj.cells zInc 57))
  have sa : (w11.alloc (Obj.cells zInc 57)).heap.size = w11.heap.size + 1 := by simp
  clear XA qa1 qa2 T1
  go_wp2_with (first | (refine wpList_alloc_block rfl 57 rfl (zero_run ziInc _) w11.heap.size rfl ?_) | (refine wpList_store_block rfl 57 _ _ rfl rfl rfl HZ.out hiInc (HSInc.out.trans HAs.out.symm) HAs.out.symm HAo.out ?_; intro w12 k2 b2 s2; have HB2 := Lib.hid b2; clear b2))
  have K2 : Kept (fun _ => False) w w12 := ((KU.trans k1).trans ka).thn k2 (fun i hi => .inr (by omega))
  have KA2 : Kept (fun k => w11.heap.size ≤ k) w11 w12 := (ka.mono (fun _ _ h => h.elim)).trans (k2.mono (fun _ _ e => by omega))
  have sK2 := K2.size
  refine (decDInc_c (HR.out.kept K2 (fun _ _ h => h)) (fun k hk => by have := hgl k hk; omega) hm).mono ?_
  rintro e w13 T3
  obtain ⟨k3, y, cd, m, rfl, XB, R3⟩ := T3.u zisInc
  obtain ⟨rfl, rfl⟩ := R1.uniq R3
  obtain ⟨hle, b, hb, hbs⟩ := R1.enc lawInc (by decide) hm
  have HLE := Lib.hid hle
  have HBS := Lib.hid hbs
  have HBB := Lib.hid hb
  obtain ⟨qb1, qb2⟩ := szInc XB
  have HBs := Lib.hid qb1
  have HBo := Lib.hid qb2
  have HXB := Lib.hid XB
  have s3 := k3.size
  have ka3 := Kept.alloc (fun _ => False) w13 (Obj.cells zInc 57)
  have HZ3 := Lib.hid (heap_alloc_new' w13 (Obj.cells zInc 57))
  have sa3 : (w13.alloc (Obj.cells zInc 57)).heap.size = w13.heap.size + 1 := by simp
  clear XB qb1 qb2 T3 R1 R3 hle hbs hb KU k1 ka
  go_wp2_with (first | (refine wpList_alloc_block rfl 57 rfl (zero_run ziInc _) w13.heap.size rfl ?_) | (refine wpList_store_block rfl 57 _ _ rfl rfl rfl HZ3.out hiInc (HSInc.out.trans HBs.out.symm) HBs.out.symm HBo.out ?_; intro w14 k4 b4 s4; have HB4 := Lib.hid b4; clear b4))
  have KB4 : Kept (fun k => w13.heap.size ≤ k) w13 w14 := (ka3.mono (fun _ _ h => h.elim)).trans (k4.mono (fun _ _ e => by omega))
  have KA4 : Kept (fun k => w11.heap.size ≤ k) w11 w14 := (KA2.trans (k3.mono (fun _ _ h => h.elim))).trans (KB4.mono (fun _ _ e => by omega))
  have K4 : Kept (fun _ => False) w w14 := (K2.trans k3).thn KB4 (fun i hi => .inr (by omega))
  have sK4 := K4.size
  have HA4 : Hid (IncT.Is w14 (fun k => k < w14.heap.size) ca x) := Lib.hid (IncT.stable _ _ _ _ _ _ HXA.out (fun k hk => by have := hk.2; omega) (fun k hk => KA4.block k hk.2 (fun e => by have := hk.2; omega)))
  have HD4 : Hid (IncT.Is w14 (fun k => k < w14.heap.size) cd x) := Lib.hid (IncT.stable _ _ _ _ _ _ HXB.out (fun k hk => by have := hk.2; omega) (fun k hk => KB4.block k hk.2 (fun e => by have := hk.2; omega)))
  have BA : Hid (w14.heap[w11.heap.size]? = some (.cells ca.toArray 57)) := Lib.hid (by
    have l2 := lt_in HB2.out
    rw [KB4.block _ (by omega) (by omega), k3.block _ l2 (fun h => h)]
    exact HB2.out)
  clear HXA HXB HB2 KA2 KA4 KB4 HZ HZ3 k2 k3 k4 ka3 K2 s2 s4 sa sa3 HAo HBo
  refine wp_region_mx (fun w' => Kept (fun _ => False) w14 w') [(true, 0), (true, 2), (false, 1), (false, 3), (false, 4), (true, 5), (true, 7), (false, 6), (false, 8), (false, 9), (false, 10), (false, 11), (false, 12), (false, 13), (false, 14), (false, 15), (true, 16), (true, 18), (false, 17), (false, 19), (false, 20), (false, 21), (false, 22)] (by kernel_rfl) (by kernel_rfl) (fun _ _ d _ _ h => by cases d <;> exact h) (Kept.drew _ _) ?_
  simp only [selM, List.filterMap_cons, List.filterMap_nil, List.getElem?_cons_zero, List.getElem?_cons_succ, Option.map_some]
  have KD := Kept.drew (fun _ => False) w14
  generalize w14.drew = w15 at KD ⊢
  refine wpMx_held (fun K hK => ?_)
  go_simp
  refine ⟨_, fun _ _ => rfl, hK _ ?_⟩
  clear hK
  refine wpMx_held (fun K hK => ?_)
  go_simp
  refine ⟨_, fun _ _ => rfl, hK _ ?_⟩
  clear hK
  refine wpMx_step (fun K hK => ?_)
  go_simp
  go_wp2_with fail
  refine (num_c _).mono ?_
  rintro e _ ⟨rfl, rfl⟩
  rename World => w15
  refine hK _ _ KD ?_
  clear hK
  refine wpMx_step (fun K hK => ?_)
  go_simp
  refine hK _ _ KD ?_
  clear hK
  refine wpMx_step (fun K hK => ?_)
  go_simp
  refine hK _ _ KD ?_
  clear hK
  refine wpMx_load true 57 _ rfl rfl rfl (fun w' hw' => (hw'.block _ (lt_in BA.out) (fun h => h)).trans BA.out) (fun w' => Tryz.isAgg57 w') hiInc (HSInc.out.trans HAs.out.symm) ?_
  intro z5 hz5
  obtain rfl := hz5 rfl
  refine wpMx_load true 57 _ rfl rfl rfl (fun w' hw' => (hw'.block _ (lt_in HB4.out) (fun h => h)).trans HB4.out) (fun w' => Tryz.isAgg57 w') hiInc (HSInc.out.trans HBs.out.symm) ?_
  intro z7 hz7
  obtain rfl := hz7 rfl
  refine wpMx_step (fun K hK => ?_)
  go_simp
  go_wp2_with fail
  refine (encInc_c (S := fun k => k < w14.heap.size) (fun k hk => by have := KD.size; omega) x (IncT.stable _ _ _ _ _ _ HA4.out (fun _ h => h) (fun k hk => KD.block k hk (fun h => h))) HLE.out).mono ?_
  rintro e w16 ⟨⟨vA, rfl, gA, oA, hgA⟩, k6⟩
  refine hK _ _ (KD.trans k6) ?_
  clear hK
  replace KD := KD.trans k6
  obtain ⟨aA, cA, rfl, -⟩ := oA.shape
  refine wpMx_step (fun K hK => ?_)
  go_simp
  go_wp2_with fail
  refine (encRefInc_c (S := fun k => k < w14.heap.size) (fun k hk => by have := KD.size; omega) x (IncT.stable _ _ _ _ _ _ HD4.out (fun _ h => h) (fun k hk => KD.block k hk (fun h => h))) HLE.out).mono ?_
  rintro e w17 ⟨⟨vB, rfl, gB, oB, hgB⟩, k7⟩
  refine hK _ _ (KD.trans k7) ?_
  clear hK
  replace KD := KD.trans k7
  obtain ⟨aB, cB, rfl, -⟩ := oB.shape
  have HOA := Lib.hid (oA.kept k7 (fun _ _ h => h))
  have HOB := Lib.hid oB
  clear oA oB k6 k7 hgA hgB
  refine wpMx_step (fun K hK => ?_)
  go_simp
  go_wp2_with fail
  refine (same_c HOA.out.reads HOB.out.reads).mono ?_
  rintro e _ ⟨rfl, rfl⟩
  rename World => w17
  refine hK _ _ KD ?_
  clear hK
  clear HOA HOB
  refine wpMx_step (fun K hK => ?_)
  go_simp
  refine hK _ _ KD ?_
  clear hK
  refine wpMx_step (fun K hK => ?_)
  go_simp
  refine hK _ _ KD ?_
  clear hK
  refine wpMx_step (fun K hK => ?_)
  go_simp
  refine hK _ _ KD ?_
  clear hK
  refine wpMx_step (fun K hK => ?_)
  go_simp
  refine hK _ _ KD ?_
  clear hK
  refine wpMx_step (fun K hK => ?_)
  go_simp
  rw [show (n == 0) = b from HBB.out]
  refine hK _ _ KD ?_
  clear hK
  refine wpMx_step (fun K hK => ?_)
  go_simp
  refine hK _ _ KD ?_
  clear hK
  refine wpMx_load b 57 _ rfl rfl (by cases b <;> rfl) (fun w' hw' => (hw'.block _ (lt_in BA.out) (fun h => h)).trans BA.out) (fun w' => Tryz.isAgg57 w') hiInc (HSInc.out.trans HAs.out.symm) ?_
  intro z16 hz16
  go_simp
  refine wpMx_held_may b (.slice ab bs.length cb) (by cases b <;> rfl) (fun _ _ _ => rfl) ?_
  intro z18 hz18
  go_simp
  refine wpMx_step_may b (fun v w' => ∃ a c g, v = .slice a x.enc.length c ∧ Own w' 5 1 v x.enc.length (x.enc.map bv) g) (by cases b <;> rfl) KD (fun hb K hK => ?_) ?_
  · subst hb
    obtain rfl := hz16 rfl
    clear hz16 hz18
    go_simp
    go_wp2_with fail
    refine (encInc_c (S := fun k => k < w14.heap.size) (fun k hk => by have := KD.size; omega) x (IncT.stable _ _ _ _ _ _ HA4.out (fun _ h => h) (fun k hk => KD.block k hk (fun h => h))) HLE.out).mono ?_
    rintro e w18 ⟨⟨vC, rfl, gC, oC, hgC⟩, k8⟩
    obtain ⟨aC, cC, rfl, -⟩ := oC.shape
    exact hK _ _ (KD.trans k8) ⟨_, _, _, rfl, oC⟩
  intro z17 w18 KE hz17
  go_simp
  refine wpMx_step_may b (fun v w' => v = .bool true) (by cases b <;> rfl) KE (fun hb K hK => ?_) ?_
  · subst hb
    obtain rfl := hz18 rfl
    obtain ⟨aC, cC, gC, rfl, oC⟩ := hz17 rfl
    have rC := oC.reads
    rw [show x.enc.map bv = bs.map bv by rw [HBS.out rfl]] at rC
    have HRC := Lib.hid rC
    clear hz16 hz17 hz18 rC oC
    go_simp
    go_wp2_with fail
    refine (same_c HRC.out (HR.out.kept (K4.trans KE) (fun _ _ h => h))).mono ?_
    rintro e _ ⟨rfl, rfl⟩
    rename World => w18
    exact hK _ _ KE rfl
  intro z19 w19 KF hz19
  go_simp
  refine wpMx_step_may b (fun v w' => v = .bool false) (by cases b <;> rfl) KF (fun hb K hK => ?_) ?_
  · subst hb
    obtain rfl := hz19 rfl
    clear hz16 hz17 hz18 hz19
    go_simp
    exact hK _ _ KF rfl
  intro z20 w110 KG hz20
  go_simp
  clear hz16 hz17 hz18 hz19 KD KE KF
  refine wpMx_step_may true (fun v w' => v = .bool false) rfl KG (fun _ K hK => ?_) ?_
  · cases b with
    | true =>
      obtain rfl := hz20 rfl
      clear hz20
      go_simp
      exact hK _ _ KG rfl
    | false =>
      clear hz20
      go_simp
      exact hK _ _ KG rfl
  clear hz20
  intro z21 w111 KH hz21
  obtain rfl := hz21 rfl
  clear hz21 KG
  refine wpMx_step (fun K hK => ?_)
  go_simp
  refine hK _ _ KH ?_
  clear hK
  refine wpMx_nil ?_
  have KU : Kept (fun _ => False) w w111 := K4.trans KH
  clear KH K4 HBB HBS HLE HA4 HD4 BA HB4 HAs HBs sU s1 sK2 s3 sK4 hz5 hz7
  go_wp2_with fail
  -- Map
  have sU := KU.size
  refine (decMap_c (HR.out.kept KU (fun _ _ h => h)) (fun k hk => by have := hgl k hk; omega) hm).mono ?_
  rintro e w21 T1
  obtain ⟨k1, x, ca, n, rfl, XA, R1⟩ := T1.u zisMap
  obtain ⟨qa1, qa2⟩ := szMap XA
  have HAs := Lib.hid qa1
  have HAo := Lib.hid qa2
  have HXA := Lib.hid XA
  have s1 := k1.size
  have ka := Kept.alloc (fun _ => False) w21 (Obj.cells zMap 67)
  have HZ := Lib.hid (heap_alloc_new' w21 (Obj.cells zMap 67))
  have sa : (w21.alloc (Obj.cells zMap 67)).heap.size = w21.heap.size + 1 := by simp
  clear XA qa1 qa2 T1
  go_wp2_with (first | (refine wpList_alloc_block rfl 67 rfl (zero_run ziMap _) w21.heap.size rfl ?_) | (refine wpList_store_block rfl 67 _ _ rfl rfl rfl HZ.out hiMap (HSMap.out.trans HAs.out.symm) HAs.out.symm HAo.out ?_; intro w22 k2 b2 s2; have HB2 := Lib.hid b2; clear b2))
  have K2 : Kept (fun _ => False) w w22 := ((KU.trans k1).trans ka).thn k2 (fun i hi => .inr (by omega))
  have KA2 : Kept (fun k => w21.heap.size ≤ k) w21 w22 := (ka.mono (fun _ _ h => h.elim)).trans (k2.mono (fun _ _ e => by omega))
  have sK2 := K2.size
  refine (decDMap_c (HR.out.kept K2 (fun _ _ h => h)) (fun k hk => by have := hgl k hk; omega) hm).mono ?_
  rintro e w23 T3
  obtain ⟨k3, y, cd, m, rfl, XB, R3⟩ := T3.u zisMap
  obtain ⟨rfl, rfl⟩ := R1.uniq R3
  obtain ⟨hle, b, hb, hbs⟩ := R1.enc lawMap (by decide) hm
  have HLE := Lib.hid hle
  have HBS := Lib.hid hbs
  have HBB := Lib.hid hb
  obtain ⟨qb1, qb2⟩ := szMap XB
  have HBs := Lib.hid qb1
  have HBo := Lib.hid qb2
  have HXB := Lib.hid XB
  have s3 := k3.size
  have ka3 := Kept.alloc (fun _ => False) w23 (Obj.cells zMap 67)
  have HZ3 := Lib.hid (heap_alloc_new' w23 (Obj.cells zMap 67))
  have sa3 : (w23.alloc (Obj.cells zMap 67)).heap.size = w23.heap.size + 1 := by simp
  clear XB qb1 qb2 T3 R1 R3 hle hbs hb KU k1 ka
  go_wp2_with (first | (refine wpList_alloc_block rfl 67 rfl (zero_run ziMap _) w23.heap.size rfl ?_) | (refine wpList_store_block rfl 67 _ _ rfl rfl rfl HZ3.out hiMap (HSMap.out.trans HBs.out.symm) HBs.out.symm HBo.out ?_; intro w24 k4 b4 s4; have HB4 := Lib.hid b4; clear b4))
  have KB4 : Kept (fun k => w23.heap.size ≤ k) w23 w24 := (ka3.mono (fun _ _ h => h.elim)).trans (k4.mono (fun _ _ e => by omega))
  have KA4 : Kept (fun k => w21.heap.size ≤ k) w21 w24 := (KA2.trans (k3.mono (fun _ _ h => h.elim))).trans (KB4.mono (fun _ _ e => by omega))
  have K4 : Kept (fun _ => False) w w24 := (K2.trans k3).thn KB4 (fun i hi => .inr (by omega))
  have sK4 := K4.size
  have HA4 : Hid (MapT.Is w24 (fun k => k < w24.heap.size) ca x) := Lib.hid (MapT.stable _ _ _ _ _ _ HXA.out (fun k hk => by have := hk.2; omega) (fun k hk => KA4.block k hk.2 (fun e => by have := hk.2; omega)))
  have HD4 : Hid (MapT.Is w24 (fun k => k < w24.heap.size) cd x) := Lib.hid (MapT.stable _ _ _ _ _ _ HXB.out (fun k hk => by have := hk.2; omega) (fun k hk => KB4.block k hk.2 (fun e => by have := hk.2; omega)))
  have BA : Hid (w24.heap[w21.heap.size]? = some (.cells ca.toArray 67)) := Lib.hid (by
    have l2 := lt_in HB2.out
    rw [KB4.block _ (by omega) (by omega), k3.block _ l2 (fun h => h)]
    exact HB2.out)
  clear HXA HXB HB2 KA2 KA4 KB4 HZ HZ3 k2 k3 k4 ka3 K2 s2 s4 sa sa3 HAo HBo
  refine wp_region_mx (fun w' => Kept (fun _ => False) w24 w') [(true, 0), (true, 2), (false, 1), (false, 3), (false, 4), (true, 5), (true, 7), (false, 6), (false, 8), (false, 9), (false, 10), (false, 11), (false, 12), (false, 13), (false, 14), (false, 15), (true, 16), (true, 18), (false, 17), (false, 19), (false, 20), (false, 21), (false, 22)] (by kernel_rfl) (by kernel_rfl) (fun _ _ d _ _ h => by cases d <;> exact h) (Kept.drew _ _) ?_
  simp only [selM, List.filterMap_cons, List.filterMap_nil, List.getElem?_cons_zero, List.getElem?_cons_succ, Option.map_some]
  have KD := Kept.drew (fun _ => False) w24
  generalize w24.drew = w25 at KD ⊢
  refine wpMx_held (fun K hK => ?_)
  go_simp
  refine ⟨_, fun _ _ => rfl, hK _ ?_⟩
  clear hK
  refine wpMx_held (fun K hK => ?_)
  go_simp
  refine ⟨_, fun _ _ => rfl, hK _ ?_⟩
  clear hK
  refine wpMx_step (fun K hK => ?_)
  go_simp
  go_wp2_with fail
  refine (num_c _).mono ?_
  rintro e _ ⟨rfl, rfl⟩
  rename World => w25
  refine hK _ _ KD ?_
  clear hK
  refine wpMx_step (fun K hK => ?_)
  go_simp
  refine hK _ _ KD ?_
  clear hK
  refine wpMx_step (fun K hK => ?_)
  go_simp
  refine hK _ _ KD ?_
  clear hK
  refine wpMx_load true 67 _ rfl rfl rfl (fun w' hw' => (hw'.block _ (lt_in BA.out) (fun h => h)).trans BA.out) (fun w' => Tryz.isAgg67 w') hiMap (HSMap.out.trans HAs.out.symm) ?_
  intro z5 hz5
  obtain rfl := hz5 rfl
  refine wpMx_load true 67 _ rfl rfl rfl (fun w' hw' => (hw'.block _ (lt_in HB4.out) (fun h => h)).trans HB4.out) (fun w' => Tryz.isAgg67 w') hiMap (HSMap.out.trans HBs.out.symm) ?_
  intro z7 hz7
  obtain rfl := hz7 rfl
  refine wpMx_step (fun K hK => ?_)
  go_simp
  go_wp2_with fail
  refine (encMap_c (S := fun k => k < w24.heap.size) (fun k hk => by have := KD.size; omega) x (MapT.stable _ _ _ _ _ _ HA4.out (fun _ h => h) (fun k hk => KD.block k hk (fun h => h))) HLE.out).mono ?_
  rintro e w26 ⟨⟨vA, rfl, gA, oA, hgA⟩, k6⟩
  refine hK _ _ (KD.trans k6) ?_
  clear hK
  replace KD := KD.trans k6
  obtain ⟨aA, cA, rfl, -⟩ := oA.shape
  refine wpMx_step (fun K hK => ?_)
  go_simp
  go_wp2_with fail
  refine (encRefMap_c (S := fun k => k < w24.heap.size) (fun k hk => by have := KD.size; omega) x (MapT.stable _ _ _ _ _ _ HD4.out (fun _ h => h) (fun k hk => KD.block k hk (fun h => h))) HLE.out).mono ?_
  rintro e w27 ⟨⟨vB, rfl, gB, oB, hgB⟩, k7⟩
  refine hK _ _ (KD.trans k7) ?_
  clear hK
  replace KD := KD.trans k7
  obtain ⟨aB, cB, rfl, -⟩ := oB.shape
  have HOA := Lib.hid (oA.kept k7 (fun _ _ h => h))
  have HOB := Lib.hid oB
  clear oA oB k6 k7 hgA hgB
  refine wpMx_step (fun K hK => ?_)
  go_simp
  go_wp2_with fail
  refine (same_c HOA.out.reads HOB.out.reads).mono ?_
  rintro e _ ⟨rfl, rfl⟩
  rename World => w27
  refine hK _ _ KD ?_
  clear hK
  clear HOA HOB
  refine wpMx_step (fun K hK => ?_)
  go_simp
  refine hK _ _ KD ?_
  clear hK
  refine wpMx_step (fun K hK => ?_)
  go_simp
  refine hK _ _ KD ?_
  clear hK
  refine wpMx_step (fun K hK => ?_)
  go_simp
  refine hK _ _ KD ?_
  clear hK
  refine wpMx_step (fun K hK => ?_)
  go_simp
  refine hK _ _ KD ?_
  clear hK
  refine wpMx_step (fun K hK => ?_)
  go_simp
  rw [show (n == 0) = b from HBB.out]
  refine hK _ _ KD ?_
  clear hK
  refine wpMx_step (fun K hK => ?_)
  go_simp
  refine hK _ _ KD ?_
  clear hK
  refine wpMx_load b 67 _ rfl rfl (by cases b <;> rfl) (fun w' hw' => (hw'.block _ (lt_in BA.out) (fun h => h)).trans BA.out) (fun w' => Tryz.isAgg67 w') hiMap (HSMap.out.trans HAs.out.symm) ?_
  intro z16 hz16
  go_simp
  refine wpMx_held_may b (.slice ab bs.length cb) (by cases b <;> rfl) (fun _ _ _ => rfl) ?_
  intro z18 hz18
  go_simp
  refine wpMx_step_may b (fun v w' => ∃ a c g, v = .slice a x.enc.length c ∧ Own w' 5 1 v x.enc.length (x.enc.map bv) g) (by cases b <;> rfl) KD (fun hb K hK => ?_) ?_
  · subst hb
    obtain rfl := hz16 rfl
    clear hz16 hz18
    go_simp
    go_wp2_with fail
    refine (encMap_c (S := fun k => k < w24.heap.size) (fun k hk => by have := KD.size; omega) x (MapT.stable _ _ _ _ _ _ HA4.out (fun _ h => h) (fun k hk => KD.block k hk (fun h => h))) HLE.out).mono ?_
    rintro e w28 ⟨⟨vC, rfl, gC, oC, hgC⟩, k8⟩
    obtain ⟨aC, cC, rfl, -⟩ := oC.shape
    exact hK _ _ (KD.trans k8) ⟨_, _, _, rfl, oC⟩
  intro z17 w28 KE hz17
  go_simp
  refine wpMx_step_may b (fun v w' => v = .bool true) (by cases b <;> rfl) KE (fun hb K hK => ?_) ?_
  · subst hb
    obtain rfl := hz18 rfl
    obtain ⟨aC, cC, gC, rfl, oC⟩ := hz17 rfl
    have rC := oC.reads
    rw [show x.enc.map bv = bs.map bv by rw [HBS.out rfl]] at rC
    have HRC := Lib.hid rC
    clear hz16 hz17 hz18 rC oC
    go_simp
    go_wp2_with fail
    refine (same_c HRC.out (HR.out.kept (K4.trans KE) (fun _ _ h => h))).mono ?_
    rintro e _ ⟨rfl, rfl⟩
    rename World => w28
    exact hK _ _ KE rfl
  intro z19 w29 KF hz19
  go_simp
  refine wpMx_step_may b (fun v w' => v = .bool false) (by cases b <;> rfl) KF (fun hb K hK => ?_) ?_
  · subst hb
    obtain rfl := hz19 rfl
    clear hz16 hz17 hz18 hz19
    go_simp
    exact hK _ _ KF rfl
  intro z20 w210 KG hz20
  go_simp
  clear hz16 hz17 hz18 hz19 KD KE KF
  refine wpMx_step_may true (fun v w' => v = .bool false) rfl KG (fun _ K hK => ?_) ?_
  · cases b with
    | true =>
      obtain rfl := hz20 rfl
      clear hz20
      go_simp
      exact hK _ _ KG rfl
    | false =>
      clear hz20
      go_simp
      exact hK _ _ KG rfl
  clear hz20
  intro z21 w211 KH hz21
  obtain rfl := hz21 rfl
  clear hz21 KG
  refine wpMx_step (fun K hK => ?_)
  go_simp
  refine hK _ _ KH ?_
  clear hK
  refine wpMx_nil ?_
  have KU : Kept (fun _ => False) w w211 := K4.trans KH
  clear KH K4 HBB HBS HLE HA4 HD4 BA HB4 HAs HBs sU s1 sK2 s3 sK4 hz5 hz7
  go_wp2_with fail
  -- State
  have sU := KU.size
  refine (decState_c (HR.out.kept KU (fun _ _ h => h)) (fun k hk => by have := hgl k hk; omega) hm).mono ?_
  rintro e w31 T1
  obtain ⟨k1, x, ca, n, rfl, XA, R1⟩ := T1.u zisState
  obtain ⟨qa1, qa2⟩ := szState XA
  have HAs := Lib.hid qa1
  have HAo := Lib.hid qa2
  have HXA := Lib.hid XA
  have s1 := k1.size
  have ka := Kept.alloc (fun _ => False) w31 (Obj.cells zState 38)
  have HZ := Lib.hid (heap_alloc_new' w31 (Obj.cells zState 38))
  have sa : (w31.alloc (Obj.cells zState 38)).heap.size = w31.heap.size + 1 := by simp
  clear XA qa1 qa2 T1
  go_wp2_with (first | (refine wpList_alloc_block rfl 38 rfl (zero_run ziState _) w31.heap.size rfl ?_) | (refine wpList_store_block rfl 38 _ _ rfl rfl rfl HZ.out hiState (HSState.out.trans HAs.out.symm) HAs.out.symm HAo.out ?_; intro w32 k2 b2 s2; have HB2 := Lib.hid b2; clear b2))
  have K2 : Kept (fun _ => False) w w32 := ((KU.trans k1).trans ka).thn k2 (fun i hi => .inr (by omega))
  have KA2 : Kept (fun k => w31.heap.size ≤ k) w31 w32 := (ka.mono (fun _ _ h => h.elim)).trans (k2.mono (fun _ _ e => by omega))
  have sK2 := K2.size
  refine (decDState_c (HR.out.kept K2 (fun _ _ h => h)) (fun k hk => by have := hgl k hk; omega) hm).mono ?_
  rintro e w33 T3
  obtain ⟨k3, y, cd, m, rfl, XB, R3⟩ := T3.u zisState
  obtain ⟨rfl, rfl⟩ := R1.uniq R3
  obtain ⟨hle, b, hb, hbs⟩ := R1.enc lawState (by decide) hm
  have HLE := Lib.hid hle
  have HBS := Lib.hid hbs
  have HBB := Lib.hid hb
  obtain ⟨qb1, qb2⟩ := szState XB
  have HBs := Lib.hid qb1
  have HBo := Lib.hid qb2
  have HXB := Lib.hid XB
  have s3 := k3.size
  have ka3 := Kept.alloc (fun _ => False) w33 (Obj.cells zState 38)
  have HZ3 := Lib.hid (heap_alloc_new' w33 (Obj.cells zState 38))
  have sa3 : (w33.alloc (Obj.cells zState 38)).heap.size = w33.heap.size + 1 := by simp
  clear XB qb1 qb2 T3 R1 R3 hle hbs hb KU k1 ka
  go_wp2_with (first | (refine wpList_alloc_block rfl 38 rfl (zero_run ziState _) w33.heap.size rfl ?_) | (refine wpList_store_block rfl 38 _ _ rfl rfl rfl HZ3.out hiState (HSState.out.trans HBs.out.symm) HBs.out.symm HBo.out ?_; intro w34 k4 b4 s4; have HB4 := Lib.hid b4; clear b4))
  have KB4 : Kept (fun k => w33.heap.size ≤ k) w33 w34 := (ka3.mono (fun _ _ h => h.elim)).trans (k4.mono (fun _ _ e => by omega))
  have KA4 : Kept (fun k => w31.heap.size ≤ k) w31 w34 := (KA2.trans (k3.mono (fun _ _ h => h.elim))).trans (KB4.mono (fun _ _ e => by omega))
  have K4 : Kept (fun _ => False) w w34 := (K2.trans k3).thn KB4 (fun i hi => .inr (by omega))
  have sK4 := K4.size
  have HA4 : Hid (StateT.Is w34 (fun k => k < w34.heap.size) ca x) := Lib.hid (StateT.stable _ _ _ _ _ _ HXA.out (fun k hk => by have := hk.2; omega) (fun k hk => KA4.block k hk.2 (fun e => by have := hk.2; omega)))
  have HD4 : Hid (StateT.Is w34 (fun k => k < w34.heap.size) cd x) := Lib.hid (StateT.stable _ _ _ _ _ _ HXB.out (fun k hk => by have := hk.2; omega) (fun k hk => KB4.block k hk.2 (fun e => by have := hk.2; omega)))
  have BA : Hid (w34.heap[w31.heap.size]? = some (.cells ca.toArray 38)) := Lib.hid (by
    have l2 := lt_in HB2.out
    rw [KB4.block _ (by omega) (by omega), k3.block _ l2 (fun h => h)]
    exact HB2.out)
  clear HXA HXB HB2 KA2 KA4 KB4 HZ HZ3 k2 k3 k4 ka3 K2 s2 s4 sa sa3 HAo HBo
  refine wp_region_mx (fun w' => Kept (fun _ => False) w34 w') [(true, 0), (true, 2), (false, 1), (false, 3), (false, 4), (true, 5), (true, 7), (false, 6), (false, 8), (false, 9), (false, 10), (false, 11), (false, 12), (false, 13), (false, 14), (false, 15), (true, 16), (true, 18), (false, 17), (false, 19), (false, 20), (false, 21), (false, 22)] (by kernel_rfl) (by kernel_rfl) (fun _ _ d _ _ h => by cases d <;> exact h) (Kept.drew _ _) ?_
  simp only [selM, List.filterMap_cons, List.filterMap_nil, List.getElem?_cons_zero, List.getElem?_cons_succ, Option.map_some]
  have KD := Kept.drew (fun _ => False) w34
  generalize w34.drew = w35 at KD ⊢
  refine wpMx_held (fun K hK => ?_)
  go_simp
  refine ⟨_, fun _ _ => rfl, hK _ ?_⟩
  clear hK
  refine wpMx_held (fun K hK => ?_)
  go_simp
  refine ⟨_, fun _ _ => rfl, hK _ ?_⟩
  clear hK
  refine wpMx_step (fun K hK => ?_)
  go_simp
  go_wp2_with fail
  refine (num_c _).mono ?_
  rintro e _ ⟨rfl, rfl⟩
  rename World => w35
  refine hK _ _ KD ?_
  clear hK
  refine wpMx_step (fun K hK => ?_)
  go_simp
  refine hK _ _ KD ?_
  clear hK
  refine wpMx_step (fun K hK => ?_)
  go_simp
  refine hK _ _ KD ?_
  clear hK
  refine wpMx_load true 38 _ rfl rfl rfl (fun w' hw' => (hw'.block _ (lt_in BA.out) (fun h => h)).trans BA.out) (fun w' => Tryz.isAgg38 w') hiState (HSState.out.trans HAs.out.symm) ?_
  intro z5 hz5
  obtain rfl := hz5 rfl
  refine wpMx_load true 38 _ rfl rfl rfl (fun w' hw' => (hw'.block _ (lt_in HB4.out) (fun h => h)).trans HB4.out) (fun w' => Tryz.isAgg38 w') hiState (HSState.out.trans HBs.out.symm) ?_
  intro z7 hz7
  obtain rfl := hz7 rfl
  refine wpMx_step (fun K hK => ?_)
  go_simp
  go_wp2_with fail
  refine (encState_c (S := fun k => k < w34.heap.size) (fun k hk => by have := KD.size; omega) x (StateT.stable _ _ _ _ _ _ HA4.out (fun _ h => h) (fun k hk => KD.block k hk (fun h => h))) HLE.out).mono ?_
  rintro e w36 ⟨⟨vA, rfl, gA, oA, hgA⟩, k6⟩
  refine hK _ _ (KD.trans k6) ?_
  clear hK
  replace KD := KD.trans k6
  obtain ⟨aA, cA, rfl, -⟩ := oA.shape
  refine wpMx_step (fun K hK => ?_)
  go_simp
  go_wp2_with fail
  refine (encRefState_c (S := fun k => k < w34.heap.size) (fun k hk => by have := KD.size; omega) x (StateT.stable _ _ _ _ _ _ HD4.out (fun _ h => h) (fun k hk => KD.block k hk (fun h => h))) HLE.out).mono ?_
  rintro e w37 ⟨⟨vB, rfl, gB, oB, hgB⟩, k7⟩
  refine hK _ _ (KD.trans k7) ?_
  clear hK
  replace KD := KD.trans k7
  obtain ⟨aB, cB, rfl, -⟩ := oB.shape
  have HOA := Lib.hid (oA.kept k7 (fun _ _ h => h))
  have HOB := Lib.hid oB
  clear oA oB k6 k7 hgA hgB
  refine wpMx_step (fun K hK => ?_)
  go_simp
  go_wp2_with fail
  refine (same_c HOA.out.reads HOB.out.reads).mono ?_
  rintro e _ ⟨rfl, rfl⟩
  rename World => w37
  refine hK _ _ KD ?_
  clear hK
  clear HOA HOB
  refine wpMx_step (fun K hK => ?_)
  go_simp
  refine hK _ _ KD ?_
  clear hK
  refine wpMx_step (fun K hK => ?_)
  go_simp
  refine hK _ _ KD ?_
  clear hK
  refine wpMx_step (fun K hK => ?_)
  go_simp
  refine hK _ _ KD ?_
  clear hK
  refine wpMx_step (fun K hK => ?_)
  go_simp
  refine hK _ _ KD ?_
  clear hK
  refine wpMx_step (fun K hK => ?_)
  go_simp
  rw [show (n == 0) = b from HBB.out]
  refine hK _ _ KD ?_
  clear hK
  refine wpMx_step (fun K hK => ?_)
  go_simp
  refine hK _ _ KD ?_
  clear hK
  refine wpMx_load b 38 _ rfl rfl (by cases b <;> rfl) (fun w' hw' => (hw'.block _ (lt_in BA.out) (fun h => h)).trans BA.out) (fun w' => Tryz.isAgg38 w') hiState (HSState.out.trans HAs.out.symm) ?_
  intro z16 hz16
  go_simp
  refine wpMx_held_may b (.slice ab bs.length cb) (by cases b <;> rfl) (fun _ _ _ => rfl) ?_
  intro z18 hz18
  go_simp
  refine wpMx_step_may b (fun v w' => ∃ a c g, v = .slice a x.enc.length c ∧ Own w' 5 1 v x.enc.length (x.enc.map bv) g) (by cases b <;> rfl) KD (fun hb K hK => ?_) ?_
  · subst hb
    obtain rfl := hz16 rfl
    clear hz16 hz18
    go_simp
    go_wp2_with fail
    refine (encState_c (S := fun k => k < w34.heap.size) (fun k hk => by have := KD.size; omega) x (StateT.stable _ _ _ _ _ _ HA4.out (fun _ h => h) (fun k hk => KD.block k hk (fun h => h))) HLE.out).mono ?_
    rintro e w38 ⟨⟨vC, rfl, gC, oC, hgC⟩, k8⟩
    obtain ⟨aC, cC, rfl, -⟩ := oC.shape
    exact hK _ _ (KD.trans k8) ⟨_, _, _, rfl, oC⟩
  intro z17 w38 KE hz17
  go_simp
  refine wpMx_step_may b (fun v w' => v = .bool true) (by cases b <;> rfl) KE (fun hb K hK => ?_) ?_
  · subst hb
    obtain rfl := hz18 rfl
    obtain ⟨aC, cC, gC, rfl, oC⟩ := hz17 rfl
    have rC := oC.reads
    rw [show x.enc.map bv = bs.map bv by rw [HBS.out rfl]] at rC
    have HRC := Lib.hid rC
    clear hz16 hz17 hz18 rC oC
    go_simp
    go_wp2_with fail
    refine (same_c HRC.out (HR.out.kept (K4.trans KE) (fun _ _ h => h))).mono ?_
    rintro e _ ⟨rfl, rfl⟩
    rename World => w38
    exact hK _ _ KE rfl
  intro z19 w39 KF hz19
  go_simp
  refine wpMx_step_may b (fun v w' => v = .bool false) (by cases b <;> rfl) KF (fun hb K hK => ?_) ?_
  · subst hb
    obtain rfl := hz19 rfl
    clear hz16 hz17 hz18 hz19
    go_simp
    exact hK _ _ KF rfl
  intro z20 w310 KG hz20
  go_simp
  clear hz16 hz17 hz18 hz19 KD KE KF
  refine wpMx_step_may true (fun v w' => v = .bool false) rfl KG (fun _ K hK => ?_) ?_
  · cases b with
    | true =>
      obtain rfl := hz20 rfl
      clear hz20
      go_simp
      exact hK _ _ KG rfl
    | false =>
      clear hz20
      go_simp
      exact hK _ _ KG rfl
  clear hz20
  intro z21 w311 KH hz21
  obtain rfl := hz21 rfl
  clear hz21 KG
  refine wpMx_step (fun K hK => ?_)
  go_simp
  refine hK _ _ KH ?_
  clear hK
  refine wpMx_nil ?_
  have KU : Kept (fun _ => False) w w311 := K4.trans KH
  clear KH K4 HBB HBS HLE HA4 HD4 BA HB4 HAs HBs sU s1 sK2 s3 sK4 hz5 hz7
  go_wp2_with fail
  -- Tx
  have sU := KU.size
  refine (decTx_c (HR.out.kept KU (fun _ _ h => h)) (fun k hk => by have := hgl k hk; omega) hm).mono ?_
  rintro e w41 T1
  obtain ⟨k1, x, ca, n, rfl, XA, R1⟩ := T1.u zisTx
  obtain ⟨qa1, qa2⟩ := szTx XA
  have HAs := Lib.hid qa1
  have HAo := Lib.hid qa2
  have HXA := Lib.hid XA
  have s1 := k1.size
  have ka := Kept.alloc (fun _ => False) w41 (Obj.cells zTx 80)
  have HZ := Lib.hid (heap_alloc_new' w41 (Obj.cells zTx 80))
  have sa : (w41.alloc (Obj.cells zTx 80)).heap.size = w41.heap.size + 1 := by simp
  clear XA qa1 qa2 T1
  go_wp2_with (first | (refine wpList_alloc_block rfl 80 rfl (zero_run ziTx _) w41.heap.size rfl ?_) | (refine wpList_store_block rfl 80 _ _ rfl rfl rfl HZ.out hiTx (HSTx.out.trans HAs.out.symm) HAs.out.symm HAo.out ?_; intro w42 k2 b2 s2; have HB2 := Lib.hid b2; clear b2))
  have K2 : Kept (fun _ => False) w w42 := ((KU.trans k1).trans ka).thn k2 (fun i hi => .inr (by omega))
  have KA2 : Kept (fun k => w41.heap.size ≤ k) w41 w42 := (ka.mono (fun _ _ h => h.elim)).trans (k2.mono (fun _ _ e => by omega))
  have sK2 := K2.size
  refine (decDTx_c (HR.out.kept K2 (fun _ _ h => h)) (fun k hk => by have := hgl k hk; omega) hm).mono ?_
  rintro e w43 T3
  obtain ⟨k3, y, cd, m, rfl, XB, R3⟩ := T3.u zisTx
  obtain ⟨rfl, rfl⟩ := R1.uniq R3
  obtain ⟨hle, b, hb, hbs⟩ := R1.enc lawTx (by decide) hm
  have HLE := Lib.hid hle
  have HBS := Lib.hid hbs
  have HBB := Lib.hid hb
  obtain ⟨qb1, qb2⟩ := szTx XB
  have HBs := Lib.hid qb1
  have HBo := Lib.hid qb2
  have HXB := Lib.hid XB
  have s3 := k3.size
  have ka3 := Kept.alloc (fun _ => False) w43 (Obj.cells zTx 80)
  have HZ3 := Lib.hid (heap_alloc_new' w43 (Obj.cells zTx 80))
  have sa3 : (w43.alloc (Obj.cells zTx 80)).heap.size = w43.heap.size + 1 := by simp
  clear XB qb1 qb2 T3 R1 R3 hle hbs hb KU k1 ka
  go_wp2_with (first | (refine wpList_alloc_block rfl 80 rfl (zero_run ziTx _) w43.heap.size rfl ?_) | (refine wpList_store_block rfl 80 _ _ rfl rfl rfl HZ3.out hiTx (HSTx.out.trans HBs.out.symm) HBs.out.symm HBo.out ?_; intro w44 k4 b4 s4; have HB4 := Lib.hid b4; clear b4))
  have KB4 : Kept (fun k => w43.heap.size ≤ k) w43 w44 := (ka3.mono (fun _ _ h => h.elim)).trans (k4.mono (fun _ _ e => by omega))
  have KA4 : Kept (fun k => w41.heap.size ≤ k) w41 w44 := (KA2.trans (k3.mono (fun _ _ h => h.elim))).trans (KB4.mono (fun _ _ e => by omega))
  have K4 : Kept (fun _ => False) w w44 := (K2.trans k3).thn KB4 (fun i hi => .inr (by omega))
  have sK4 := K4.size
  have HA4 : Hid (TxT.Is w44 (fun k => k < w44.heap.size) ca x) := Lib.hid (TxT.stable _ _ _ _ _ _ HXA.out (fun k hk => by have := hk.2; omega) (fun k hk => KA4.block k hk.2 (fun e => by have := hk.2; omega)))
  have HD4 : Hid (TxT.Is w44 (fun k => k < w44.heap.size) cd x) := Lib.hid (TxT.stable _ _ _ _ _ _ HXB.out (fun k hk => by have := hk.2; omega) (fun k hk => KB4.block k hk.2 (fun e => by have := hk.2; omega)))
  have BA : Hid (w44.heap[w41.heap.size]? = some (.cells ca.toArray 80)) := Lib.hid (by
    have l2 := lt_in HB2.out
    rw [KB4.block _ (by omega) (by omega), k3.block _ l2 (fun h => h)]
    exact HB2.out)
  clear HXA HXB HB2 KA2 KA4 KB4 HZ HZ3 k2 k3 k4 ka3 K2 s2 s4 sa sa3 HAo HBo
  refine wp_region_mx (fun w' => Kept (fun _ => False) w44 w') [(true, 0), (true, 2), (false, 1), (false, 3), (false, 4), (true, 5), (true, 7), (false, 6), (false, 8), (false, 9), (false, 10), (false, 11), (false, 12), (false, 13), (false, 14), (false, 15), (true, 16), (true, 18), (false, 17), (false, 19), (false, 20), (false, 21), (false, 22)] (by kernel_rfl) (by kernel_rfl) (fun _ _ d _ _ h => by cases d <;> exact h) (Kept.drew _ _) ?_
  simp only [selM, List.filterMap_cons, List.filterMap_nil, List.getElem?_cons_zero, List.getElem?_cons_succ, Option.map_some]
  have KD := Kept.drew (fun _ => False) w44
  generalize w44.drew = w45 at KD ⊢
  refine wpMx_held (fun K hK => ?_)
  go_simp
  refine ⟨_, fun _ _ => rfl, hK _ ?_⟩
  clear hK
  refine wpMx_held (fun K hK => ?_)
  go_simp
  refine ⟨_, fun _ _ => rfl, hK _ ?_⟩
  clear hK
  refine wpMx_step (fun K hK => ?_)
  go_simp
  go_wp2_with fail
  refine (num_c _).mono ?_
  rintro e _ ⟨rfl, rfl⟩
  rename World => w45
  refine hK _ _ KD ?_
  clear hK
  refine wpMx_step (fun K hK => ?_)
  go_simp
  refine hK _ _ KD ?_
  clear hK
  refine wpMx_step (fun K hK => ?_)
  go_simp
  refine hK _ _ KD ?_
  clear hK
  refine wpMx_load true 80 _ rfl rfl rfl (fun w' hw' => (hw'.block _ (lt_in BA.out) (fun h => h)).trans BA.out) (fun w' => Tryz.isAgg80 w') hiTx (HSTx.out.trans HAs.out.symm) ?_
  intro z5 hz5
  obtain rfl := hz5 rfl
  refine wpMx_load true 80 _ rfl rfl rfl (fun w' hw' => (hw'.block _ (lt_in HB4.out) (fun h => h)).trans HB4.out) (fun w' => Tryz.isAgg80 w') hiTx (HSTx.out.trans HBs.out.symm) ?_
  intro z7 hz7
  obtain rfl := hz7 rfl
  refine wpMx_step (fun K hK => ?_)
  go_simp
  go_wp2_with fail
  refine (encTx_c (S := fun k => k < w44.heap.size) (fun k hk => by have := KD.size; omega) x (TxT.stable _ _ _ _ _ _ HA4.out (fun _ h => h) (fun k hk => KD.block k hk (fun h => h))) HLE.out).mono ?_
  rintro e w46 ⟨⟨vA, rfl, gA, oA, hgA⟩, k6⟩
  refine hK _ _ (KD.trans k6) ?_
  clear hK
  replace KD := KD.trans k6
  obtain ⟨aA, cA, rfl, -⟩ := oA.shape
  refine wpMx_step (fun K hK => ?_)
  go_simp
  go_wp2_with fail
  refine (encRefTx_c (S := fun k => k < w44.heap.size) (fun k hk => by have := KD.size; omega) x (TxT.stable _ _ _ _ _ _ HD4.out (fun _ h => h) (fun k hk => KD.block k hk (fun h => h))) HLE.out).mono ?_
  rintro e w47 ⟨⟨vB, rfl, gB, oB, hgB⟩, k7⟩
  refine hK _ _ (KD.trans k7) ?_
  clear hK
  replace KD := KD.trans k7
  obtain ⟨aB, cB, rfl, -⟩ := oB.shape
  have HOA := Lib.hid (oA.kept k7 (fun _ _ h => h))
  have HOB := Lib.hid oB
  clear oA oB k6 k7 hgA hgB
  refine wpMx_step (fun K hK => ?_)
  go_simp
  go_wp2_with fail
  refine (same_c HOA.out.reads HOB.out.reads).mono ?_
  rintro e _ ⟨rfl, rfl⟩
  rename World => w47
  refine hK _ _ KD ?_
  clear hK
  clear HOA HOB
  refine wpMx_step (fun K hK => ?_)
  go_simp
  refine hK _ _ KD ?_
  clear hK
  refine wpMx_step (fun K hK => ?_)
  go_simp
  refine hK _ _ KD ?_
  clear hK
  refine wpMx_step (fun K hK => ?_)
  go_simp
  refine hK _ _ KD ?_
  clear hK
  refine wpMx_step (fun K hK => ?_)
  go_simp
  refine hK _ _ KD ?_
  clear hK
  refine wpMx_step (fun K hK => ?_)
  go_simp
  rw [show (n == 0) = b from HBB.out]
  refine hK _ _ KD ?_
  clear hK
  refine wpMx_step (fun K hK => ?_)
  go_simp
  refine hK _ _ KD ?_
  clear hK
  refine wpMx_load b 80 _ rfl rfl (by cases b <;> rfl) (fun w' hw' => (hw'.block _ (lt_in BA.out) (fun h => h)).trans BA.out) (fun w' => Tryz.isAgg80 w') hiTx (HSTx.out.trans HAs.out.symm) ?_
  intro z16 hz16
  go_simp
  refine wpMx_held_may b (.slice ab bs.length cb) (by cases b <;> rfl) (fun _ _ _ => rfl) ?_
  intro z18 hz18
  go_simp
  refine wpMx_step_may b (fun v w' => ∃ a c g, v = .slice a x.enc.length c ∧ Own w' 5 1 v x.enc.length (x.enc.map bv) g) (by cases b <;> rfl) KD (fun hb K hK => ?_) ?_
  · subst hb
    obtain rfl := hz16 rfl
    clear hz16 hz18
    go_simp
    go_wp2_with fail
    refine (encTx_c (S := fun k => k < w44.heap.size) (fun k hk => by have := KD.size; omega) x (TxT.stable _ _ _ _ _ _ HA4.out (fun _ h => h) (fun k hk => KD.block k hk (fun h => h))) HLE.out).mono ?_
    rintro e w48 ⟨⟨vC, rfl, gC, oC, hgC⟩, k8⟩
    obtain ⟨aC, cC, rfl, -⟩ := oC.shape
    exact hK _ _ (KD.trans k8) ⟨_, _, _, rfl, oC⟩
  intro z17 w48 KE hz17
  go_simp
  refine wpMx_step_may b (fun v w' => v = .bool true) (by cases b <;> rfl) KE (fun hb K hK => ?_) ?_
  · subst hb
    obtain rfl := hz18 rfl
    obtain ⟨aC, cC, gC, rfl, oC⟩ := hz17 rfl
    have rC := oC.reads
    rw [show x.enc.map bv = bs.map bv by rw [HBS.out rfl]] at rC
    have HRC := Lib.hid rC
    clear hz16 hz17 hz18 rC oC
    go_simp
    go_wp2_with fail
    refine (same_c HRC.out (HR.out.kept (K4.trans KE) (fun _ _ h => h))).mono ?_
    rintro e _ ⟨rfl, rfl⟩
    rename World => w48
    exact hK _ _ KE rfl
  intro z19 w49 KF hz19
  go_simp
  refine wpMx_step_may b (fun v w' => v = .bool false) (by cases b <;> rfl) KF (fun hb K hK => ?_) ?_
  · subst hb
    obtain rfl := hz19 rfl
    clear hz16 hz17 hz18 hz19
    go_simp
    exact hK _ _ KF rfl
  intro z20 w410 KG hz20
  go_simp
  clear hz16 hz17 hz18 hz19 KD KE KF
  refine wpMx_step_may true (fun v w' => v = .bool false) rfl KG (fun _ K hK => ?_) ?_
  · cases b with
    | true =>
      obtain rfl := hz20 rfl
      clear hz20
      go_simp
      exact hK _ _ KG rfl
    | false =>
      clear hz20
      go_simp
      exact hK _ _ KG rfl
  clear hz20
  intro z21 w411 KH hz21
  obtain rfl := hz21 rfl
  clear hz21 KG
  refine wpMx_step (fun K hK => ?_)
  go_simp
  refine hK _ _ KH ?_
  clear hK
  refine wpMx_nil ?_
  have KU : Kept (fun _ => False) w w411 := K4.trans KH
  clear KH K4 HBB HBS HLE HA4 HD4 BA HB4 HAs HBs sU s1 sK2 s3 sK4 hz5 hz7
  go_wp2_with fail
  have sU := KU.size
  refine (decStrings_c (HR.out.kept KU (fun _ _ h => h)) (fun k hk => by have := hgl k hk; omega) hm).mono ?_
  rintro e w51 T1
  obtain ⟨k1, ss, va, n, ga, rfl, XA, hsl, R1⟩ := T1.u
  have s1 := k1.size
  have K1 := KU.trans k1
  obtain ⟨aa, ca, rfl, -⟩ := XA.shape
  clear KU k1 T1
  go_wp2_with fail
  refine (decDStrings_c (HR.out.kept K1 (fun _ _ h => h)) (fun k hk => by have := hgl k hk; omega) hm).mono ?_
  rintro e w52 T3
  obtain ⟨k3, tt, vb, m, gb, rfl, XB, -, R3⟩ := T3.u
  obtain ⟨rfl, rfl⟩ := R1.uniq R3
  have XA3 := XA.kept k3 (fun _ _ h => h)
  have K3 := K1.trans k3
  obtain ⟨ad, cd, rfl, -⟩ := XB.shape
  clear K1 k3 T3 R1 R3 XA
  go_wp2_with fail
  refine (num_c _).mono ?_
  rintro e _ ⟨rfl, rfl⟩
  rename World => w52
  go_wp2_with fail
  refine (textsSame_c XA3 XB hsl).mono ?_
  rintro e _ ⟨rfl, nd, rfl⟩
  have K4 := K3.dN nd
  generalize w52.drewN nd = w53 at K4 ⊢
  clear XA3 XB
  go_wp2_with fail
  refine awake_c.mono ?_
  rintro e w54 ⟨rfl, k5⟩
  have K5 := K4.trans k5
  clear K3 K4 k5
  go_wp2
  go_ret
  exact ⟨rfl, K5⟩
theorem wireReads_walk {H : Type} {enc : TypeId × Value → H} {W : World} {base : Nat} {v0 : Value} {d0 : DataW H} {p0 : List MemPlace}
    (k0 : Value.okWide Tryz.prog W .any base 22 v0) (h0 : DataW.Trod enc Tryz.prog W 0 (fun _ => true) true 22 v0 d0 p0)
    {ts : List TypeId} {ds : List (DataW H)} (hsz : (DataW.weightsEach Tryz.prog ([22] ++ ts) ([d0] ++ ds)).all (· ≤ reachBytes) = true) :
    Calls Tryz.prog 3 #[v0] W fun e w' => e = .returned (.bool true) ∧ Below W.heap.size W w' := by
  obtain ⟨bs, g, hr, hl, hm⟩ := open_bytes Tryz.underlying22 Tryz.underlying5 (by kernel_rfl) (by kernel_rfl) k0 h0 hsz (j := 0) rfl rfl
  by_cases hb : bs = []
  · have hr' : Reads W 1 v0 bs.length (bs.map bv) none := by
      obtain ⟨a, cp, rfl, hc⟩ := hr.shape
      subst hb
      exact ⟨by simp, .inl ⟨_, _, rfl, rfl⟩⟩
    exact (reads_core hr' (fun k hk => by cases hk) hm).mono fun e w' ⟨he, hk⟩ => ⟨he, hk.below (Nat.le_refl _) (fun _ h => h.elim)⟩
  · exact (reads_core hr (fun k hk => hl k hk hb) hm).mono fun e w' ⟨he, hk⟩ => ⟨he, hk.below (Nat.le_refl _) (fun _ h => h.elim)⟩
end Go.Proofs.YtmbjealliinpdaaGreat
end
