/- Texts, bytes, error numbers and checksums: written by the codec and by the document's writers. -/
import Derived.Test.YtanmfldgillodaaGreatCw1
import Derived.Test.YtanmfldgillodaaGreatRgl
set_option linter.unusedSimpArgs false
set_option linter.unusedVariables false
namespace Go.Proofs.YtanmfldgillodaaGreat
open Go.RowKit

/-- A byte. -/
def byteIs (w : World) (S : Nat → Prop) (cs : List Value) (b : UInt8) : Prop := cs = [bv b]
theorem byteIs_stable : Stable byteIs := fun _ _ _ _ _ _ h _ _ => h
/-- A text. -/
def textIs (w : World) (S : Nat → Prop) (cs : List Value) (s : ByteArray) : Prop := cs = [.string s]
theorem textIs_stable : Stable textIs := fun _ _ _ _ _ _ h _ _ => h
/-- A checksum. -/
def crcIs (w : World) (S : Nat → Prop) (cs : List Value) (n : Nat) : Prop := cs = [.int .u32 n] ∧ n < 4294967296
theorem crcIs_stable : Stable crcIs := fun _ _ _ _ _ _ h _ _ => h

theorem encT_length (s : ByteArray) : (encT s).length = 4 + s.size := by unfold encT; rw [List.length_append, leB_length]; simp
theorem encBy_length (b : List UInt8) : (encBy b).length = 4 + b.length := by unfold encBy; rw [List.length_append, leB_length]

/-- A list of bytes is read as a slice. -/
theorem ListIs.reads {w : World} {S : Nat → Prop} {v : Value} {bs : List UInt8} (h : ListIs 1 byteIs w S v bs) : ∃ g, Reads w 1 v bs.length (bs.map bv) g ∧ ∀ k, g = some k → S k := by
  obtain ⟨a, c, rfl, h1, h2, h3⟩ := h
  by_cases h0 : bs = []
  · subst h0
    exact ⟨none, ⟨by simp, .inl ⟨_, _, rfl, rfl⟩⟩, fun k hk => by cases hk⟩
  · have hp : 0 < bs.length := List.length_pos_iff.2 h0
    obtain ⟨b, off, cs, rfl, hb, -, -, -⟩ := h3 0 bs[0] (List.getElem?_eq_getElem hp)
    refine ⟨some b, ⟨by simp, .inr ⟨b, off, c, rfl, rfl, h1, h2, fun j hj => ?_⟩⟩, fun k hk => by cases hk; exact hb⟩
    rw [List.length_map] at hj
    obtain ⟨b', off', cs, he, -, hl, hc, hr⟩ := h3 j bs[j] (List.getElem?_eq_getElem hj)
    simp only [Option.some.injEq, Addr.mk.injEq, and_true] at he
    obtain ⟨rfl, rfl⟩ := he
    have := hc 0 (by omega)
    rw [Nat.mul_one, Nat.add_zero] at this
    rw [this, hr, List.getElem?_map, List.getElem?_eq_getElem hj]
    rfl

theorem reads_list {w : World} {S : Nat → Prop} {v : Value} {bs : List UInt8} {g : Option Nat} (h : Reads w 1 v bs.length (bs.map bv) g) (hg : ∀ k, g = some k → S k) (hc : ∀ a c, v = .slice a bs.length c → bs.length ≤ c ∧ c ≤ maxLen) : ListIs 1 byteIs w S v bs := by
  obtain ⟨h0, ⟨a, c, rfl, hn⟩ | ⟨b, off, c, rfl, rfl, h1, h2, h3⟩⟩ := h
  · obtain rfl : bs = [] := List.eq_nil_of_length_eq_zero hn
    exact ⟨a, c, rfl, (hc a c rfl).1, (hc a c rfl).2, fun k x hx => by simp at hx⟩
  · refine ⟨_, c, rfl, h1, h2, fun k x hx => ?_⟩
    have hk : k < bs.length := (List.getElem?_eq_some_iff.1 hx).1
    refine ⟨b, off, [bv x], rfl, hg b rfl, rfl, fun f hf => ?_, rfl⟩
    obtain rfl : f = 0 := by omega
    rw [Nat.mul_one, Nat.add_zero, h3 k (by simpa using hk), List.getElem?_map, hx]
    rfl

set_option maxRecDepth 100000 in
set_option maxHeartbeats 1600000 in
theorem bytesV_c {w : World} {c p o : Nat} {out : List UInt8} {g : Option Nat} (h : Writes w c out g) {v : Value} {bs : List UInt8} {gb : Option Nat} (hr : Reads w 1 v bs.length (bs.map bv) gb) (hgb : ∀ k, gb = some k → k ≠ c ∧ g ≠ some k) (hv : Var w p o [v]) (hm : out.length + bs.length ≤ 90000000000000) :
    Calls Tryz.prog 141 #[.pointer (some ⟨c, 0, none⟩), .pointer (some ⟨p, o, none⟩)] w fun e w' => e = .returned (.tuple #[]) ∧ Wrote w w' c out g (leB 4 bs.length ++ bs) := by
  obtain ⟨i0, hi, hz0, hz1, hz2⟩ := info_all u8info
  obtain ⟨a, cp, rfl, hc⟩ := hr.shape
  have p0 : w.cell? ⟨p, o, none⟩ = some (.slice a bs.length cp) := hv.cell (f := 0) (by simp)
  have hlp := hv.lt
  have hw := h
  go_enter Tryz.func141, Tryz.ntmps141
  go_wp2_with fail
  refine (countWrite_c h bs.length (by omega) (by omega)).mono ?_
  rintro e w1 ⟨rfl, g1, hw1, k1, hg1⟩
  have hv1 := hv.wrote (more := []) hw k1
  obtain ⟨vo1, q1, o1⟩ := hw1.ex
  obtain ⟨L, hL⟩ : ∃ L, L = out ++ leB 4 bs.length := ⟨_, rfl⟩
  have hLl : L.length = out.length + 4 := by rw [hL, List.length_append, leB_length]
  rw [← hL] at o1
  have HL := Lib.hid hL
  clear hL hw1 p0 h hw
  obtain ⟨a1, cp1, rfl, -, -⟩ := o1.shape
  have r1 := hr.kept k1 (fun k hk h => by rcases h with h | h; exact (hgb k hk).1 h; exact (hgb k hk).2 h)
  have z0 : w1.cell? ⟨c, 0, none⟩ = some (.slice a1 L.length cp1) := cell_in q1
  have z2 : w1.cell? ⟨c, 2, none⟩ = some (.bool false) := cell_in q1
  have hl1 := lt_in q1
  have p0 : w1.cell? ⟨p, o, none⟩ = some (.slice a bs.length cp) := hv1.cell (f := 0) (by simp)
  have hlp1 := hv1.lt
  have Q1 := Lib.hid q1
  have HLl := Lib.hid hLl
  have hLs : L.length + bs.length ≤ 90000000000010 := by omega
  clear q1 hLl
  go_wp2
  refine wp_region_ord [1, 2, 3, 4, 5, 6, 7] [0] [8, 9, 10, 11] (by kernel_rfl) (by kernel_rfl) (fun _ _ d _ _ h => by cases d <;> exact h) ?_
  simp only [sel, List.filterMap_cons, List.filterMap_nil, List.getElem?_cons_zero, List.getElem?_cons_succ]
  repeat (quiet_step (fail))
  refine wpQuiet_nil ?_
  refine wpIdle_step (fun K hK => ?_)
  go_simp
  refine hK _ ?_
  clear hK
  refine wpIdle_nil ?_
  rintro _ ⟨nr, rfl⟩
  have k2 := k1.dN nr
  have o2 := o1.drewN nr
  have r2 := r1.drewN nr
  have q2 : (w1.drewN nr).heap[c]? = _ := Q1.out
  generalize w1.drewN nr = w2 at k2 o2 r2 q2 ⊢
  have hne := o2.ne q2 (by decide)
  clear z0 z2 p0 Q1 o1 r1
  have Q2 := Lib.hid q2
  clear q2
  refine wpList_append_Own rfl _ _ 41 41 rfl 5 i0 (.int .u8 0) 1 1 Tryz.underlying41 hi hz0 hz1 hz2 rfl rfl o2 rfl (by exact Reads.src r2 Tryz.underlying41 (bv_one _)) (by unfold maxLen; omega) (by omega) ?_
  intro a5 k5 w5 g5 hown5 hk5 hg5
  have hA5 : w5.heap[c]? = _ := (hk5.block _ (lt_in Q2.out) (fun h => hne c h rfl)).trans Q2.out
  have f0 := frozen_in (k := 0) hA5
  have z5 := cell_in (k := 0) hA5
  have hl5 := lt_in hA5
  simp only [List.getElem?_toArray, List.getElem?_cons_zero] at z5
  have H5 := Lib.hid hA5
  clear hA5
  go_wp2
  have e9 : L.map bv ++ bs.map bv = (out ++ (leB 4 bs.length ++ bs)).map bv := by rw [← List.append_assoc, ← HL.out, List.map_append]
  have e8 : L.length + bs.length = (out ++ (leB 4 bs.length ++ bs)).length := by rw [← List.append_assoc, ← HL.out, List.length_append]
  have K5 : Kept (fun k => k = c ∨ g = some k) w w5 := k2.thn hk5 (fun i hi => by
    rcases hg1 i hi with h | h
    · exact .inl (.inr h)
    · exact .inr h)
  have hg5' : ∀ k, g5 = some k → g = some k ∨ w.heap.size ≤ k := fun k hk => by
    rcases hg5 k hk with h | h
    · exact hg1 k h
    · have := k2.size; exact .inr (by omega)
  have hne5 := hown5.ne H5.out (by decide)
  rw [e9] at hown5
  refine bodyPost_ret (v := .tuple #[]) (by simp [results, Tryz.results141]) rfl ⟨rfl, g5, ⟨_, heap_setCell_same (o := 0) H5.out _, ?_⟩, K5.st _ (.inl (.inl rfl)), hg5'⟩
  rw [e8] at hown5 ⊢
  exact hown5.kept (Kept.setCell (F := (· = c)) _ _ _ rfl) (fun k hk => hne5 k hk)

theorem bytesW_c {w : World} {c p o : Nat} {out : List UInt8} {g : Option Nat} (h : Writes w c out g) {S : Nat → Prop} (hS : ∀ k, S k → k < w.heap.size ∧ k ≠ c ∧ g ≠ some k) {v : Value} (bs : List UInt8) (hl : ListIs 1 byteIs w S v bs) (hv : Var w p o [v]) (hm : out.length + (encBy bs).length ≤ 80000000000000) :
    Calls Tryz.prog 141 #[.pointer (some ⟨c, 0, none⟩), .pointer (some ⟨p, o, none⟩)] w fun e w' => e = .returned (.tuple #[]) ∧ Wrote w w' c out g (encBy bs) := by
  rw [encBy_length] at hm
  obtain ⟨gb, hr, hg⟩ := hl.reads
  exact bytesV_c h hr (fun k hk => (hS k (hg k hk)).2) hv (by omega)

set_option maxRecDepth 100000 in
set_option maxHeartbeats 1600000 in
theorem textW_c {w : World} {c p o : Nat} {out : List UInt8} {g : Option Nat} (h : Writes w c out g) (s : ByteArray) (hv : Var w p o [.string s]) (hm : out.length + (encT s).length ≤ 80000000000000) :
    Calls Tryz.prog 79 #[.pointer (some ⟨c, 0, none⟩), .pointer (some ⟨p, o, none⟩)] w fun e w' => e = .returned (.tuple #[]) ∧ Wrote w w' c out g (encT s) := by
  rw [encT_length] at hm
  have p0 : w.cell? ⟨p, o, none⟩ = some (.string s) := hv.cell (f := 0) (by simp)
  have hlp := hv.lt
  have hlc : c < w.heap.size := by
    obtain ⟨vo, h1, -⟩ := h.ex
    exact lt_in h1
  have hlg : ∀ k, g = some k → k < w.heap.size := by
    obtain ⟨vo, -, h2⟩ := h.ex
    exact h2.lt
  have hcv := Go.Lib.run_convert_string_bytes (P := Tryz.prog) w 9 41 5 s Tryz.underlying9 Tryz.underlying41 Tryz.underlying5
  have hKB := bytesWorld_kept (fun _ => False) w 5 s
  have hRB := bytesWorld_reads w 5 s (by unfold maxLen; omega)
  have hSB := Go.Lib.bytesWorld_size w 5 s
  generalize Go.Lib.bytesWorld w 5 s = wb at hcv hKB hRB hSB
  obtain ⟨cap, hcap⟩ : ∃ cap, cap = grownCap w s.size 0 5 := ⟨_, rfl⟩
  rw [← hcap] at hcv hRB
  have hlen : s.data.toList.length = s.size := by simp
  rw [hlen] at hRB
  clear hcap
  go_enter Tryz.func79, Tryz.ntmps79
  go_wp2_with fail
  have v1 := var_new wb #[Value.slice (some ⟨w.heap.size, 0, none⟩) s.size cap] 41 (by decide) (by decide)
  rw [hSB] at v1
  have x1 : (wb.alloc (Obj.cells #[Value.slice (some ⟨w.heap.size, 0, none⟩) s.size cap] 41)).heap[wb.heap.size]? = some (Obj.cells #[Value.slice (some ⟨w.heap.size, 0, none⟩) s.size cap] 41) := heap_alloc_new' _ _
  rw [hSB] at x1
  have k1 : Kept (fun _ => False) w (wb.alloc (Obj.cells #[Value.slice (some ⟨w.heap.size, 0, none⟩) s.size cap] 41)) := hKB.al _
  have r1 := hRB.kept (Kept.alloc (fun _ => False) wb (Obj.cells #[Value.slice (some ⟨w.heap.size, 0, none⟩) s.size cap] 41)) (fun _ _ h => h)
  have s1 : (wb.alloc (Obj.cells #[Value.slice (some ⟨w.heap.size, 0, none⟩) s.size cap] 41)).heap.size = w.heap.size + 1 + 1 := by simp [hSB]
  generalize wb.alloc (Obj.cells #[Value.slice (some ⟨w.heap.size, 0, none⟩) s.size cap] 41) = w1 at x1 k1 r1 s1 v1 ⊢
  have h1 := h.kept k1 (fun h => h) (fun _ _ h => h)
  refine (bytesV_c h1 (bs := s.data.toList) (gb := some w.heap.size) (by rw [hlen]; exact r1) (fun k hk => ⟨by simp at hk; omega, fun hg => by simp at hk; have := hlg k hg; omega⟩) v1 (by rw [hlen]; omega)).mono ?_
  rintro e w2 ⟨rfl, g2, hw2, k2, hg2⟩
  rw [hlen] at hw2
  have K2 : Kept (fun k => k = c ∨ g = some k) w w2 := (k1.mono (fun _ _ h => h.elim)).trans k2
  have x2 : w2.heap[w.heap.size + 1]? = _ := (k2.block _ (lt_in x1) (fun h => by rcases h with h | h; omega; have := hlg _ h; omega)).trans x1
  have r2 := r1.kept k2 (fun k hk h => by simp at hk; rcases h with h | h; omega; have := hlg _ h; omega)
  have hst := Reads.string_run (P := Tryz.prog) r2 Tryz.underlying41 Tryz.underlying5 Tryz.underlying9
  have hss : (⟨s.data.toList.toArray⟩ : ByteArray) = s := by simp
  rw [hss] at hst
  have hv2 := hv.wrote (more := []) h K2
  have z1 : w2.cell? ⟨w.heap.size + 1, 0, none⟩ = some (.slice (some ⟨w.heap.size, 0, none⟩) s.size cap) := cell_in x2
  have l1 := lt_in x2
  have z2 : w2.cell? ⟨p, o, none⟩ = some (.string s) := hv2.cell (f := 0) (by simp)
  have l2 := hv2.lt
  have f2 : w2.frozen? ⟨p, o, none⟩ = false := hv2.frozen
  have e2 := setCell_same' z2
  have HW := Lib.hid hw2
  clear x1 x2 r1 r2 p0 hcv hw2 h1
  go_wp2
  exact bodyPost_end (v := .tuple #[]) (by simp [results, Tryz.results79]) rfl ⟨rfl, g2, HW.out, K2, fun k hk => by
    rcases hg2 k hk with h | h
    · exact .inl h
    · exact .inr (by omega)⟩

set_option maxRecDepth 100000 in
set_option maxHeartbeats 1600000 in
theorem errnoW_c {w : World} {c p o : Nat} {out : List UInt8} {g : Option Nat} (h : Writes w c out g) (n : Int) (hn : in64 n) (hv : Var w p o [.int .i64 n]) (hm : out.length ≤ 80000000000000) :
    Calls Tryz.prog 80 #[.pointer (some ⟨c, 0, none⟩), .pointer (some ⟨p, o, none⟩)] w fun e w' => e = .returned (.tuple #[]) ∧ Wrote w w' c out g (encI n) := by
  have p0 : w.cell? ⟨p, o, none⟩ = some (.int .i64 n) := hv.cell (f := 0) (by simp)
  have hlp := hv.lt
  have S0 := (Cod.start h).alloc (Obj.cells #[Value.int IntKind.i64 n] 3)
  have v1 := var_new w #[Value.int IntKind.i64 n] 3 (by decide) (by decide)
  go_enter Tryz.func80, Tryz.ntmps80
  go_wp2_with fail
  generalize w.alloc (Obj.cells #[Value.int IntKind.i64 n] 3) = w1 at S0 v1 ⊢
  refine (numWrite_c S0.writes n hn v1 (by omega)).mono ?_
  rintro e w2 ⟨rfl, hW⟩
  obtain ⟨L2, g2, S2⟩ := S0.then hW
  have hv2 := S2.var h hv
  obtain ⟨g', hw', k', -⟩ := hW
  have v2 := v1.wrote (more := []) S0.writes k'
  have z1 : w2.cell? ⟨w.heap.size, 0, none⟩ = some (.int .i64 n) := v2.cell (f := 0) (by simp)
  have l1 := v2.lt
  have z2 : w2.cell? ⟨p, o, none⟩ = some (.int .i64 n) := hv2.cell (f := 0) (by simp)
  have l2 := hv2.lt
  have f2 : w2.frozen? ⟨p, o, none⟩ = false := hv2.frozen
  have e2 := setCell_same' z2
  have HS := Lib.hid S2.done
  clear p0 S0 v1 S2 hw' k'
  go_wp2
  have hd := HS.out
  rw [List.nil_append] at hd
  exact bodyPost_end (v := .tuple #[]) (by simp [results, Tryz.results80]) rfl ⟨rfl, hd⟩

set_option maxRecDepth 100000 in
set_option maxHeartbeats 1600000 in
theorem crcW_c {w : World} {c p o : Nat} {out : List UInt8} {g : Option Nat} (h : Writes w c out g) (n : Nat) (hn : n < 4294967296) (hv : Var w p o [.int .u32 n]) (hm : out.length ≤ 80000000000000) :
    Calls Tryz.prog 143 #[.pointer (some ⟨c, 0, none⟩), .pointer (some ⟨p, o, none⟩)] w fun e w' => e = .returned (.tuple #[]) ∧ Wrote w w' c out g (leB 4 n) := by
  have p0 : w.cell? ⟨p, o, none⟩ = some (.int .u32 n) := hv.cell (f := 0) (by simp)
  have hlp := hv.lt
  have e1 : (n : Int) % 18446744073709551616 = (n : Int) := by omega
  have e1' : IntKind.u64.wrap (n : Int) = (n : Int) := by rw [← e1]; simp [IntKind.wrap, IntKind.bits, IntKind.signed]
  have e3 : (n : Int) % 4294967296 = (n : Int) := by omega
  have e3' : IntKind.u32.wrap (n : Int) = (n : Int) := by simp [IntKind.wrap, IntKind.bits, IntKind.signed]; omega
  go_enter Tryz.func143, Tryz.ntmps143
  go_wp2_with fail
  refine (wordWrite_c h n 4 (by omega) (by omega) (by omega)).mono ?_
  rintro e w1 ⟨rfl, hw⟩
  have hW := hw
  obtain ⟨g1, hw1, k1, -⟩ := hw
  have hv1 := hv.wrote (more := []) h k1
  have z1 : w1.cell? ⟨p, o, none⟩ = some (.int .u32 n) := hv1.cell (f := 0) (by simp)
  have f1 : w1.frozen? ⟨p, o, none⟩ = false := hv1.frozen
  have l1 := hv1.lt
  have e4 := setCell_same' z1
  have HW := Lib.hid hW
  clear hW p0 hw1
  go_wp2
  exact bodyPost_end (v := .tuple #[]) (by simp [results, Tryz.results143]) rfl ⟨rfl, HW.out⟩

set_option maxRecDepth 100000 in
set_option maxHeartbeats 1600000 in
/-- The document's Bytes. -/
theorem bytesRef_c {w : World} {v : Value} {out : List UInt8} {g : Option Nat} (h : Own w 5 1 v out.length (out.map bv) g) {u : Value} {bs : List UInt8} {gb : Option Nat} (hr : Reads w 1 u bs.length (bs.map bv) gb) (hgb : ∀ k, gb = some k → g ≠ some k) (hm : out.length + bs.length ≤ 90000000000000) :
    Calls Tryz.prog 92 #[v, u] w fun e w' => ∃ v', e = .returned v' ∧ Grew w w' v' out g (leB 4 bs.length ++ bs) := by
  obtain ⟨i0, hi, hz0, hz1, hz2⟩ := info_all u8info
  obtain ⟨a, cp, rfl, hc⟩ := hr.shape
  obtain ⟨ao, co, rfl, -, -⟩ := h.shape
  go_enter Tryz.func92, Tryz.ntmps92
  go_wp2_with fail
  refine (countRef_c h bs.length (by omega)).mono ?_
  rintro e w1 ⟨v1, rfl, g1, o1, k1, hg1⟩
  obtain ⟨a1, c1, rfl, -, -⟩ := o1.shape
  have r1 := hr.kept k1 (fun k hk h => hgb k hk h)
  obtain ⟨L, hL⟩ : ∃ L, L = out ++ leB 4 bs.length := ⟨_, rfl⟩
  have hLl : L.length ≤ out.length + 4 := by rw [hL, List.length_append, leB_length]; omega
  rw [← hL] at o1 ⊢
  have HL := Lib.hid hL
  clear hL
  go_wp2_with (at_builtin; refine wpList_append_Own rfl _ _ 41 41 rfl 5 i0 (.int .u8 0) 1 1 Tryz.underlying41 hi hz0 hz1 hz2 rfl rfl o1 rfl (by exact Reads.src r1 Tryz.underlying41 (bv_one _)) (by unfold maxLen; omega) (by omega) ?_; intro a5 k5 w5 g5 hown5 hk5 hg5)
  go_ret
  have e9 : L.map bv ++ bs.map bv = (out ++ (leB 4 bs.length ++ bs)).map bv := by rw [← List.append_assoc, ← HL.out, List.map_append]
  have e8 : L.length + bs.length = (out ++ (leB 4 bs.length ++ bs)).length := by rw [← List.append_assoc, ← HL.out, List.length_append]
  have s1 := k1.size
  refine ⟨_, rfl, g5, ?_, k1.thn hk5 (fun i hi => hg1 i hi), fun k hk => ?_⟩
  · rw [← e9, ← e8]; exact hown5
  · rcases hg5 k hk with h | h
    · exact hg1 k h
    · exact .inr (by omega)

end Go.Proofs.YtanmfldgillodaaGreat
