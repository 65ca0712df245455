/- Texts, bytes, error numbers and checksums: read by the codec, of any bytes. -/
import Derived.Test.YtanmfldgillodaaGreatTx0
import Derived.Test.YtanmfldgillodaaGreatRg1
set_option linter.unusedSimpArgs false
set_option linter.unusedVariables false
namespace Go.Proofs.YtanmfldgillodaaGreat
open Go.RowKit

/-- A text: bytes, their count ahead. -/
def pT : Pr ByteArray := fun bs => (pB bs).bind fun y => some (⟨y.1.toArray⟩, y.2)
theorem lawT : Law pT encT (fun s => s.size < 4294967296) := by
  refine ⟨fun x rest hx => ?_, fun bs x rest h => ?_, fun x => by rw [encT_length]; omega⟩
  · have h1 := lawB.enc x.data.toList rest (by simpa using hx)
    have e : encT x = encBy x.data.toList := by unfold encT encBy; simp
    unfold pT
    rw [e, h1]
    simp
  · unfold pT at h
    obtain ⟨⟨y, r⟩, h1, h2⟩ := Option.bind_eq_some_iff.1 h
    simp only [Option.some.injEq, Prod.mk.injEq] at h2
    obtain ⟨rfl, rfl⟩ := h2
    obtain ⟨h3, h4⟩ := lawB.dec _ _ _ h1
    refine ⟨?_, by simpa [ByteArray.size] using h4⟩
    rw [h3]
    unfold encT encBy
    simp [ByteArray.size]

/-- A word of four bytes. -/
theorem lawW : Law (pW 4) (leB 4) (fun n => n < 4294967296) := by
  refine ⟨fun x rest hx => ?_, fun bs x rest h => ?_, fun x => by rw [leB_length]; omega⟩
  · rw [pW_app _ _ (leB_length 4 x), leN_leB, Nat.mod_eq_of_lt (by omega : x < 256 ^ 4)]
  · obtain ⟨a, ha, rfl, rfl⟩ := pW_some h
    have := leN_lt a
    rw [ha] at this
    exact ⟨by rw [leB_of ha], by omega⟩

set_option maxRecDepth 100000 in
set_option maxHeartbeats 1600000 in
theorem bytesG_c {w : World} {c p o : Nat} {bs : List UInt8} {g : Option Nat} {cur : Array Value} {t : TypeId} (h : Rd w c bs g) (hgl : ∀ k, g = some k → k < w.heap.size) (hb : Blk w p cur t c g) {az : Option Addr} {cz : Nat} (hz : cur[o]? = some (.slice az 0 cz)) :
    Calls Tryz.prog 141 #[.pointer (some ⟨c, 0, none⟩), .pointer (some ⟨p, o, none⟩)] w (Got (sliceIs 1 byteIs) pB bs w c p o g cur t) := by
  obtain ⟨i0, hi, hz0, hz1, hz2⟩ := info_all u8info
  have p0 : w.cell? ⟨p, o, none⟩ = some (.slice az 0 cz) := (cell_in hb.heap).trans hz
  have hlp := lt_in hb.heap
  have hlc := h.lt
  go_enter Tryz.func141, Tryz.ntmps141
  go_wp2_with fail
  refine (countG_c h).mono ?_
  rintro e w1 ⟨k1, ⟨n, r, hp1, rfl, h1⟩ | ⟨hp1, rfl⟩⟩
  rotate_left
  · exact ⟨rfl, k1.mono (fun _ _ h => .inl h), .inl ⟨by unfold pB; rw [hp1]; rfl, rfl, (hb.kept k1 hb.ne).was⟩⟩
  obtain ⟨-, hn32, hnr⟩ := pC_some hp1
  have HP : Hid (pB bs = some (r.take n, r.drop n)) := Lib.hid (by unfold pB; rw [hp1]; rfl)
  obtain ⟨vi, q1, ri⟩ := h1.ex
  obtain ⟨ai, ci, rfl, hci⟩ := ri.shape
  have hsm := h1.small
  have hni : (n : Int) ≤ (r.length : Int) := by omega
  obtain ⟨a2, c2, hsl, hrd⟩ := ri.sliceTo_run (P := Tryz.prog) (t := 41) (hi := (n : Int)) (k := n) Tryz.underlying41 u8size hci rfl (by omega)
  obtain ⟨a3, c3, hsf, hrf⟩ := ri.sliceFrom_run (P := Tryz.prog) (t := 41) (lo := (n : Int)) Tryz.underlying41 u8size hci (by omega) (by omega)
  rw [Int.toNat_natCast] at hsf hrf
  obtain ⟨X, hX⟩ : ∃ X, X = r.take n := ⟨_, rfl⟩
  have hXl : X.length = n := by rw [hX, List.length_take]; omega
  obtain ⟨Y, hY⟩ : ∃ Y, Y = r.drop n := ⟨_, rfl⟩
  have hYl : Y.length = r.length - n := by rw [hY, List.length_drop]
  rw [Nat.mul_one, ← List.map_take, ← hX] at hrd
  rw [Nat.mul_one, ← List.map_drop, ← hY] at hrf
  rw [← hX, ← hY] at HP
  have hb1 := hb.kept k1 hb.ne
  have p1 : w1.cell? ⟨p, o, none⟩ = some (.slice az 0 cz) := (cell_in hb1.heap).trans hz
  have f1 : w1.frozen? ⟨p, o, none⟩ = false := frozen_in hb1.heap
  have lp1 := lt_in hb1.heap
  have z1 : w1.cell? ⟨c, 1, none⟩ = some (.slice ai r.length ci) := cell_in q1
  have z2 : w1.cell? ⟨c, 2, none⟩ = some (.bool true) := cell_in q1
  have lc1 := lt_in q1
  have s1 := k1.size
  have hpc := hb.ne
  have Q1 := Lib.hid q1
  have HXl := Lib.hid hXl
  have HYl := Lib.hid hYl
  have HR := Lib.hid hrf
  have HB := Lib.hid hb1
  clear q1 p0 hp1 hX hY ri h1 hXl hYl hrf hb1
  go_wp2_with (at_builtin; refine wpList_append_Own rfl _ _ 41 41 rfl 5 i0 (.int .u8 0) 1 1 Tryz.underlying41 hi hz0 hz1 hz2 rfl rfl (Own.nil _ _ _) rfl (by exact Reads.src hrd Tryz.underlying41 (bv_one _)) (by unfold maxLen; omega) (by omega) ?_; intro a5 k5 w5 g5 hown5 hk5 hg5; have hbp5 : w5.heap[p]? = _ := (hk5.block _ lp1 (by simp)).trans HB.out.heap; have hbc5 : w5.heap[c]? = _ := (hk5.block _ lc1 (by simp)).trans Q1.out; have y1 := cell_in (k := o) hbp5; rw [hz] at y1; have y2 := frozen_in (k := o) hbp5; have y3 := lt_in hbp5; have y4 : w5.cell? ⟨c, 1, none⟩ = some (.slice ai r.length ci) := cell_in hbc5; have y5 := frozen_in (k := 1) hbc5; have y6 := lt_in hbc5; have HP5 := Lib.hid hbp5; have HC5 := Lib.hid hbc5; clear hbp5 hbc5)
  simp only [Nat.zero_add, List.nil_append] at hown5
  have hX := HXl.out
  have hY := HYl.out
  have hsz5 := hk5.size
  have kp : Kept (· = p) w5 (w5.setCell ⟨p, o, none⟩ (.slice a5 n k5)) := Kept.setCell _ _ _ rfl
  have q1 := heap_setCell_same (o := o) HP5.out (.slice a5 n k5)
  have q2 := (kp.block _ (lt_in HC5.out) (fun e => hpc e.symm)).trans HC5.out
  generalize w5.setCell ⟨p, o, none⟩ (.slice a5 n k5) = w6 at kp q1 q2 ⊢
  have kc : Kept (· = c) w6 (w6.setCell ⟨c, 1, none⟩ (.slice a3 (r.length - n) c3)) := Kept.setCell _ _ _ rfl
  have q3 := heap_setCell_same (o := 1) q2 (.slice a3 (r.length - n) c3)
  have q4 := (kc.block _ (lt_in q1) hpc).trans q1
  generalize w6.setCell ⟨c, 1, none⟩ (.slice a3 (r.length - n) c3) = w7 at kc q3 q4 ⊢
  have hng : ∀ k, g = some k → k ≠ p := fun k hk e => hb.neg (by rw [hk, e])
  have rY := ((HR.out.kept hk5 (fun _ _ h => by cases h)).kept kp hng).kept kc h.ne
  have hg5' : ∀ k, g5 = some k → w1.heap.size ≤ k := fun k hk => by
    rcases hg5 k hk with h | h
    · cases h
    · exact h
  have oX := (hown5.kept kp (fun k hk e => by have := hg5' k hk; omega)).kept kc (fun k hk e => by have := hg5' k hk; omega)
  have s6 := kp.size
  have s7 := kc.size
  have K7 : Kept (fun k => k = c ∨ k = p) w w7 := (((k1.mono (fun _ _ h => .inl h)).trans (hk5.mono (fun _ _ h => by cases h))).trans (kp.mono (fun _ _ h => .inr h))).trans (kc.mono (fun _ _ h => .inl h))
  have hlen5 := hown5.shape
  refine bodyPost_end (v := .tuple #[]) (by simp [results, Tryz.results141]) rfl ⟨K7, .inr ⟨X, Y, _, [.slice a5 n k5], HP.out, rfl, ⟨⟨_, q3, by rw [hY]; exact rY⟩, h.ne, by omega⟩, ⟨q4, hb.ne, hb.neg⟩, Put.one _ _ _ (Array.getElem?_eq_some_iff.1 hz).1, _, rfl, ?_⟩⟩
  have oX' := oX.reads
  rw [← hX] at oX' hlen5 ⊢
  refine reads_list oX' (fun k hk => ⟨by have := hg5' k hk; omega, oX.lt k hk⟩) (fun a' c' he => ?_)
  obtain ⟨a'', c'', e1, e2, e3⟩ := hlen5
  simp only [Value.slice.injEq] at he e1
  obtain ⟨-, -, rfl⟩ := he
  obtain ⟨-, -, rfl⟩ := e1
  exact ⟨e2, e3⟩

set_option maxRecDepth 100000 in
set_option maxHeartbeats 1600000 in
theorem textG_c {w : World} {c p o : Nat} {bs : List UInt8} {g : Option Nat} {cur : Array Value} {t : TypeId} (h : Rd w c bs g) (hgl : ∀ k, g = some k → k < w.heap.size) (hb : Blk w p cur t c g) (hz : cur[o]? = some (.string ⟨#[]⟩)) :
    Calls Tryz.prog 79 #[.pointer (some ⟨c, 0, none⟩), .pointer (some ⟨p, o, none⟩)] w (Got textIs pT bs w c p o g cur t) := by
  have p0 : w.cell? ⟨p, o, none⟩ = some (.string ⟨#[]⟩) := (cell_in hb.heap).trans hz
  have hlp := lt_in hb.heap
  have hlc := h.lt
  have hcv := Go.Lib.run_convert_string_bytes (P := Tryz.prog) w 9 41 5 ⟨#[]⟩ Tryz.underlying9 Tryz.underlying41 Tryz.underlying5
  have hKB := bytesWorld_kept (fun _ => False) w 5 ⟨#[]⟩
  have hSB := Go.Lib.bytesWorld_size w 5 ⟨#[]⟩
  generalize Go.Lib.bytesWorld w 5 ⟨#[]⟩ = wb at hcv hKB hSB
  obtain ⟨cap, hcap⟩ : ∃ cap, cap = grownCap w (⟨#[]⟩ : ByteArray).size 0 5 := ⟨_, rfl⟩
  rw [← hcap] at hcv
  have hs0 : (⟨#[]⟩ : ByteArray).size = 0 := rfl
  rw [hs0] at hcv
  clear hcap
  go_enter Tryz.func79, Tryz.ntmps79
  go_wp2_with fail
  have x1 : (wb.alloc (Obj.cells #[Value.slice (some ⟨w.heap.size, 0, none⟩) 0 cap] 41)).heap[wb.heap.size]? = some (Obj.cells #[Value.slice (some ⟨w.heap.size, 0, none⟩) 0 cap] 41) := heap_alloc_new' _ _
  rw [hSB] at x1
  have k1 : Kept (fun _ => False) w (wb.alloc (Obj.cells #[Value.slice (some ⟨w.heap.size, 0, none⟩) 0 cap] 41)) := hKB.al _
  have s1 : (wb.alloc (Obj.cells #[Value.slice (some ⟨w.heap.size, 0, none⟩) 0 cap] 41)).heap.size = w.heap.size + 1 + 1 := by simp [hSB]
  generalize wb.alloc (Obj.cells #[Value.slice (some ⟨w.heap.size, 0, none⟩) 0 cap] 41) = w1 at x1 k1 s1 ⊢
  have h1 : Rd w1 c bs g := h.kept k1
  have b1 : Blk w1 (w.heap.size + 1) #[Value.slice (some ⟨w.heap.size, 0, none⟩) 0 cap] 41 c g := ⟨x1, by omega, fun e => by have := hgl _ e; omega⟩
  refine (bytesG_c (o := 0) h1 (fun k hk => by have := hgl k hk; omega) b1 rfl).mono ?_
  have hbp1 := hb.kept k1 (fun h => h)
  rintro e w2 ⟨k2, ⟨hp, rfl, -⟩ | ⟨X, r, cur2, cs2, hp, rfl, h2, b2, put2, v2, rfl, l2⟩⟩
  · exact ⟨rfl, (k1.mono (fun _ _ h => h.elim)).thn k2 (fun i hi => by rcases hi with rfl | rfl; exact .inl (.inl rfl); exact .inr (by omega)), .inl ⟨by unfold pT; rw [hp]; rfl, rfl, (hbp1.kept k2 (fun e => by rcases e with e | e; exact hb.ne e; omega)).was⟩⟩
  have hbp2 := hbp1.kept k2 (fun e => by rcases e with e | e; exact hb.ne e; omega)
  obtain ⟨gx, rx, -⟩ := l2.reads
  have hst := Reads.string_run (P := Tryz.prog) rx Tryz.underlying41 Tryz.underlying5 Tryz.underlying9
  obtain ⟨ax, cx, rfl, -⟩ := l2.shape
  have zb : w2.cell? ⟨w.heap.size + 1, 0, none⟩ = some (.slice ax X.length cx) := (cell_in b2.heap).trans (by simpa using put2.at_ 0 (by simp))
  have lb := lt_in b2.heap
  have zp : w2.cell? ⟨p, o, none⟩ = some (.string ⟨#[]⟩) := (cell_in hbp2.heap).trans hz
  have fp : w2.frozen? ⟨p, o, none⟩ = false := frozen_in hbp2.heap
  have lp2 := lt_in hbp2.heap
  have HPT : Hid (pT bs = some (⟨X.toArray⟩, r)) := Lib.hid (by unfold pT; rw [hp]; rfl)
  have HB := Lib.hid hbp2
  obtain ⟨sx, hsx⟩ : ∃ sx : ByteArray, sx = ⟨X.toArray⟩ := ⟨_, rfl⟩
  rw [← hsx] at hst HPT
  clear p0 hcv x1 h1 b1 hbp1 hbp2 rx l2 hp b2 put2 hsx
  go_wp2
  have kp : Kept (· = p) w2 (w2.setCell ⟨p, o, none⟩ (.string sx)) := Kept.setCell _ _ _ rfl
  have q1 := heap_setCell_same (o := o) HB.out.heap (.string sx)
  generalize w2.setCell ⟨p, o, none⟩ (.string sx) = w3 at kp q1 ⊢
  have K3 : Kept (fun k => k = c ∨ k = p) w w3 := ((k1.mono (fun _ _ h => h.elim)).thn k2 (fun i hi => by rcases hi with rfl | rfl; exact .inl (.inl rfl); exact .inr (by omega))).trans (kp.mono (fun _ _ h => .inr h))
  exact bodyPost_end (v := .tuple #[]) (by simp [results, Tryz.results79]) rfl ⟨K3, .inr ⟨sx, r, _, [.string sx], HPT.out, rfl, h2.kept kp (fun e => hb.ne e.symm) (fun k hk e => hb.neg (by rw [hk, e])), ⟨q1, hb.ne, hb.neg⟩, Put.one _ _ _ (Array.getElem?_eq_some_iff.1 hz).1, rfl⟩⟩

set_option maxRecDepth 100000 in
set_option maxHeartbeats 1600000 in
theorem errnoG_c {w : World} {c p o : Nat} {bs : List UInt8} {g : Option Nat} {cur : Array Value} {t : TypeId} (h : Rd w c bs g) (hgl : ∀ k, g = some k → k < w.heap.size) (hb : Blk w p cur t c g) (hz : cur[o]? = some (.int .i64 0)) :
    Calls Tryz.prog 80 #[.pointer (some ⟨c, 0, none⟩), .pointer (some ⟨p, o, none⟩)] w (Got intIs pI bs w c p o g cur t) := by
  have p0 : w.cell? ⟨p, o, none⟩ = some (.int .i64 0) := (cell_in hb.heap).trans hz
  have hlp := lt_in hb.heap
  have hlc := h.lt
  go_enter Tryz.func80, Tryz.ntmps80
  go_wp2_with fail
  have x1 : (w.alloc (Obj.cells #[Value.int IntKind.i64 0] 3)).heap[w.heap.size]? = some (Obj.cells #[Value.int IntKind.i64 0] 3) := heap_alloc_new' _ _
  have k1 : Kept (fun _ => False) w (w.alloc (Obj.cells #[Value.int IntKind.i64 0] 3)) := Kept.alloc _ _ _
  have s1 : (w.alloc (Obj.cells #[Value.int IntKind.i64 0] 3)).heap.size = w.heap.size + 1 := by simp
  generalize w.alloc (Obj.cells #[Value.int IntKind.i64 0] 3) = w1 at x1 k1 s1 ⊢
  have h1 : Rd w1 c bs g := h.kept k1
  have b1 : Blk w1 w.heap.size #[Value.int IntKind.i64 0] 3 c g := ⟨x1, by omega, fun e => by have := hgl _ e; omega⟩
  refine (numI_c (o := 0) (m := 0) h1 b1 rfl).mono ?_
  have hbp1 := hb.kept k1 (fun h => h)
  rintro e w2 ⟨k2, ⟨hp, rfl, -⟩ | ⟨X, r, cur2, cs2, hp, rfl, h2, b2, put2, rfl, hin⟩⟩
  · exact ⟨rfl, (k1.mono (fun _ _ h => h.elim)).thn k2 (fun i hi => by rcases hi with rfl | rfl; exact .inl (.inl rfl); exact .inr (by omega)), .inl ⟨hp, rfl, (hbp1.kept k2 (fun e => by rcases e with e | e; exact hb.ne e; omega)).was⟩⟩
  have hbp2 := hbp1.kept k2 (fun e => by rcases e with e | e; exact hb.ne e; omega)
  have zb : w2.cell? ⟨w.heap.size, 0, none⟩ = some (.int .i64 X) := (cell_in b2.heap).trans (by simpa using put2.at_ 0 (by simp))
  have lb := lt_in b2.heap
  have zp : w2.cell? ⟨p, o, none⟩ = some (.int .i64 0) := (cell_in hbp2.heap).trans hz
  have fp : w2.frozen? ⟨p, o, none⟩ = false := frozen_in hbp2.heap
  have lp2 := lt_in hbp2.heap
  have HPT := Lib.hid hp
  have HB := Lib.hid hbp2
  clear p0 x1 h1 b1 hbp1 hbp2 hp b2 put2
  go_wp2
  have kp : Kept (· = p) w2 (w2.setCell ⟨p, o, none⟩ (.int .i64 X)) := Kept.setCell _ _ _ rfl
  have q1 := heap_setCell_same (o := o) HB.out.heap (.int .i64 X)
  generalize w2.setCell ⟨p, o, none⟩ (.int .i64 X) = w3 at kp q1 ⊢
  have K3 : Kept (fun k => k = c ∨ k = p) w w3 := ((k1.mono (fun _ _ h => h.elim)).thn k2 (fun i hi => by rcases hi with rfl | rfl; exact .inl (.inl rfl); exact .inr (by omega))).trans (kp.mono (fun _ _ h => .inr h))
  exact bodyPost_end (v := .tuple #[]) (by simp [results, Tryz.results80]) rfl ⟨K3, .inr ⟨X, r, _, [.int .i64 X], HPT.out, rfl, h2.kept kp (fun e => hb.ne e.symm) (fun k hk e => hb.neg (by rw [hk, e])), ⟨q1, hb.ne, hb.neg⟩, Put.one _ _ _ (Array.getElem?_eq_some_iff.1 hz).1, rfl, hin⟩⟩

set_option maxRecDepth 100000 in
set_option maxHeartbeats 1600000 in
theorem crcG_c {w : World} {c p o : Nat} {bs : List UInt8} {g : Option Nat} {cur : Array Value} {t : TypeId} (h : Rd w c bs g) (hb : Blk w p cur t c g) (hz : cur[o]? = some (.int .u32 0)) :
    Calls Tryz.prog 143 #[.pointer (some ⟨c, 0, none⟩), .pointer (some ⟨p, o, none⟩)] w (Got crcIs (pW 4) bs w c p o g cur t) := by
  have p0 : w.cell? ⟨p, o, none⟩ = some (.int .u32 0) := (cell_in hb.heap).trans hz
  have hlp := lt_in hb.heap
  go_enter Tryz.func143, Tryz.ntmps143
  go_wp2_with fail
  refine (wordG_c 0 4 (by omega) h).mono ?_
  rintro e w1 ⟨k1, ⟨V, r, hp, rfl, H1⟩ | ⟨hp, rfl⟩⟩
  rotate_left
  · exact ⟨rfl, k1.mono (fun _ _ h => .inl h), .inl ⟨hp, rfl, (hb.kept k1 hb.ne).was⟩⟩
  have hV := (lawW.dec _ _ _ hp).2
  have e3 : (V : Int) % 4294967296 = (V : Int) := by omega
  have e3' : IntKind.u32.wrap (V : Int) = (V : Int) := by simp [IntKind.wrap, IntKind.bits, IntKind.signed]; omega
  have hb1 := hb.kept k1 hb.ne
  have z1 : w1.cell? ⟨p, o, none⟩ = some (.int .u32 0) := (cell_in hb1.heap).trans hz
  have f1 : w1.frozen? ⟨p, o, none⟩ = false := frozen_in hb1.heap
  have l1 := lt_in hb1.heap
  have HPT := Lib.hid hp
  have HB := Lib.hid hb1
  clear p0 hp hb1
  go_wp2
  have kp : Kept (· = p) w1 (w1.setCell ⟨p, o, none⟩ (.int .u32 V)) := Kept.setCell _ _ _ rfl
  have q1 := heap_setCell_same (o := o) HB.out.heap (.int .u32 V)
  generalize w1.setCell ⟨p, o, none⟩ (.int .u32 V) = w3 at kp q1 ⊢
  have K3 : Kept (fun k => k = c ∨ k = p) w w3 := (k1.mono (fun _ _ h => .inl h)).trans (kp.mono (fun _ _ h => .inr h))
  exact bodyPost_end (v := .tuple #[]) (by simp [results, Tryz.results143]) rfl ⟨K3, .inr ⟨V, r, _, [.int .u32 V], HPT.out, rfl, H1.kept kp (fun e => hb.ne e.symm) (fun k hk e => hb.neg (by rw [hk, e])), ⟨q1, hb.ne, hb.neg⟩, Put.one _ _ _ (Array.getElem?_eq_some_iff.1 hz).1, rfl, hV⟩⟩

end Go.Proofs.YtanmfldgillodaaGreat
