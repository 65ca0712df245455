/- The codec's readers of the structs of a map, at any bytes. -/
import Derived.Test.YtanmfldgillodaaGreatPr1
set_option linter.unusedSimpArgs false
set_option linter.unusedVariables false
namespace Go.Proofs.YtanmfldgillodaaGreat
open Go.RowKit

theorem reads_allocN (w : World) (l : List Value) (t : TypeId) (size : Nat) (h : l.length = 1 * size) : Reads (w.alloc (.cells l.toArray t)) size (.slice (some ⟨w.heap.size, 0, none⟩) 1 1) 1 l (some w.heap.size) :=
  ⟨h, .inr ⟨w.heap.size, 0, 1, rfl, rfl, Nat.le_refl _, by decide, fun j hj => by rw [cell_in (heap_alloc_new' w _)]; simp⟩⟩


theorem info_int : (Tryz.prog.info? 3).map (fun i => (i.zero, i.size, i.bytes)) = some (some (Value.int IntKind.i64 0), 1, 8) := by kernel_rfl

set_option maxRecDepth 100000 in
set_option maxHeartbeats 1600000 in
theorem listintG_c {w : World} {c p o : Nat} {bs : List UInt8} {g : Option Nat} {cur : Array Value} {t : TypeId} (h : Rd w c bs g) (hgl : ∀ k, g = some k → k < w.heap.size) (hb : Blk w p cur t c g) (hz : cur[o]? = some (.slice none 0 0)) :
    Calls Tryz.prog 150 #[.pointer (some ⟨c, 0, none⟩), .pointer (some ⟨p, o, none⟩), .func (.func 63) #[.pointer (some ⟨c, 0, none⟩)] #[]] w (Got (sliceIs 1 intIs) (pL pI) bs w c p o g cur t) := by
  obtain ⟨i0, hi0, hz0, hz1, hz2⟩ := info_all info_int
  have p0 : w.cell? ⟨p, o, none⟩ = some (.slice none 0 0) := (cell_in hb.heap).trans hz
  have hlp := lt_in hb.heap
  have hlc := h.lt
  go_enter Tryz.func150, Tryz.ntmps150
  go_wp2_with fail
  refine (countG_c h).mono ?_
  rintro e w1 ⟨k1, ⟨n, r1, hp1, rfl, h1⟩ | ⟨hp1, rfl⟩⟩
  rotate_left
  · exact ⟨rfl, k1.mono (fun _ _ h => .inl h), .inl ⟨by unfold pL; rw [hp1]; rfl, rfl, (hb.kept k1 hb.ne).was⟩⟩
  have hb1 := hb.kept k1 hb.ne
  have p1 : w1.cell? ⟨p, o, none⟩ = some (.slice none 0 0) := (cell_in hb1.heap).trans hz
  have f1 : w1.frozen? ⟨p, o, none⟩ = false := frozen_in hb1.heap
  have lp1 := lt_in hb1.heap
  have c2 : w1.cell? ⟨c, 2, none⟩ = some (.bool true) := by
    obtain ⟨vi, h2, -⟩ := h1.ex
    exact cell_in h2
  have lc1 := h1.lt
  have e1 := setCell_same' p1
  have L0 := Lst.start intIs 1 3 hb1 hz k1
  have hn32 := (pC_some hp1).2.1
  have HP1 : Hid (pL pI bs = pN pI n r1) := Lib.hid (by unfold pL; rw [hp1]; rfl)
  clear p0 hb1 hp1
  go_wp2
  go_loopw [37] (fun i w' => ∃ (k : Nat) (v : Value) (xs : List Int) (Ls : List (List Value)) (r : List UInt8) (g' : Option Nat), k ≤ n ∧ i = .int .i64 k ∧ xs.length = k ∧ Hid (pN pI n r1 = (pN pI (n - k) r).bind (fun z => some (xs ++ z.1, z.2))) ∧ Rd w' c r g ∧ Lst intIs 1 3 w w' c p o g cur t v xs Ls g') (fun i _ => n - (intOf i).toNat)
  case atStart => exact ⟨0, _, [], [], r1, none, by omega, rfl, rfl, Lib.hid (by rw [Nat.sub_zero]; exact (bind_eta _).symm), h1, L0⟩
  case round =>
    obtain ⟨k, v, xs, Ls, r, g', hk, rfl, rfl, HP, hr, L⟩ := hrel
    by_cases hk2 : xs.length < n
    · have hki : (xs.length : Int) < (n : Int) := by omega
      obtain ⟨a, cp, rfl, hcp, -⟩ := L.own.shape
      obtain ⟨curp, hbp, hvp⟩ := L.cell
      have pr : wr.cell? ⟨p, o, none⟩ = some (.slice a xs.length cp) := (cell_in hbp).trans hvp
      have lpr := lt_in hbp
      have hsw := L.kept.size
      go_wp2_with fail
      have ka := Kept.alloc (fun _ => False) wr (Obj.cells #[Value.int IntKind.i64 0] 3)
      have hq : (wr.alloc (Obj.cells #[Value.int IntKind.i64 0] 3)).heap[wr.heap.size]? = some (Obj.cells #[Value.int IntKind.i64 0] 3) := heap_alloc_new' _ _
      have ra : Rd (wr.alloc (Obj.cells #[Value.int IntKind.i64 0] 3)) c r g := hr.kept ka
      have sa : (wr.alloc (Obj.cells #[Value.int IntKind.i64 0] 3)).heap.size = wr.heap.size + 1 := by simp
      generalize wr.alloc (Obj.cells #[Value.int IntKind.i64 0] 3) = wa at ka hq ra sa ⊢
      have bq : Blk wa wr.heap.size #[Value.int IntKind.i64 0] 3 c g := ⟨hq, by omega, fun e => by have := hgl _ e; omega⟩
      refine (numI_c ra bq (m := 0) rfl).mono ?_
      rintro e w2 ⟨k2, ⟨hp2, rfl, -⟩ | ⟨x, r2, cur2, cs, hp2, rfl, h2, b2, put2, hx⟩⟩
      · exact ⟨rfl, (L.kept.trans (ka.mono (fun _ _ h => h.elim))).thn k2 (fun i hi => by rcases hi with rfl | rfl; exact .inl (.inl rfl); exact .inr hsw), .inl ⟨by rw [HP1.out]; exact pN_stop hk2 HP.out hp2, rfl, L.was.kept ka k2 (fun h => h) (fun h => by rcases h with h | h; exact hb.ne h; omega)⟩⟩
      have k02 : Kept (· = c) wr w2 := (ka.mono (fun _ _ h => h.elim)).thn k2 (fun i hi => by rcases hi with rfl | rfl; exact .inl rfl; exact .inr (Nat.le_refl _))
      have hxn : intIs w2 (New wr w2) cs x := intIs_stable _ _ _ _ _ _ hx (fun k hk => ⟨by have := hk.1; omega, hk.2⟩) (fun _ _ => rfl)
      obtain ⟨rfl, -⟩ := hx
      have y0 : w2.cell? ⟨wr.heap.size, 0, none⟩ = some (Value.int IntKind.i64 x) := (cell_in b2.heap).trans (by have := put2.at_ 0 (by simp); simpa using this)
      have lq2 := lt_in b2.heap
      have HP2 := Lib.hid (pN_next hk2 HP.out hp2)
      have bp2 : w2.heap[p]? = some (.cells curp t) := (k02.block _ lpr hb.ne).trans hbp
      have HBP := Lib.hid bp2
      have lp2 := lt_in bp2
      have hpq : p ≠ wr.heap.size := by omega
      have own2 := L.own.kept k02 (fun k hk e => by have := L.new k hk; omega)
      clear ka hq ra bq hbp pr HP hp2 bp2
      go_wp2
      refine wp_region_ordJ (fun w' => w'.heap[p]? = some (.cells curp t)) [4] [0, 1, 2, 3] [5, 6] [7, 8] (by kernel_rfl) (by kernel_rfl) (fun _ _ d _ _ h => by cases d <;> exact h) (fun k => HBP.out) ?_
      simp only [sel, List.filterMap_cons, List.filterMap_nil, List.getElem?_cons_zero, List.getElem?_cons_succ]
      repeat (quiet_step (fail))
      refine wpQuiet_nil ?_
      refine wpHeld_step (fun K hK => ?_)
      go_simp
      refine ⟨_, fun _ _ => rfl, hK _ ?_⟩
      refine wpHeld_step (fun K hK => ?_)
      go_simp
      refine ⟨_, fun _ _ => rfl, hK _ ?_⟩
      refine wpHeld_step (fun K hK => ?_)
      go_simp
      refine ⟨_, fun _ _ => rfl, hK _ ?_⟩
      refine wpHeld_step (fun K hK => ?_)
      go_simp
      refine ⟨.slice a xs.length cp, fun w' h => (by
        have h1 := (cell_in (k := o) h).trans hvp
        have h2 := lt_in h
        clear h
        go_simp), hK _ ?_⟩
      refine wpHeld_nil ?_
      rintro _ ⟨nr, rfl⟩
      have kd := Kept.drewN (fun _ => False) w2 nr
      have Q3 : Hid ((w2.drewN nr).heap[p]? = some (.cells curp t)) := Lib.hid HBP.out
      generalize w2.drewN nr = w3 at kd Q3 ⊢
      refine wpListS_step (fun K hK => ?_)
      go_simp
      have hA : (w3.alloc (Obj.cells #[Value.int IntKind.i64 x] 3)).heap[p]? = some (.cells curp t) := (Below.heap_alloc _ _ _ (lt_in Q3.out)).trans Q3.out
      refine hK _ _ hA ?_
      clear hK
      have k34 := kd.al (Obj.cells #[Value.int IntKind.i64 x] 3)
      have r4 := reads_allocN w3 [Value.int IntKind.i64 x] 3 1 rfl
      generalize w3.alloc (Obj.cells #[Value.int IntKind.i64 x] 3) = w4 at hA k34 r4 ⊢
      have own4 := own2.kept k34 (fun _ _ h => h)
      refine wpListS_append_Own rfl _ _ 156 156 rfl 3 i0 (Value.int IntKind.i64 0) 1 8 Tryz.underlying156 hi0 hz0 hz1 hz2 rfl rfl own4 rfl (r4.src Tryz.underlying156 (by intro u hu; simp only [List.mem_cons, List.not_mem_nil, or_false] at hu; rcases hu with rfl <;> rfl)) (by unfold maxLen; omega) (by omega) ?_
      intro a5 k5 w5 g5 hown5 hk5 hg5
      have hgp : g' ≠ some p := fun e => by have := L.new p e; omega
      have hA5 : w5.heap[p]? = _ := (hk5.block _ (lt_in hA) (fun h => hgp h)).trans hA
      refine ⟨hA5, ?_⟩
      refine wpListS_nil ?_
      have k04 : Kept (· = c) wr w4 := k02.trans (k34.mono (fun _ _ h => h.elim))
      have s4 := k34.size
      have hx4 : intIs w4 (New wr w4) _ x := intIs_stable _ _ _ _ _ _ hxn (fun k hk => ⟨hk.1, by have := hk.2; omega⟩) (fun k hk => k34.block k hk.2 (fun h => h))
      have LN := Lib.hid (L.grow intIs_stable (o := o) hlp hlc k04 hx4 rfl hown5 hk5 hg5)
      have RN := Lib.hid (Lst.rd L (w2 := w2) (o := o) (v4 := .slice a5 (xs.length + 1) k5) hlc hgl (h2.kept k34) hk5)
      have f0 : w5.frozen? ⟨p, o, none⟩ = false := frozen_in hA5
      have z5 := (cell_in (k := o) hA5).trans hvp
      have hl5 := lt_in hA5
      have HX2 : Hid ((xs ++ [x]).length = xs.length + 1) := Lib.hid (by rw [List.length_append]; rfl)
      clear hA5 hA hown5 own4 own2 r4 hk5 hg5 hx4 hxn
      go_wp2
      exact ⟨⟨xs.length + 1, _, xs ++ [x], _, r2, g5, by omega, by simp, HX2.out, HP2, RN.out, LN.out⟩, by simp [intOf]; omega⟩
    · obtain rfl : n = xs.length := by omega
      go_wp2
      obtain ⟨cur', hbl, hpu⟩ := L.blk
      exact bodyPost_end (v := .tuple #[]) (by simp [results, Tryz.results150]) rfl ⟨L.kept, .inr ⟨xs, r, cur', [v], by rw [HP1.out]; exact pN_end HP.out, rfl, hr, hbl, hpu, v, rfl, L.done intIs_stable (by omega)⟩⟩

set_option maxRecDepth 100000 in
set_option maxHeartbeats 1600000 in
theorem osdG_c {w : World} {c p o : Nat} {bs : List UInt8} {g : Option Nat} {cur : Array Value} {t : TypeId} (h : Rd w c bs g) (hgl : ∀ k, g = some k → k < w.heap.size) (hb : Blk w p cur t c g) (hz : ∀ f, f < 6 → cur[o + f]? = ([Value.bool false, Value.bool false, Value.int IntKind.i64 0, Value.int IntKind.i64 0, Value.int IntKind.i64 0, Value.int IntKind.i64 0] : List Value)[f]?) :
    Calls Tryz.prog 111 #[.pointer (some ⟨c, 0, none⟩), .pointer (some ⟨p, o, none⟩)] w (Got OsdT.Is pOsd bs w c p o g cur t) := by
  have hmf : ∀ (fn : Fn) (first cap : Array Value) (w : World), (Instr.makeFunc fn first cap).run Tryz.prog w = .ok (.func fn first cap) w := fun _ _ _ _ => rfl
  have hlp := lt_in hb.heap
  have hlc := h.lt
  go_enter Tryz.func111, Tryz.ntmps111
  have B0 := hb
  have H0 := h
  have P0 := Put.nil cur o
  have K0 := Kept.refl (fun k => k = c ∨ k = p) w
  have z0 := hz
  clear h hb
  go_wp2_with fail
  refine (flagI_c H0 B0 (by rw [P0.other (o) (by simp)]; exact hz 0 (by omega))).mono ?_
  rintro _ w1 ⟨k1, ⟨hp, rfl, hwas⟩ | ⟨x0, r1, cur1, cs0, hp0, rfl, H1, B1, q1, hx0⟩⟩
  · exact ⟨rfl, K0.trans k1, .inl ⟨by simp only [pOsd, Option.bind_some]; rw [hp]; rfl, rfl, hwas.cast P0.size⟩⟩
  have K1 := K0.trans k1
  have P1 := P0.append q1
  obtain rfl := hx0
  go_wp2_with fail
  refine (flagI_c H1 B1 (by rw [P1.other (o + 1) (by simp)]; exact hz 1 (by omega))).mono ?_
  rintro _ w2 ⟨k2, ⟨hp, rfl, hwas⟩ | ⟨x1, r2, cur2, cs1, hp1, rfl, H2, B2, q2, hx1⟩⟩
  · exact ⟨rfl, K1.trans k2, .inl ⟨by simp only [pOsd, hp0, Option.bind_some]; rw [hp]; rfl, rfl, hwas.cast P1.size⟩⟩
  have K2 := K1.trans k2
  have P2 := P1.append q2
  obtain rfl := hx1
  have lp2 := lt_in B2.heap
  go_wp2
  refine wp_region_ord [1, 2, 3, 4, 5, 6, 7, 8, 9, 10, 11, 12] [0] [13, 14] (by kernel_rfl) (by kernel_rfl) (fun _ _ d _ _ h => by cases d <;> exact h) ?_
  simp only [sel, List.filterMap_cons, List.filterMap_nil, List.getElem?_cons_zero, List.getElem?_cons_succ]
  repeat (quiet_step (fail))
  refine wpQuiet_nil ?_
  refine wpIdle_step (fun K hK => ?_)
  go_simp
  refine hK _ ?_
  clear hK
  refine wpIdle_nil ?_
  rintro _ ⟨nr, rfl⟩
  go_wp2_with fail
  have j2 : Kept (fun _ => False) w2 ((w2.drewN nr).alloc (Obj.cells #[Value.pointer (some ⟨p, o + 2, none⟩), Value.pointer (some ⟨p, o + 3, none⟩), Value.pointer (some ⟨p, o + 4, none⟩), Value.pointer (some ⟨p, o + 5, none⟩)] 140)) := (Kept.drewN _ _ _).al _
  have rr2 := (own_alloc (w2.drewN nr) [Value.pointer (some ⟨p, o + 2, none⟩), Value.pointer (some ⟨p, o + 3, none⟩), Value.pointer (some ⟨p, o + 4, none⟩), Value.pointer (some ⟨p, o + 5, none⟩)] 140 4 rfl (by decide)).reads
  have hs2 : (w2.drewN nr).heap.size = w2.heap.size := rfl
  rw [hs2] at rr2
  generalize (w2.drewN nr).alloc (Obj.cells #[Value.pointer (some ⟨p, o + 2, none⟩), Value.pointer (some ⟨p, o + 3, none⟩), Value.pointer (some ⟨p, o + 4, none⟩), Value.pointer (some ⟨p, o + 5, none⟩)] 140) = y2 at j2 rr2 ⊢
  have HH2 : Rd y2 c _ g := H2.kept j2
  have BB2 := B2.kept j2 (fun h => h)
  have hc2 : c < w2.heap.size := H2.lt
  have lb2 := lt_in B2.heap
  refine (numsI_c (m := 4) (o := o + 2) HH2 BB2 (gp := some w2.heap.size) rr2 (fun k hk => by cases hk; exact ⟨Nat.ne_of_gt hc2, Nat.ne_of_gt lb2⟩) (by
    intro f hf
    obtain rfl | rfl | rfl | rfl : f = 0 ∨ f = 1 ∨ f = 2 ∨ f = 3 := by omega
    · exact ⟨0, by rw [P2.other _ (by simp)]; exact hz 2 (by omega)⟩
    · exact ⟨0, by rw [P2.other _ (by simp)]; exact hz 3 (by omega)⟩
    · exact ⟨0, by rw [P2.other _ (by simp)]; exact hz 4 (by omega)⟩
    · exact ⟨0, by rw [P2.other _ (by simp)]; exact hz 5 (by omega)⟩
    ) (by omega)).mono ?_
  rintro _ w3 ⟨k3, ⟨hp, rfl, hwas⟩ | ⟨ns2, r3, cur3, cs2, hp, rfl, H3, B3, q3, hx2⟩⟩
  · exact ⟨rfl, K2.trans (kept_alloc2 j2 k3), .inl ⟨by simp only [pOsd, hp0, hp1, Option.bind_some]; exact pN4_none hp _, rfl, hwas.cast P2.size⟩⟩
  have K3 := K2.trans (kept_alloc2 j2 k3)
  replace k3 := kept_alloc2 j2 k3
  obtain rfl := hx2
  obtain ⟨n2_0, s2_0, n2_1, s2_1, n2_2, s2_2, n2_3, hp2_0, hp2_1, hp2_2, hp2_3, rfl⟩ := pN4_some hp
  simp only [List.map_cons, List.map_nil] at q3
  have P3 := P2.append q3
  go_wp2
  exact bodyPost_end (v := .tuple #[]) (by simp [results, Tryz.results111]) rfl ⟨K3, .inr ⟨⟨x0, x1, n2_0, n2_1, n2_2, n2_3⟩, r3, cur3, _, by simp only [pOsd, hp0, hp1, hp2_0, hp2_1, hp2_2, hp2_3, Option.bind_some], rfl, H3, B3, P3, ⟨rfl, (lawI.dec _ _ _ hp2_0).2, (lawI.dec _ _ _ hp2_1).2, (lawI.dec _ _ _ hp2_2).2, (lawI.dec _ _ _ hp2_3).2⟩⟩⟩

theorem info_Osd : (Tryz.prog.info? 215).map (fun i => (i.zero, i.size, i.bytes)) = some (some (Value.agg #[Value.bool false, Value.bool false, Value.int IntKind.i64 0, Value.int IntKind.i64 0, Value.int IntKind.i64 0, Value.int IntKind.i64 0]), 6, 40) := by kernel_rfl

set_option maxRecDepth 100000 in
set_option maxHeartbeats 1600000 in
theorem listOsdG_c {w : World} {c p o : Nat} {bs : List UInt8} {g : Option Nat} {cur : Array Value} {t : TypeId} (h : Rd w c bs g) (hgl : ∀ k, g = some k → k < w.heap.size) (hb : Blk w p cur t c g) (hz : cur[o]? = some (.slice none 0 0)) :
    Calls Tryz.prog 110 #[.pointer (some ⟨c, 0, none⟩), .pointer (some ⟨p, o, none⟩), .func (.func 111) #[.pointer (some ⟨c, 0, none⟩)] #[]] w (Got (sliceIs 6 OsdT.Is) (pL pOsd) bs w c p o g cur t) := by
  obtain ⟨i0, hi0, hz0, hz1, hz2⟩ := info_all info_Osd
  have p0 : w.cell? ⟨p, o, none⟩ = some (.slice none 0 0) := (cell_in hb.heap).trans hz
  have hlp := lt_in hb.heap
  have hlc := h.lt
  go_enter Tryz.func110, Tryz.ntmps110
  go_wp2_with fail
  refine (countG_c h).mono ?_
  rintro e w1 ⟨k1, ⟨n, r1, hp1, rfl, h1⟩ | ⟨hp1, rfl⟩⟩
  rotate_left
  · exact ⟨rfl, k1.mono (fun _ _ h => .inl h), .inl ⟨by unfold pL; rw [hp1]; rfl, rfl, (hb.kept k1 hb.ne).was⟩⟩
  have hb1 := hb.kept k1 hb.ne
  have p1 : w1.cell? ⟨p, o, none⟩ = some (.slice none 0 0) := (cell_in hb1.heap).trans hz
  have f1 : w1.frozen? ⟨p, o, none⟩ = false := frozen_in hb1.heap
  have lp1 := lt_in hb1.heap
  have c2 : w1.cell? ⟨c, 2, none⟩ = some (.bool true) := by
    obtain ⟨vi, h2, -⟩ := h1.ex
    exact cell_in h2
  have lc1 := h1.lt
  have e1 := setCell_same' p1
  have L0 := Lst.start OsdT.Is 6 215 hb1 hz k1
  have hn32 := (pC_some hp1).2.1
  have HP1 : Hid (pL pOsd bs = pN pOsd n r1) := Lib.hid (by unfold pL; rw [hp1]; rfl)
  clear p0 hb1 hp1
  go_wp2
  go_loopw [37] (fun i w' => ∃ (k : Nat) (v : Value) (xs : List OsdT) (Ls : List (List Value)) (r : List UInt8) (g' : Option Nat), k ≤ n ∧ i = .int .i64 k ∧ xs.length = k ∧ Hid (pN pOsd n r1 = (pN pOsd (n - k) r).bind (fun z => some (xs ++ z.1, z.2))) ∧ Rd w' c r g ∧ Lst OsdT.Is 6 215 w w' c p o g cur t v xs Ls g') (fun i _ => n - (intOf i).toNat)
  case atStart => exact ⟨0, _, [], [], r1, none, by omega, rfl, rfl, Lib.hid (by rw [Nat.sub_zero]; exact (bind_eta _).symm), h1, L0⟩
  case round =>
    obtain ⟨k, v, xs, Ls, r, g', hk, rfl, rfl, HP, hr, L⟩ := hrel
    by_cases hk2 : xs.length < n
    · have hki : (xs.length : Int) < (n : Int) := by omega
      obtain ⟨a, cp, rfl, hcp, -⟩ := L.own.shape
      obtain ⟨curp, hbp, hvp⟩ := L.cell
      have pr : wr.cell? ⟨p, o, none⟩ = some (.slice a xs.length cp) := (cell_in hbp).trans hvp
      have lpr := lt_in hbp
      have hsw := L.kept.size
      go_wp2_with fail
      have ka := Kept.alloc (fun _ => False) wr (Obj.cells #[Value.bool false, Value.bool false, Value.int IntKind.i64 0, Value.int IntKind.i64 0, Value.int IntKind.i64 0, Value.int IntKind.i64 0] 215)
      have hq : (wr.alloc (Obj.cells #[Value.bool false, Value.bool false, Value.int IntKind.i64 0, Value.int IntKind.i64 0, Value.int IntKind.i64 0, Value.int IntKind.i64 0] 215)).heap[wr.heap.size]? = some (Obj.cells #[Value.bool false, Value.bool false, Value.int IntKind.i64 0, Value.int IntKind.i64 0, Value.int IntKind.i64 0, Value.int IntKind.i64 0] 215) := heap_alloc_new' _ _
      have ra : Rd (wr.alloc (Obj.cells #[Value.bool false, Value.bool false, Value.int IntKind.i64 0, Value.int IntKind.i64 0, Value.int IntKind.i64 0, Value.int IntKind.i64 0] 215)) c r g := hr.kept ka
      have sa : (wr.alloc (Obj.cells #[Value.bool false, Value.bool false, Value.int IntKind.i64 0, Value.int IntKind.i64 0, Value.int IntKind.i64 0, Value.int IntKind.i64 0] 215)).heap.size = wr.heap.size + 1 := by simp
      generalize wr.alloc (Obj.cells #[Value.bool false, Value.bool false, Value.int IntKind.i64 0, Value.int IntKind.i64 0, Value.int IntKind.i64 0, Value.int IntKind.i64 0] 215) = wa at ka hq ra sa ⊢
      have bq : Blk wa wr.heap.size #[Value.bool false, Value.bool false, Value.int IntKind.i64 0, Value.int IntKind.i64 0, Value.int IntKind.i64 0, Value.int IntKind.i64 0] 215 c g := ⟨hq, by omega, fun e => by have := hgl _ e; omega⟩
      refine (osdG_c ra (fun k hk => by have := hgl k hk; omega) bq (by intro f hf; simp)).mono ?_
      rintro e w2 ⟨k2, ⟨hp2, rfl, -⟩ | ⟨x, r2, cur2, cs, hp2, rfl, h2, b2, put2, hx⟩⟩
      · exact ⟨rfl, (L.kept.trans (ka.mono (fun _ _ h => h.elim))).thn k2 (fun i hi => by rcases hi with rfl | rfl; exact .inl (.inl rfl); exact .inr hsw), .inl ⟨by rw [HP1.out]; exact pN_stop hk2 HP.out hp2, rfl, L.was.kept ka k2 (fun h => h) (fun h => by rcases h with h | h; exact hb.ne h; omega)⟩⟩
      have k02 : Kept (· = c) wr w2 := (ka.mono (fun _ _ h => h.elim)).thn k2 (fun i hi => by rcases hi with rfl | rfl; exact .inl rfl; exact .inr (Nat.le_refl _))
      have hxn : OsdT.Is w2 (New wr w2) cs x := OsdT.stable _ _ _ _ _ _ hx (fun k hk => ⟨by have := hk.1; omega, hk.2⟩) (fun _ _ => rfl)
      obtain ⟨rfl, -⟩ := hx
      have y0 : w2.cell? ⟨wr.heap.size, 0, none⟩ = some (Value.bool x.ex) := (cell_in b2.heap).trans (by have := put2.at_ 0 (by simp); simpa using this)
      have y1 : w2.cell? ⟨wr.heap.size, 1, none⟩ = some (Value.bool x.up) := (cell_in b2.heap).trans (by have := put2.at_ 1 (by simp); simpa using this)
      have y2 : w2.cell? ⟨wr.heap.size, 2, none⟩ = some (Value.int IntKind.i64 x.weight) := (cell_in b2.heap).trans (by have := put2.at_ 2 (by simp); simpa using this)
      have y3 : w2.cell? ⟨wr.heap.size, 3, none⟩ = some (Value.int IntKind.i64 x.boot) := (cell_in b2.heap).trans (by have := put2.at_ 3 (by simp); simpa using this)
      have y4 : w2.cell? ⟨wr.heap.size, 4, none⟩ = some (Value.int IntKind.i64 x.upFrom) := (cell_in b2.heap).trans (by have := put2.at_ 4 (by simp); simpa using this)
      have y5 : w2.cell? ⟨wr.heap.size, 5, none⟩ = some (Value.int IntKind.i64 x.upThru) := (cell_in b2.heap).trans (by have := put2.at_ 5 (by simp); simpa using this)
      have lq2 := lt_in b2.heap
      have HP2 := Lib.hid (pN_next hk2 HP.out hp2)
      have bp2 : w2.heap[p]? = some (.cells curp t) := (k02.block _ lpr hb.ne).trans hbp
      have HBP := Lib.hid bp2
      have lp2 := lt_in bp2
      have hpq : p ≠ wr.heap.size := by omega
      have own2 := L.own.kept k02 (fun k hk e => by have := L.new k hk; omega)
      clear ka hq ra bq hbp pr HP hp2 bp2
      go_wp2
      refine wp_region_ordJ (fun w' => w'.heap[p]? = some (.cells curp t)) [4] [0, 1, 2, 3] [5, 6] [7, 8] (by kernel_rfl) (by kernel_rfl) (fun _ _ d _ _ h => by cases d <;> exact h) (fun k => HBP.out) ?_
      simp only [sel, List.filterMap_cons, List.filterMap_nil, List.getElem?_cons_zero, List.getElem?_cons_succ]
      repeat (quiet_step (fail))
      refine wpQuiet_nil ?_
      refine wpHeld_step (fun K hK => ?_)
      go_simp
      refine ⟨_, fun _ _ => rfl, hK _ ?_⟩
      refine wpHeld_step (fun K hK => ?_)
      go_simp
      refine ⟨_, fun _ _ => rfl, hK _ ?_⟩
      refine wpHeld_step (fun K hK => ?_)
      go_simp
      refine ⟨_, fun _ _ => rfl, hK _ ?_⟩
      refine wpHeld_step (fun K hK => ?_)
      go_simp
      refine ⟨.slice a xs.length cp, fun w' h => (by
        have h1 := (cell_in (k := o) h).trans hvp
        have h2 := lt_in h
        clear h
        go_simp), hK _ ?_⟩
      refine wpHeld_nil ?_
      rintro _ ⟨nr, rfl⟩
      have kd := Kept.drewN (fun _ => False) w2 nr
      have Q3 : Hid ((w2.drewN nr).heap[p]? = some (.cells curp t)) := Lib.hid HBP.out
      generalize w2.drewN nr = w3 at kd Q3 ⊢
      refine wpListS_step (fun K hK => ?_)
      go_simp
      have hA : (w3.alloc (Obj.cells #[Value.bool x.ex, Value.bool x.up, Value.int IntKind.i64 x.weight, Value.int IntKind.i64 x.boot, Value.int IntKind.i64 x.upFrom, Value.int IntKind.i64 x.upThru] 215)).heap[p]? = some (.cells curp t) := (Below.heap_alloc _ _ _ (lt_in Q3.out)).trans Q3.out
      refine hK _ _ hA ?_
      clear hK
      have k34 := kd.al (Obj.cells #[Value.bool x.ex, Value.bool x.up, Value.int IntKind.i64 x.weight, Value.int IntKind.i64 x.boot, Value.int IntKind.i64 x.upFrom, Value.int IntKind.i64 x.upThru] 215)
      have r4 := reads_allocN w3 [Value.bool x.ex, Value.bool x.up, Value.int IntKind.i64 x.weight, Value.int IntKind.i64 x.boot, Value.int IntKind.i64 x.upFrom, Value.int IntKind.i64 x.upThru] 215 6 rfl
      generalize w3.alloc (Obj.cells #[Value.bool x.ex, Value.bool x.up, Value.int IntKind.i64 x.weight, Value.int IntKind.i64 x.boot, Value.int IntKind.i64 x.upFrom, Value.int IntKind.i64 x.upThru] 215) = w4 at hA k34 r4 ⊢
      have own4 := own2.kept k34 (fun _ _ h => h)
      refine wpListS_append_Own rfl _ _ 66 66 rfl 215 i0 (Value.agg #[Value.bool false, Value.bool false, Value.int IntKind.i64 0, Value.int IntKind.i64 0, Value.int IntKind.i64 0, Value.int IntKind.i64 0]) 6 40 Tryz.underlying66 hi0 hz0 hz1 hz2 rfl rfl own4 rfl (r4.src Tryz.underlying66 (by intro u hu; simp only [List.mem_cons, List.not_mem_nil, or_false] at hu; rcases hu with rfl | rfl | rfl | rfl | rfl | rfl <;> rfl)) (by unfold maxLen; omega) (by omega) ?_
      intro a5 k5 w5 g5 hown5 hk5 hg5
      have hgp : g' ≠ some p := fun e => by have := L.new p e; omega
      have hA5 : w5.heap[p]? = _ := (hk5.block _ (lt_in hA) (fun h => hgp h)).trans hA
      refine ⟨hA5, ?_⟩
      refine wpListS_nil ?_
      have k04 : Kept (· = c) wr w4 := k02.trans (k34.mono (fun _ _ h => h.elim))
      have s4 := k34.size
      have hx4 : OsdT.Is w4 (New wr w4) _ x := OsdT.stable _ _ _ _ _ _ hxn (fun k hk => ⟨hk.1, by have := hk.2; omega⟩) (fun k hk => k34.block k hk.2 (fun h => h))
      have LN := Lib.hid (L.grow OsdT.stable (o := o) hlp hlc k04 hx4 rfl hown5 hk5 hg5)
      have RN := Lib.hid (Lst.rd L (w2 := w2) (o := o) (v4 := .slice a5 (xs.length + 1) k5) hlc hgl (h2.kept k34) hk5)
      have f0 : w5.frozen? ⟨p, o, none⟩ = false := frozen_in hA5
      have z5 := (cell_in (k := o) hA5).trans hvp
      have hl5 := lt_in hA5
      have HX2 : Hid ((xs ++ [x]).length = xs.length + 1) := Lib.hid (by rw [List.length_append]; rfl)
      clear hA5 hA hown5 own4 own2 r4 hk5 hg5 hx4 hxn
      go_wp2
      exact ⟨⟨xs.length + 1, _, xs ++ [x], _, r2, g5, by omega, by simp, HX2.out, HP2, RN.out, LN.out⟩, by simp [intOf]; omega⟩
    · obtain rfl : n = xs.length := by omega
      go_wp2
      obtain ⟨cur', hbl, hpu⟩ := L.blk
      exact bodyPost_end (v := .tuple #[]) (by simp [results, Tryz.results110]) rfl ⟨L.kept, .inr ⟨xs, r, cur', [v], by rw [HP1.out]; exact pN_end HP.out, rfl, hr, hbl, hpu, v, rfl, L.done OsdT.stable (by omega)⟩⟩

set_option maxRecDepth 100000 in
set_option maxHeartbeats 1600000 in
theorem poolG_c {w : World} {c p o : Nat} {bs : List UInt8} {g : Option Nat} {cur : Array Value} {t : TypeId} (h : Rd w c bs g) (hgl : ∀ k, g = some k → k < w.heap.size) (hb : Blk w p cur t c g) (hz : ∀ f, f < 4 → cur[o + f]? = ([Value.int IntKind.i64 0, Value.int IntKind.i64 0, Value.int IntKind.i64 0, Value.int IntKind.i64 0] : List Value)[f]?) :
    Calls Tryz.prog 113 #[.pointer (some ⟨c, 0, none⟩), .pointer (some ⟨p, o, none⟩)] w (Got PoolT.Is pPool bs w c p o g cur t) := by
  have hmf : ∀ (fn : Fn) (first cap : Array Value) (w : World), (Instr.makeFunc fn first cap).run Tryz.prog w = .ok (.func fn first cap) w := fun _ _ _ _ => rfl
  have hlp := lt_in hb.heap
  have hlc := h.lt
  go_enter Tryz.func113, Tryz.ntmps113
  have B0 := hb
  have H0 := h
  have P0 := Put.nil cur o
  have K0 := Kept.refl (fun k => k = c ∨ k = p) w
  have z0 := hz
  clear h hb
  have lp0 := lt_in B0.heap
  go_wp2
  refine wp_region_ord [1, 2, 3, 4, 5, 6, 7, 8, 9, 10, 11, 12] [0] [13, 14] (by kernel_rfl) (by kernel_rfl) (fun _ _ d _ _ h => by cases d <;> exact h) ?_
  simp only [sel, List.filterMap_cons, List.filterMap_nil, List.getElem?_cons_zero, List.getElem?_cons_succ]
  repeat (quiet_step (fail))
  refine wpQuiet_nil ?_
  refine wpIdle_step (fun K hK => ?_)
  go_simp
  refine hK _ ?_
  clear hK
  refine wpIdle_nil ?_
  rintro _ ⟨nr, rfl⟩
  go_wp2_with fail
  have j0 : Kept (fun _ => False) w ((w.drewN nr).alloc (Obj.cells #[Value.pointer (some ⟨p, o, none⟩), Value.pointer (some ⟨p, o + 1, none⟩), Value.pointer (some ⟨p, o + 2, none⟩), Value.pointer (some ⟨p, o + 3, none⟩)] 140)) := (Kept.drewN _ _ _).al _
  have rr0 := (own_alloc (w.drewN nr) [Value.pointer (some ⟨p, o, none⟩), Value.pointer (some ⟨p, o + 1, none⟩), Value.pointer (some ⟨p, o + 2, none⟩), Value.pointer (some ⟨p, o + 3, none⟩)] 140 4 rfl (by decide)).reads
  have hs0 : (w.drewN nr).heap.size = w.heap.size := rfl
  rw [hs0] at rr0
  generalize (w.drewN nr).alloc (Obj.cells #[Value.pointer (some ⟨p, o, none⟩), Value.pointer (some ⟨p, o + 1, none⟩), Value.pointer (some ⟨p, o + 2, none⟩), Value.pointer (some ⟨p, o + 3, none⟩)] 140) = y0 at j0 rr0 ⊢
  have HH0 : Rd y0 c _ g := H0.kept j0
  have BB0 := B0.kept j0 (fun h => h)
  have hc0 : c < w.heap.size := H0.lt
  have lb0 := lt_in B0.heap
  refine (numsI_c (m := 4) (o := o) HH0 BB0 (gp := some w.heap.size) rr0 (fun k hk => by cases hk; exact ⟨Nat.ne_of_gt hc0, Nat.ne_of_gt lb0⟩) (by
    intro f hf
    obtain rfl | rfl | rfl | rfl : f = 0 ∨ f = 1 ∨ f = 2 ∨ f = 3 := by omega
    · exact ⟨0, by rw [P0.other _ (by simp)]; exact hz 0 (by omega)⟩
    · exact ⟨0, by rw [P0.other _ (by simp)]; exact hz 1 (by omega)⟩
    · exact ⟨0, by rw [P0.other _ (by simp)]; exact hz 2 (by omega)⟩
    · exact ⟨0, by rw [P0.other _ (by simp)]; exact hz 3 (by omega)⟩
    ) (by omega)).mono ?_
  rintro _ w1 ⟨k1, ⟨hp, rfl, hwas⟩ | ⟨ns0, r1, cur1, cs0, hp, rfl, H1, B1, q1, hx0⟩⟩
  · exact ⟨rfl, K0.trans (kept_alloc2 j0 k1), .inl ⟨by simp only [pPool, Option.bind_some]; exact pN4_none hp _, rfl, hwas.cast P0.size⟩⟩
  have K1 := K0.trans (kept_alloc2 j0 k1)
  replace k1 := kept_alloc2 j0 k1
  obtain rfl := hx0
  obtain ⟨n0_0, s0_0, n0_1, s0_1, n0_2, s0_2, n0_3, hp0_0, hp0_1, hp0_2, hp0_3, rfl⟩ := pN4_some hp
  simp only [List.map_cons, List.map_nil] at q1
  have P1 := P0.append q1
  go_wp2
  exact bodyPost_end (v := .tuple #[]) (by simp [results, Tryz.results113]) rfl ⟨K1, .inr ⟨⟨n0_0, n0_1, n0_2, n0_3⟩, r1, cur1, _, by simp only [pPool, hp0_0, hp0_1, hp0_2, hp0_3, Option.bind_some], rfl, H1, B1, P1, ⟨rfl, (lawI.dec _ _ _ hp0_0).2, (lawI.dec _ _ _ hp0_1).2, (lawI.dec _ _ _ hp0_2).2, (lawI.dec _ _ _ hp0_3).2⟩⟩⟩

theorem info_Pool : (Tryz.prog.info? 155).map (fun i => (i.zero, i.size, i.bytes)) = some (some (Value.agg #[Value.int IntKind.i64 0, Value.int IntKind.i64 0, Value.int IntKind.i64 0, Value.int IntKind.i64 0]), 4, 32) := by kernel_rfl

set_option maxRecDepth 100000 in
set_option maxHeartbeats 1600000 in
theorem listPoolG_c {w : World} {c p o : Nat} {bs : List UInt8} {g : Option Nat} {cur : Array Value} {t : TypeId} (h : Rd w c bs g) (hgl : ∀ k, g = some k → k < w.heap.size) (hb : Blk w p cur t c g) (hz : cur[o]? = some (.slice none 0 0)) :
    Calls Tryz.prog 112 #[.pointer (some ⟨c, 0, none⟩), .pointer (some ⟨p, o, none⟩), .func (.func 113) #[.pointer (some ⟨c, 0, none⟩)] #[]] w (Got (sliceIs 4 PoolT.Is) (pL pPool) bs w c p o g cur t) := by
  obtain ⟨i0, hi0, hz0, hz1, hz2⟩ := info_all info_Pool
  have p0 : w.cell? ⟨p, o, none⟩ = some (.slice none 0 0) := (cell_in hb.heap).trans hz
  have hlp := lt_in hb.heap
  have hlc := h.lt
  go_enter Tryz.func112, Tryz.ntmps112
  go_wp2_with fail
  refine (countG_c h).mono ?_
  rintro e w1 ⟨k1, ⟨n, r1, hp1, rfl, h1⟩ | ⟨hp1, rfl⟩⟩
  rotate_left
  · exact ⟨rfl, k1.mono (fun _ _ h => .inl h), .inl ⟨by unfold pL; rw [hp1]; rfl, rfl, (hb.kept k1 hb.ne).was⟩⟩
  have hb1 := hb.kept k1 hb.ne
  have p1 : w1.cell? ⟨p, o, none⟩ = some (.slice none 0 0) := (cell_in hb1.heap).trans hz
  have f1 : w1.frozen? ⟨p, o, none⟩ = false := frozen_in hb1.heap
  have lp1 := lt_in hb1.heap
  have c2 : w1.cell? ⟨c, 2, none⟩ = some (.bool true) := by
    obtain ⟨vi, h2, -⟩ := h1.ex
    exact cell_in h2
  have lc1 := h1.lt
  have e1 := setCell_same' p1
  have L0 := Lst.start PoolT.Is 4 155 hb1 hz k1
  have hn32 := (pC_some hp1).2.1
  have HP1 : Hid (pL pPool bs = pN pPool n r1) := Lib.hid (by unfold pL; rw [hp1]; rfl)
  clear p0 hb1 hp1
  go_wp2
  go_loopw [37] (fun i w' => ∃ (k : Nat) (v : Value) (xs : List PoolT) (Ls : List (List Value)) (r : List UInt8) (g' : Option Nat), k ≤ n ∧ i = .int .i64 k ∧ xs.length = k ∧ Hid (pN pPool n r1 = (pN pPool (n - k) r).bind (fun z => some (xs ++ z.1, z.2))) ∧ Rd w' c r g ∧ Lst PoolT.Is 4 155 w w' c p o g cur t v xs Ls g') (fun i _ => n - (intOf i).toNat)
  case atStart => exact ⟨0, _, [], [], r1, none, by omega, rfl, rfl, Lib.hid (by rw [Nat.sub_zero]; exact (bind_eta _).symm), h1, L0⟩
  case round =>
    obtain ⟨k, v, xs, Ls, r, g', hk, rfl, rfl, HP, hr, L⟩ := hrel
    by_cases hk2 : xs.length < n
    · have hki : (xs.length : Int) < (n : Int) := by omega
      obtain ⟨a, cp, rfl, hcp, -⟩ := L.own.shape
      obtain ⟨curp, hbp, hvp⟩ := L.cell
      have pr : wr.cell? ⟨p, o, none⟩ = some (.slice a xs.length cp) := (cell_in hbp).trans hvp
      have lpr := lt_in hbp
      have hsw := L.kept.size
      go_wp2_with fail
      have ka := Kept.alloc (fun _ => False) wr (Obj.cells #[Value.int IntKind.i64 0, Value.int IntKind.i64 0, Value.int IntKind.i64 0, Value.int IntKind.i64 0] 155)
      have hq : (wr.alloc (Obj.cells #[Value.int IntKind.i64 0, Value.int IntKind.i64 0, Value.int IntKind.i64 0, Value.int IntKind.i64 0] 155)).heap[wr.heap.size]? = some (Obj.cells #[Value.int IntKind.i64 0, Value.int IntKind.i64 0, Value.int IntKind.i64 0, Value.int IntKind.i64 0] 155) := heap_alloc_new' _ _
      have ra : Rd (wr.alloc (Obj.cells #[Value.int IntKind.i64 0, Value.int IntKind.i64 0, Value.int IntKind.i64 0, Value.int IntKind.i64 0] 155)) c r g := hr.kept ka
      have sa : (wr.alloc (Obj.cells #[Value.int IntKind.i64 0, Value.int IntKind.i64 0, Value.int IntKind.i64 0, Value.int IntKind.i64 0] 155)).heap.size = wr.heap.size + 1 := by simp
      generalize wr.alloc (Obj.cells #[Value.int IntKind.i64 0, Value.int IntKind.i64 0, Value.int IntKind.i64 0, Value.int IntKind.i64 0] 155) = wa at ka hq ra sa ⊢
      have bq : Blk wa wr.heap.size #[Value.int IntKind.i64 0, Value.int IntKind.i64 0, Value.int IntKind.i64 0, Value.int IntKind.i64 0] 155 c g := ⟨hq, by omega, fun e => by have := hgl _ e; omega⟩
      refine (poolG_c ra (fun k hk => by have := hgl k hk; omega) bq (by intro f hf; simp)).mono ?_
      rintro e w2 ⟨k2, ⟨hp2, rfl, -⟩ | ⟨x, r2, cur2, cs, hp2, rfl, h2, b2, put2, hx⟩⟩
      · exact ⟨rfl, (L.kept.trans (ka.mono (fun _ _ h => h.elim))).thn k2 (fun i hi => by rcases hi with rfl | rfl; exact .inl (.inl rfl); exact .inr hsw), .inl ⟨by rw [HP1.out]; exact pN_stop hk2 HP.out hp2, rfl, L.was.kept ka k2 (fun h => h) (fun h => by rcases h with h | h; exact hb.ne h; omega)⟩⟩
      have k02 : Kept (· = c) wr w2 := (ka.mono (fun _ _ h => h.elim)).thn k2 (fun i hi => by rcases hi with rfl | rfl; exact .inl rfl; exact .inr (Nat.le_refl _))
      have hxn : PoolT.Is w2 (New wr w2) cs x := PoolT.stable _ _ _ _ _ _ hx (fun k hk => ⟨by have := hk.1; omega, hk.2⟩) (fun _ _ => rfl)
      obtain ⟨rfl, -⟩ := hx
      have y0 : w2.cell? ⟨wr.heap.size, 0, none⟩ = some (Value.int IntKind.i64 x.id) := (cell_in b2.heap).trans (by have := put2.at_ 0 (by simp); simpa using this)
      have y1 : w2.cell? ⟨wr.heap.size, 1, none⟩ = some (Value.int IntKind.i64 x.size) := (cell_in b2.heap).trans (by have := put2.at_ 1 (by simp); simpa using this)
      have y2 : w2.cell? ⟨wr.heap.size, 2, none⟩ = some (Value.int IntKind.i64 x.min) := (cell_in b2.heap).trans (by have := put2.at_ 2 (by simp); simpa using this)
      have y3 : w2.cell? ⟨wr.heap.size, 3, none⟩ = some (Value.int IntKind.i64 x.pgs) := (cell_in b2.heap).trans (by have := put2.at_ 3 (by simp); simpa using this)
      have lq2 := lt_in b2.heap
      have HP2 := Lib.hid (pN_next hk2 HP.out hp2)
      have bp2 : w2.heap[p]? = some (.cells curp t) := (k02.block _ lpr hb.ne).trans hbp
      have HBP := Lib.hid bp2
      have lp2 := lt_in bp2
      have hpq : p ≠ wr.heap.size := by omega
      have own2 := L.own.kept k02 (fun k hk e => by have := L.new k hk; omega)
      clear ka hq ra bq hbp pr HP hp2 bp2
      go_wp2
      refine wp_region_ordJ (fun w' => w'.heap[p]? = some (.cells curp t)) [4] [0, 1, 2, 3] [5, 6] [7, 8] (by kernel_rfl) (by kernel_rfl) (fun _ _ d _ _ h => by cases d <;> exact h) (fun k => HBP.out) ?_
      simp only [sel, List.filterMap_cons, List.filterMap_nil, List.getElem?_cons_zero, List.getElem?_cons_succ]
      repeat (quiet_step (fail))
      refine wpQuiet_nil ?_
      refine wpHeld_step (fun K hK => ?_)
      go_simp
      refine ⟨_, fun _ _ => rfl, hK _ ?_⟩
      refine wpHeld_step (fun K hK => ?_)
      go_simp
      refine ⟨_, fun _ _ => rfl, hK _ ?_⟩
      refine wpHeld_step (fun K hK => ?_)
      go_simp
      refine ⟨_, fun _ _ => rfl, hK _ ?_⟩
      refine wpHeld_step (fun K hK => ?_)
      go_simp
      refine ⟨.slice a xs.length cp, fun w' h => (by
        have h1 := (cell_in (k := o) h).trans hvp
        have h2 := lt_in h
        clear h
        go_simp), hK _ ?_⟩
      refine wpHeld_nil ?_
      rintro _ ⟨nr, rfl⟩
      have kd := Kept.drewN (fun _ => False) w2 nr
      have Q3 : Hid ((w2.drewN nr).heap[p]? = some (.cells curp t)) := Lib.hid HBP.out
      generalize w2.drewN nr = w3 at kd Q3 ⊢
      refine wpListS_step (fun K hK => ?_)
      go_simp
      have hA : (w3.alloc (Obj.cells #[Value.int IntKind.i64 x.id, Value.int IntKind.i64 x.size, Value.int IntKind.i64 x.min, Value.int IntKind.i64 x.pgs] 155)).heap[p]? = some (.cells curp t) := (Below.heap_alloc _ _ _ (lt_in Q3.out)).trans Q3.out
      refine hK _ _ hA ?_
      clear hK
      have k34 := kd.al (Obj.cells #[Value.int IntKind.i64 x.id, Value.int IntKind.i64 x.size, Value.int IntKind.i64 x.min, Value.int IntKind.i64 x.pgs] 155)
      have r4 := reads_allocN w3 [Value.int IntKind.i64 x.id, Value.int IntKind.i64 x.size, Value.int IntKind.i64 x.min, Value.int IntKind.i64 x.pgs] 155 4 rfl
      generalize w3.alloc (Obj.cells #[Value.int IntKind.i64 x.id, Value.int IntKind.i64 x.size, Value.int IntKind.i64 x.min, Value.int IntKind.i64 x.pgs] 155) = w4 at hA k34 r4 ⊢
      have own4 := own2.kept k34 (fun _ _ h => h)
      refine wpListS_append_Own rfl _ _ 67 67 rfl 155 i0 (Value.agg #[Value.int IntKind.i64 0, Value.int IntKind.i64 0, Value.int IntKind.i64 0, Value.int IntKind.i64 0]) 4 32 Tryz.underlying67 hi0 hz0 hz1 hz2 rfl rfl own4 rfl (r4.src Tryz.underlying67 (by intro u hu; simp only [List.mem_cons, List.not_mem_nil, or_false] at hu; rcases hu with rfl | rfl | rfl | rfl <;> rfl)) (by unfold maxLen; omega) (by omega) ?_
      intro a5 k5 w5 g5 hown5 hk5 hg5
      have hgp : g' ≠ some p := fun e => by have := L.new p e; omega
      have hA5 : w5.heap[p]? = _ := (hk5.block _ (lt_in hA) (fun h => hgp h)).trans hA
      refine ⟨hA5, ?_⟩
      refine wpListS_nil ?_
      have k04 : Kept (· = c) wr w4 := k02.trans (k34.mono (fun _ _ h => h.elim))
      have s4 := k34.size
      have hx4 : PoolT.Is w4 (New wr w4) _ x := PoolT.stable _ _ _ _ _ _ hxn (fun k hk => ⟨hk.1, by have := hk.2; omega⟩) (fun k hk => k34.block k hk.2 (fun h => h))
      have LN := Lib.hid (L.grow PoolT.stable (o := o) hlp hlc k04 hx4 rfl hown5 hk5 hg5)
      have RN := Lib.hid (Lst.rd L (w2 := w2) (o := o) (v4 := .slice a5 (xs.length + 1) k5) hlc hgl (h2.kept k34) hk5)
      have f0 : w5.frozen? ⟨p, o, none⟩ = false := frozen_in hA5
      have z5 := (cell_in (k := o) hA5).trans hvp
      have hl5 := lt_in hA5
      have HX2 : Hid ((xs ++ [x]).length = xs.length + 1) := Lib.hid (by rw [List.length_append]; rfl)
      clear hA5 hA hown5 own4 own2 r4 hk5 hg5 hx4 hxn
      go_wp2
      exact ⟨⟨xs.length + 1, _, xs ++ [x], _, r2, g5, by omega, by simp, HX2.out, HP2, RN.out, LN.out⟩, by simp [intOf]; omega⟩
    · obtain rfl : n = xs.length := by omega
      go_wp2
      obtain ⟨cur', hbl, hpu⟩ := L.blk
      exact bodyPost_end (v := .tuple #[]) (by simp [results, Tryz.results112]) rfl ⟨L.kept, .inr ⟨xs, r, cur', [v], by rw [HP1.out]; exact pN_end HP.out, rfl, hr, hbl, hpu, v, rfl, L.done PoolT.stable (by omega)⟩⟩

set_option maxRecDepth 100000 in
set_option maxHeartbeats 1600000 in
theorem bucketG_c {w : World} {c p o : Nat} {bs : List UInt8} {g : Option Nat} {cur : Array Value} {t : TypeId} (h : Rd w c bs g) (hgl : ∀ k, g = some k → k < w.heap.size) (hb : Blk w p cur t c g) (hz : ∀ f, f < 4 → cur[o + f]? = ([Value.int IntKind.i64 0, Value.int IntKind.i64 0, Value.slice none 0 0, Value.slice none 0 0] : List Value)[f]?) :
    Calls Tryz.prog 115 #[.pointer (some ⟨c, 0, none⟩), .pointer (some ⟨p, o, none⟩)] w (Got BucketT.Is pBucket bs w c p o g cur t) := by
  have hmf : ∀ (fn : Fn) (first cap : Array Value) (w : World), (Instr.makeFunc fn first cap).run Tryz.prog w = .ok (.func fn first cap) w := fun _ _ _ _ => rfl
  have hlp := lt_in hb.heap
  have hlc := h.lt
  go_enter Tryz.func115, Tryz.ntmps115
  have B0 := hb
  have H0 := h
  have P0 := Put.nil cur o
  have K0 := Kept.refl (fun k => k = c ∨ k = p) w
  have z0 := hz
  clear h hb
  have lp0 := lt_in B0.heap
  go_wp2
  refine wp_region_ord [1, 2, 3, 4, 5, 6] [0] [7, 8] (by kernel_rfl) (by kernel_rfl) (fun _ _ d _ _ h => by cases d <;> exact h) ?_
  simp only [sel, List.filterMap_cons, List.filterMap_nil, List.getElem?_cons_zero, List.getElem?_cons_succ]
  repeat (quiet_step (fail))
  refine wpQuiet_nil ?_
  refine wpIdle_step (fun K hK => ?_)
  go_simp
  refine hK _ ?_
  clear hK
  refine wpIdle_nil ?_
  rintro _ ⟨nr, rfl⟩
  go_wp2_with fail
  have j0 : Kept (fun _ => False) w ((w.drewN nr).alloc (Obj.cells #[Value.pointer (some ⟨p, o, none⟩), Value.pointer (some ⟨p, o + 1, none⟩)] 140)) := (Kept.drewN _ _ _).al _
  have rr0 := (own_alloc (w.drewN nr) [Value.pointer (some ⟨p, o, none⟩), Value.pointer (some ⟨p, o + 1, none⟩)] 140 2 rfl (by decide)).reads
  have hs0 : (w.drewN nr).heap.size = w.heap.size := rfl
  rw [hs0] at rr0
  generalize (w.drewN nr).alloc (Obj.cells #[Value.pointer (some ⟨p, o, none⟩), Value.pointer (some ⟨p, o + 1, none⟩)] 140) = y0 at j0 rr0 ⊢
  have HH0 : Rd y0 c _ g := H0.kept j0
  have BB0 := B0.kept j0 (fun h => h)
  have hc0 : c < w.heap.size := H0.lt
  have lb0 := lt_in B0.heap
  refine (numsI_c (m := 2) (o := o) HH0 BB0 (gp := some w.heap.size) rr0 (fun k hk => by cases hk; exact ⟨Nat.ne_of_gt hc0, Nat.ne_of_gt lb0⟩) (by
    intro f hf
    obtain rfl | rfl : f = 0 ∨ f = 1 := by omega
    · exact ⟨0, by rw [P0.other _ (by simp)]; exact hz 0 (by omega)⟩
    · exact ⟨0, by rw [P0.other _ (by simp)]; exact hz 1 (by omega)⟩
    ) (by omega)).mono ?_
  rintro _ w1 ⟨k1, ⟨hp, rfl, hwas⟩ | ⟨ns0, r1, cur1, cs0, hp, rfl, H1, B1, q1, hx0⟩⟩
  · exact ⟨rfl, K0.trans (kept_alloc2 j0 k1), .inl ⟨by simp only [pBucket, Option.bind_some]; exact pN2_none hp _, rfl, hwas.cast P0.size⟩⟩
  have K1 := K0.trans (kept_alloc2 j0 k1)
  replace k1 := kept_alloc2 j0 k1
  obtain rfl := hx0
  obtain ⟨n0_0, s0_0, n0_1, hp0_0, hp0_1, rfl⟩ := pN2_some hp
  simp only [List.map_cons, List.map_nil] at q1
  have P1 := P0.append q1
  have lp1 := lt_in B1.heap
  go_wp2_with fail
  refine (listintG_c H1 (fun k hk => by have := hgl k hk; have := K1.size; omega) B1 (by rw [P1.other (o + 2) (by simp)]; exact hz 2 (by omega))).mono ?_
  rintro _ w2 ⟨k2, ⟨hp, rfl, hwas⟩ | ⟨x1, r2, cur2, cs1, hp1, rfl, H2, B2, q2, hx1⟩⟩
  · exact ⟨rfl, K1.trans k2, .inl ⟨by simp only [pBucket, hp0_0, hp0_1, Option.bind_some]; rw [hp]; rfl, rfl, hwas.cast P1.size⟩⟩
  have K2 := K1.trans k2
  have P2 := P1.append q2
  obtain ⟨v1, rfl, l1⟩ := hx1
  have lp2 := lt_in B2.heap
  go_wp2_with fail
  refine (listintG_c H2 (fun k hk => by have := hgl k hk; have := K2.size; omega) B2 (by rw [P2.other (o + 3) (by simp)]; exact hz 3 (by omega))).mono ?_
  rintro _ w3 ⟨k3, ⟨hp, rfl, hwas⟩ | ⟨x2, r3, cur3, cs2, hp2, rfl, H3, B3, q3, hx2⟩⟩
  · exact ⟨rfl, K2.trans k3, .inl ⟨by simp only [pBucket, hp0_0, hp0_1, hp1, Option.bind_some]; rw [hp]; rfl, rfl, hwas.cast P2.size⟩⟩
  have K3 := K2.trans k3
  have P3 := P2.append q3
  obtain ⟨v2, rfl, l2⟩ := hx2
  go_wp2
  have T3 := Kept.refl (fun k => k = c ∨ k = p) w3
  have T2 := k3.trans T3
  have T1 := k2.trans T2
  exact bodyPost_end (v := .tuple #[]) (by simp [results, Tryz.results115]) rfl ⟨K3, .inr ⟨⟨n0_0, n0_1, x1, x2⟩, r3, cur3, _, by simp only [pBucket, hp0_0, hp0_1, hp1, hp2, Option.bind_some], rfl, H3, B3, P3, ⟨v1, v2, rfl, (lawI.dec _ _ _ hp0_0).2, (lawI.dec _ _ _ hp0_1).2, l1.late intIs_stable K1.size T2 hlc hlp, l2.late intIs_stable K2.size T3 hlc hlp⟩⟩⟩

theorem info_Bucket : (Tryz.prog.info? 158).map (fun i => (i.zero, i.size, i.bytes)) = some (some (Value.agg #[Value.int IntKind.i64 0, Value.int IntKind.i64 0, Value.slice none 0 0, Value.slice none 0 0]), 4, 64) := by kernel_rfl

set_option maxRecDepth 100000 in
set_option maxHeartbeats 1600000 in
theorem listBucketG_c {w : World} {c p o : Nat} {bs : List UInt8} {g : Option Nat} {cur : Array Value} {t : TypeId} (h : Rd w c bs g) (hgl : ∀ k, g = some k → k < w.heap.size) (hb : Blk w p cur t c g) (hz : cur[o]? = some (.slice none 0 0)) :
    Calls Tryz.prog 114 #[.pointer (some ⟨c, 0, none⟩), .pointer (some ⟨p, o, none⟩), .func (.func 115) #[.pointer (some ⟨c, 0, none⟩)] #[]] w (Got (sliceIs 4 BucketT.Is) (pL pBucket) bs w c p o g cur t) := by
  obtain ⟨i0, hi0, hz0, hz1, hz2⟩ := info_all info_Bucket
  have p0 : w.cell? ⟨p, o, none⟩ = some (.slice none 0 0) := (cell_in hb.heap).trans hz
  have hlp := lt_in hb.heap
  have hlc := h.lt
  go_enter Tryz.func114, Tryz.ntmps114
  go_wp2_with fail
  refine (countG_c h).mono ?_
  rintro e w1 ⟨k1, ⟨n, r1, hp1, rfl, h1⟩ | ⟨hp1, rfl⟩⟩
  rotate_left
  · exact ⟨rfl, k1.mono (fun _ _ h => .inl h), .inl ⟨by unfold pL; rw [hp1]; rfl, rfl, (hb.kept k1 hb.ne).was⟩⟩
  have hb1 := hb.kept k1 hb.ne
  have p1 : w1.cell? ⟨p, o, none⟩ = some (.slice none 0 0) := (cell_in hb1.heap).trans hz
  have f1 : w1.frozen? ⟨p, o, none⟩ = false := frozen_in hb1.heap
  have lp1 := lt_in hb1.heap
  have c2 : w1.cell? ⟨c, 2, none⟩ = some (.bool true) := by
    obtain ⟨vi, h2, -⟩ := h1.ex
    exact cell_in h2
  have lc1 := h1.lt
  have e1 := setCell_same' p1
  have L0 := Lst.start BucketT.Is 4 158 hb1 hz k1
  have hn32 := (pC_some hp1).2.1
  have HP1 : Hid (pL pBucket bs = pN pBucket n r1) := Lib.hid (by unfold pL; rw [hp1]; rfl)
  clear p0 hb1 hp1
  go_wp2
  go_loopw [37] (fun i w' => ∃ (k : Nat) (v : Value) (xs : List BucketT) (Ls : List (List Value)) (r : List UInt8) (g' : Option Nat), k ≤ n ∧ i = .int .i64 k ∧ xs.length = k ∧ Hid (pN pBucket n r1 = (pN pBucket (n - k) r).bind (fun z => some (xs ++ z.1, z.2))) ∧ Rd w' c r g ∧ Lst BucketT.Is 4 158 w w' c p o g cur t v xs Ls g') (fun i _ => n - (intOf i).toNat)
  case atStart => exact ⟨0, _, [], [], r1, none, by omega, rfl, rfl, Lib.hid (by rw [Nat.sub_zero]; exact (bind_eta _).symm), h1, L0⟩
  case round =>
    obtain ⟨k, v, xs, Ls, r, g', hk, rfl, rfl, HP, hr, L⟩ := hrel
    by_cases hk2 : xs.length < n
    · have hki : (xs.length : Int) < (n : Int) := by omega
      obtain ⟨a, cp, rfl, hcp, -⟩ := L.own.shape
      obtain ⟨curp, hbp, hvp⟩ := L.cell
      have pr : wr.cell? ⟨p, o, none⟩ = some (.slice a xs.length cp) := (cell_in hbp).trans hvp
      have lpr := lt_in hbp
      have hsw := L.kept.size
      go_wp2_with fail
      have ka := Kept.alloc (fun _ => False) wr (Obj.cells #[Value.int IntKind.i64 0, Value.int IntKind.i64 0, Value.slice none 0 0, Value.slice none 0 0] 158)
      have hq : (wr.alloc (Obj.cells #[Value.int IntKind.i64 0, Value.int IntKind.i64 0, Value.slice none 0 0, Value.slice none 0 0] 158)).heap[wr.heap.size]? = some (Obj.cells #[Value.int IntKind.i64 0, Value.int IntKind.i64 0, Value.slice none 0 0, Value.slice none 0 0] 158) := heap_alloc_new' _ _
      have ra : Rd (wr.alloc (Obj.cells #[Value.int IntKind.i64 0, Value.int IntKind.i64 0, Value.slice none 0 0, Value.slice none 0 0] 158)) c r g := hr.kept ka
      have sa : (wr.alloc (Obj.cells #[Value.int IntKind.i64 0, Value.int IntKind.i64 0, Value.slice none 0 0, Value.slice none 0 0] 158)).heap.size = wr.heap.size + 1 := by simp
      generalize wr.alloc (Obj.cells #[Value.int IntKind.i64 0, Value.int IntKind.i64 0, Value.slice none 0 0, Value.slice none 0 0] 158) = wa at ka hq ra sa ⊢
      have bq : Blk wa wr.heap.size #[Value.int IntKind.i64 0, Value.int IntKind.i64 0, Value.slice none 0 0, Value.slice none 0 0] 158 c g := ⟨hq, by omega, fun e => by have := hgl _ e; omega⟩
      refine (bucketG_c ra (fun k hk => by have := hgl k hk; omega) bq (by intro f hf; simp)).mono ?_
      rintro e w2 ⟨k2, ⟨hp2, rfl, -⟩ | ⟨x, r2, cur2, cs, hp2, rfl, h2, b2, put2, hx⟩⟩
      · exact ⟨rfl, (L.kept.trans (ka.mono (fun _ _ h => h.elim))).thn k2 (fun i hi => by rcases hi with rfl | rfl; exact .inl (.inl rfl); exact .inr hsw), .inl ⟨by rw [HP1.out]; exact pN_stop hk2 HP.out hp2, rfl, L.was.kept ka k2 (fun h => h) (fun h => by rcases h with h | h; exact hb.ne h; omega)⟩⟩
      have k02 : Kept (· = c) wr w2 := (ka.mono (fun _ _ h => h.elim)).thn k2 (fun i hi => by rcases hi with rfl | rfl; exact .inl rfl; exact .inr (Nat.le_refl _))
      have hxn : BucketT.Is w2 (New wr w2) cs x := BucketT.stable _ _ _ _ _ _ hx (fun k hk => ⟨by have := hk.1; omega, hk.2⟩) (fun _ _ => rfl)
      obtain ⟨uv_items, uv_weights, rfl, -, -, m0, m1⟩ := hx
      obtain ⟨au0, cu0, rfl, -⟩ := m0.shape
      obtain ⟨au1, cu1, rfl, -⟩ := m1.shape
      have y0 : w2.cell? ⟨wr.heap.size, 0, none⟩ = some (Value.int IntKind.i64 x.id) := (cell_in b2.heap).trans (by have := put2.at_ 0 (by simp); simpa using this)
      have y1 : w2.cell? ⟨wr.heap.size, 1, none⟩ = some (Value.int IntKind.i64 x.kind) := (cell_in b2.heap).trans (by have := put2.at_ 1 (by simp); simpa using this)
      have y2 : w2.cell? ⟨wr.heap.size, 2, none⟩ = some (Value.slice au0 x.items.length cu0) := (cell_in b2.heap).trans (by have := put2.at_ 2 (by simp); simpa using this)
      have y3 : w2.cell? ⟨wr.heap.size, 3, none⟩ = some (Value.slice au1 x.weights.length cu1) := (cell_in b2.heap).trans (by have := put2.at_ 3 (by simp); simpa using this)
      have lq2 := lt_in b2.heap
      have HP2 := Lib.hid (pN_next hk2 HP.out hp2)
      have bp2 : w2.heap[p]? = some (.cells curp t) := (k02.block _ lpr hb.ne).trans hbp
      have HBP := Lib.hid bp2
      have lp2 := lt_in bp2
      have hpq : p ≠ wr.heap.size := by omega
      have own2 := L.own.kept k02 (fun k hk e => by have := L.new k hk; omega)
      clear ka hq ra bq hbp pr HP hp2 bp2
      go_wp2
      refine wp_region_ordJ (fun w' => w'.heap[p]? = some (.cells curp t)) [4] [0, 1, 2, 3] [5, 6] [7, 8] (by kernel_rfl) (by kernel_rfl) (fun _ _ d _ _ h => by cases d <;> exact h) (fun k => HBP.out) ?_
      simp only [sel, List.filterMap_cons, List.filterMap_nil, List.getElem?_cons_zero, List.getElem?_cons_succ]
      repeat (quiet_step (fail))
      refine wpQuiet_nil ?_
      refine wpHeld_step (fun K hK => ?_)
      go_simp
      refine ⟨_, fun _ _ => rfl, hK _ ?_⟩
      refine wpHeld_step (fun K hK => ?_)
      go_simp
      refine ⟨_, fun _ _ => rfl, hK _ ?_⟩
      refine wpHeld_step (fun K hK => ?_)
      go_simp
      refine ⟨_, fun _ _ => rfl, hK _ ?_⟩
      refine wpHeld_step (fun K hK => ?_)
      go_simp
      refine ⟨.slice a xs.length cp, fun w' h => (by
        have h1 := (cell_in (k := o) h).trans hvp
        have h2 := lt_in h
        clear h
        go_simp), hK _ ?_⟩
      refine wpHeld_nil ?_
      rintro _ ⟨nr, rfl⟩
      have kd := Kept.drewN (fun _ => False) w2 nr
      have Q3 : Hid ((w2.drewN nr).heap[p]? = some (.cells curp t)) := Lib.hid HBP.out
      generalize w2.drewN nr = w3 at kd Q3 ⊢
      refine wpListS_step (fun K hK => ?_)
      go_simp
      have hA : (w3.alloc (Obj.cells #[Value.int IntKind.i64 x.id, Value.int IntKind.i64 x.kind, Value.slice au0 x.items.length cu0, Value.slice au1 x.weights.length cu1] 158)).heap[p]? = some (.cells curp t) := (Below.heap_alloc _ _ _ (lt_in Q3.out)).trans Q3.out
      refine hK _ _ hA ?_
      clear hK
      have k34 := kd.al (Obj.cells #[Value.int IntKind.i64 x.id, Value.int IntKind.i64 x.kind, Value.slice au0 x.items.length cu0, Value.slice au1 x.weights.length cu1] 158)
      have r4 := reads_allocN w3 [Value.int IntKind.i64 x.id, Value.int IntKind.i64 x.kind, Value.slice au0 x.items.length cu0, Value.slice au1 x.weights.length cu1] 158 4 rfl
      generalize w3.alloc (Obj.cells #[Value.int IntKind.i64 x.id, Value.int IntKind.i64 x.kind, Value.slice au0 x.items.length cu0, Value.slice au1 x.weights.length cu1] 158) = w4 at hA k34 r4 ⊢
      have own4 := own2.kept k34 (fun _ _ h => h)
      refine wpListS_append_Own rfl _ _ 68 68 rfl 158 i0 (Value.agg #[Value.int IntKind.i64 0, Value.int IntKind.i64 0, Value.slice none 0 0, Value.slice none 0 0]) 4 64 Tryz.underlying68 hi0 hz0 hz1 hz2 rfl rfl own4 rfl (r4.src Tryz.underlying68 (by intro u hu; simp only [List.mem_cons, List.not_mem_nil, or_false] at hu; rcases hu with rfl | rfl | rfl | rfl <;> rfl)) (by unfold maxLen; omega) (by omega) ?_
      intro a5 k5 w5 g5 hown5 hk5 hg5
      have hgp : g' ≠ some p := fun e => by have := L.new p e; omega
      have hA5 : w5.heap[p]? = _ := (hk5.block _ (lt_in hA) (fun h => hgp h)).trans hA
      refine ⟨hA5, ?_⟩
      refine wpListS_nil ?_
      have k04 : Kept (· = c) wr w4 := k02.trans (k34.mono (fun _ _ h => h.elim))
      have s4 := k34.size
      have hx4 : BucketT.Is w4 (New wr w4) _ x := BucketT.stable _ _ _ _ _ _ hxn (fun k hk => ⟨hk.1, by have := hk.2; omega⟩) (fun k hk => k34.block k hk.2 (fun h => h))
      have LN := Lib.hid (L.grow BucketT.stable (o := o) hlp hlc k04 hx4 rfl hown5 hk5 hg5)
      have RN := Lib.hid (Lst.rd L (w2 := w2) (o := o) (v4 := .slice a5 (xs.length + 1) k5) hlc hgl (h2.kept k34) hk5)
      have f0 : w5.frozen? ⟨p, o, none⟩ = false := frozen_in hA5
      have z5 := (cell_in (k := o) hA5).trans hvp
      have hl5 := lt_in hA5
      have HX2 : Hid ((xs ++ [x]).length = xs.length + 1) := Lib.hid (by rw [List.length_append]; rfl)
      clear hA5 hA hown5 own4 own2 r4 hk5 hg5 hx4 hxn
      go_wp2
      exact ⟨⟨xs.length + 1, _, xs ++ [x], _, r2, g5, by omega, by simp, HX2.out, HP2, RN.out, LN.out⟩, by simp [intOf]; omega⟩
    · obtain rfl : n = xs.length := by omega
      go_wp2
      obtain ⟨cur', hbl, hpu⟩ := L.blk
      exact bodyPost_end (v := .tuple #[]) (by simp [results, Tryz.results114]) rfl ⟨L.kept, .inr ⟨xs, r, cur', [v], by rw [HP1.out]; exact pN_end HP.out, rfl, hr, hbl, hpu, v, rfl, L.done BucketT.stable (by omega)⟩⟩

set_option maxRecDepth 100000 in
set_option maxHeartbeats 1600000 in
theorem changeG_c {w : World} {c p o : Nat} {bs : List UInt8} {g : Option Nat} {cur : Array Value} {t : TypeId} (h : Rd w c bs g) (hgl : ∀ k, g = some k → k < w.heap.size) (hb : Blk w p cur t c g) (hz : ∀ f, f < 11 → cur[o + f]? = ([Value.int IntKind.i64 0, Value.int IntKind.i64 0, Value.int IntKind.i64 0, Value.int IntKind.i64 0, Value.int IntKind.i64 0, Value.int IntKind.i64 0, Value.int IntKind.i64 0, Value.int IntKind.i64 0, Value.int IntKind.i64 0, Value.slice none 0 0, Value.slice none 0 0] : List Value)[f]?) :
    Calls Tryz.prog 71 #[.pointer (some ⟨c, 0, none⟩), .pointer (some ⟨p, o, none⟩)] w (Got ChangeT.Is pChange bs w c p o g cur t) := by
  have hmf : ∀ (fn : Fn) (first cap : Array Value) (w : World), (Instr.makeFunc fn first cap).run Tryz.prog w = .ok (.func fn first cap) w := fun _ _ _ _ => rfl
  have hlp := lt_in hb.heap
  have hlc := h.lt
  go_enter Tryz.func71, Tryz.ntmps71
  have B0 := hb
  have H0 := h
  have P0 := Put.nil cur o
  have K0 := Kept.refl (fun k => k = c ∨ k = p) w
  have z0 := hz
  clear h hb
  have lp0 := lt_in B0.heap
  go_wp2
  refine wp_region_ord [1, 2, 3, 4, 5, 6, 7, 8, 9] [0] [10, 11] (by kernel_rfl) (by kernel_rfl) (fun _ _ d _ _ h => by cases d <;> exact h) ?_
  simp only [sel, List.filterMap_cons, List.filterMap_nil, List.getElem?_cons_zero, List.getElem?_cons_succ]
  repeat (quiet_step (fail))
  refine wpQuiet_nil ?_
  refine wpIdle_step (fun K hK => ?_)
  go_simp
  refine hK _ ?_
  clear hK
  refine wpIdle_nil ?_
  rintro _ ⟨nr, rfl⟩
  go_wp2_with fail
  have j0 : Kept (fun _ => False) w ((w.drewN nr).alloc (Obj.cells #[Value.pointer (some ⟨p, o, none⟩), Value.pointer (some ⟨p, o + 1, none⟩), Value.pointer (some ⟨p, o + 2, none⟩)] 140)) := (Kept.drewN _ _ _).al _
  have rr0 := (own_alloc (w.drewN nr) [Value.pointer (some ⟨p, o, none⟩), Value.pointer (some ⟨p, o + 1, none⟩), Value.pointer (some ⟨p, o + 2, none⟩)] 140 3 rfl (by decide)).reads
  have hs0 : (w.drewN nr).heap.size = w.heap.size := rfl
  rw [hs0] at rr0
  generalize (w.drewN nr).alloc (Obj.cells #[Value.pointer (some ⟨p, o, none⟩), Value.pointer (some ⟨p, o + 1, none⟩), Value.pointer (some ⟨p, o + 2, none⟩)] 140) = y0 at j0 rr0 ⊢
  have HH0 : Rd y0 c _ g := H0.kept j0
  have BB0 := B0.kept j0 (fun h => h)
  have hc0 : c < w.heap.size := H0.lt
  have lb0 := lt_in B0.heap
  refine (numsI_c (m := 3) (o := o) HH0 BB0 (gp := some w.heap.size) rr0 (fun k hk => by cases hk; exact ⟨Nat.ne_of_gt hc0, Nat.ne_of_gt lb0⟩) (by
    intro f hf
    obtain rfl | rfl | rfl : f = 0 ∨ f = 1 ∨ f = 2 := by omega
    · exact ⟨0, by rw [P0.other _ (by simp)]; exact hz 0 (by omega)⟩
    · exact ⟨0, by rw [P0.other _ (by simp)]; exact hz 1 (by omega)⟩
    · exact ⟨0, by rw [P0.other _ (by simp)]; exact hz 2 (by omega)⟩
    ) (by omega)).mono ?_
  rintro _ w1 ⟨k1, ⟨hp, rfl, hwas⟩ | ⟨ns0, r1, cur1, cs0, hp, rfl, H1, B1, q1, hx0⟩⟩
  · exact ⟨rfl, K0.trans (kept_alloc2 j0 k1), .inl ⟨by simp only [pChange, Option.bind_some]; exact pN3_none hp _, rfl, hwas.cast P0.size⟩⟩
  have K1 := K0.trans (kept_alloc2 j0 k1)
  replace k1 := kept_alloc2 j0 k1
  obtain rfl := hx0
  obtain ⟨n0_0, s0_0, n0_1, s0_1, n0_2, hp0_0, hp0_1, hp0_2, rfl⟩ := pN3_some hp
  simp only [List.map_cons, List.map_nil] at q1
  have P1 := P0.append q1
  have lp1 := lt_in B1.heap
  go_wp2_with fail
  refine (poolG_c H1 (fun k hk => by have := hgl k hk; have := K1.size; omega) B1 (o := o + 3) (by
    intro f hf
    obtain rfl | rfl | rfl | rfl : f = 0 ∨ f = 1 ∨ f = 2 ∨ f = 3 := by omega
    · rw [P1.other _ (by simp)]; exact hz 3 (by omega)
    · rw [P1.other _ (by simp)]; exact hz 4 (by omega)
    · rw [P1.other _ (by simp)]; exact hz 5 (by omega)
    · rw [P1.other _ (by simp)]; exact hz 6 (by omega)
    )).mono ?_
  rintro _ w2 ⟨k2, ⟨hp, rfl, hwas⟩ | ⟨x1, r2, cur2, cs1, hp1, rfl, H2, B2, q2, hx1⟩⟩
  · exact ⟨rfl, K1.trans k2, .inl ⟨by simp only [pChange, hp0_0, hp0_1, hp0_2, Option.bind_some]; rw [hp]; rfl, rfl, hwas.cast P1.size⟩⟩
  have K2 := K1.trans k2
  have P2 := P1.append q2
  obtain ⟨rfl, j1_0, j1_1, j1_2, j1_3⟩ := hx1
  have lp2 := lt_in B2.heap
  go_wp2_with fail
  refine (bucketG_c H2 (fun k hk => by have := hgl k hk; have := K2.size; omega) B2 (o := o + 7) (by
    intro f hf
    obtain rfl | rfl | rfl | rfl : f = 0 ∨ f = 1 ∨ f = 2 ∨ f = 3 := by omega
    · rw [P2.other _ (by simp)]; exact hz 7 (by omega)
    · rw [P2.other _ (by simp)]; exact hz 8 (by omega)
    · rw [P2.other _ (by simp)]; exact hz 9 (by omega)
    · rw [P2.other _ (by simp)]; exact hz 10 (by omega)
    )).mono ?_
  rintro _ w3 ⟨k3, ⟨hp, rfl, hwas⟩ | ⟨x2, r3, cur3, cs2, hp2, rfl, H3, B3, q3, hx2⟩⟩
  · exact ⟨rfl, K2.trans k3, .inl ⟨by simp only [pChange, hp0_0, hp0_1, hp0_2, hp1, Option.bind_some]; rw [hp]; rfl, rfl, hwas.cast P2.size⟩⟩
  have K3 := K2.trans k3
  have P3 := P2.append q3
  obtain ⟨u2_0, u2_1, rfl, j2_0, j2_1, l2_0, l2_1⟩ := hx2
  go_wp2
  have T3 := Kept.refl (fun k => k = c ∨ k = p) w3
  have T2 := k3.trans T3
  have T1 := k2.trans T2
  exact bodyPost_end (v := .tuple #[]) (by simp [results, Tryz.results71]) rfl ⟨K3, .inr ⟨⟨n0_0, n0_1, n0_2, x1, x2⟩, r3, cur3, _, by simp only [pChange, hp0_0, hp0_1, hp0_2, hp1, hp2, Option.bind_some], rfl, H3, B3, P3, ⟨u2_0, u2_1, rfl, (lawI.dec _ _ _ hp0_0).2, (lawI.dec _ _ _ hp0_1).2, (lawI.dec _ _ _ hp0_2).2, j1_0, j1_1, j1_2, j1_3, j2_0, j2_1, l2_0.late intIs_stable K2.size T3 hlc hlp, l2_1.late intIs_stable K2.size T3 hlc hlp⟩⟩⟩

theorem info_Change : (Tryz.prog.info? 160).map (fun i => (i.zero, i.size, i.bytes)) = some (some (Value.agg #[Value.int IntKind.i64 0, Value.int IntKind.i64 0, Value.int IntKind.i64 0, Value.int IntKind.i64 0, Value.int IntKind.i64 0, Value.int IntKind.i64 0, Value.int IntKind.i64 0, Value.int IntKind.i64 0, Value.int IntKind.i64 0, Value.slice none 0 0, Value.slice none 0 0]), 11, 120) := by kernel_rfl

set_option maxRecDepth 100000 in
set_option maxHeartbeats 1600000 in
theorem listChangeG_c {w : World} {c p o : Nat} {bs : List UInt8} {g : Option Nat} {cur : Array Value} {t : TypeId} (h : Rd w c bs g) (hgl : ∀ k, g = some k → k < w.heap.size) (hb : Blk w p cur t c g) (hz : cur[o]? = some (.slice none 0 0)) :
    Calls Tryz.prog 70 #[.pointer (some ⟨c, 0, none⟩), .pointer (some ⟨p, o, none⟩), .func (.func 71) #[.pointer (some ⟨c, 0, none⟩)] #[]] w (Got (sliceIs 11 ChangeT.Is) (pL pChange) bs w c p o g cur t) := by
  obtain ⟨i0, hi0, hz0, hz1, hz2⟩ := info_all info_Change
  have p0 : w.cell? ⟨p, o, none⟩ = some (.slice none 0 0) := (cell_in hb.heap).trans hz
  have hlp := lt_in hb.heap
  have hlc := h.lt
  go_enter Tryz.func70, Tryz.ntmps70
  go_wp2_with fail
  refine (countG_c h).mono ?_
  rintro e w1 ⟨k1, ⟨n, r1, hp1, rfl, h1⟩ | ⟨hp1, rfl⟩⟩
  rotate_left
  · exact ⟨rfl, k1.mono (fun _ _ h => .inl h), .inl ⟨by unfold pL; rw [hp1]; rfl, rfl, (hb.kept k1 hb.ne).was⟩⟩
  have hb1 := hb.kept k1 hb.ne
  have p1 : w1.cell? ⟨p, o, none⟩ = some (.slice none 0 0) := (cell_in hb1.heap).trans hz
  have f1 : w1.frozen? ⟨p, o, none⟩ = false := frozen_in hb1.heap
  have lp1 := lt_in hb1.heap
  have c2 : w1.cell? ⟨c, 2, none⟩ = some (.bool true) := by
    obtain ⟨vi, h2, -⟩ := h1.ex
    exact cell_in h2
  have lc1 := h1.lt
  have e1 := setCell_same' p1
  have L0 := Lst.start ChangeT.Is 11 160 hb1 hz k1
  have hn32 := (pC_some hp1).2.1
  have HP1 : Hid (pL pChange bs = pN pChange n r1) := Lib.hid (by unfold pL; rw [hp1]; rfl)
  clear p0 hb1 hp1
  go_wp2
  go_loopw [37] (fun i w' => ∃ (k : Nat) (v : Value) (xs : List ChangeT) (Ls : List (List Value)) (r : List UInt8) (g' : Option Nat), k ≤ n ∧ i = .int .i64 k ∧ xs.length = k ∧ Hid (pN pChange n r1 = (pN pChange (n - k) r).bind (fun z => some (xs ++ z.1, z.2))) ∧ Rd w' c r g ∧ Lst ChangeT.Is 11 160 w w' c p o g cur t v xs Ls g') (fun i _ => n - (intOf i).toNat)
  case atStart => exact ⟨0, _, [], [], r1, none, by omega, rfl, rfl, Lib.hid (by rw [Nat.sub_zero]; exact (bind_eta _).symm), h1, L0⟩
  case round =>
    obtain ⟨k, v, xs, Ls, r, g', hk, rfl, rfl, HP, hr, L⟩ := hrel
    by_cases hk2 : xs.length < n
    · have hki : (xs.length : Int) < (n : Int) := by omega
      obtain ⟨a, cp, rfl, hcp, -⟩ := L.own.shape
      obtain ⟨curp, hbp, hvp⟩ := L.cell
      have pr : wr.cell? ⟨p, o, none⟩ = some (.slice a xs.length cp) := (cell_in hbp).trans hvp
      have lpr := lt_in hbp
      have hsw := L.kept.size
      go_wp2_with fail
      have ka := Kept.alloc (fun _ => False) wr (Obj.cells #[Value.int IntKind.i64 0, Value.int IntKind.i64 0, Value.int IntKind.i64 0, Value.int IntKind.i64 0, Value.int IntKind.i64 0, Value.int IntKind.i64 0, Value.int IntKind.i64 0, Value.int IntKind.i64 0, Value.int IntKind.i64 0, Value.slice none 0 0, Value.slice none 0 0] 160)
      have hq : (wr.alloc (Obj.cells #[Value.int IntKind.i64 0, Value.int IntKind.i64 0, Value.int IntKind.i64 0, Value.int IntKind.i64 0, Value.int IntKind.i64 0, Value.int IntKind.i64 0, Value.int IntKind.i64 0, Value.int IntKind.i64 0, Value.int IntKind.i64 0, Value.slice none 0 0, Value.slice none 0 0] 160)).heap[wr.heap.size]? = some (Obj.cells #[Value.int IntKind.i64 0, Value.int IntKind.i64 0, Value.int IntKind.i64 0, Value.int IntKind.i64 0, Value.int IntKind.i64 0, Value.int IntKind.i64 0, Value.int IntKind.i64 0, Value.int IntKind.i64 0, Value.int IntKind.i64 0, Value.slice none 0 0, Value.slice none 0 0] 160) := heap_alloc_new' _ _
      have ra : Rd (wr.alloc (Obj.cells #[Value.int IntKind.i64 0, Value.int IntKind.i64 0, Value.int IntKind.i64 0, Value.int IntKind.i64 0, Value.int IntKind.i64 0, Value.int IntKind.i64 0, Value.int IntKind.i64 0, Value.int IntKind.i64 0, Value.int IntKind.i64 0, Value.slice none 0 0, Value.slice none 0 0] 160)) c r g := hr.kept ka
      have sa : (wr.alloc (Obj.cells #[Value.int IntKind.i64 0, Value.int IntKind.i64 0, Value.int IntKind.i64 0, Value.int IntKind.i64 0, Value.int IntKind.i64 0, Value.int IntKind.i64 0, Value.int IntKind.i64 0, Value.int IntKind.i64 0, Value.int IntKind.i64 0, Value.slice none 0 0, Value.slice none 0 0] 160)).heap.size = wr.heap.size + 1 := by simp
      generalize wr.alloc (Obj.cells #[Value.int IntKind.i64 0, Value.int IntKind.i64 0, Value.int IntKind.i64 0, Value.int IntKind.i64 0, Value.int IntKind.i64 0, Value.int IntKind.i64 0, Value.int IntKind.i64 0, Value.int IntKind.i64 0, Value.int IntKind.i64 0, Value.slice none 0 0, Value.slice none 0 0] 160) = wa at ka hq ra sa ⊢
      have bq : Blk wa wr.heap.size #[Value.int IntKind.i64 0, Value.int IntKind.i64 0, Value.int IntKind.i64 0, Value.int IntKind.i64 0, Value.int IntKind.i64 0, Value.int IntKind.i64 0, Value.int IntKind.i64 0, Value.int IntKind.i64 0, Value.int IntKind.i64 0, Value.slice none 0 0, Value.slice none 0 0] 160 c g := ⟨hq, by omega, fun e => by have := hgl _ e; omega⟩
      refine (changeG_c ra (fun k hk => by have := hgl k hk; omega) bq (by intro f hf; simp)).mono ?_
      rintro e w2 ⟨k2, ⟨hp2, rfl, -⟩ | ⟨x, r2, cur2, cs, hp2, rfl, h2, b2, put2, hx⟩⟩
      · exact ⟨rfl, (L.kept.trans (ka.mono (fun _ _ h => h.elim))).thn k2 (fun i hi => by rcases hi with rfl | rfl; exact .inl (.inl rfl); exact .inr hsw), .inl ⟨by rw [HP1.out]; exact pN_stop hk2 HP.out hp2, rfl, L.was.kept ka k2 (fun h => h) (fun h => by rcases h with h | h; exact hb.ne h; omega)⟩⟩
      have k02 : Kept (· = c) wr w2 := (ka.mono (fun _ _ h => h.elim)).thn k2 (fun i hi => by rcases hi with rfl | rfl; exact .inl rfl; exact .inr (Nat.le_refl _))
      have hxn : ChangeT.Is w2 (New wr w2) cs x := ChangeT.stable _ _ _ _ _ _ hx (fun k hk => ⟨by have := hk.1; omega, hk.2⟩) (fun _ _ => rfl)
      obtain ⟨uv_bucket_items, uv_bucket_weights, rfl, -, -, -, -, -, -, -, -, -, m0, m1⟩ := hx
      obtain ⟨au0, cu0, rfl, -⟩ := m0.shape
      obtain ⟨au1, cu1, rfl, -⟩ := m1.shape
      have y0 : w2.cell? ⟨wr.heap.size, 0, none⟩ = some (Value.int IntKind.i64 x.kind) := (cell_in b2.heap).trans (by have := put2.at_ 0 (by simp); simpa using this)
      have y1 : w2.cell? ⟨wr.heap.size, 1, none⟩ = some (Value.int IntKind.i64 x.osd) := (cell_in b2.heap).trans (by have := put2.at_ 1 (by simp); simpa using this)
      have y2 : w2.cell? ⟨wr.heap.size, 2, none⟩ = some (Value.int IntKind.i64 x.value) := (cell_in b2.heap).trans (by have := put2.at_ 2 (by simp); simpa using this)
      have y3 : w2.cell? ⟨wr.heap.size, 3, none⟩ = some (Value.int IntKind.i64 x.pool.id) := (cell_in b2.heap).trans (by have := put2.at_ 3 (by simp); simpa using this)
      have y4 : w2.cell? ⟨wr.heap.size, 4, none⟩ = some (Value.int IntKind.i64 x.pool.size) := (cell_in b2.heap).trans (by have := put2.at_ 4 (by simp); simpa using this)
      have y5 : w2.cell? ⟨wr.heap.size, 5, none⟩ = some (Value.int IntKind.i64 x.pool.min) := (cell_in b2.heap).trans (by have := put2.at_ 5 (by simp); simpa using this)
      have y6 : w2.cell? ⟨wr.heap.size, 6, none⟩ = some (Value.int IntKind.i64 x.pool.pgs) := (cell_in b2.heap).trans (by have := put2.at_ 6 (by simp); simpa using this)
      have y7 : w2.cell? ⟨wr.heap.size, 7, none⟩ = some (Value.int IntKind.i64 x.bucket.id) := (cell_in b2.heap).trans (by have := put2.at_ 7 (by simp); simpa using this)
      have y8 : w2.cell? ⟨wr.heap.size, 8, none⟩ = some (Value.int IntKind.i64 x.bucket.kind) := (cell_in b2.heap).trans (by have := put2.at_ 8 (by simp); simpa using this)
      have y9 : w2.cell? ⟨wr.heap.size, 9, none⟩ = some (Value.slice au0 x.bucket.items.length cu0) := (cell_in b2.heap).trans (by have := put2.at_ 9 (by simp); simpa using this)
      have y10 : w2.cell? ⟨wr.heap.size, 10, none⟩ = some (Value.slice au1 x.bucket.weights.length cu1) := (cell_in b2.heap).trans (by have := put2.at_ 10 (by simp); simpa using this)
      have lq2 := lt_in b2.heap
      have HP2 := Lib.hid (pN_next hk2 HP.out hp2)
      have bp2 : w2.heap[p]? = some (.cells curp t) := (k02.block _ lpr hb.ne).trans hbp
      have HBP := Lib.hid bp2
      have lp2 := lt_in bp2
      have hpq : p ≠ wr.heap.size := by omega
      have own2 := L.own.kept k02 (fun k hk e => by have := L.new k hk; omega)
      clear ka hq ra bq hbp pr HP hp2 bp2
      go_wp2
      refine wp_region_ordJ (fun w' => w'.heap[p]? = some (.cells curp t)) [4] [0, 1, 2, 3] [5, 6] [7, 8] (by kernel_rfl) (by kernel_rfl) (fun _ _ d _ _ h => by cases d <;> exact h) (fun k => HBP.out) ?_
      simp only [sel, List.filterMap_cons, List.filterMap_nil, List.getElem?_cons_zero, List.getElem?_cons_succ]
      repeat (quiet_step (fail))
      refine wpQuiet_nil ?_
      refine wpHeld_step (fun K hK => ?_)
      go_simp
      refine ⟨_, fun _ _ => rfl, hK _ ?_⟩
      refine wpHeld_step (fun K hK => ?_)
      go_simp
      refine ⟨_, fun _ _ => rfl, hK _ ?_⟩
      refine wpHeld_step (fun K hK => ?_)
      go_simp
      refine ⟨_, fun _ _ => rfl, hK _ ?_⟩
      refine wpHeld_step (fun K hK => ?_)
      go_simp
      refine ⟨.slice a xs.length cp, fun w' h => (by
        have h1 := (cell_in (k := o) h).trans hvp
        have h2 := lt_in h
        clear h
        go_simp), hK _ ?_⟩
      refine wpHeld_nil ?_
      rintro _ ⟨nr, rfl⟩
      have kd := Kept.drewN (fun _ => False) w2 nr
      have Q3 : Hid ((w2.drewN nr).heap[p]? = some (.cells curp t)) := Lib.hid HBP.out
      generalize w2.drewN nr = w3 at kd Q3 ⊢
      refine wpListS_step (fun K hK => ?_)
      go_simp
      have hA : (w3.alloc (Obj.cells #[Value.int IntKind.i64 x.kind, Value.int IntKind.i64 x.osd, Value.int IntKind.i64 x.value, Value.int IntKind.i64 x.pool.id, Value.int IntKind.i64 x.pool.size, Value.int IntKind.i64 x.pool.min, Value.int IntKind.i64 x.pool.pgs, Value.int IntKind.i64 x.bucket.id, Value.int IntKind.i64 x.bucket.kind, Value.slice au0 x.bucket.items.length cu0, Value.slice au1 x.bucket.weights.length cu1] 160)).heap[p]? = some (.cells curp t) := (Below.heap_alloc _ _ _ (lt_in Q3.out)).trans Q3.out
      refine hK _ _ hA ?_
      clear hK
      have k34 := kd.al (Obj.cells #[Value.int IntKind.i64 x.kind, Value.int IntKind.i64 x.osd, Value.int IntKind.i64 x.value, Value.int IntKind.i64 x.pool.id, Value.int IntKind.i64 x.pool.size, Value.int IntKind.i64 x.pool.min, Value.int IntKind.i64 x.pool.pgs, Value.int IntKind.i64 x.bucket.id, Value.int IntKind.i64 x.bucket.kind, Value.slice au0 x.bucket.items.length cu0, Value.slice au1 x.bucket.weights.length cu1] 160)
      have r4 := reads_allocN w3 [Value.int IntKind.i64 x.kind, Value.int IntKind.i64 x.osd, Value.int IntKind.i64 x.value, Value.int IntKind.i64 x.pool.id, Value.int IntKind.i64 x.pool.size, Value.int IntKind.i64 x.pool.min, Value.int IntKind.i64 x.pool.pgs, Value.int IntKind.i64 x.bucket.id, Value.int IntKind.i64 x.bucket.kind, Value.slice au0 x.bucket.items.length cu0, Value.slice au1 x.bucket.weights.length cu1] 160 11 rfl
      generalize w3.alloc (Obj.cells #[Value.int IntKind.i64 x.kind, Value.int IntKind.i64 x.osd, Value.int IntKind.i64 x.value, Value.int IntKind.i64 x.pool.id, Value.int IntKind.i64 x.pool.size, Value.int IntKind.i64 x.pool.min, Value.int IntKind.i64 x.pool.pgs, Value.int IntKind.i64 x.bucket.id, Value.int IntKind.i64 x.bucket.kind, Value.slice au0 x.bucket.items.length cu0, Value.slice au1 x.bucket.weights.length cu1] 160) = w4 at hA k34 r4 ⊢
      have own4 := own2.kept k34 (fun _ _ h => h)
      refine wpListS_append_Own rfl _ _ 28 28 rfl 160 i0 (Value.agg #[Value.int IntKind.i64 0, Value.int IntKind.i64 0, Value.int IntKind.i64 0, Value.int IntKind.i64 0, Value.int IntKind.i64 0, Value.int IntKind.i64 0, Value.int IntKind.i64 0, Value.int IntKind.i64 0, Value.int IntKind.i64 0, Value.slice none 0 0, Value.slice none 0 0]) 11 120 Tryz.underlying28 hi0 hz0 hz1 hz2 rfl rfl own4 rfl (r4.src Tryz.underlying28 (by intro u hu; simp only [List.mem_cons, List.not_mem_nil, or_false] at hu; rcases hu with rfl | rfl | rfl | rfl | rfl | rfl | rfl | rfl | rfl | rfl | rfl <;> rfl)) (by unfold maxLen; omega) (by omega) ?_
      intro a5 k5 w5 g5 hown5 hk5 hg5
      have hgp : g' ≠ some p := fun e => by have := L.new p e; omega
      have hA5 : w5.heap[p]? = _ := (hk5.block _ (lt_in hA) (fun h => hgp h)).trans hA
      refine ⟨hA5, ?_⟩
      refine wpListS_nil ?_
      have k04 : Kept (· = c) wr w4 := k02.trans (k34.mono (fun _ _ h => h.elim))
      have s4 := k34.size
      have hx4 : ChangeT.Is w4 (New wr w4) _ x := ChangeT.stable _ _ _ _ _ _ hxn (fun k hk => ⟨hk.1, by have := hk.2; omega⟩) (fun k hk => k34.block k hk.2 (fun h => h))
      have LN := Lib.hid (L.grow ChangeT.stable (o := o) hlp hlc k04 hx4 rfl hown5 hk5 hg5)
      have RN := Lib.hid (Lst.rd L (w2 := w2) (o := o) (v4 := .slice a5 (xs.length + 1) k5) hlc hgl (h2.kept k34) hk5)
      have f0 : w5.frozen? ⟨p, o, none⟩ = false := frozen_in hA5
      have z5 := (cell_in (k := o) hA5).trans hvp
      have hl5 := lt_in hA5
      have HX2 : Hid ((xs ++ [x]).length = xs.length + 1) := Lib.hid (by rw [List.length_append]; rfl)
      clear hA5 hA hown5 own4 own2 r4 hk5 hg5 hx4 hxn
      go_wp2
      exact ⟨⟨xs.length + 1, _, xs ++ [x], _, r2, g5, by omega, by simp, HX2.out, HP2, RN.out, LN.out⟩, by simp [intOf]; omega⟩
    · obtain rfl : n = xs.length := by omega
      go_wp2
      obtain ⟨cur', hbl, hpu⟩ := L.blk
      exact bodyPost_end (v := .tuple #[]) (by simp [results, Tryz.results70]) rfl ⟨L.kept, .inr ⟨xs, r, cur', [v], by rw [HP1.out]; exact pN_end HP.out, rfl, hr, hbl, hpu, v, rfl, L.done ChangeT.stable (by omega)⟩⟩

set_option maxRecDepth 100000 in
set_option maxHeartbeats 1600000 in
theorem clusterG_c {w : World} {c p o : Nat} {bs : List UInt8} {g : Option Nat} {cur : Array Value} {t : TypeId} (h : Rd w c bs g) (hgl : ∀ k, g = some k → k < w.heap.size) (hb : Blk w p cur t c g) (hz : ∀ f, f < 5 → cur[o + f]? = ([Value.int IntKind.i64 0, Value.slice none 0 0, Value.slice none 0 0, Value.slice none 0 0, Value.int IntKind.i64 0] : List Value)[f]?) :
    Calls Tryz.prog 45 #[.pointer (some ⟨c, 0, none⟩), .pointer (some ⟨p, o, none⟩)] w (Got MapT.Is pMap bs w c p o g cur t) := by
  have hmf : ∀ (fn : Fn) (first cap : Array Value) (w : World), (Instr.makeFunc fn first cap).run Tryz.prog w = .ok (.func fn first cap) w := fun _ _ _ _ => rfl
  have hlp := lt_in hb.heap
  have hlc := h.lt
  go_enter Tryz.func45, Tryz.ntmps45
  have B0 := hb
  have H0 := h
  have P0 := Put.nil cur o
  have K0 := Kept.refl (fun k => k = c ∨ k = p) w
  have z0 := hz
  clear h hb
  go_wp2_with fail
  refine (numI_c H0 B0 (m := 0) (by rw [P0.other (o) (by simp)]; exact hz 0 (by omega))).mono ?_
  rintro _ w1 ⟨k1, ⟨hp, rfl, hwas⟩ | ⟨x0, r1, cur1, cs0, hp0, rfl, H1, B1, q1, hx0⟩⟩
  · exact ⟨rfl, K0.trans k1, .inl ⟨by simp only [pMap, Option.bind_some]; rw [hp]; rfl, rfl, hwas.cast P0.size⟩⟩
  have K1 := K0.trans k1
  have P1 := P0.append q1
  obtain ⟨rfl, j0⟩ := hx0
  have lp1 := lt_in B1.heap
  go_wp2_with fail
  refine (listOsdG_c H1 (fun k hk => by have := hgl k hk; have := K1.size; omega) B1 (by rw [P1.other (o + 1) (by simp)]; exact hz 1 (by omega))).mono ?_
  rintro _ w2 ⟨k2, ⟨hp, rfl, hwas⟩ | ⟨x1, r2, cur2, cs1, hp1, rfl, H2, B2, q2, hx1⟩⟩
  · exact ⟨rfl, K1.trans k2, .inl ⟨by simp only [pMap, hp0, Option.bind_some]; rw [hp]; rfl, rfl, hwas.cast P1.size⟩⟩
  have K2 := K1.trans k2
  have P2 := P1.append q2
  obtain ⟨v1, rfl, l1⟩ := hx1
  have lp2 := lt_in B2.heap
  go_wp2_with fail
  refine (listPoolG_c H2 (fun k hk => by have := hgl k hk; have := K2.size; omega) B2 (by rw [P2.other (o + 2) (by simp)]; exact hz 2 (by omega))).mono ?_
  rintro _ w3 ⟨k3, ⟨hp, rfl, hwas⟩ | ⟨x2, r3, cur3, cs2, hp2, rfl, H3, B3, q3, hx2⟩⟩
  · exact ⟨rfl, K2.trans k3, .inl ⟨by simp only [pMap, hp0, hp1, Option.bind_some]; rw [hp]; rfl, rfl, hwas.cast P2.size⟩⟩
  have K3 := K2.trans k3
  have P3 := P2.append q3
  obtain ⟨v2, rfl, l2⟩ := hx2
  have lp3 := lt_in B3.heap
  go_wp2_with fail
  refine (listBucketG_c H3 (fun k hk => by have := hgl k hk; have := K3.size; omega) B3 (by rw [P3.other (o + 3) (by simp)]; exact hz 3 (by omega))).mono ?_
  rintro _ w4 ⟨k4, ⟨hp, rfl, hwas⟩ | ⟨x3, r4, cur4, cs3, hp3, rfl, H4, B4, q4, hx3⟩⟩
  · exact ⟨rfl, K3.trans k4, .inl ⟨by simp only [pMap, hp0, hp1, hp2, Option.bind_some]; rw [hp]; rfl, rfl, hwas.cast P3.size⟩⟩
  have K4 := K3.trans k4
  have P4 := P3.append q4
  obtain ⟨v3, rfl, l3⟩ := hx3
  go_wp2_with fail
  refine (numI_c H4 B4 (m := 0) (by rw [P4.other (o + 4) (by simp)]; exact hz 4 (by omega))).mono ?_
  rintro _ w5 ⟨k5, ⟨hp, rfl, hwas⟩ | ⟨x4, r5, cur5, cs4, hp4, rfl, H5, B5, q5, hx4⟩⟩
  · exact ⟨rfl, K4.trans k5, .inl ⟨by simp only [pMap, hp0, hp1, hp2, hp3, Option.bind_some]; rw [hp]; rfl, rfl, hwas.cast P4.size⟩⟩
  have K5 := K4.trans k5
  have P5 := P4.append q5
  obtain ⟨rfl, j4⟩ := hx4
  go_wp2
  have T5 := Kept.refl (fun k => k = c ∨ k = p) w5
  have T4 := k5.trans T5
  have T3 := k4.trans T4
  have T2 := k3.trans T3
  have T1 := k2.trans T2
  exact bodyPost_end (v := .tuple #[]) (by simp [results, Tryz.results45]) rfl ⟨K5, .inr ⟨⟨x0, x1, x2, x3, x4⟩, r5, cur5, _, by simp only [pMap, hp0, hp1, hp2, hp3, hp4, Option.bind_some], rfl, H5, B5, P5, ⟨v1, v2, v3, rfl, j0, j4, l1.late OsdT.stable K1.size T2 hlc hlp, l2.late PoolT.stable K2.size T3 hlc hlp, l3.late BucketT.stable K3.size T4 hlc hlp⟩⟩⟩

set_option maxRecDepth 100000 in
set_option maxHeartbeats 1600000 in
theorem incG_c {w : World} {c p o : Nat} {bs : List UInt8} {g : Option Nat} {cur : Array Value} {t : TypeId} (h : Rd w c bs g) (hgl : ∀ k, g = some k → k < w.heap.size) (hb : Blk w p cur t c g) (hz : ∀ f, f < 2 → cur[o + f]? = ([Value.int IntKind.i64 0, Value.slice none 0 0] : List Value)[f]?) :
    Calls Tryz.prog 40 #[.pointer (some ⟨c, 0, none⟩), .pointer (some ⟨p, o, none⟩)] w (Got IncT.Is pInc bs w c p o g cur t) := by
  have hmf : ∀ (fn : Fn) (first cap : Array Value) (w : World), (Instr.makeFunc fn first cap).run Tryz.prog w = .ok (.func fn first cap) w := fun _ _ _ _ => rfl
  have hlp := lt_in hb.heap
  have hlc := h.lt
  go_enter Tryz.func40, Tryz.ntmps40
  have B0 := hb
  have H0 := h
  have P0 := Put.nil cur o
  have K0 := Kept.refl (fun k => k = c ∨ k = p) w
  have z0 := hz
  clear h hb
  go_wp2_with fail
  refine (numI_c H0 B0 (m := 0) (by rw [P0.other (o) (by simp)]; exact hz 0 (by omega))).mono ?_
  rintro _ w1 ⟨k1, ⟨hp, rfl, hwas⟩ | ⟨x0, r1, cur1, cs0, hp0, rfl, H1, B1, q1, hx0⟩⟩
  · exact ⟨rfl, K0.trans k1, .inl ⟨by simp only [pInc, Option.bind_some]; rw [hp]; rfl, rfl, hwas.cast P0.size⟩⟩
  have K1 := K0.trans k1
  have P1 := P0.append q1
  obtain ⟨rfl, j0⟩ := hx0
  have lp1 := lt_in B1.heap
  go_wp2_with fail
  refine (listChangeG_c H1 (fun k hk => by have := hgl k hk; have := K1.size; omega) B1 (by rw [P1.other (o + 1) (by simp)]; exact hz 1 (by omega))).mono ?_
  rintro _ w2 ⟨k2, ⟨hp, rfl, hwas⟩ | ⟨x1, r2, cur2, cs1, hp1, rfl, H2, B2, q2, hx1⟩⟩
  · exact ⟨rfl, K1.trans k2, .inl ⟨by simp only [pInc, hp0, Option.bind_some]; rw [hp]; rfl, rfl, hwas.cast P1.size⟩⟩
  have K2 := K1.trans k2
  have P2 := P1.append q2
  obtain ⟨v1, rfl, l1⟩ := hx1
  go_wp2
  have T2 := Kept.refl (fun k => k = c ∨ k = p) w2
  have T1 := k2.trans T2
  exact bodyPost_end (v := .tuple #[]) (by simp [results, Tryz.results40]) rfl ⟨K2, .inr ⟨⟨x0, x1⟩, r2, cur2, _, by simp only [pInc, hp0, hp1, Option.bind_some], rfl, H2, B2, P2, ⟨v1, rfl, j0, l1.late ChangeT.stable K1.size T2 hlc hlp⟩⟩⟩

end Go.Proofs.YtanmfldgillodaaGreat
