/- Part 3 of the proof: Rg1, Rr1, Tx0, Tr0, LdB, Dr3, Put2, Pr2. -/
import Derived.Recover
import Derived.Deep.WholeRow
import Derived.Laws.IdiomCopy
import Derived.Test.YtmbjealliinpdaaGreatM2
set_option linter.unusedSimpArgs false
set_option linter.unusedVariables false
set_option maxRecDepth 100000
set_option maxHeartbeats 16000000
section

namespace Go.Proofs.YtmbjealliinpdaaGreat
open Go.RowKit
theorem reads_allocN (w : World) (l : List Value) (t : TypeId) (size : Nat) (h : l.length = 1 * size) : Reads (w.alloc (.cells l.toArray t)) size (.slice (some ⟨w.heap.size, 0, none⟩) 1 1) 1 l (some w.heap.size) :=
  ⟨h, .inr ⟨w.heap.size, 0, 1, rfl, rfl, Nat.le_refl _, by decide, fun j hj => by rw [cell_in (heap_alloc_new' w _)]; simp⟩⟩
theorem info_int : (Tryz.prog.info? 3).map (fun i => (i.zero, i.size, i.bytes)) = some (some (Value.int IntKind.i64 0), 1, 8) := by kernel_rfl
theorem listintG_c {w : World} {c p o : Nat} {bs : List UInt8} {g : Option Nat} {cur : Array Value} {t : TypeId} (h : Rd w c bs g) (hgl : ∀ k, g = some k → k < w.heap.size) (hb : Blk w p cur t c g) (hz : cur[o]? = some (.slice none 0 0)) :
    Calls Tryz.prog 145 #[.pointer (some ⟨c, 0, none⟩), .pointer (some ⟨p, o, none⟩), .func (.func 62) #[.pointer (some ⟨c, 0, none⟩)] #[]] w (Got (sliceIs 1 intIs) (pL pI) bs w c p o g cur t) := by
  obtain ⟨i0, hi0, hz0, hz1, hz2⟩ := info_all info_int
  have p0 : w.cell? ⟨p, o, none⟩ = some (.slice none 0 0) := (cell_in hb.heap).trans hz
  have hlp := lt_in hb.heap
  have hlc := h.lt
  go_enter Tryz.func145, Tryz.ntmps145
  go_wp2_with fail
  refine (countG_c h).mono ?_
  rintro e w1 ⟨k1, ⟨n, r1, hp1, rfl, h1⟩ | ⟨hp1, rfl⟩⟩
  rotate_left
  · exact ⟨rfl, k1.mono (fun _ _ h => .inl h), .inl ⟨by unfold pL; rw [hp1]; rfl, rfl, (hb.kept k1 hb.ne).was⟩⟩
  have hb1 := hb.kept k1 hb.ne
  have p1 : w1.cell? ⟨p, o, none⟩ = some (.slice none 0 0) := (cell_in hb1.heap).trans hz
  have f1 : w1.frozen? ⟨p, o, none⟩ = false := frozen_in hb1.heap
  have lp1 := lt_in hb1.heap
  have c2 : w1.cell? ⟨c, 2, none⟩ = some (.bool true) := by
    obtain ⟨vi, h2, -⟩ := h1.ex
    exact cell_in h2
  have lc1 := h1.lt
  have e1 := setCell_same' p1
  have L0 := Lst.start intIs 1 3 hb1 hz k1
  have hn32 := (pC_some hp1).2.1
  have HP1 : Hid (pL pI bs = pN pI n r1) := Lib.hid (by unfold pL; rw [hp1]; rfl)
  clear p0 hb1 hp1
  go_wp2
  go_loopw [37] (fun i w' => ∃ (k : Nat) (v : Value) (xs : List Int) (Ls : List (List Value)) (r : List UInt8) (g' : Option Nat), k ≤ n ∧ i = .int .i64 k ∧ xs.length = k ∧ Hid (pN pI n r1 = (pN pI (n - k) r).bind (fun z => some (xs ++ z.1, z.2))) ∧ Rd w' c r g ∧ Lst intIs 1 3 w w' c p o g cur t v xs Ls g') (fun i _ => n - (intOf i).toNat)
  case atStart => exact ⟨0, _, [], [], r1, none, by omega, rfl, rfl, Lib.hid (by rw [Nat.sub_zero]; exact (bind_eta _).symm), h1, L0⟩
  case round =>
    obtain ⟨k, v, xs, Ls, r, g', hk, rfl, rfl, HP, hr, L⟩ := hrel
    by_cases hk2 : xs.length < n
    · have hki : (xs.length : Int) < (n : Int) := by omega
      obtain ⟨a, cp, rfl, hcp, -⟩ := L.own.shape
      obtain ⟨curp, hbp, hvp⟩ := L.cell
      have pr : wr.cell? ⟨p, o, none⟩ = some (.slice a xs.length cp) := (cell_in hbp).trans hvp
      have lpr := lt_in hbp
      have hsw := L.kept.size
      go_wp2_with fail
      have ka := Kept.alloc (fun _ => False) wr (Obj.cells #[Value.int IntKind.i64 0] 3)
      have hq : (wr.alloc (Obj.cells #[Value.int IntKind.i64 0] 3)).heap[wr.heap.size]? = some (Obj.cells #[Value.int IntKind.i64 0] 3) := heap_alloc_new' _ _
      have ra : Rd (wr.alloc (Obj.cells #[Value.int IntKind.i64 0] 3)) c r g := hr.kept ka
      have sa : (wr.alloc (Obj.cells #[Value.int IntKind.i64 0] 3)).heap.size = wr.heap.size + 1 := by simp
      generalize wr.alloc (Obj.cells #[Value.int IntKind.i64 0] 3) = wa at ka hq ra sa ⊢
      have bq : Blk wa wr.heap.size #[Value.int IntKind.i64 0] 3 c g := ⟨hq, by omega, fun e => by have := hgl _ e; omega⟩
      refine (numI_c ra bq (m := 0) rfl).mono ?_
      rintro e w2 ⟨k2, ⟨hp2, rfl, -⟩ | ⟨x, r2, cur2, cs, hp2, rfl, h2, b2, put2, hx⟩⟩
      · exact ⟨rfl, (L.kept.trans (ka.mono (fun _ _ h => h.elim))).thn k2 (fun i hi => by rcases hi with rfl | rfl; exact .inl (.inl rfl); exact .inr hsw), .inl ⟨by rw [HP1.out]; exact pN_stop hk2 HP.out hp2, rfl, L.was.kept ka k2 (fun h => h) (fun h => by rcases h with h | h; exact hb.ne h; omega)⟩⟩
      have k02 : Kept (· = c) wr w2 := (ka.mono (fun _ _ h => h.elim)).thn k2 (fun i hi => by rcases hi with rfl | rfl; exact .inl rfl; exact .inr (Nat.le_refl _))
      have hxn : intIs w2 (New wr w2) cs x := intIs_stable _ _ _ _ _ _ hx (fun k hk => ⟨by have := hk.1; omega, hk.2⟩) (fun _ _ => rfl)
      obtain ⟨rfl, -⟩ := hx
      have y0 : w2.cell? ⟨wr.heap.size, 0, none⟩ = some (Value.int IntKind.i64 x) := (cell_in b2.heap).trans (by have := put2.at_ 0 (by simp); simpa using this)
      have lq2 := lt_in b2.heap
      have HP2 := Lib.hid (pN_next hk2 HP.out hp2)
      have bp2 : w2.heap[p]? = some (.cells curp t) := (k02.block _ lpr hb.ne).trans hbp
      have HBP := Lib.hid bp2
      have lp2 := lt_in bp2
      have hpq : p ≠ wr.heap.size := by omega
      have own2 := L.own.kept k02 (fun k hk e => by have := L.new k hk; omega)
      clear ka hq ra bq hbp pr HP hp2 bp2
      go_wp2
      refine wp_region_ordJ (fun w' => w'.heap[p]? = some (.cells curp t)) [4] [0, 1, 2, 3] [5, 6] [7, 8] (by kernel_rfl) (by kernel_rfl) (fun _ _ d _ _ h => by cases d <;> exact h) (fun k => HBP.out) ?_
      simp only [sel, List.filterMap_cons, List.filterMap_nil, List.getElem?_cons_zero, List.getElem?_cons_succ]
      repeat (quiet_step (fail))
      refine wpQuiet_nil ?_
      refine wpHeld_step (fun K hK => ?_)
      go_simp
      refine ⟨_, fun _ _ => rfl, hK _ ?_⟩
      refine wpHeld_step (fun K hK => ?_)
      go_simp
      refine ⟨_, fun _ _ => rfl, hK _ ?_⟩
      refine wpHeld_step (fun K hK => ?_)
      go_simp
      refine ⟨_, fun _ _ => rfl, hK _ ?_⟩
      refine wpHeld_step (fun K hK => ?_)
      go_simp
      refine ⟨.slice a xs.length cp, fun w' h => (by
        have h1 := (cell_in (k := o) h).trans hvp
        have h2 := lt_in h
        clear h
        go_simp), hK _ ?_⟩
      refine wpHeld_nil ?_
      rintro _ ⟨nr, rfl⟩
      have kd := Kept.drewN (fun _ => False) w2 nr
      have Q3 : Hid ((w2.drewN nr).heap[p]? = some (.cells curp t)) := Lib.hid HBP.out
      generalize w2.drewN nr = w3 at kd Q3 ⊢
      refine wpListS_step (fun K hK => ?_)
      go_simp
      have hA : (w3.alloc (Obj.cells #[Value.int IntKind.i64 x] 3)).heap[p]? = some (.cells curp t) := (Below.heap_alloc _ _ _ (lt_in Q3.out)).trans Q3.out
      refine hK _ _ hA ?_
      clear hK
      have k34 := kd.al (Obj.cells #[Value.int IntKind.i64 x] 3)
      have r4 := reads_allocN w3 [Value.int IntKind.i64 x] 3 1 rfl
      generalize w3.alloc (Obj.cells #[Value.int IntKind.i64 x] 3) = w4 at hA k34 r4 ⊢
      have own4 := own2.kept k34 (fun _ _ h => h)
      refine wpListS_append_Own rfl _ _ 157 157 rfl 3 i0 (Value.int IntKind.i64 0) 1 8 Tryz.underlying157 hi0 hz0 hz1 hz2 rfl rfl own4 rfl (r4.src Tryz.underlying157 (by intro u hu; simp only [List.mem_cons, List.not_mem_nil, or_false] at hu; rcases hu with rfl <;> rfl)) (by unfold maxLen; omega) (by omega) ?_
      intro a5 k5 w5 g5 hown5 hk5 hg5
      have hgp : g' ≠ some p := fun e => by have := L.new p e; omega
      have hA5 : w5.heap[p]? = _ := (hk5.block _ (lt_in hA) (fun h => hgp h)).trans hA
      refine ⟨hA5, ?_⟩
      refine wpListS_nil ?_
      have k04 : Kept (· = c) wr w4 := k02.trans (k34.mono (fun _ _ h => h.elim))
      have s4 := k34.size
      have hx4 : intIs w4 (New wr w4) _ x := intIs_stable _ _ _ _ _ _ hxn (fun k hk => ⟨hk.1, by have := hk.2; omega⟩) (fun k hk => k34.block k hk.2 (fun h => h))
      have LN := Lib.hid (L.grow intIs_stable (o := o) hlp hlc k04 hx4 rfl hown5 hk5 hg5)
      have RN := Lib.hid (Lst.rd L (w2 := w2) (o := o) (v4 := .slice a5 (xs.length + 1) k5) hlc hgl (h2.kept k34) hk5)
      have f0 : w5.frozen? ⟨p, o, none⟩ = false := frozen_in hA5
      have z5 := (cell_in (k := o) hA5).trans hvp
      have hl5 := lt_in hA5
      have HX2 : Hid ((xs ++ [x]).length = xs.length + 1) := Lib.hid (by rw [List.length_append]; rfl)
      clear hA5 hA hown5 own4 own2 r4 hk5 hg5 hx4 hxn
      go_wp2
      exact ⟨⟨xs.length + 1, _, xs ++ [x], _, r2, g5, by omega, by simp, HX2.out, HP2, RN.out, LN.out⟩, by simp [intOf]; omega⟩
    · obtain rfl : n = xs.length := by omega
      go_wp2
      obtain ⟨cur', hbl, hpu⟩ := L.blk
      exact bodyPost_end (v := .tuple #[]) (by simp [results, Tryz.results145]) rfl ⟨L.kept, .inr ⟨xs, r, cur', [v], by rw [HP1.out]; exact pN_end HP.out, rfl, hr, hbl, hpu, v, rfl, L.done intIs_stable (by omega)⟩⟩
theorem osdG_c {w : World} {c p o : Nat} {bs : List UInt8} {g : Option Nat} {cur : Array Value} {t : TypeId} (h : Rd w c bs g) (hgl : ∀ k, g = some k → k < w.heap.size) (hb : Blk w p cur t c g) (hz : ∀ f, f < 6 → cur[o + f]? = ([Value.bool false, Value.bool false, Value.int IntKind.i64 0, Value.int IntKind.i64 0, Value.int IntKind.i64 0, Value.int IntKind.i64 0] : List Value)[f]?) :
    Calls Tryz.prog 105 #[.pointer (some ⟨c, 0, none⟩), .pointer (some ⟨p, o, none⟩)] w (Got OsdT.Is pOsd bs w c p o g cur t) := by
  have hmf : ∀ (fn : Fn) (first cap : Array Value) (w : World), (Instr.makeFunc fn first cap).run Tryz.prog w = .ok (.func fn first cap) w := fun _ _ _ _ => rfl
  have hlp := lt_in hb.heap
  have hlc := h.lt
  go_enter Tryz.func105, Tryz.ntmps105
  have B0 := hb
  have H0 := h
  have P0 := Put.nil cur o
  have K0 := Kept.refl (fun k => k = c ∨ k = p) w
  have z0 := hz
  clear h hb
  go_wp2_with fail
  refine (flagI_c H0 B0 (by rw [P0.other (o) (by simp)]; exact hz 0 (by omega))).mono ?_
  rintro _ w1 ⟨k1, ⟨hp, rfl, hwas⟩ | ⟨x0, r1, cur1, cs0, hp0, rfl, H1, B1, q1, hx0⟩⟩
  · exact ⟨rfl, K0.trans k1, .inl ⟨by simp only [pOsd, Option.bind_some]; rw [hp]; rfl, rfl, hwas.cast P0.size⟩⟩
  have K1 := K0.trans k1
  have P1 := P0.append q1
  obtain rfl := hx0
  go_wp2_with fail
  refine (flagI_c H1 B1 (by rw [P1.other (o + 1) (by simp)]; exact hz 1 (by omega))).mono ?_
  rintro _ w2 ⟨k2, ⟨hp, rfl, hwas⟩ | ⟨x1, r2, cur2, cs1, hp1, rfl, H2, B2, q2, hx1⟩⟩
  · exact ⟨rfl, K1.trans k2, .inl ⟨by simp only [pOsd, hp0, Option.bind_some]; rw [hp]; rfl, rfl, hwas.cast P1.size⟩⟩
  have K2 := K1.trans k2
  have P2 := P1.append q2
  obtain rfl := hx1
  have lp2 := lt_in B2.heap
  go_wp2
  refine wp_region_ord [1, 2, 3, 4, 5, 6, 7, 8, 9, 10, 11, 12] [0] [13, 14] (by kernel_rfl) (by kernel_rfl) (fun _ _ d _ _ h => by cases d <;> exact h) ?_
  simp only [sel, List.filterMap_cons, List.filterMap_nil, List.getElem?_cons_zero, List.getElem?_cons_succ]
  repeat (quiet_step (fail))
  refine wpQuiet_nil ?_
  refine wpIdle_step (fun K hK => ?_)
  go_simp
  refine hK _ ?_
  clear hK
  refine wpIdle_nil ?_
  rintro _ ⟨nr, rfl⟩
  go_wp2_with fail
  have j2 : Kept (fun _ => False) w2 ((w2.drewN nr).alloc (Obj.cells #[Value.pointer (some ⟨p, o + 2, none⟩), Value.pointer (some ⟨p, o + 3, none⟩), Value.pointer (some ⟨p, o + 4, none⟩), Value.pointer (some ⟨p, o + 5, none⟩)] 141)) := (Kept.drewN _ _ _).al _
  have rr2 := (own_alloc (w2.drewN nr) [Value.pointer (some ⟨p, o + 2, none⟩), Value.pointer (some ⟨p, o + 3, none⟩), Value.pointer (some ⟨p, o + 4, none⟩), Value.pointer (some ⟨p, o + 5, none⟩)] 141 4 rfl (by decide)).reads
  have hs2 : (w2.drewN nr).heap.size = w2.heap.size := rfl
  rw [hs2] at rr2
  generalize (w2.drewN nr).alloc (Obj.cells #[Value.pointer (some ⟨p, o + 2, none⟩), Value.pointer (some ⟨p, o + 3, none⟩), Value.pointer (some ⟨p, o + 4, none⟩), Value.pointer (some ⟨p, o + 5, none⟩)] 141) = y2 at j2 rr2 ⊢
  have HH2 : Rd y2 c _ g := H2.kept j2
  have BB2 := B2.kept j2 (fun h => h)
  have hc2 : c < w2.heap.size := H2.lt
  have lb2 := lt_in B2.heap
  refine (numsI_c (m := 4) (o := o + 2) HH2 BB2 (gp := some w2.heap.size) rr2 (fun k hk => by cases hk; exact ⟨Nat.ne_of_gt hc2, Nat.ne_of_gt lb2⟩) (by
    intro f hf
    obtain rfl | rfl | rfl | rfl : f = 0 ∨ f = 1 ∨ f = 2 ∨ f = 3 := by omega
    · exact ⟨0, by rw [P2.other _ (by simp)]; exact hz 2 (by omega)⟩
    · exact ⟨0, by rw [P2.other _ (by simp)]; exact hz 3 (by omega)⟩
    · exact ⟨0, by rw [P2.other _ (by simp)]; exact hz 4 (by omega)⟩
    · exact ⟨0, by rw [P2.other _ (by simp)]; exact hz 5 (by omega)⟩
    ) (by omega)).mono ?_
  rintro _ w3 ⟨k3, ⟨hp, rfl, hwas⟩ | ⟨ns2, r3, cur3, cs2, hp, rfl, H3, B3, q3, hx2⟩⟩
  · exact ⟨rfl, K2.trans (kept_alloc2 j2 k3), .inl ⟨by simp only [pOsd, hp0, hp1, Option.bind_some]; exact pN4_none hp _, rfl, hwas.cast P2.size⟩⟩
  have K3 := K2.trans (kept_alloc2 j2 k3)
  replace k3 := kept_alloc2 j2 k3
  obtain rfl := hx2
  obtain ⟨n2_0, s2_0, n2_1, s2_1, n2_2, s2_2, n2_3, hp2_0, hp2_1, hp2_2, hp2_3, rfl⟩ := pN4_some hp
  simp only [List.map_cons, List.map_nil] at q3
  have P3 := P2.append q3
  go_wp2
  exact bodyPost_end (v := .tuple #[]) (by simp [results, Tryz.results105]) rfl ⟨K3, .inr ⟨⟨x0, x1, n2_0, n2_1, n2_2, n2_3⟩, r3, cur3, _, by simp only [pOsd, hp0, hp1, hp2_0, hp2_1, hp2_2, hp2_3, Option.bind_some], rfl, H3, B3, P3, ⟨rfl, (lawI.dec _ _ _ hp2_0).2, (lawI.dec _ _ _ hp2_1).2, (lawI.dec _ _ _ hp2_2).2, (lawI.dec _ _ _ hp2_3).2⟩⟩⟩
theorem info_Osd : (Tryz.prog.info? 208).map (fun i => (i.zero, i.size, i.bytes)) = some (some (Value.agg #[Value.bool false, Value.bool false, Value.int IntKind.i64 0, Value.int IntKind.i64 0, Value.int IntKind.i64 0, Value.int IntKind.i64 0]), 6, 40) := by kernel_rfl
theorem listOsdG_c {w : World} {c p o : Nat} {bs : List UInt8} {g : Option Nat} {cur : Array Value} {t : TypeId} (h : Rd w c bs g) (hgl : ∀ k, g = some k → k < w.heap.size) (hb : Blk w p cur t c g) (hz : cur[o]? = some (.slice none 0 0)) :
    Calls Tryz.prog 104 #[.pointer (some ⟨c, 0, none⟩), .pointer (some ⟨p, o, none⟩), .func (.func 105) #[.pointer (some ⟨c, 0, none⟩)] #[]] w (Got (sliceIs 6 OsdT.Is) (pL pOsd) bs w c p o g cur t) := by
  obtain ⟨i0, hi0, hz0, hz1, hz2⟩ := info_all info_Osd
  have p0 : w.cell? ⟨p, o, none⟩ = some (.slice none 0 0) := (cell_in hb.heap).trans hz
  have hlp := lt_in hb.heap
  have hlc := h.lt
  go_enter Tryz.func104, Tryz.ntmps104
  go_wp2_with fail
  refine (countG_c h).mono ?_
  rintro e w1 ⟨k1, ⟨n, r1, hp1, rfl, h1⟩ | ⟨hp1, rfl⟩⟩
  rotate_left
  · exact ⟨rfl, k1.mono (fun _ _ h => .inl h), .inl ⟨by unfold pL; rw [hp1]; rfl, rfl, (hb.kept k1 hb.ne).was⟩⟩
  have hb1 := hb.kept k1 hb.ne
  have p1 : w1.cell? ⟨p, o, none⟩ = some (.slice none 0 0) := (cell_in hb1.heap).trans hz
  have f1 : w1.frozen? ⟨p, o, none⟩ = false := frozen_in hb1.heap
  have lp1 := lt_in hb1.heap
  have c2 : w1.cell? ⟨c, 2, none⟩ = some (.bool true) := by
    obtain ⟨vi, h2, -⟩ := h1.ex
    exact cell_in h2
  have lc1 := h1.lt
  have e1 := setCell_same' p1
  have L0 := Lst.start OsdT.Is 6 208 hb1 hz k1
  have hn32 := (pC_some hp1).2.1
  have HP1 : Hid (pL pOsd bs = pN pOsd n r1) := Lib.hid (by unfold pL; rw [hp1]; rfl)
  clear p0 hb1 hp1
  go_wp2
  go_loopw [37] (fun i w' => ∃ (k : Nat) (v : Value) (xs : List OsdT) (Ls : List (List Value)) (r : List UInt8) (g' : Option Nat), k ≤ n ∧ i = .int .i64 k ∧ xs.length = k ∧ Hid (pN pOsd n r1 = (pN pOsd (n - k) r).bind (fun z => some (xs ++ z.1, z.2))) ∧ Rd w' c r g ∧ Lst OsdT.Is 6 208 w w' c p o g cur t v xs Ls g') (fun i _ => n - (intOf i).toNat)
  case atStart => exact ⟨0, _, [], [], r1, none, by omega, rfl, rfl, Lib.hid (by rw [Nat.sub_zero]; exact (bind_eta _).symm), h1, L0⟩
  case round =>
    obtain ⟨k, v, xs, Ls, r, g', hk, rfl, rfl, HP, hr, L⟩ := hrel
    by_cases hk2 : xs.length < n
    · have hki : (xs.length : Int) < (n : Int) := by omega
      obtain ⟨a, cp, rfl, hcp, -⟩ := L.own.shape
      obtain ⟨curp, hbp, hvp⟩ := L.cell
      have pr : wr.cell? ⟨p, o, none⟩ = some (.slice a xs.length cp) := (cell_in hbp).trans hvp
      have lpr := lt_in hbp
      have hsw := L.kept.size
      go_wp2_with fail
      have ka := Kept.alloc (fun _ => False) wr (Obj.cells #[Value.bool false, Value.bool false, Value.int IntKind.i64 0, Value.int IntKind.i64 0, Value.int IntKind.i64 0, Value.int IntKind.i64 0] 208)
      have hq : (wr.alloc (Obj.cells #[Value.bool false, Value.bool false, Value.int IntKind.i64 0, Value.int IntKind.i64 0, Value.int IntKind.i64 0, Value.int IntKind.i64 0] 208)).heap[wr.heap.size]? = some (Obj.cells #[Value.bool false, Value.bool false, Value.int IntKind.i64 0, Value.int IntKind.i64 0, Value.int IntKind.i64 0, Value.int IntKind.i64 0] 208) := heap_alloc_new' _ _
      have ra : Rd (wr.alloc (Obj.cells #[Value.bool false, Value.bool false, Value.int IntKind.i64 0, Value.int IntKind.i64 0, Value.int IntKind.i64 0, Value.int IntKind.i64 0] 208)) c r g := hr.kept ka
      have sa : (wr.alloc (Obj.cells #[Value.bool false, Value.bool false, Value.int IntKind.i64 0, Value.int IntKind.i64 0, Value.int IntKind.i64 0, Value.int IntKind.i64 0] 208)).heap.size = wr.heap.size + 1 := by simp
      generalize wr.alloc (Obj.cells #[Value.bool false, Value.bool false, Value.int IntKind.i64 0, Value.int IntKind.i64 0, Value.int IntKind.i64 0, Value.int IntKind.i64 0] 208) = wa at ka hq ra sa ⊢
      have bq : Blk wa wr.heap.size #[Value.bool false, Value.bool false, Value.int IntKind.i64 0, Value.int IntKind.i64 0, Value.int IntKind.i64 0, Value.int IntKind.i64 0] 208 c g := ⟨hq, by omega, fun e => by have := hgl _ e; omega⟩
      refine (osdG_c ra (fun k hk => by have := hgl k hk; omega) bq (by intro f hf; simp)).mono ?_
      rintro e w2 ⟨k2, ⟨hp2, rfl, -⟩ | ⟨x, r2, cur2, cs, hp2, rfl, h2, b2, put2, hx⟩⟩
      · exact ⟨rfl, (L.kept.trans (ka.mono (fun _ _ h => h.elim))).thn k2 (fun i hi => by rcases hi with rfl | rfl; exact .inl (.inl rfl); exact .inr hsw), .inl ⟨by rw [HP1.out]; exact pN_stop hk2 HP.out hp2, rfl, L.was.kept ka k2 (fun h => h) (fun h => by rcases h with h | h; exact hb.ne h; omega)⟩⟩
      have k02 : Kept (· = c) wr w2 := (ka.mono (fun _ _ h => h.elim)).thn k2 (fun i hi => by rcases hi with rfl | rfl; exact .inl rfl; exact .inr (Nat.le_refl _))
      have hxn : OsdT.Is w2 (New wr w2) cs x := OsdT.stable _ _ _ _ _ _ hx (fun k hk => ⟨by have := hk.1; omega, hk.2⟩) (fun _ _ => rfl)
      obtain ⟨rfl, -⟩ := hx
      have y0 : w2.cell? ⟨wr.heap.size, 0, none⟩ = some (Value.bool x.ex) := (cell_in b2.heap).trans (by have := put2.at_ 0 (by simp); simpa using this)
      have y1 : w2.cell? ⟨wr.heap.size, 1, none⟩ = some (Value.bool x.up) := (cell_in b2.heap).trans (by have := put2.at_ 1 (by simp); simpa using this)
      have y2 : w2.cell? ⟨wr.heap.size, 2, none⟩ = some (Value.int IntKind.i64 x.weight) := (cell_in b2.heap).trans (by have := put2.at_ 2 (by simp); simpa using this)
      have y3 : w2.cell? ⟨wr.heap.size, 3, none⟩ = some (Value.int IntKind.i64 x.boot) := (cell_in b2.heap).trans (by have := put2.at_ 3 (by simp); simpa using this)
      have y4 : w2.cell? ⟨wr.heap.size, 4, none⟩ = some (Value.int IntKind.i64 x.upFrom) := (cell_in b2.heap).trans (by have := put2.at_ 4 (by simp); simpa using this)
      have y5 : w2.cell? ⟨wr.heap.size, 5, none⟩ = some (Value.int IntKind.i64 x.upThru) := (cell_in b2.heap).trans (by have := put2.at_ 5 (by simp); simpa using this)
      have lq2 := lt_in b2.heap
      have HP2 := Lib.hid (pN_next hk2 HP.out hp2)
      have bp2 : w2.heap[p]? = some (.cells curp t) := (k02.block _ lpr hb.ne).trans hbp
      have HBP := Lib.hid bp2
      have lp2 := lt_in bp2
      have hpq : p ≠ wr.heap.size := by omega
      have own2 := L.own.kept k02 (fun k hk e => by have := L.new k hk; omega)
      clear ka hq ra bq hbp pr HP hp2 bp2
      go_wp2
      refine wp_region_ordJ (fun w' => w'.heap[p]? = some (.cells curp t)) [4] [0, 1, 2, 3] [5, 6] [7, 8] (by kernel_rfl) (by kernel_rfl) (fun _ _ d _ _ h => by cases d <;> exact h) (fun k => HBP.out) ?_
      simp only [sel, List.filterMap_cons, List.filterMap_nil, List.getElem?_cons_zero, List.getElem?_cons_succ]
      repeat (quiet_step (fail))
      refine wpQuiet_nil ?_
      refine wpHeld_step (fun K hK => ?_)
      go_simp
      refine ⟨_, fun _ _ => rfl, hK _ ?_⟩
      refine wpHeld_step (fun K hK => ?_)
      go_simp
      refine ⟨_, fun _ _ => rfl, hK _ ?_⟩
      refine wpHeld_step (fun K hK => ?_)
      go_simp
      refine ⟨_, fun _ _ => rfl, hK _ ?_⟩
      refine wpHeld_step (fun K hK => ?_)
      go_simp
      refine ⟨.slice a xs.length cp, fun w' h => (by
        have h1 := (cell_in (k := o) h).trans hvp
        have h2 := lt_in h
        clear h
        go_simp), hK _ ?_⟩
      refine wpHeld_nil ?_
      rintro _ ⟨nr, rfl⟩
      have kd := Kept.drewN (fun _ => False) w2 nr
      have Q3 : Hid ((w2.drewN nr).heap[p]? = some (.cells curp t)) := Lib.hid HBP.out
      generalize w2.drewN nr = w3 at kd Q3 ⊢
      refine wpListS_step (fun K hK => ?_)
      go_simp
      have hA : (w3.alloc (Obj.cells #[Value.bool x.ex, Value.bool x.up, Value.int IntKind.i64 x.weight, Value.int IntKind.i64 x.boot, Value.int IntKind.i64 x.upFrom, Value.int IntKind.i64 x.upThru] 208)).heap[p]? = some (.cells curp t) := (Below.heap_alloc _ _ _ (lt_in Q3.out)).trans Q3.out
      refine hK _ _ hA ?_
      clear hK
      have k34 := kd.al (Obj.cells #[Value.bool x.ex, Value.bool x.up, Value.int IntKind.i64 x.weight, Value.int IntKind.i64 x.boot, Value.int IntKind.i64 x.upFrom, Value.int IntKind.i64 x.upThru] 208)
      have r4 := reads_allocN w3 [Value.bool x.ex, Value.bool x.up, Value.int IntKind.i64 x.weight, Value.int IntKind.i64 x.boot, Value.int IntKind.i64 x.upFrom, Value.int IntKind.i64 x.upThru] 208 6 rfl
      generalize w3.alloc (Obj.cells #[Value.bool x.ex, Value.bool x.up, Value.int IntKind.i64 x.weight, Value.int IntKind.i64 x.boot, Value.int IntKind.i64 x.upFrom, Value.int IntKind.i64 x.upThru] 208) = w4 at hA k34 r4 ⊢
      have own4 := own2.kept k34 (fun _ _ h => h)
      refine wpListS_append_Own rfl _ _ 63 63 rfl 208 i0 (Value.agg #[Value.bool false, Value.bool false, Value.int IntKind.i64 0, Value.int IntKind.i64 0, Value.int IntKind.i64 0, Value.int IntKind.i64 0]) 6 40 Tryz.underlying63 hi0 hz0 hz1 hz2 rfl rfl own4 rfl (r4.src Tryz.underlying63 (by intro u hu; simp only [List.mem_cons, List.not_mem_nil, or_false] at hu; rcases hu with rfl | rfl | rfl | rfl | rfl | rfl <;> rfl)) (by unfold maxLen; omega) (by omega) ?_
      intro a5 k5 w5 g5 hown5 hk5 hg5
      have hgp : g' ≠ some p := fun e => by have := L.new p e; omega
      have hA5 : w5.heap[p]? = _ := (hk5.block _ (lt_in hA) (fun h => hgp h)).trans hA
      refine ⟨hA5, ?_⟩
      refine wpListS_nil ?_
      have k04 : Kept (· = c) wr w4 := k02.trans (k34.mono (fun _ _ h => h.elim))
      have s4 := k34.size
      have hx4 : OsdT.Is w4 (New wr w4) _ x := OsdT.stable _ _ _ _ _ _ hxn (fun k hk => ⟨hk.1, by have := hk.2; omega⟩) (fun k hk => k34.block k hk.2 (fun h => h))
      have LN := Lib.hid (L.grow OsdT.stable (o := o) hlp hlc k04 hx4 rfl hown5 hk5 hg5)
      have RN := Lib.hid (Lst.rd L (w2 := w2) (o := o) (v4 := .slice a5 (xs.length + 1) k5) hlc hgl (h2.kept k34) hk5)
      have f0 : w5.frozen? ⟨p, o, none⟩ = false := frozen_in hA5
      have z5 := (cell_in (k := o) hA5).trans hvp
      have hl5 := lt_in hA5
      have HX2 : Hid ((xs ++ [x]).length = xs.length + 1) := Lib.hid (by rw [List.length_append]; rfl)
      clear hA5 hA hown5 own4 own2 r4 hk5 hg5 hx4 hxn
      go_wp2
      exact ⟨⟨xs.length + 1, _, xs ++ [x], _, r2, g5, by omega, by simp, HX2.out, HP2, RN.out, LN.out⟩, by simp [intOf]; omega⟩
    · obtain rfl : n = xs.length := by omega
      go_wp2
      obtain ⟨cur', hbl, hpu⟩ := L.blk
      exact bodyPost_end (v := .tuple #[]) (by simp [results, Tryz.results104]) rfl ⟨L.kept, .inr ⟨xs, r, cur', [v], by rw [HP1.out]; exact pN_end HP.out, rfl, hr, hbl, hpu, v, rfl, L.done OsdT.stable (by omega)⟩⟩
theorem poolG_c {w : World} {c p o : Nat} {bs : List UInt8} {g : Option Nat} {cur : Array Value} {t : TypeId} (h : Rd w c bs g) (hgl : ∀ k, g = some k → k < w.heap.size) (hb : Blk w p cur t c g) (hz : ∀ f, f < 4 → cur[o + f]? = ([Value.int IntKind.i64 0, Value.int IntKind.i64 0, Value.int IntKind.i64 0, Value.int IntKind.i64 0] : List Value)[f]?) :
    Calls Tryz.prog 107 #[.pointer (some ⟨c, 0, none⟩), .pointer (some ⟨p, o, none⟩)] w (Got PoolT.Is pPool bs w c p o g cur t) := by
  have hmf : ∀ (fn : Fn) (first cap : Array Value) (w : World), (Instr.makeFunc fn first cap).run Tryz.prog w = .ok (.func fn first cap) w := fun _ _ _ _ => rfl
  have hlp := lt_in hb.heap
  have hlc := h.lt
  go_enter Tryz.func107, Tryz.ntmps107
  have B0 := hb
  have H0 := h
  have P0 := Put.nil cur o
  have K0 := Kept.refl (fun k => k = c ∨ k = p) w
  have z0 := hz
  clear h hb
  have lp0 := lt_in B0.heap
  go_wp2
  refine wp_region_ord [1, 2, 3, 4, 5, 6, 7, 8, 9, 10, 11, 12] [0] [13, 14] (by kernel_rfl) (by kernel_rfl) (fun _ _ d _ _ h => by cases d <;> exact h) ?_
  simp only [sel, List.filterMap_cons, List.filterMap_nil, List.getElem?_cons_zero, List.getElem?_cons_succ]
  repeat (quiet_step (fail))
  refine wpQuiet_nil ?_
  refine wpIdle_step (fun K hK => ?_)
  go_simp
  refine hK _ ?_
  clear hK
  refine wpIdle_nil ?_
  rintro _ ⟨nr, rfl⟩
  go_wp2_with fail
  have j0 : Kept (fun _ => False) w ((w.drewN nr).alloc (Obj.cells #[Value.pointer (some ⟨p, o, none⟩), Value.pointer (some ⟨p, o + 1, none⟩), Value.pointer (some ⟨p, o + 2, none⟩), Value.pointer (some ⟨p, o + 3, none⟩)] 141)) := (Kept.drewN _ _ _).al _
  have rr0 := (own_alloc (w.drewN nr) [Value.pointer (some ⟨p, o, none⟩), Value.pointer (some ⟨p, o + 1, none⟩), Value.pointer (some ⟨p, o + 2, none⟩), Value.pointer (some ⟨p, o + 3, none⟩)] 141 4 rfl (by decide)).reads
  have hs0 : (w.drewN nr).heap.size = w.heap.size := rfl
  rw [hs0] at rr0
  generalize (w.drewN nr).alloc (Obj.cells #[Value.pointer (some ⟨p, o, none⟩), Value.pointer (some ⟨p, o + 1, none⟩), Value.pointer (some ⟨p, o + 2, none⟩), Value.pointer (some ⟨p, o + 3, none⟩)] 141) = y0 at j0 rr0 ⊢
  have HH0 : Rd y0 c _ g := H0.kept j0
  have BB0 := B0.kept j0 (fun h => h)
  have hc0 : c < w.heap.size := H0.lt
  have lb0 := lt_in B0.heap
  refine (numsI_c (m := 4) (o := o) HH0 BB0 (gp := some w.heap.size) rr0 (fun k hk => by cases hk; exact ⟨Nat.ne_of_gt hc0, Nat.ne_of_gt lb0⟩) (by
    intro f hf
    obtain rfl | rfl | rfl | rfl : f = 0 ∨ f = 1 ∨ f = 2 ∨ f = 3 := by omega
    · exact ⟨0, by rw [P0.other _ (by simp)]; exact hz 0 (by omega)⟩
    · exact ⟨0, by rw [P0.other _ (by simp)]; exact hz 1 (by omega)⟩
    · exact ⟨0, by rw [P0.other _ (by simp)]; exact hz 2 (by omega)⟩
    · exact ⟨0, by rw [P0.other _ (by simp)]; exact hz 3 (by omega)⟩
    ) (by omega)).mono ?_
  rintro _ w1 ⟨k1, ⟨hp, rfl, hwas⟩ | ⟨ns0, r1, cur1, cs0, hp, rfl, H1, B1, q1, hx0⟩⟩
  · exact ⟨rfl, K0.trans (kept_alloc2 j0 k1), .inl ⟨by simp only [pPool, Option.bind_some]; exact pN4_none hp _, rfl, hwas.cast P0.size⟩⟩
  have K1 := K0.trans (kept_alloc2 j0 k1)
  replace k1 := kept_alloc2 j0 k1
  obtain rfl := hx0
  obtain ⟨n0_0, s0_0, n0_1, s0_1, n0_2, s0_2, n0_3, hp0_0, hp0_1, hp0_2, hp0_3, rfl⟩ := pN4_some hp
  simp only [List.map_cons, List.map_nil] at q1
  have P1 := P0.append q1
  go_wp2
  exact bodyPost_end (v := .tuple #[]) (by simp [results, Tryz.results107]) rfl ⟨K1, .inr ⟨⟨n0_0, n0_1, n0_2, n0_3⟩, r1, cur1, _, by simp only [pPool, hp0_0, hp0_1, hp0_2, hp0_3, Option.bind_some], rfl, H1, B1, P1, ⟨rfl, (lawI.dec _ _ _ hp0_0).2, (lawI.dec _ _ _ hp0_1).2, (lawI.dec _ _ _ hp0_2).2, (lawI.dec _ _ _ hp0_3).2⟩⟩⟩
theorem info_Pool : (Tryz.prog.info? 156).map (fun i => (i.zero, i.size, i.bytes)) = some (some (Value.agg #[Value.int IntKind.i64 0, Value.int IntKind.i64 0, Value.int IntKind.i64 0, Value.int IntKind.i64 0]), 4, 32) := by kernel_rfl
theorem listPoolG_c {w : World} {c p o : Nat} {bs : List UInt8} {g : Option Nat} {cur : Array Value} {t : TypeId} (h : Rd w c bs g) (hgl : ∀ k, g = some k → k < w.heap.size) (hb : Blk w p cur t c g) (hz : cur[o]? = some (.slice none 0 0)) :
    Calls Tryz.prog 106 #[.pointer (some ⟨c, 0, none⟩), .pointer (some ⟨p, o, none⟩), .func (.func 107) #[.pointer (some ⟨c, 0, none⟩)] #[]] w (Got (sliceIs 4 PoolT.Is) (pL pPool) bs w c p o g cur t) := by
  obtain ⟨i0, hi0, hz0, hz1, hz2⟩ := info_all info_Pool
  have p0 : w.cell? ⟨p, o, none⟩ = some (.slice none 0 0) := (cell_in hb.heap).trans hz
  have hlp := lt_in hb.heap
  have hlc := h.lt
  go_enter Tryz.func106, Tryz.ntmps106
  go_wp2_with fail
  refine (countG_c h).mono ?_
  rintro e w1 ⟨k1, ⟨n, r1, hp1, rfl, h1⟩ | ⟨hp1, rfl⟩⟩
  rotate_left
  · exact ⟨rfl, k1.mono (fun _ _ h => .inl h), .inl ⟨by unfold pL; rw [hp1]; rfl, rfl, (hb.kept k1 hb.ne).was⟩⟩
  have hb1 := hb.kept k1 hb.ne
  have p1 : w1.cell? ⟨p, o, none⟩ = some (.slice none 0 0) := (cell_in hb1.heap).trans hz
  have f1 : w1.frozen? ⟨p, o, none⟩ = false := frozen_in hb1.heap
  have lp1 := lt_in hb1.heap
  have c2 : w1.cell? ⟨c, 2, none⟩ = some (.bool true) := by
    obtain ⟨vi, h2, -⟩ := h1.ex
    exact cell_in h2
  have lc1 := h1.lt
  have e1 := setCell_same' p1
  have L0 := Lst.start PoolT.Is 4 156 hb1 hz k1
  have hn32 := (pC_some hp1).2.1
  have HP1 : Hid (pL pPool bs = pN pPool n r1) := Lib.hid (by unfold pL; rw [hp1]; rfl)
  clear p0 hb1 hp1
  go_wp2
  go_loopw [37] (fun i w' => ∃ (k : Nat) (v : Value) (xs : List PoolT) (Ls : List (List Value)) (r : List UInt8) (g' : Option Nat), k ≤ n ∧ i = .int .i64 k ∧ xs.length = k ∧ Hid (pN pPool n r1 = (pN pPool (n - k) r).bind (fun z => some (xs ++ z.1, z.2))) ∧ Rd w' c r g ∧ Lst PoolT.Is 4 156 w w' c p o g cur t v xs Ls g') (fun i _ => n - (intOf i).toNat)
  case atStart => exact ⟨0, _, [], [], r1, none, by omega, rfl, rfl, Lib.hid (by rw [Nat.sub_zero]; exact (bind_eta _).symm), h1, L0⟩
  case round =>
    obtain ⟨k, v, xs, Ls, r, g', hk, rfl, rfl, HP, hr, L⟩ := hrel
    by_cases hk2 : xs.length < n
    · have hki : (xs.length : Int) < (n : Int) := by omega
      obtain ⟨a, cp, rfl, hcp, -⟩ := L.own.shape
      obtain ⟨curp, hbp, hvp⟩ := L.cell
      have pr : wr.cell? ⟨p, o, none⟩ = some (.slice a xs.length cp) := (cell_in hbp).trans hvp
      have lpr := lt_in hbp
      have hsw := L.kept.size
      go_wp2_with fail
      have ka := Kept.alloc (fun _ => False) wr (Obj.cells #[Value.int IntKind.i64 0, Value.int IntKind.i64 0, Value.int IntKind.i64 0, Value.int IntKind.i64 0] 156)
      have hq : (wr.alloc (Obj.cells #[Value.int IntKind.i64 0, Value.int IntKind.i64 0, Value.int IntKind.i64 0, Value.int IntKind.i64 0] 156)).heap[wr.heap.size]? = some (Obj.cells #[Value.int IntKind.i64 0, Value.int IntKind.i64 0, Value.int IntKind.i64 0, Value.int IntKind.i64 0] 156) := heap_alloc_new' _ _
      have ra : Rd (wr.alloc (Obj.cells #[Value.int IntKind.i64 0, Value.int IntKind.i64 0, Value.int IntKind.i64 0, Value.int IntKind.i64 0] 156)) c r g := hr.kept ka
      have sa : (wr.alloc (Obj.cells #[Value.int IntKind.i64 0, Value.int IntKind.i64 0, Value.int IntKind.i64 0, Value.int IntKind.i64 0] 156)).heap.size = wr.heap.size + 1 := by simp
      generalize wr.alloc (Obj.cells #[Value.int IntKind.i64 0, Value.int IntKind.i64 0, Value.int IntKind.i64 0, Value.int IntKind.i64 0] 156) = wa at ka hq ra sa ⊢
      have bq : Blk wa wr.heap.size #[Value.int IntKind.i64 0, Value.int IntKind.i64 0, Value.int IntKind.i64 0, Value.int IntKind.i64 0] 156 c g := ⟨hq, by omega, fun e => by have := hgl _ e; omega⟩
      refine (poolG_c ra (fun k hk => by have := hgl k hk; omega) bq (by intro f hf; simp)).mono ?_
      rintro e w2 ⟨k2, ⟨hp2, rfl, -⟩ | ⟨x, r2, cur2, cs, hp2, rfl, h2, b2, put2, hx⟩⟩
      · exact ⟨rfl, (L.kept.trans (ka.mono (fun _ _ h => h.elim))).thn k2 (fun i hi => by rcases hi with rfl | rfl; exact .inl (.inl rfl); exact .inr hsw), .inl ⟨by rw [HP1.out]; exact pN_stop hk2 HP.out hp2, rfl, L.was.kept ka k2 (fun h => h) (fun h => by rcases h with h | h; exact hb.ne h; omega)⟩⟩
      have k02 : Kept (· = c) wr w2 := (ka.mono (fun _ _ h => h.elim)).thn k2 (fun i hi => by rcases hi with rfl | rfl; exact .inl rfl; exact .inr (Nat.le_refl _))
      have hxn : PoolT.Is w2 (New wr w2) cs x := PoolT.stable _ _ _ _ _ _ hx (fun k hk => ⟨by have := hk.1; omega, hk.2⟩) (fun _ _ => rfl)
      obtain ⟨rfl, -⟩ := hx
      have y0 : w2.cell? ⟨wr.heap.size, 0, none⟩ = some (Value.int IntKind.i64 x.id) := (cell_in b2.heap).trans (by have := put2.at_ 0 (by simp); simpa using this)
      have y1 : w2.cell? ⟨wr.heap.size, 1, none⟩ = some (Value.int IntKind.i64 x.size) := (cell_in b2.heap).trans (by have := put2.at_ 1 (by simp); simpa using this)
      have y2 : w2.cell? ⟨wr.heap.size, 2, none⟩ = some (Value.int IntKind.i64 x.min) := (cell_in b2.heap).trans (by have := put2.at_ 2 (by simp); simpa using this)
      have y3 : w2.cell? ⟨wr.heap.size, 3, none⟩ = some (Value.int IntKind.i64 x.pgs) := (cell_in b2.heap).trans (by have := put2.at_ 3 (by simp); simpa using this)
      have lq2 := lt_in b2.heap
      have HP2 := Lib.hid (pN_next hk2 HP.out hp2)
      have bp2 : w2.heap[p]? = some (.cells curp t) := (k02.block _ lpr hb.ne).trans hbp
      have HBP := Lib.hid bp2
      have lp2 := lt_in bp2
      have hpq : p ≠ wr.heap.size := by omega
      have own2 := L.own.kept k02 (fun k hk e => by have := L.new k hk; omega)
      clear ka hq ra bq hbp pr HP hp2 bp2
      go_wp2
      refine wp_region_ordJ (fun w' => w'.heap[p]? = some (.cells curp t)) [4] [0, 1, 2, 3] [5, 6] [7, 8] (by kernel_rfl) (by kernel_rfl) (fun _ _ d _ _ h => by cases d <;> exact h) (fun k => HBP.out) ?_
      simp only [sel, List.filterMap_cons, List.filterMap_nil, List.getElem?_cons_zero, List.getElem?_cons_succ]
      repeat (quiet_step (fail))
      refine wpQuiet_nil ?_
      refine wpHeld_step (fun K hK => ?_)
      go_simp
      refine ⟨_, fun _ _ => rfl, hK _ ?_⟩
      refine wpHeld_step (fun K hK => ?_)
      go_simp
      refine ⟨_, fun _ _ => rfl, hK _ ?_⟩
      refine wpHeld_step (fun K hK => ?_)
      go_simp
      refine ⟨_, fun _ _ => rfl, hK _ ?_⟩
      refine wpHeld_step (fun K hK => ?_)
      go_simp
      refine ⟨.slice a xs.length cp, fun w' h => (by
        have h1 := (cell_in (k := o) h).trans hvp
        have h2 := lt_in h
        clear h
        go_simp), hK _ ?_⟩
      refine wpHeld_nil ?_
      rintro _ ⟨nr, rfl⟩
      have kd := Kept.drewN (fun _ => False) w2 nr
      have Q3 : Hid ((w2.drewN nr).heap[p]? = some (.cells curp t)) := Lib.hid HBP.out
      generalize w2.drewN nr = w3 at kd Q3 ⊢
      refine wpListS_step (fun K hK => ?_)
      go_simp
      have hA : (w3.alloc (Obj.cells #[Value.int IntKind.i64 x.id, Value.int IntKind.i64 x.size, Value.int IntKind.i64 x.min, Value.int IntKind.i64 x.pgs] 156)).heap[p]? = some (.cells curp t) := (Below.heap_alloc _ _ _ (lt_in Q3.out)).trans Q3.out
      refine hK _ _ hA ?_
      clear hK
      have k34 := kd.al (Obj.cells #[Value.int IntKind.i64 x.id, Value.int IntKind.i64 x.size, Value.int IntKind.i64 x.min, Value.int IntKind.i64 x.pgs] 156)
      have r4 := reads_allocN w3 [Value.int IntKind.i64 x.id, Value.int IntKind.i64 x.size, Value.int IntKind.i64 x.min, Value.int IntKind.i64 x.pgs] 156 4 rfl
      generalize w3.alloc (Obj.cells #[Value.int IntKind.i64 x.id, Value.int IntKind.i64 x.size, Value.int IntKind.i64 x.min, Value.int IntKind.i64 x.pgs] 156) = w4 at hA k34 r4 ⊢
      have own4 := own2.kept k34 (fun _ _ h => h)
      refine wpListS_append_Own rfl _ _ 64 64 rfl 156 i0 (Value.agg #[Value.int IntKind.i64 0, Value.int IntKind.i64 0, Value.int IntKind.i64 0, Value.int IntKind.i64 0]) 4 32 Tryz.underlying64 hi0 hz0 hz1 hz2 rfl rfl own4 rfl (r4.src Tryz.underlying64 (by intro u hu; simp only [List.mem_cons, List.not_mem_nil, or_false] at hu; rcases hu with rfl | rfl | rfl | rfl <;> rfl)) (by unfold maxLen; omega) (by omega) ?_
      intro a5 k5 w5 g5 hown5 hk5 hg5
      have hgp : g' ≠ some p := fun e => by have := L.new p e; omega
      have hA5 : w5.heap[p]? = _ := (hk5.block _ (lt_in hA) (fun h => hgp h)).trans hA
      refine ⟨hA5, ?_⟩
      refine wpListS_nil ?_
      have k04 : Kept (· = c) wr w4 := k02.trans (k34.mono (fun _ _ h => h.elim))
      have s4 := k34.size
      have hx4 : PoolT.Is w4 (New wr w4) _ x := PoolT.stable _ _ _ _ _ _ hxn (fun k hk => ⟨hk.1, by have := hk.2; omega⟩) (fun k hk => k34.block k hk.2 (fun h => h))
      have LN := Lib.hid (L.grow PoolT.stable (o := o) hlp hlc k04 hx4 rfl hown5 hk5 hg5)
      have RN := Lib.hid (Lst.rd L (w2 := w2) (o := o) (v4 := .slice a5 (xs.length + 1) k5) hlc hgl (h2.kept k34) hk5)
      have f0 : w5.frozen? ⟨p, o, none⟩ = false := frozen_in hA5
      have z5 := (cell_in (k := o) hA5).trans hvp
      have hl5 := lt_in hA5
      have HX2 : Hid ((xs ++ [x]).length = xs.length + 1) := Lib.hid (by rw [List.length_append]; rfl)
      clear hA5 hA hown5 own4 own2 r4 hk5 hg5 hx4 hxn
      go_wp2
      exact ⟨⟨xs.length + 1, _, xs ++ [x], _, r2, g5, by omega, by simp, HX2.out, HP2, RN.out, LN.out⟩, by simp [intOf]; omega⟩
    · obtain rfl : n = xs.length := by omega
      go_wp2
      obtain ⟨cur', hbl, hpu⟩ := L.blk
      exact bodyPost_end (v := .tuple #[]) (by simp [results, Tryz.results106]) rfl ⟨L.kept, .inr ⟨xs, r, cur', [v], by rw [HP1.out]; exact pN_end HP.out, rfl, hr, hbl, hpu, v, rfl, L.done PoolT.stable (by omega)⟩⟩
theorem bucketG_c {w : World} {c p o : Nat} {bs : List UInt8} {g : Option Nat} {cur : Array Value} {t : TypeId} (h : Rd w c bs g) (hgl : ∀ k, g = some k → k < w.heap.size) (hb : Blk w p cur t c g) (hz : ∀ f, f < 4 → cur[o + f]? = ([Value.int IntKind.i64 0, Value.int IntKind.i64 0, Value.slice none 0 0, Value.slice none 0 0] : List Value)[f]?) :
    Calls Tryz.prog 109 #[.pointer (some ⟨c, 0, none⟩), .pointer (some ⟨p, o, none⟩)] w (Got BucketT.Is pBucket bs w c p o g cur t) := by
  have hmf : ∀ (fn : Fn) (first cap : Array Value) (w : World), (Instr.makeFunc fn first cap).run Tryz.prog w = .ok (.func fn first cap) w := fun _ _ _ _ => rfl
  have hlp := lt_in hb.heap
  have hlc := h.lt
  go_enter Tryz.func109, Tryz.ntmps109
  have B0 := hb
  have H0 := h
  have P0 := Put.nil cur o
  have K0 := Kept.refl (fun k => k = c ∨ k = p) w
  have z0 := hz
  clear h hb
  have lp0 := lt_in B0.heap
  go_wp2
  refine wp_region_ord [1, 2, 3, 4, 5, 6] [0] [7, 8] (by kernel_rfl) (by kernel_rfl) (fun _ _ d _ _ h => by cases d <;> exact h) ?_
  simp only [sel, List.filterMap_cons, List.filterMap_nil, List.getElem?_cons_zero, List.getElem?_cons_succ]
  repeat (quiet_step (fail))
  refine wpQuiet_nil ?_
  refine wpIdle_step (fun K hK => ?_)
  go_simp
  refine hK _ ?_
  clear hK
  refine wpIdle_nil ?_
  rintro _ ⟨nr, rfl⟩
  go_wp2_with fail
  have j0 : Kept (fun _ => False) w ((w.drewN nr).alloc (Obj.cells #[Value.pointer (some ⟨p, o, none⟩), Value.pointer (some ⟨p, o + 1, none⟩)] 141)) := (Kept.drewN _ _ _).al _
  have rr0 := (own_alloc (w.drewN nr) [Value.pointer (some ⟨p, o, none⟩), Value.pointer (some ⟨p, o + 1, none⟩)] 141 2 rfl (by decide)).reads
  have hs0 : (w.drewN nr).heap.size = w.heap.size := rfl
  rw [hs0] at rr0
  generalize (w.drewN nr).alloc (Obj.cells #[Value.pointer (some ⟨p, o, none⟩), Value.pointer (some ⟨p, o + 1, none⟩)] 141) = y0 at j0 rr0 ⊢
  have HH0 : Rd y0 c _ g := H0.kept j0
  have BB0 := B0.kept j0 (fun h => h)
  have hc0 : c < w.heap.size := H0.lt
  have lb0 := lt_in B0.heap
  refine (numsI_c (m := 2) (o := o) HH0 BB0 (gp := some w.heap.size) rr0 (fun k hk => by cases hk; exact ⟨Nat.ne_of_gt hc0, Nat.ne_of_gt lb0⟩) (by
    intro f hf
    obtain rfl | rfl : f = 0 ∨ f = 1 := by omega
    · exact ⟨0, by rw [P0.other _ (by simp)]; exact hz 0 (by omega)⟩
    · exact ⟨0, by rw [P0.other _ (by simp)]; exact hz 1 (by omega)⟩
    ) (by omega)).mono ?_
  rintro _ w1 ⟨k1, ⟨hp, rfl, hwas⟩ | ⟨ns0, r1, cur1, cs0, hp, rfl, H1, B1, q1, hx0⟩⟩
  · exact ⟨rfl, K0.trans (kept_alloc2 j0 k1), .inl ⟨by simp only [pBucket, Option.bind_some]; exact pN2_none hp _, rfl, hwas.cast P0.size⟩⟩
  have K1 := K0.trans (kept_alloc2 j0 k1)
  replace k1 := kept_alloc2 j0 k1
  obtain rfl := hx0
  obtain ⟨n0_0, s0_0, n0_1, hp0_0, hp0_1, rfl⟩ := pN2_some hp
  simp only [List.map_cons, List.map_nil] at q1
  have P1 := P0.append q1
  have lp1 := lt_in B1.heap
  go_wp2_with fail
  refine (listintG_c H1 (fun k hk => by have := hgl k hk; have := K1.size; omega) B1 (by rw [P1.other (o + 2) (by simp)]; exact hz 2 (by omega))).mono ?_
  rintro _ w2 ⟨k2, ⟨hp, rfl, hwas⟩ | ⟨x1, r2, cur2, cs1, hp1, rfl, H2, B2, q2, hx1⟩⟩
  · exact ⟨rfl, K1.trans k2, .inl ⟨by simp only [pBucket, hp0_0, hp0_1, Option.bind_some]; rw [hp]; rfl, rfl, hwas.cast P1.size⟩⟩
  have K2 := K1.trans k2
  have P2 := P1.append q2
  obtain ⟨v1, rfl, l1⟩ := hx1
  have lp2 := lt_in B2.heap
  go_wp2_with fail
  refine (listintG_c H2 (fun k hk => by have := hgl k hk; have := K2.size; omega) B2 (by rw [P2.other (o + 3) (by simp)]; exact hz 3 (by omega))).mono ?_
  rintro _ w3 ⟨k3, ⟨hp, rfl, hwas⟩ | ⟨x2, r3, cur3, cs2, hp2, rfl, H3, B3, q3, hx2⟩⟩
  · exact ⟨rfl, K2.trans k3, .inl ⟨by simp only [pBucket, hp0_0, hp0_1, hp1, Option.bind_some]; rw [hp]; rfl, rfl, hwas.cast P2.size⟩⟩
  have K3 := K2.trans k3
  have P3 := P2.append q3
  obtain ⟨v2, rfl, l2⟩ := hx2
  go_wp2
  have T3 := Kept.refl (fun k => k = c ∨ k = p) w3
  have T2 := k3.trans T3
  have T1 := k2.trans T2
  exact bodyPost_end (v := .tuple #[]) (by simp [results, Tryz.results109]) rfl ⟨K3, .inr ⟨⟨n0_0, n0_1, x1, x2⟩, r3, cur3, _, by simp only [pBucket, hp0_0, hp0_1, hp1, hp2, Option.bind_some], rfl, H3, B3, P3, ⟨v1, v2, rfl, (lawI.dec _ _ _ hp0_0).2, (lawI.dec _ _ _ hp0_1).2, l1.late intIs_stable K1.size T2 hlc hlp, l2.late intIs_stable K2.size T3 hlc hlp⟩⟩⟩
theorem info_Bucket : (Tryz.prog.info? 159).map (fun i => (i.zero, i.size, i.bytes)) = some (some (Value.agg #[Value.int IntKind.i64 0, Value.int IntKind.i64 0, Value.slice none 0 0, Value.slice none 0 0]), 4, 64) := by kernel_rfl
theorem listBucketG_c {w : World} {c p o : Nat} {bs : List UInt8} {g : Option Nat} {cur : Array Value} {t : TypeId} (h : Rd w c bs g) (hgl : ∀ k, g = some k → k < w.heap.size) (hb : Blk w p cur t c g) (hz : cur[o]? = some (.slice none 0 0)) :
    Calls Tryz.prog 108 #[.pointer (some ⟨c, 0, none⟩), .pointer (some ⟨p, o, none⟩), .func (.func 109) #[.pointer (some ⟨c, 0, none⟩)] #[]] w (Got (sliceIs 4 BucketT.Is) (pL pBucket) bs w c p o g cur t) := by
  obtain ⟨i0, hi0, hz0, hz1, hz2⟩ := info_all info_Bucket
  have p0 : w.cell? ⟨p, o, none⟩ = some (.slice none 0 0) := (cell_in hb.heap).trans hz
  have hlp := lt_in hb.heap
  have hlc := h.lt
  go_enter Tryz.func108, Tryz.ntmps108
  go_wp2_with fail
  refine (countG_c h).mono ?_
  rintro e w1 ⟨k1, ⟨n, r1, hp1, rfl, h1⟩ | ⟨hp1, rfl⟩⟩
  rotate_left
  · exact ⟨rfl, k1.mono (fun _ _ h => .inl h), .inl ⟨by unfold pL; rw [hp1]; rfl, rfl, (hb.kept k1 hb.ne).was⟩⟩
  have hb1 := hb.kept k1 hb.ne
  have p1 : w1.cell? ⟨p, o, none⟩ = some (.slice none 0 0) := (cell_in hb1.heap).trans hz
  have f1 : w1.frozen? ⟨p, o, none⟩ = false := frozen_in hb1.heap
  have lp1 := lt_in hb1.heap
  have c2 : w1.cell? ⟨c, 2, none⟩ = some (.bool true) := by
    obtain ⟨vi, h2, -⟩ := h1.ex
    exact cell_in h2
  have lc1 := h1.lt
  have e1 := setCell_same' p1
  have L0 := Lst.start BucketT.Is 4 159 hb1 hz k1
  have hn32 := (pC_some hp1).2.1
  have HP1 : Hid (pL pBucket bs = pN pBucket n r1) := Lib.hid (by unfold pL; rw [hp1]; rfl)
  clear p0 hb1 hp1
  go_wp2
  go_loopw [37] (fun i w' => ∃ (k : Nat) (v : Value) (xs : List BucketT) (Ls : List (List Value)) (r : List UInt8) (g' : Option Nat), k ≤ n ∧ i = .int .i64 k ∧ xs.length = k ∧ Hid (pN pBucket n r1 = (pN pBucket (n - k) r).bind (fun z => some (xs ++ z.1, z.2))) ∧ Rd w' c r g ∧ Lst BucketT.Is 4 159 w w' c p o g cur t v xs Ls g') (fun i _ => n - (intOf i).toNat)
  case atStart => exact ⟨0, _, [], [], r1, none, by omega, rfl, rfl, Lib.hid (by rw [Nat.sub_zero]; exact (bind_eta _).symm), h1, L0⟩
  case round =>
    obtain ⟨k, v, xs, Ls, r, g', hk, rfl, rfl, HP, hr, L⟩ := hrel
    by_cases hk2 : xs.length < n
    · have hki : (xs.length : Int) < (n : Int) := by omega
      obtain ⟨a, cp, rfl, hcp, -⟩ := L.own.shape
      obtain ⟨curp, hbp, hvp⟩ := L.cell
      have pr : wr.cell? ⟨p, o, none⟩ = some (.slice a xs.length cp) := (cell_in hbp).trans hvp
      have lpr := lt_in hbp
      have hsw := L.kept.size
      go_wp2_with fail
      have ka := Kept.alloc (fun _ => False) wr (Obj.cells #[Value.int IntKind.i64 0, Value.int IntKind.i64 0, Value.slice none 0 0, Value.slice none 0 0] 159)
      have hq : (wr.alloc (Obj.cells #[Value.int IntKind.i64 0, Value.int IntKind.i64 0, Value.slice none 0 0, Value.slice none 0 0] 159)).heap[wr.heap.size]? = some (Obj.cells #[Value.int IntKind.i64 0, Value.int IntKind.i64 0, Value.slice none 0 0, Value.slice none 0 0] 159) := heap_alloc_new' _ _
      have ra : Rd (wr.alloc (Obj.cells #[Value.int IntKind.i64 0, Value.int IntKind.i64 0, Value.slice none 0 0, Value.slice none 0 0] 159)) c r g := hr.kept ka
      have sa : (wr.alloc (Obj.cells #[Value.int IntKind.i64 0, Value.int IntKind.i64 0, Value.slice none 0 0, Value.slice none 0 0] 159)).heap.size = wr.heap.size + 1 := by simp
      generalize wr.alloc (Obj.cells #[Value.int IntKind.i64 0, Value.int IntKind.i64 0, Value.slice none 0 0, Value.slice none 0 0] 159) = wa at ka hq ra sa ⊢
      have bq : Blk wa wr.heap.size #[Value.int IntKind.i64 0, Value.int IntKind.i64 0, Value.slice none 0 0, Value.slice none 0 0] 159 c g := ⟨hq, by omega, fun e => by have := hgl _ e; omega⟩
      refine (bucketG_c ra (fun k hk => by have := hgl k hk; omega) bq (by intro f hf; simp)).mono ?_
      rintro e w2 ⟨k2, ⟨hp2, rfl, -⟩ | ⟨x, r2, cur2, cs, hp2, rfl, h2, b2, put2, hx⟩⟩
      · exact ⟨rfl, (L.kept.trans (ka.mono (fun _ _ h => h.elim))).thn k2 (fun i hi => by rcases hi with rfl | rfl; exact .inl (.inl rfl); exact .inr hsw), .inl ⟨by rw [HP1.out]; exact pN_stop hk2 HP.out hp2, rfl, L.was.kept ka k2 (fun h => h) (fun h => by rcases h with h | h; exact hb.ne h; omega)⟩⟩
      have k02 : Kept (· = c) wr w2 := (ka.mono (fun _ _ h => h.elim)).thn k2 (fun i hi => by rcases hi with rfl | rfl; exact .inl rfl; exact .inr (Nat.le_refl _))
      have hxn : BucketT.Is w2 (New wr w2) cs x := BucketT.stable _ _ _ _ _ _ hx (fun k hk => ⟨by have := hk.1; omega, hk.2⟩) (fun _ _ => rfl)
      obtain ⟨uv_items, uv_weights, rfl, -, -, m0, m1⟩ := hx
      obtain ⟨au0, cu0, rfl, -⟩ := m0.shape
      obtain ⟨au1, cu1, rfl, -⟩ := m1.shape
      have y0 : w2.cell? ⟨wr.heap.size, 0, none⟩ = some (Value.int IntKind.i64 x.id) := (cell_in b2.heap).trans (by have := put2.at_ 0 (by simp); simpa using this)
      have y1 : w2.cell? ⟨wr.heap.size, 1, none⟩ = some (Value.int IntKind.i64 x.kind) := (cell_in b2.heap).trans (by have := put2.at_ 1 (by simp); simpa using this)
      have y2 : w2.cell? ⟨wr.heap.size, 2, none⟩ = some (Value.slice au0 x.items.length cu0) := (cell_in b2.heap).trans (by have := put2.at_ 2 (by simp); simpa using this)
      have y3 : w2.cell? ⟨wr.heap.size, 3, none⟩ = some (Value.slice au1 x.weights.length cu1) := (cell_in b2.heap).trans (by have := put2.at_ 3 (by simp); simpa using this)
      have lq2 := lt_in b2.heap
      have HP2 := Lib.hid (pN_next hk2 HP.out hp2)
      have bp2 : w2.heap[p]? = some (.cells curp t) := (k02.block _ lpr hb.ne).trans hbp
      have HBP := Lib.hid bp2
      have lp2 := lt_in bp2
      have hpq : p ≠ wr.heap.size := by omega
      have own2 := L.own.kept k02 (fun k hk e => by have := L.new k hk; omega)
      clear ka hq ra bq hbp pr HP hp2 bp2
      go_wp2
      refine wp_region_ordJ (fun w' => w'.heap[p]? = some (.cells curp t)) [4] [0, 1, 2, 3] [5, 6] [7, 8] (by kernel_rfl) (by kernel_rfl) (fun _ _ d _ _ h => by cases d <;> exact h) (fun k => HBP.out) ?_
      simp only [sel, List.filterMap_cons, List.filterMap_nil, List.getElem?_cons_zero, List.getElem?_cons_succ]
      repeat (quiet_step (fail))
      refine wpQuiet_nil ?_
      refine wpHeld_step (fun K hK => ?_)
      go_simp
      refine ⟨_, fun _ _ => rfl, hK _ ?_⟩
      refine wpHeld_step (fun K hK => ?_)
      go_simp
      refine ⟨_, fun _ _ => rfl, hK _ ?_⟩
      refine wpHeld_step (fun K hK => ?_)
      go_simp
      refine ⟨_, fun _ _ => rfl, hK _ ?_⟩
      refine wpHeld_step (fun K hK => ?_)
      go_simp
      refine ⟨.slice a xs.length cp, fun w' h => (by
        have h1 := (cell_in (k := o) h).trans hvp
        have h2 := lt_in h
        clear h
        go_simp), hK _ ?_⟩
      refine wpHeld_nil ?_
      rintro _ ⟨nr, rfl⟩
      have kd := Kept.drewN (fun _ => False) w2 nr
      have Q3 : Hid ((w2.drewN nr).heap[p]? = some (.cells curp t)) := Lib.hid HBP.out
      generalize w2.drewN nr = w3 at kd Q3 ⊢
      refine wpListS_step (fun K hK => ?_)
      go_simp
      have hA : (w3.alloc (Obj.cells #[Value.int IntKind.i64 x.id, Value.int IntKind.i64 x.kind, Value.slice au0 x.items.length cu0, Value.slice au1 x.weights.length cu1] 159)).heap[p]? = some (.cells curp t) := (Below.heap_alloc _ _ _ (lt_in Q3.out)).trans Q3.out
      refine hK _ _ hA ?_
      clear hK
      have k34 := kd.al (Obj.cells #[Value.int IntKind.i64 x.id, Value.int IntKind.i64 x.kind, Value.slice au0 x.items.length cu0, Value.slice au1 x.weights.length cu1] 159)
      have r4 := reads_allocN w3 [Value.int IntKind.i64 x.id, Value.int IntKind.i64 x.kind, Value.slice au0 x.items.length cu0, Value.slice au1 x.weights.length cu1] 159 4 rfl
      generalize w3.alloc (Obj.cells #[Value.int IntKind.i64 x.id, Value.int IntKind.i64 x.kind, Value.slice au0 x.items.length cu0, Value.slice au1 x.weights.length cu1] 159) = w4 at hA k34 r4 ⊢
      have own4 := own2.kept k34 (fun _ _ h => h)
      refine wpListS_append_Own rfl _ _ 65 65 rfl 159 i0 (Value.agg #[Value.int IntKind.i64 0, Value.int IntKind.i64 0, Value.slice none 0 0, Value.slice none 0 0]) 4 64 Tryz.underlying65 hi0 hz0 hz1 hz2 rfl rfl own4 rfl (r4.src Tryz.underlying65 (by intro u hu; simp only [List.mem_cons, List.not_mem_nil, or_false] at hu; rcases hu with rfl | rfl | rfl | rfl <;> rfl)) (by unfold maxLen; omega) (by omega) ?_
      intro a5 k5 w5 g5 hown5 hk5 hg5
      have hgp : g' ≠ some p := fun e => by have := L.new p e; omega
      have hA5 : w5.heap[p]? = _ := (hk5.block _ (lt_in hA) (fun h => hgp h)).trans hA
      refine ⟨hA5, ?_⟩
      refine wpListS_nil ?_
      have k04 : Kept (· = c) wr w4 := k02.trans (k34.mono (fun _ _ h => h.elim))
      have s4 := k34.size
      have hx4 : BucketT.Is w4 (New wr w4) _ x := BucketT.stable _ _ _ _ _ _ hxn (fun k hk => ⟨hk.1, by have := hk.2; omega⟩) (fun k hk => k34.block k hk.2 (fun h => h))
      have LN := Lib.hid (L.grow BucketT.stable (o := o) hlp hlc k04 hx4 rfl hown5 hk5 hg5)
      have RN := Lib.hid (Lst.rd L (w2 := w2) (o := o) (v4 := .slice a5 (xs.length + 1) k5) hlc hgl (h2.kept k34) hk5)
      have f0 : w5.frozen? ⟨p, o, none⟩ = false := frozen_in hA5
      have z5 := (cell_in (k := o) hA5).trans hvp
      have hl5 := lt_in hA5
      have HX2 : Hid ((xs ++ [x]).length = xs.length + 1) := Lib.hid (by rw [List.length_append]; rfl)
      clear hA5 hA hown5 own4 own2 r4 hk5 hg5 hx4 hxn
      go_wp2
      exact ⟨⟨xs.length + 1, _, xs ++ [x], _, r2, g5, by omega, by simp, HX2.out, HP2, RN.out, LN.out⟩, by simp [intOf]; omega⟩
    · obtain rfl : n = xs.length := by omega
      go_wp2
      obtain ⟨cur', hbl, hpu⟩ := L.blk
      exact bodyPost_end (v := .tuple #[]) (by simp [results, Tryz.results108]) rfl ⟨L.kept, .inr ⟨xs, r, cur', [v], by rw [HP1.out]; exact pN_end HP.out, rfl, hr, hbl, hpu, v, rfl, L.done BucketT.stable (by omega)⟩⟩
theorem changeG_c {w : World} {c p o : Nat} {bs : List UInt8} {g : Option Nat} {cur : Array Value} {t : TypeId} (h : Rd w c bs g) (hgl : ∀ k, g = some k → k < w.heap.size) (hb : Blk w p cur t c g) (hz : ∀ f, f < 11 → cur[o + f]? = ([Value.int IntKind.i64 0, Value.int IntKind.i64 0, Value.int IntKind.i64 0, Value.int IntKind.i64 0, Value.int IntKind.i64 0, Value.int IntKind.i64 0, Value.int IntKind.i64 0, Value.int IntKind.i64 0, Value.int IntKind.i64 0, Value.slice none 0 0, Value.slice none 0 0] : List Value)[f]?) :
    Calls Tryz.prog 70 #[.pointer (some ⟨c, 0, none⟩), .pointer (some ⟨p, o, none⟩)] w (Got ChangeT.Is pChange bs w c p o g cur t) := by
  have hmf : ∀ (fn : Fn) (first cap : Array Value) (w : World), (Instr.makeFunc fn first cap).run Tryz.prog w = .ok (.func fn first cap) w := fun _ _ _ _ => rfl
  have hlp := lt_in hb.heap
  have hlc := h.lt
  go_enter Tryz.func70, Tryz.ntmps70
  have B0 := hb
  have H0 := h
  have P0 := Put.nil cur o
  have K0 := Kept.refl (fun k => k = c ∨ k = p) w
  have z0 := hz
  clear h hb
  have lp0 := lt_in B0.heap
  go_wp2
  refine wp_region_ord [1, 2, 3, 4, 5, 6, 7, 8, 9] [0] [10, 11] (by kernel_rfl) (by kernel_rfl) (fun _ _ d _ _ h => by cases d <;> exact h) ?_
  simp only [sel, List.filterMap_cons, List.filterMap_nil, List.getElem?_cons_zero, List.getElem?_cons_succ]
  repeat (quiet_step (fail))
  refine wpQuiet_nil ?_
  refine wpIdle_step (fun K hK => ?_)
  go_simp
  refine hK _ ?_
  clear hK
  refine wpIdle_nil ?_
  rintro _ ⟨nr, rfl⟩
  go_wp2_with fail
  have j0 : Kept (fun _ => False) w ((w.drewN nr).alloc (Obj.cells #[Value.pointer (some ⟨p, o, none⟩), Value.pointer (some ⟨p, o + 1, none⟩), Value.pointer (some ⟨p, o + 2, none⟩)] 141)) := (Kept.drewN _ _ _).al _
  have rr0 := (own_alloc (w.drewN nr) [Value.pointer (some ⟨p, o, none⟩), Value.pointer (some ⟨p, o + 1, none⟩), Value.pointer (some ⟨p, o + 2, none⟩)] 141 3 rfl (by decide)).reads
  have hs0 : (w.drewN nr).heap.size = w.heap.size := rfl
  rw [hs0] at rr0
  generalize (w.drewN nr).alloc (Obj.cells #[Value.pointer (some ⟨p, o, none⟩), Value.pointer (some ⟨p, o + 1, none⟩), Value.pointer (some ⟨p, o + 2, none⟩)] 141) = y0 at j0 rr0 ⊢
  have HH0 : Rd y0 c _ g := H0.kept j0
  have BB0 := B0.kept j0 (fun h => h)
  have hc0 : c < w.heap.size := H0.lt
  have lb0 := lt_in B0.heap
  refine (numsI_c (m := 3) (o := o) HH0 BB0 (gp := some w.heap.size) rr0 (fun k hk => by cases hk; exact ⟨Nat.ne_of_gt hc0, Nat.ne_of_gt lb0⟩) (by
    intro f hf
    obtain rfl | rfl | rfl : f = 0 ∨ f = 1 ∨ f = 2 := by omega
    · exact ⟨0, by rw [P0.other _ (by simp)]; exact hz 0 (by omega)⟩
    · exact ⟨0, by rw [P0.other _ (by simp)]; exact hz 1 (by omega)⟩
    · exact ⟨0, by rw [P0.other _ (by simp)]; exact hz 2 (by omega)⟩
    ) (by omega)).mono ?_
  rintro _ w1 ⟨k1, ⟨hp, rfl, hwas⟩ | ⟨ns0, r1, cur1, cs0, hp, rfl, H1, B1, q1, hx0⟩⟩
  · exact ⟨rfl, K0.trans (kept_alloc2 j0 k1), .inl ⟨by simp only [pChange, Option.bind_some]; exact pN3_none hp _, rfl, hwas.cast P0.size⟩⟩
  have K1 := K0.trans (kept_alloc2 j0 k1)
  replace k1 := kept_alloc2 j0 k1
  obtain rfl := hx0
  obtain ⟨n0_0, s0_0, n0_1, s0_1, n0_2, hp0_0, hp0_1, hp0_2, rfl⟩ := pN3_some hp
  simp only [List.map_cons, List.map_nil] at q1
  have P1 := P0.append q1
  have lp1 := lt_in B1.heap
  go_wp2_with fail
  refine (poolG_c H1 (fun k hk => by have := hgl k hk; have := K1.size; omega) B1 (o := o + 3) (by
    intro f hf
    obtain rfl | rfl | rfl | rfl : f = 0 ∨ f = 1 ∨ f = 2 ∨ f = 3 := by omega
    · rw [P1.other _ (by simp)]; exact hz 3 (by omega)
    · rw [P1.other _ (by simp)]; exact hz 4 (by omega)
    · rw [P1.other _ (by simp)]; exact hz 5 (by omega)
    · rw [P1.other _ (by simp)]; exact hz 6 (by omega)
    )).mono ?_
  rintro _ w2 ⟨k2, ⟨hp, rfl, hwas⟩ | ⟨x1, r2, cur2, cs1, hp1, rfl, H2, B2, q2, hx1⟩⟩
  · exact ⟨rfl, K1.trans k2, .inl ⟨by simp only [pChange, hp0_0, hp0_1, hp0_2, Option.bind_some]; rw [hp]; rfl, rfl, hwas.cast P1.size⟩⟩
  have K2 := K1.trans k2
  have P2 := P1.append q2
  obtain ⟨rfl, j1_0, j1_1, j1_2, j1_3⟩ := hx1
  have lp2 := lt_in B2.heap
  go_wp2_with fail
  refine (bucketG_c H2 (fun k hk => by have := hgl k hk; have := K2.size; omega) B2 (o := o + 7) (by
    intro f hf
    obtain rfl | rfl | rfl | rfl : f = 0 ∨ f = 1 ∨ f = 2 ∨ f = 3 := by omega
    · rw [P2.other _ (by simp)]; exact hz 7 (by omega)
    · rw [P2.other _ (by simp)]; exact hz 8 (by omega)
    · rw [P2.other _ (by simp)]; exact hz 9 (by omega)
    · rw [P2.other _ (by simp)]; exact hz 10 (by omega)
    )).mono ?_
  rintro _ w3 ⟨k3, ⟨hp, rfl, hwas⟩ | ⟨x2, r3, cur3, cs2, hp2, rfl, H3, B3, q3, hx2⟩⟩
  · exact ⟨rfl, K2.trans k3, .inl ⟨by simp only [pChange, hp0_0, hp0_1, hp0_2, hp1, Option.bind_some]; rw [hp]; rfl, rfl, hwas.cast P2.size⟩⟩
  have K3 := K2.trans k3
  have P3 := P2.append q3
  obtain ⟨u2_0, u2_1, rfl, j2_0, j2_1, l2_0, l2_1⟩ := hx2
  go_wp2
  have T3 := Kept.refl (fun k => k = c ∨ k = p) w3
  have T2 := k3.trans T3
  have T1 := k2.trans T2
  exact bodyPost_end (v := .tuple #[]) (by simp [results, Tryz.results70]) rfl ⟨K3, .inr ⟨⟨n0_0, n0_1, n0_2, x1, x2⟩, r3, cur3, _, by simp only [pChange, hp0_0, hp0_1, hp0_2, hp1, hp2, Option.bind_some], rfl, H3, B3, P3, ⟨u2_0, u2_1, rfl, (lawI.dec _ _ _ hp0_0).2, (lawI.dec _ _ _ hp0_1).2, (lawI.dec _ _ _ hp0_2).2, j1_0, j1_1, j1_2, j1_3, j2_0, j2_1, l2_0.late intIs_stable K2.size T3 hlc hlp, l2_1.late intIs_stable K2.size T3 hlc hlp⟩⟩⟩
theorem info_Change : (Tryz.prog.info? 161).map (fun i => (i.zero, i.size, i.bytes)) = some (some (Value.agg #[Value.int IntKind.i64 0, Value.int IntKind.i64 0, Value.int IntKind.i64 0, Value.int IntKind.i64 0, Value.int IntKind.i64 0, Value.int IntKind.i64 0, Value.int IntKind.i64 0, Value.int IntKind.i64 0, Value.int IntKind.i64 0, Value.slice none 0 0, Value.slice none 0 0]), 11, 120) := by kernel_rfl
theorem listChangeG_c {w : World} {c p o : Nat} {bs : List UInt8} {g : Option Nat} {cur : Array Value} {t : TypeId} (h : Rd w c bs g) (hgl : ∀ k, g = some k → k < w.heap.size) (hb : Blk w p cur t c g) (hz : cur[o]? = some (.slice none 0 0)) :
    Calls Tryz.prog 69 #[.pointer (some ⟨c, 0, none⟩), .pointer (some ⟨p, o, none⟩), .func (.func 70) #[.pointer (some ⟨c, 0, none⟩)] #[]] w (Got (sliceIs 11 ChangeT.Is) (pL pChange) bs w c p o g cur t) := by
  obtain ⟨i0, hi0, hz0, hz1, hz2⟩ := info_all info_Change
  have p0 : w.cell? ⟨p, o, none⟩ = some (.slice none 0 0) := (cell_in hb.heap).trans hz
  have hlp := lt_in hb.heap
  have hlc := h.lt
  go_enter Tryz.func69, Tryz.ntmps69
  go_wp2_with fail
  refine (countG_c h).mono ?_
  rintro e w1 ⟨k1, ⟨n, r1, hp1, rfl, h1⟩ | ⟨hp1, rfl⟩⟩
  rotate_left
  · exact ⟨rfl, k1.mono (fun _ _ h => .inl h), .inl ⟨by unfold pL; rw [hp1]; rfl, rfl, (hb.kept k1 hb.ne).was⟩⟩
  have hb1 := hb.kept k1 hb.ne
  have p1 : w1.cell? ⟨p, o, none⟩ = some (.slice none 0 0) := (cell_in hb1.heap).trans hz
  have f1 : w1.frozen? ⟨p, o, none⟩ = false := frozen_in hb1.heap
  have lp1 := lt_in hb1.heap
  have c2 : w1.cell? ⟨c, 2, none⟩ = some (.bool true) := by
    obtain ⟨vi, h2, -⟩ := h1.ex
    exact cell_in h2
  have lc1 := h1.lt
  have e1 := setCell_same' p1
  have L0 := Lst.start ChangeT.Is 11 161 hb1 hz k1
  have hn32 := (pC_some hp1).2.1
  have HP1 : Hid (pL pChange bs = pN pChange n r1) := Lib.hid (by unfold pL; rw [hp1]; rfl)
  clear p0 hb1 hp1
  go_wp2
  go_loopw [37] (fun i w' => ∃ (k : Nat) (v : Value) (xs : List ChangeT) (Ls : List (List Value)) (r : List UInt8) (g' : Option Nat), k ≤ n ∧ i = .int .i64 k ∧ xs.length = k ∧ Hid (pN pChange n r1 = (pN pChange (n - k) r).bind (fun z => some (xs ++ z.1, z.2))) ∧ Rd w' c r g ∧ Lst ChangeT.Is 11 161 w w' c p o g cur t v xs Ls g') (fun i _ => n - (intOf i).toNat)
  case atStart => exact ⟨0, _, [], [], r1, none, by omega, rfl, rfl, Lib.hid (by rw [Nat.sub_zero]; exact (bind_eta _).symm), h1, L0⟩
  case round =>
    obtain ⟨k, v, xs, Ls, r, g', hk, rfl, rfl, HP, hr, L⟩ := hrel
    by_cases hk2 : xs.length < n
    · have hki : (xs.length : Int) < (n : Int) := by omega
      obtain ⟨a, cp, rfl, hcp, -⟩ := L.own.shape
      obtain ⟨curp, hbp, hvp⟩ := L.cell
      have pr : wr.cell? ⟨p, o, none⟩ = some (.slice a xs.length cp) := (cell_in hbp).trans hvp
      have lpr := lt_in hbp
      have hsw := L.kept.size
      go_wp2_with fail
      have ka := Kept.alloc (fun _ => False) wr (Obj.cells #[Value.int IntKind.i64 0, Value.int IntKind.i64 0, Value.int IntKind.i64 0, Value.int IntKind.i64 0, Value.int IntKind.i64 0, Value.int IntKind.i64 0, Value.int IntKind.i64 0, Value.int IntKind.i64 0, Value.int IntKind.i64 0, Value.slice none 0 0, Value.slice none 0 0] 161)
      have hq : (wr.alloc (Obj.cells #[Value.int IntKind.i64 0, Value.int IntKind.i64 0, Value.int IntKind.i64 0, Value.int IntKind.i64 0, Value.int IntKind.i64 0, Value.int IntKind.i64 0, Value.int IntKind.i64 0, Value.int IntKind.i64 0, Value.int IntKind.i64 0, Value.slice none 0 0, Value.slice none 0 0] 161)).heap[wr.heap.size]? = some (Obj.cells #[Value.int IntKind.i64 0, Value.int IntKind.i64 0, Value.int IntKind.i64 0, Value.int IntKind.i64 0, Value.int IntKind.i64 0, Value.int IntKind.i64 0, Value.int IntKind.i64 0, Value.int IntKind.i64 0, Value.int IntKind.i64 0, Value.slice none 0 0, Value.slice none 0 0] 161) := heap_alloc_new' _ _
      have ra : Rd (wr.alloc (Obj.cells #[Value.int IntKind.i64 0, Value.int IntKind.i64 0, Value.int IntKind.i64 0, Value.int IntKind.i64 0, Value.int IntKind.i64 0, Value.int IntKind.i64 0, Value.int IntKind.i64 0, Value.int IntKind.i64 0, Value.int IntKind.i64 0, Value.slice none 0 0, Value.slice none 0 0] 161)) c r g := hr.kept ka
      have sa : (wr.alloc (Obj.cells #[Value.int IntKind.i64 0, Value.int IntKind.i64 0, Value.int IntKind.i64 0, Value.int IntKind.i64 0, Value.int IntKind.i64 0, Value.int IntKind.i64 0, Value.int IntKind.i64 0, Value.int IntKind.i64 0, Value.int IntKind.i64 0, Value.slice none 0 0, Value.slice none 0 0] 161)).heap.size = wr.heap.size + 1 := by simp
      generalize wr.alloc (Obj.cells #[Value.int IntKind.i64 0, Value.int IntKind.i64 0, Value.int IntKind.i64 0, Value.int IntKind.i64 0, Value.int IntKind.i64 0, Value.int IntKind.i64 0, Value.int IntKind.i64 0, Value.int IntKind.i64 0, Value.int IntKind.i64 0, Value.slice none 0 0, Value.slice none 0 0] 161) = wa at ka hq ra sa ⊢
      have bq : Blk wa wr.heap.size #[Value.int IntKind.i64 0, Value.int IntKind.i64 0, Value.int IntKind.i64 0, Value.int IntKind.i64 0, Value.int IntKind.i64 0, Value.int IntKind.i64 0, Value.int IntKind.i64 0, Value.int IntKind.i64 0, Value.int IntKind.i64 0, Value.slice none 0 0, Value.slice none 0 0] 161 c g := ⟨hq, by omega, fun e => by have := hgl _ e; omega⟩
      refine (changeG_c ra (fun k hk => by have := hgl k hk; omega) bq (by intro f hf; simp)).mono ?_
      rintro e w2 ⟨k2, ⟨hp2, rfl, -⟩ | ⟨x, r2, cur2, cs, hp2, rfl, h2, b2, put2, hx⟩⟩
      · exact ⟨rfl, (L.kept.trans (ka.mono (fun _ _ h => h.elim))).thn k2 (fun i hi => by rcases hi with rfl | rfl; exact .inl (.inl rfl); exact .inr hsw), .inl ⟨by rw [HP1.out]; exact pN_stop hk2 HP.out hp2, rfl, L.was.kept ka k2 (fun h => h) (fun h => by rcases h with h | h; exact hb.ne h; omega)⟩⟩
      have k02 : Kept (· = c) wr w2 := (ka.mono (fun _ _ h => h.elim)).thn k2 (fun i hi => by rcases hi with rfl | rfl; exact .inl rfl; exact .inr (Nat.le_refl _))
      have hxn : ChangeT.Is w2 (New wr w2) cs x := ChangeT.stable _ _ _ _ _ _ hx (fun k hk => ⟨by have := hk.1; omega, hk.2⟩) (fun _ _ => rfl)
      obtain ⟨uv_bucket_items, uv_bucket_weights, rfl, -, -, -, -, -, -, -, -, -, m0, m1⟩ := hx
      obtain ⟨au0, cu0, rfl, -⟩ := m0.shape
      obtain ⟨au1, cu1, rfl, -⟩ := m1.shape
      have y0 : w2.cell? ⟨wr.heap.size, 0, none⟩ = some (Value.int IntKind.i64 x.kind) := (cell_in b2.heap).trans (by have := put2.at_ 0 (by simp); simpa using this)
      have y1 : w2.cell? ⟨wr.heap.size, 1, none⟩ = some (Value.int IntKind.i64 x.osd) := (cell_in b2.heap).trans (by have := put2.at_ 1 (by simp); simpa using this)
      have y2 : w2.cell? ⟨wr.heap.size, 2, none⟩ = some (Value.int IntKind.i64 x.value) := (cell_in b2.heap).trans (by have := put2.at_ 2 (by simp); simpa using this)
      have y3 : w2.cell? ⟨wr.heap.size, 3, none⟩ = some (Value.int IntKind.i64 x.pool.id) := (cell_in b2.heap).trans (by have := put2.at_ 3 (by simp); simpa using this)
      have y4 : w2.cell? ⟨wr.heap.size, 4, none⟩ = some (Value.int IntKind.i64 x.pool.size) := (cell_in b2.heap).trans (by have := put2.at_ 4 (by simp); simpa using this)
      have y5 : w2.cell? ⟨wr.heap.size, 5, none⟩ = some (Value.int IntKind.i64 x.pool.min) := (cell_in b2.heap).trans (by have := put2.at_ 5 (by simp); simpa using this)
      have y6 : w2.cell? ⟨wr.heap.size, 6, none⟩ = some (Value.int IntKind.i64 x.pool.pgs) := (cell_in b2.heap).trans (by have := put2.at_ 6 (by simp); simpa using this)
      have y7 : w2.cell? ⟨wr.heap.size, 7, none⟩ = some (Value.int IntKind.i64 x.bucket.id) := (cell_in b2.heap).trans (by have := put2.at_ 7 (by simp); simpa using this)
      have y8 : w2.cell? ⟨wr.heap.size, 8, none⟩ = some (Value.int IntKind.i64 x.bucket.kind) := (cell_in b2.heap).trans (by have := put2.at_ 8 (by simp); simpa using this)
      have y9 : w2.cell? ⟨wr.heap.size, 9, none⟩ = some (Value.slice au0 x.bucket.items.length cu0) := (cell_in b2.heap).trans (by have := put2.at_ 9 (by simp); simpa using this)
      have y10 : w2.cell? ⟨wr.heap.size, 10, none⟩ = some (Value.slice au1 x.bucket.weights.length cu1) := (cell_in b2.heap).trans (by have := put2.at_ 10 (by simp); simpa using this)
      have lq2 := lt_in b2.heap
      have HP2 := Lib.hid (pN_next hk2 HP.out hp2)
      have bp2 : w2.heap[p]? = some (.cells curp t) := (k02.block _ lpr hb.ne).trans hbp
      have HBP := Lib.hid bp2
      have lp2 := lt_in bp2
      have hpq : p ≠ wr.heap.size := by omega
      have own2 := L.own.kept k02 (fun k hk e => by have := L.new k hk; omega)
      clear ka hq ra bq hbp pr HP hp2 bp2
      go_wp2
      refine wp_region_ordJ (fun w' => w'.heap[p]? = some (.cells curp t)) [4] [0, 1, 2, 3] [5, 6] [7, 8] (by kernel_rfl) (by kernel_rfl) (fun _ _ d _ _ h => by cases d <;> exact h) (fun k => HBP.out) ?_
      simp only [sel, List.filterMap_cons, List.filterMap_nil, List.getElem?_cons_zero, List.getElem?_cons_succ]
      repeat (quiet_step (fail))
      refine wpQuiet_nil ?_
      refine wpHeld_step (fun K hK => ?_)
      go_simp
      refine ⟨_, fun _ _ => rfl, hK _ ?_⟩
      refine wpHeld_step (fun K hK => ?_)
      go_simp
      refine ⟨_, fun _ _ => rfl, hK _ ?_⟩
      refine wpHeld_step (fun K hK => ?_)
      go_simp
      refine ⟨_, fun _ _ => rfl, hK _ ?_⟩
      refine wpHeld_step (fun K hK => ?_)
      go_simp
      refine ⟨.slice a xs.length cp, fun w' h => (by
        have h1 := (cell_in (k := o) h).trans hvp
        have h2 := lt_in h
        clear h
        go_simp), hK _ ?_⟩
      refine wpHeld_nil ?_
      rintro _ ⟨nr, rfl⟩
      have kd := Kept.drewN (fun _ => False) w2 nr
      have Q3 : Hid ((w2.drewN nr).heap[p]? = some (.cells curp t)) := Lib.hid HBP.out
      generalize w2.drewN nr = w3 at kd Q3 ⊢
      refine wpListS_step (fun K hK => ?_)
      go_simp
      have hA : (w3.alloc (Obj.cells #[Value.int IntKind.i64 x.kind, Value.int IntKind.i64 x.osd, Value.int IntKind.i64 x.value, Value.int IntKind.i64 x.pool.id, Value.int IntKind.i64 x.pool.size, Value.int IntKind.i64 x.pool.min, Value.int IntKind.i64 x.pool.pgs, Value.int IntKind.i64 x.bucket.id, Value.int IntKind.i64 x.bucket.kind, Value.slice au0 x.bucket.items.length cu0, Value.slice au1 x.bucket.weights.length cu1] 161)).heap[p]? = some (.cells curp t) := (Below.heap_alloc _ _ _ (lt_in Q3.out)).trans Q3.out
      refine hK _ _ hA ?_
      clear hK
      have k34 := kd.al (Obj.cells #[Value.int IntKind.i64 x.kind, Value.int IntKind.i64 x.osd, Value.int IntKind.i64 x.value, Value.int IntKind.i64 x.pool.id, Value.int IntKind.i64 x.pool.size, Value.int IntKind.i64 x.pool.min, Value.int IntKind.i64 x.pool.pgs, Value.int IntKind.i64 x.bucket.id, Value.int IntKind.i64 x.bucket.kind, Value.slice au0 x.bucket.items.length cu0, Value.slice au1 x.bucket.weights.length cu1] 161)
      have r4 := reads_allocN w3 [Value.int IntKind.i64 x.kind, Value.int IntKind.i64 x.osd, Value.int IntKind.i64 x.value, Value.int IntKind.i64 x.pool.id, Value.int IntKind.i64 x.pool.size, Value.int IntKind.i64 x.pool.min, Value.int IntKind.i64 x.pool.pgs, Value.int IntKind.i64 x.bucket.id, Value.int IntKind.i64 x.bucket.kind, Value.slice au0 x.bucket.items.length cu0, Value.slice au1 x.bucket.weights.length cu1] 161 11 rfl
      generalize w3.alloc (Obj.cells #[Value.int IntKind.i64 x.kind, Value.int IntKind.i64 x.osd, Value.int IntKind.i64 x.value, Value.int IntKind.i64 x.pool.id, Value.int IntKind.i64 x.pool.size, Value.int IntKind.i64 x.pool.min, Value.int IntKind.i64 x.pool.pgs, Value.int IntKind.i64 x.bucket.id, Value.int IntKind.i64 x.bucket.kind, Value.slice au0 x.bucket.items.length cu0, Value.slice au1 x.bucket.weights.length cu1] 161) = w4 at hA k34 r4 ⊢
      have own4 := own2.kept k34 (fun _ _ h => h)
      refine wpListS_append_Own rfl _ _ 29 29 rfl 161 i0 (Value.agg #[Value.int IntKind.i64 0, Value.int IntKind.i64 0, Value.int IntKind.i64 0, Value.int IntKind.i64 0, Value.int IntKind.i64 0, Value.int IntKind.i64 0, Value.int IntKind.i64 0, Value.int IntKind.i64 0, Value.int IntKind.i64 0, Value.slice none 0 0, Value.slice none 0 0]) 11 120 Tryz.underlying29 hi0 hz0 hz1 hz2 rfl rfl own4 rfl (r4.src Tryz.underlying29 (by intro u hu; simp only [List.mem_cons, List.not_mem_nil, or_false] at hu; rcases hu with rfl | rfl | rfl | rfl | rfl | rfl | rfl | rfl | rfl | rfl | rfl <;> rfl)) (by unfold maxLen; omega) (by omega) ?_
      intro a5 k5 w5 g5 hown5 hk5 hg5
      have hgp : g' ≠ some p := fun e => by have := L.new p e; omega
      have hA5 : w5.heap[p]? = _ := (hk5.block _ (lt_in hA) (fun h => hgp h)).trans hA
      refine ⟨hA5, ?_⟩
      refine wpListS_nil ?_
      have k04 : Kept (· = c) wr w4 := k02.trans (k34.mono (fun _ _ h => h.elim))
      have s4 := k34.size
      have hx4 : ChangeT.Is w4 (New wr w4) _ x := ChangeT.stable _ _ _ _ _ _ hxn (fun k hk => ⟨hk.1, by have := hk.2; omega⟩) (fun k hk => k34.block k hk.2 (fun h => h))
      have LN := Lib.hid (L.grow ChangeT.stable (o := o) hlp hlc k04 hx4 rfl hown5 hk5 hg5)
      have RN := Lib.hid (Lst.rd L (w2 := w2) (o := o) (v4 := .slice a5 (xs.length + 1) k5) hlc hgl (h2.kept k34) hk5)
      have f0 : w5.frozen? ⟨p, o, none⟩ = false := frozen_in hA5
      have z5 := (cell_in (k := o) hA5).trans hvp
      have hl5 := lt_in hA5
      have HX2 : Hid ((xs ++ [x]).length = xs.length + 1) := Lib.hid (by rw [List.length_append]; rfl)
      clear hA5 hA hown5 own4 own2 r4 hk5 hg5 hx4 hxn
      go_wp2
      exact ⟨⟨xs.length + 1, _, xs ++ [x], _, r2, g5, by omega, by simp, HX2.out, HP2, RN.out, LN.out⟩, by simp [intOf]; omega⟩
    · obtain rfl : n = xs.length := by omega
      go_wp2
      obtain ⟨cur', hbl, hpu⟩ := L.blk
      exact bodyPost_end (v := .tuple #[]) (by simp [results, Tryz.results69]) rfl ⟨L.kept, .inr ⟨xs, r, cur', [v], by rw [HP1.out]; exact pN_end HP.out, rfl, hr, hbl, hpu, v, rfl, L.done ChangeT.stable (by omega)⟩⟩
theorem clusterG_c {w : World} {c p o : Nat} {bs : List UInt8} {g : Option Nat} {cur : Array Value} {t : TypeId} (h : Rd w c bs g) (hgl : ∀ k, g = some k → k < w.heap.size) (hb : Blk w p cur t c g) (hz : ∀ f, f < 5 → cur[o + f]? = ([Value.int IntKind.i64 0, Value.slice none 0 0, Value.slice none 0 0, Value.slice none 0 0, Value.int IntKind.i64 0] : List Value)[f]?) :
    Calls Tryz.prog 41 #[.pointer (some ⟨c, 0, none⟩), .pointer (some ⟨p, o, none⟩)] w (Got MapT.Is pMap bs w c p o g cur t) := by
  have hmf : ∀ (fn : Fn) (first cap : Array Value) (w : World), (Instr.makeFunc fn first cap).run Tryz.prog w = .ok (.func fn first cap) w := fun _ _ _ _ => rfl
  have hlp := lt_in hb.heap
  have hlc := h.lt
  go_enter Tryz.func41, Tryz.ntmps41
  have B0 := hb
  have H0 := h
  have P0 := Put.nil cur o
  have K0 := Kept.refl (fun k => k = c ∨ k = p) w
  have z0 := hz
  clear h hb
  go_wp2_with fail
  refine (numI_c H0 B0 (m := 0) (by rw [P0.other (o) (by simp)]; exact hz 0 (by omega))).mono ?_
  rintro _ w1 ⟨k1, ⟨hp, rfl, hwas⟩ | ⟨x0, r1, cur1, cs0, hp0, rfl, H1, B1, q1, hx0⟩⟩
  · exact ⟨rfl, K0.trans k1, .inl ⟨by simp only [pMap, Option.bind_some]; rw [hp]; rfl, rfl, hwas.cast P0.size⟩⟩
  have K1 := K0.trans k1
  have P1 := P0.append q1
  obtain ⟨rfl, j0⟩ := hx0
  have lp1 := lt_in B1.heap
  go_wp2_with fail
  refine (listOsdG_c H1 (fun k hk => by have := hgl k hk; have := K1.size; omega) B1 (by rw [P1.other (o + 1) (by simp)]; exact hz 1 (by omega))).mono ?_
  rintro _ w2 ⟨k2, ⟨hp, rfl, hwas⟩ | ⟨x1, r2, cur2, cs1, hp1, rfl, H2, B2, q2, hx1⟩⟩
  · exact ⟨rfl, K1.trans k2, .inl ⟨by simp only [pMap, hp0, Option.bind_some]; rw [hp]; rfl, rfl, hwas.cast P1.size⟩⟩
  have K2 := K1.trans k2
  have P2 := P1.append q2
  obtain ⟨v1, rfl, l1⟩ := hx1
  have lp2 := lt_in B2.heap
  go_wp2_with fail
  refine (listPoolG_c H2 (fun k hk => by have := hgl k hk; have := K2.size; omega) B2 (by rw [P2.other (o + 2) (by simp)]; exact hz 2 (by omega))).mono ?_
  rintro _ w3 ⟨k3, ⟨hp, rfl, hwas⟩ | ⟨x2, r3, cur3, cs2, hp2, rfl, H3, B3, q3, hx2⟩⟩
  · exact ⟨rfl, K2.trans k3, .inl ⟨by simp only [pMap, hp0, hp1, Option.bind_some]; rw [hp]; rfl, rfl, hwas.cast P2.size⟩⟩
  have K3 := K2.trans k3
  have P3 := P2.append q3
  obtain ⟨v2, rfl, l2⟩ := hx2
  have lp3 := lt_in B3.heap
  go_wp2_with fail
  refine (listBucketG_c H3 (fun k hk => by have := hgl k hk; have := K3.size; omega) B3 (by rw [P3.other (o + 3) (by simp)]; exact hz 3 (by omega))).mono ?_
  rintro _ w4 ⟨k4, ⟨hp, rfl, hwas⟩ | ⟨x3, r4, cur4, cs3, hp3, rfl, H4, B4, q4, hx3⟩⟩
  · exact ⟨rfl, K3.trans k4, .inl ⟨by simp only [pMap, hp0, hp1, hp2, Option.bind_some]; rw [hp]; rfl, rfl, hwas.cast P3.size⟩⟩
  have K4 := K3.trans k4
  have P4 := P3.append q4
  obtain ⟨v3, rfl, l3⟩ := hx3
  go_wp2_with fail
  refine (numI_c H4 B4 (m := 0) (by rw [P4.other (o + 4) (by simp)]; exact hz 4 (by omega))).mono ?_
  rintro _ w5 ⟨k5, ⟨hp, rfl, hwas⟩ | ⟨x4, r5, cur5, cs4, hp4, rfl, H5, B5, q5, hx4⟩⟩
  · exact ⟨rfl, K4.trans k5, .inl ⟨by simp only [pMap, hp0, hp1, hp2, hp3, Option.bind_some]; rw [hp]; rfl, rfl, hwas.cast P4.size⟩⟩
  have K5 := K4.trans k5
  have P5 := P4.append q5
  obtain ⟨rfl, j4⟩ := hx4
  go_wp2
  have T5 := Kept.refl (fun k => k = c ∨ k = p) w5
  have T4 := k5.trans T5
  have T3 := k4.trans T4
  have T2 := k3.trans T3
  have T1 := k2.trans T2
  exact bodyPost_end (v := .tuple #[]) (by simp [results, Tryz.results41]) rfl ⟨K5, .inr ⟨⟨x0, x1, x2, x3, x4⟩, r5, cur5, _, by simp only [pMap, hp0, hp1, hp2, hp3, hp4, Option.bind_some], rfl, H5, B5, P5, ⟨v1, v2, v3, rfl, j0, j4, l1.late OsdT.stable K1.size T2 hlc hlp, l2.late PoolT.stable K2.size T3 hlc hlp, l3.late BucketT.stable K3.size T4 hlc hlp⟩⟩⟩
theorem incG_c {w : World} {c p o : Nat} {bs : List UInt8} {g : Option Nat} {cur : Array Value} {t : TypeId} (h : Rd w c bs g) (hgl : ∀ k, g = some k → k < w.heap.size) (hb : Blk w p cur t c g) (hz : ∀ f, f < 2 → cur[o + f]? = ([Value.int IntKind.i64 0, Value.slice none 0 0] : List Value)[f]?) :
    Calls Tryz.prog 36 #[.pointer (some ⟨c, 0, none⟩), .pointer (some ⟨p, o, none⟩)] w (Got IncT.Is pInc bs w c p o g cur t) := by
  have hmf : ∀ (fn : Fn) (first cap : Array Value) (w : World), (Instr.makeFunc fn first cap).run Tryz.prog w = .ok (.func fn first cap) w := fun _ _ _ _ => rfl
  have hlp := lt_in hb.heap
  have hlc := h.lt
  go_enter Tryz.func36, Tryz.ntmps36
  have B0 := hb
  have H0 := h
  have P0 := Put.nil cur o
  have K0 := Kept.refl (fun k => k = c ∨ k = p) w
  have z0 := hz
  clear h hb
  go_wp2_with fail
  refine (numI_c H0 B0 (m := 0) (by rw [P0.other (o) (by simp)]; exact hz 0 (by omega))).mono ?_
  rintro _ w1 ⟨k1, ⟨hp, rfl, hwas⟩ | ⟨x0, r1, cur1, cs0, hp0, rfl, H1, B1, q1, hx0⟩⟩
  · exact ⟨rfl, K0.trans k1, .inl ⟨by simp only [pInc, Option.bind_some]; rw [hp]; rfl, rfl, hwas.cast P0.size⟩⟩
  have K1 := K0.trans k1
  have P1 := P0.append q1
  obtain ⟨rfl, j0⟩ := hx0
  have lp1 := lt_in B1.heap
  go_wp2_with fail
  refine (listChangeG_c H1 (fun k hk => by have := hgl k hk; have := K1.size; omega) B1 (by rw [P1.other (o + 1) (by simp)]; exact hz 1 (by omega))).mono ?_
  rintro _ w2 ⟨k2, ⟨hp, rfl, hwas⟩ | ⟨x1, r2, cur2, cs1, hp1, rfl, H2, B2, q2, hx1⟩⟩
  · exact ⟨rfl, K1.trans k2, .inl ⟨by simp only [pInc, hp0, Option.bind_some]; rw [hp]; rfl, rfl, hwas.cast P1.size⟩⟩
  have K2 := K1.trans k2
  have P2 := P1.append q2
  obtain ⟨v1, rfl, l1⟩ := hx1
  go_wp2
  have T2 := Kept.refl (fun k => k = c ∨ k = p) w2
  have T1 := k2.trans T2
  exact bodyPost_end (v := .tuple #[]) (by simp [results, Tryz.results36]) rfl ⟨K2, .inr ⟨⟨x0, x1⟩, r2, cur2, _, by simp only [pInc, hp0, hp1, Option.bind_some], rfl, H2, B2, P2, ⟨v1, rfl, j0, l1.late ChangeT.stable K1.size T2 hlc hlp⟩⟩⟩
end Go.Proofs.YtmbjealliinpdaaGreat
end

section

namespace Go.Proofs.YtmbjealliinpdaaGreat
open Go.RowKit
theorem Put.full {cur cur' : Array Value} {cs : List Value} (h : Put cur 0 cs cur') (hs : cur.size = cs.length) : cur' = cs.toArray := by
  apply Array.ext'
  apply List.ext_getElem?
  intro i
  by_cases hi : i < cs.length
  · have := h.at_ i hi
    simpa using this
  · rw [List.getElem?_eq_none (by rw [Array.length_toList, h.size, hs]; omega)]
    simp
    omega
/-- Cells stored one behind the other. -/
def puts (w : World) (p : Nat) : Nat → List Value → World
  | _, [] => w
  | o, v :: r => puts (w.setCell ⟨p, o, none⟩ v) p (o + 1) r
theorem puts_kept (p : Nat) : ∀ (vs : List Value) (w : World) (o : Nat), Kept (· = p) w (puts w p o vs)
  | [], w, o => Kept.refl _ _
  | v :: r, w, o => (Kept.setCell (F := (· = p)) w ⟨p, o, none⟩ v rfl).trans (puts_kept p r _ (o + 1))
theorem puts_heap (p : Nat) (t : TypeId) : ∀ (vs : List Value) (w : World) (pre cur : List Value), w.heap[p]? = some (.cells (pre ++ cur).toArray t) → cur.length = vs.length → (puts w p pre.length vs).heap[p]? = some (.cells (pre ++ vs).toArray t)
  | [], w, pre, cur, h, hl => by
    obtain rfl : cur = [] := List.eq_nil_of_length_eq_zero hl
    exact h
  | v :: r, w, pre, c :: cur, h, hl => by
    have h1 := heap_setCell_same (o := pre.length) h v
    have e : (pre ++ c :: cur).toArray.setIfInBounds pre.length v = ((pre ++ [v]) ++ cur).toArray := by
      simp
    rw [e] at h1
    have h2 := puts_heap p t r _ (pre ++ [v]) cur h1 (by simpa using hl)
    simp only [List.length_append, List.length_singleton, List.append_assoc, List.singleton_append] at h2
    exact h2
/-- What a reader of all the bytes comes to. -/
def Took {α : Type} (R : World → (Nat → Prop) → List Value → α → Prop) (p : Pr α) (zs : List Value) (bs : List UInt8) (w : World) (e : Ending) (w' : World) : Prop :=
  Kept (fun _ => False) w w' ∧ ((∃ x cs, p bs = some (x, []) ∧ e = .returned (.tuple #[.agg cs.toArray, .int .i64 0]) ∧ R w' (New w w') cs x) ∨ ((∀ x, p bs ≠ some (x, [])) ∧ e = .returned (.tuple #[.agg zs.toArray, .int .i64 74])))
/-- The deferred closure, in a frame that panics so. -/
theorem catchMap_bad {w : World} (p q : Nat) {cur : Array Value} {n : Int} (hp : w.heap[p]? = some (.cells cur 67)) (hcs : cur.size = 5) (hq : w.heap[q]? = some (.cells #[.int .i64 n] 39)) :
    CallsD Tryz.prog 103 #[.pointer (some ⟨p, 0, none⟩), .pointer (some ⟨q, 0, none⟩)] (.panicking wrongP) w fun e u' w' =>
      e = .returned (.tuple #[]) ∧ u' = .panicking [{ v := .iface 135 (.agg #[]), recovered := true }] ∧ w'.heap[p]? = some (.cells #[Value.int IntKind.i64 0, Value.slice none 0 0, Value.slice none 0 0, Value.slice none 0 0, Value.int IntKind.i64 0] 67) ∧ w'.heap[q]? = some (.cells #[.int .i64 74] 39) ∧ Kept (fun k => k = p ∨ k = q) w w' := by
  refine callsD_of_wpS Tryz.func103 rfl fun c₀ cs hu => ?_
  have hpq : p ≠ q := fun e => by
    subst e
    rw [hp] at hq
    have := congrArg (fun o => match o with | some (Obj.cells _ t _) => t | _ => 0) hq
    simp at this
  obtain ⟨lc⟩ := cur
  match lc, hcs with
  | [v0, v1, v2, v3, v4], _ =>
  have z0 : w.cell? ⟨p, 0, none⟩ = some v0 := cell_in hp
  have f0 : w.frozen? ⟨p, 0, none⟩ = false := frozen_in hp
  have z1 : w.cell? ⟨p, 1, none⟩ = some v1 := cell_in hp
  have f1 : w.frozen? ⟨p, 1, none⟩ = false := frozen_in hp
  have z2 : w.cell? ⟨p, 2, none⟩ = some v2 := cell_in hp
  have f2 : w.frozen? ⟨p, 2, none⟩ = false := frozen_in hp
  have z3 : w.cell? ⟨p, 3, none⟩ = some v3 := cell_in hp
  have f3 : w.frozen? ⟨p, 3, none⟩ = false := frozen_in hp
  have z4 : w.cell? ⟨p, 4, none⟩ = some v4 := cell_in hp
  have f4 : w.frozen? ⟨p, 4, none⟩ = false := frozen_in hp
  have zq : w.cell? ⟨q, 0, none⟩ = some (.int .i64 n) := cell_in hq
  have fq : w.frozen? ⟨q, 0, none⟩ = false := frozen_in hq
  have lp := lt_in hp
  have lq := lt_in hq
  have HP := Lib.hid hp
  have HQ := Lib.hid hq
  clear hp hq
  apply wpS_seq
  apply wpS_region
  simp [wpOpsS, go_sem, recoverD, hu, wrongP, Tryz.ntmps103, Exit.thenS]
  have hT : (#[Value.pointer (some ⟨p, 0, none⟩), Value.pointer (some ⟨q, 0, none⟩)] ++ ((Array.replicate 16 undef).setIfInBounds 4 (Value.iface 135 (Value.agg #[]))).setIfInBounds 0 (Value.iface 135 (Value.agg #[])) : Array Value) = #[Value.pointer (some ⟨p, 0, none⟩), Value.pointer (some ⟨q, 0, none⟩), (Value.iface 135 (Value.agg #[])), undef, undef, undef, (Value.iface 135 (Value.agg #[])), undef, undef, undef, undef, undef, undef, undef, undef, undef, undef, undef] := rfl
  rw [hT]
  have hta : ∀ w, (Instr.typeAssert (Value.iface 135 (Value.agg #[])) 20 135 true).run Tryz.prog w = .ok (.tuple #[.agg #[], .bool true]) w := fun _ => by kernel_rfl
  refine wpS_of_wp ?_
  go_wp2
  have hW : (((((w.setCell ⟨p, 0, none⟩ (Value.int IntKind.i64 0)).setCell ⟨p, 1, none⟩ (Value.slice none 0 0)).setCell ⟨p, 2, none⟩ (Value.slice none 0 0)).setCell ⟨p, 3, none⟩ (Value.slice none 0 0)).setCell ⟨p, 4, none⟩ (Value.int IntKind.i64 0)) = puts w p 0 [Value.int IntKind.i64 0, Value.slice none 0 0, Value.slice none 0 0, Value.slice none 0 0, Value.int IntKind.i64 0] := rfl
  rw [hW]
  have h1 : (puts w p 0 [Value.int IntKind.i64 0, Value.slice none 0 0, Value.slice none 0 0, Value.slice none 0 0, Value.int IntKind.i64 0]).heap[p]? = some (.cells #[Value.int IntKind.i64 0, Value.slice none 0 0, Value.slice none 0 0, Value.slice none 0 0, Value.int IntKind.i64 0] 67) := puts_heap p _ [Value.int IntKind.i64 0, Value.slice none 0 0, Value.slice none 0 0, Value.slice none 0 0, Value.int IntKind.i64 0] w [] [v0, v1, v2, v3, v4] HP.out rfl
  have k1 := puts_kept p [Value.int IntKind.i64 0, Value.slice none 0 0, Value.slice none 0 0, Value.slice none 0 0, Value.int IntKind.i64 0] w 0
  have h2 := (k1.block q lq (fun h => hpq h.symm)).trans HQ.out
  generalize puts w p 0 [Value.int IntKind.i64 0, Value.slice none 0 0, Value.slice none 0 0, Value.slice none 0 0, Value.int IntKind.i64 0] = w1 at h1 h2 k1 ⊢
  have h3 := heap_setCell_same (o := 0) h2 (.int .i64 74)
  have h4 : (w1.setCell ⟨q, 0, none⟩ (.int .i64 74)).heap[p]? = _ := ((Kept.setCell (F := (· = q)) _ ⟨q, 0, none⟩ (.int .i64 74) rfl).block p (lt_in h1) (fun h => hpq h)).trans h1
  have k4 : Kept (fun k => k = p ∨ k = q) w (w1.setCell ⟨q, 0, none⟩ (.int .i64 74)) := (k1.mono (fun _ _ h => .inl h)).st _ (.inl (.inr rfl))
  generalize w1.setCell ⟨q, 0, none⟩ (.int .i64 74) = w2 at h3 h4 k4 ⊢
  obtain ⟨k5, -, -⟩ := two_new w2 (Obj.cells #[] 135) (Obj.cells #[Value.int IntKind.i64 0, Value.slice none 0 0, Value.slice none 0 0, Value.slice none 0 0, Value.int IntKind.i64 0] 67)
  have y1 := (k5.block p (lt_in h4) (fun h => h)).trans h4
  have y2 := (k5.block q (lt_in h3) (fun h => h)).trans h3
  have yk := k4.trans (k5.mono (fun _ _ h => h.elim))
  generalize (w2.alloc (Obj.cells #[] 135)).alloc (Obj.cells #[Value.int IntKind.i64 0, Value.slice none 0 0, Value.slice none 0 0, Value.slice none 0 0, Value.int IntKind.i64 0] 67) = w3 at y1 y2 yk ⊢
  clear h1 h2 h3 h4 hT hta
  simp only [bodyPostS, results, Tryz.results103]
  simp
  exact ⟨y1, y2, yk⟩
/-- The deferred closure, in a frame that returns. -/
theorem catchMap_ok {w : World} (p q : Nat) :
    CallsD Tryz.prog 103 #[.pointer (some ⟨p, 0, none⟩), .pointer (some ⟨q, 0, none⟩)] .returning w fun e u' w' => e = .returned (.tuple #[]) ∧ u' = .returning ∧ w = w' := by
  refine callsD_of_wpS Tryz.func103 rfl fun c₀ cs hu => ?_
  apply wpS_seq
  apply wpS_region
  simp [wpOpsS, go_sem, recoverD, hu, Tryz.ntmps103, Exit.thenS]
  have hT : (#[Value.pointer (some ⟨p, 0, none⟩), Value.pointer (some ⟨q, 0, none⟩)] ++ ((Array.replicate 16 undef).setIfInBounds 4 Value.nilIface).setIfInBounds 0 Value.nilIface : Array Value) = #[Value.pointer (some ⟨p, 0, none⟩), Value.pointer (some ⟨q, 0, none⟩), Value.nilIface, undef, undef, undef, Value.nilIface, undef, undef, undef, undef, undef, undef, undef, undef, undef, undef, undef] := rfl
  rw [hT]
  refine wpS_of_wp ?_
  go_wp2
  simp only [bodyPostS, results, Tryz.results103]
  simp [hu]
  rw [← hu]
theorem readMap_c {w : World} {v : Value} {bs : List UInt8} {g : Option Nat} (hr : Reads w 1 v bs.length (bs.map bv) g) (hgl : ∀ k, g = some k → k < w.heap.size) (hm : bs.length ≤ 140737488351232) :
    Calls Tryz.prog 40 #[v, .func (.func 41) #[] #[]] w (Took MapT.Is pMap [Value.int IntKind.i64 0, Value.slice none 0 0, Value.slice none 0 0, Value.slice none 0 0, Value.int IntKind.i64 0] bs w) := by
  obtain ⟨a, cp, rfl, hc⟩ := hr.shape
  have hmf : ∀ (fn : Fn) (first cap : Array Value) (w : World), (Instr.makeFunc fn first cap).run Tryz.prog w = .ok (.func fn first cap) w := fun _ _ _ _ => rfl
  go_enter_defers Tryz.func40, Tryz.ntmps40
  go_wp2_with fail
  obtain ⟨K0, x1, x2⟩ := two_new w (Obj.cells #[Value.int IntKind.i64 0, Value.slice none 0 0, Value.slice none 0 0, Value.slice none 0 0, Value.int IntKind.i64 0] 67) (Obj.cells #[Value.int IntKind.i64 0] 39)
  have hs0 : ((w.alloc (Obj.cells #[Value.int IntKind.i64 0, Value.slice none 0 0, Value.slice none 0 0, Value.slice none 0 0, Value.int IntKind.i64 0] 67)).alloc (Obj.cells #[Value.int IntKind.i64 0] 39)).heap.size = w.heap.size + 1 + 1 := by simp
  generalize (w.alloc (Obj.cells #[Value.int IntKind.i64 0, Value.slice none 0 0, Value.slice none 0 0, Value.slice none 0 0, Value.int IntKind.i64 0] 67)).alloc (Obj.cells #[Value.int IntKind.i64 0] 39) = wz at K0 x1 x2 hs0 ⊢
  have x3 : (wz.alloc (Obj.cells #[Value.slice none 0 0, Value.slice a bs.length cp, Value.bool true] 138)).heap[wz.heap.size]? = some (Obj.cells #[Value.slice none 0 0, Value.slice a bs.length cp, Value.bool true] 138) := heap_alloc_new' _ _
  rw [hs0] at x3
  have y1 : (wz.alloc (Obj.cells #[Value.slice none 0 0, Value.slice a bs.length cp, Value.bool true] 138)).heap[w.heap.size]? = _ := (Below.heap_alloc _ _ _ (lt_in x1)).trans x1
  have y2 : (wz.alloc (Obj.cells #[Value.slice none 0 0, Value.slice a bs.length cp, Value.bool true] 138)).heap[w.heap.size + 1]? = _ := (Below.heap_alloc _ _ _ (lt_in x2)).trans x2
  have K1 := K0.al (Obj.cells #[Value.slice none 0 0, Value.slice a bs.length cp, Value.bool true] 138)
  generalize wz.alloc (Obj.cells #[Value.slice none 0 0, Value.slice a bs.length cp, Value.bool true] 138) = w0 at x3 y1 y2 K1 ⊢
  clear x1 x2 hs0
  have r0 := hr.kept K1 (fun _ _ h => h)
  have sK := K1.size
  have RD : Rd w0 (w.heap.size + 1 + 1) bs g := ⟨⟨_, x3, r0⟩, fun k hk => by have := hgl k hk; omega, hm⟩
  have BK : Blk w0 w.heap.size #[Value.int IntKind.i64 0, Value.slice none 0 0, Value.slice none 0 0, Value.slice none 0 0, Value.int IntKind.i64 0] 67 (w.heap.size + 1 + 1) g := ⟨y1, by omega, fun e => by have := hgl _ e; omega⟩
  refine (clusterG_c RD (fun k hk => by have := hgl k hk; omega) BK (o := 0) (by intro f hf; simp)).mono ?_
  rintro e w1 ⟨k1, ⟨hp, rfl, hwas⟩ | ⟨x, r1, cur1, cs, hp, rfl, H1, B1, P1, hx⟩⟩
  · obtain ⟨cur1, z1, hcs⟩ := hwas
    have z2 : w1.heap[w.heap.size + 1]? = _ := (k1.block _ (lt_in y2) (fun h => by omega)).trans y2
    have K2 := K1.thn k1 (fun i hi => .inr (by omega))
    clear x3 y1 y2 r0 RD BK
    refine leaves_cons (f := 103) (args := #[.pointer (some ⟨w.heap.size, 0, none⟩), .pointer (some ⟨w.heap.size + 1, 0, none⟩)]) (by simp) (by simp [go_sem]) ?_
    refine (catchMap_bad w.heap.size (w.heap.size + 1) z1 hcs z2).mono ?_
    rintro e u' w2 ⟨rfl, rfl, q1, q2, k2⟩
    have c0 : w2.cell? ⟨w.heap.size, 0, none⟩ = some (Value.int IntKind.i64 0) := cell_in q1
    have c1 : w2.cell? ⟨w.heap.size, 1, none⟩ = some (Value.slice none 0 0) := cell_in q1
    have c2 : w2.cell? ⟨w.heap.size, 2, none⟩ = some (Value.slice none 0 0) := cell_in q1
    have c3 : w2.cell? ⟨w.heap.size, 3, none⟩ = some (Value.slice none 0 0) := cell_in q1
    have c4 : w2.cell? ⟨w.heap.size, 4, none⟩ = some (Value.int IntKind.i64 0) := cell_in q1
    have cE : w2.cell? ⟨w.heap.size + 1, 0, none⟩ = some (.int .i64 74) := cell_in q2
    have K3 : Kept (fun _ => False) w w2 := K2.thn k2 (fun i hi => .inr (by omega))
    clear q1 q2
    simp [Leaves, settle, results, Tryz.results40, go_sem, c0, c1, c2, c3, c4, cE]
    exact ⟨K3, .inr ⟨fun x h => (by rw [hp] at h; cases h), rfl⟩⟩
  have hx0 := hx
  obtain ⟨u0, u1, u2, rfl, -, -, l0, l1, l2⟩ := hx
  obtain ⟨au0, cu0, rfl, -⟩ := l0.shape
  obtain ⟨au1, cu1, rfl, -⟩ := l1.shape
  obtain ⟨au2, cu2, rfl, -⟩ := l2.shape
  obtain rfl : cur1 = #[Value.int IntKind.i64 x.epoch, Value.slice au0 x.osds.length cu0, Value.slice au1 x.pools.length cu1, Value.slice au2 x.buckets.length cu2, Value.int IntKind.i64 x.leaf] := P1.full rfl
  obtain ⟨vi, h2, h3⟩ := H1.ex
  obtain ⟨ai, ci, rfl, -⟩ := h3.shape
  have z2 : w1.heap[w.heap.size + 1]? = _ := (k1.block _ (lt_in y2) (fun h => by omega)).trans y2
  have K2 := K1.thn k1 (fun i hi => .inr (by omega))
  have s1 := k1.size
  have d1 : w1.cell? ⟨w.heap.size + 1 + 1, 1, none⟩ = some (.slice ai r1.length ci) := cell_in h2
  have l1 := lt_in h2
  have z1 := B1.heap
  have xn : MapT.Is w1 (New w w1) _ x := MapT.stable _ _ _ _ _ _ hx0 (fun k hk => ⟨by have := hk.1; omega, hk.2⟩) (fun _ _ => rfl)
  have HX := Lib.hid xn
  have HP := Lib.hid hp
  clear x3 y1 y2 r0 RD BK hx0 xn h2 h3 H1 hp P1
  by_cases hr1 : r1 = []
  · subst hr1
    have c0 : w1.cell? ⟨w.heap.size, 0, none⟩ = some (Value.int IntKind.i64 x.epoch) := cell_in z1
    have g0 : w1.frozen? ⟨w.heap.size, 0, none⟩ = false := frozen_in z1
    have e0 := setCell_same' c0
    have c1 : w1.cell? ⟨w.heap.size, 1, none⟩ = some (Value.slice au0 x.osds.length cu0) := cell_in z1
    have g1 : w1.frozen? ⟨w.heap.size, 1, none⟩ = false := frozen_in z1
    have e1 := setCell_same' c1
    have c2 : w1.cell? ⟨w.heap.size, 2, none⟩ = some (Value.slice au1 x.pools.length cu1) := cell_in z1
    have g2 : w1.frozen? ⟨w.heap.size, 2, none⟩ = false := frozen_in z1
    have e2 := setCell_same' c2
    have c3 : w1.cell? ⟨w.heap.size, 3, none⟩ = some (Value.slice au2 x.buckets.length cu2) := cell_in z1
    have g3 : w1.frozen? ⟨w.heap.size, 3, none⟩ = false := frozen_in z1
    have e3 := setCell_same' c3
    have c4 : w1.cell? ⟨w.heap.size, 4, none⟩ = some (Value.int IntKind.i64 x.leaf) := cell_in z1
    have g4 : w1.frozen? ⟨w.heap.size, 4, none⟩ = false := frozen_in z1
    have e4 := setCell_same' c4
    have cE : w1.cell? ⟨w.heap.size + 1, 0, none⟩ = some (.int .i64 0) := cell_in z2
    have gE : w1.frozen? ⟨w.heap.size + 1, 0, none⟩ = false := frozen_in z2
    have eE := setCell_same' cE
    have lz1 := lt_in z1
    have lz2 := lt_in z2
    simp only [List.length_nil] at d1
    clear z1 z2 B1
    go_wp2
    refine leaves_cons (f := 103) (args := #[.pointer (some ⟨w.heap.size, 0, none⟩), .pointer (some ⟨w.heap.size + 1, 0, none⟩)]) (by simp) (by simp [go_sem]) ?_
    refine (catchMap_ok w.heap.size (w.heap.size + 1)).mono ?_
    rintro e u' w2 ⟨rfl, rfl, rfl⟩
    simp [Leaves, settle, results, Tryz.results40, go_sem, c0, c1, c2, c3, c4, cE]
    exact ⟨K2, .inl ⟨x, _, HP.out, rfl, HX.out⟩⟩
  · have hpos : (0 : Int) < (r1.length : Int) := by
      have := List.length_pos_iff.2 hr1
      omega
    go_wp2
    refine leaves_cons (f := 103) (args := #[.pointer (some ⟨w.heap.size, 0, none⟩), .pointer (some ⟨w.heap.size + 1, 0, none⟩)]) (by simp) (by simp [go_sem]) ?_
    refine (catchMap_bad w.heap.size (w.heap.size + 1) z1 rfl z2).mono ?_
    rintro e u' w2 ⟨rfl, rfl, q1, q2, k2⟩
    have c0 : w2.cell? ⟨w.heap.size, 0, none⟩ = some (Value.int IntKind.i64 0) := cell_in q1
    have c1 : w2.cell? ⟨w.heap.size, 1, none⟩ = some (Value.slice none 0 0) := cell_in q1
    have c2 : w2.cell? ⟨w.heap.size, 2, none⟩ = some (Value.slice none 0 0) := cell_in q1
    have c3 : w2.cell? ⟨w.heap.size, 3, none⟩ = some (Value.slice none 0 0) := cell_in q1
    have c4 : w2.cell? ⟨w.heap.size, 4, none⟩ = some (Value.int IntKind.i64 0) := cell_in q1
    have cE : w2.cell? ⟨w.heap.size + 1, 0, none⟩ = some (.int .i64 74) := cell_in q2
    have K3 : Kept (fun _ => False) w w2 := K2.thn k2 (fun i hi => .inr (by omega))
    clear q1 q2
    simp [Leaves, settle, results, Tryz.results40, go_sem, c0, c1, c2, c3, c4, cE]
    exact ⟨K3, .inr ⟨fun x h => hr1 (by rw [HP.out] at h; simp at h; exact h.2), rfl⟩⟩
theorem decMap_c {w : World} {v : Value} {bs : List UInt8} {g : Option Nat} (hr : Reads w 1 v bs.length (bs.map bv) g) (hgl : ∀ k, g = some k → k < w.heap.size) (hm : bs.length ≤ 140737488351232) :
    Calls Tryz.prog 14 #[v] w (Took MapT.Is pMap [Value.int IntKind.i64 0, Value.slice none 0 0, Value.slice none 0 0, Value.slice none 0 0, Value.int IntKind.i64 0] bs w) := by
  have ka := Kept.alloc (fun _ => False) w (Obj.cells #[Value.int IntKind.i64 0, Value.slice none 0 0, Value.slice none 0 0, Value.slice none 0 0, Value.int IntKind.i64 0] 67)
  have hq : (w.alloc (Obj.cells #[Value.int IntKind.i64 0, Value.slice none 0 0, Value.slice none 0 0, Value.slice none 0 0, Value.int IntKind.i64 0] 67)).heap[w.heap.size]? = some (Obj.cells #[Value.int IntKind.i64 0, Value.slice none 0 0, Value.slice none 0 0, Value.slice none 0 0, Value.int IntKind.i64 0] 67) := heap_alloc_new' _ _
  have sz : (w.alloc (Obj.cells #[Value.int IntKind.i64 0, Value.slice none 0 0, Value.slice none 0 0, Value.slice none 0 0, Value.int IntKind.i64 0] 67)).heap.size = w.heap.size + 1 := by simp
  obtain ⟨a, cp, rfl, hc⟩ := hr.shape
  go_enter Tryz.func14, Tryz.ntmps14
  go_wp2_with fail
  generalize w.alloc (Obj.cells #[Value.int IntKind.i64 0, Value.slice none 0 0, Value.slice none 0 0, Value.slice none 0 0, Value.int IntKind.i64 0] 67) = w0 at ka hq sz ⊢
  refine (readMap_c (hr.kept ka (fun _ _ h => h)) (fun k hk => by have := hgl k hk; omega) hm).mono ?_
  rintro e w1 ⟨k1, ⟨x, cs, hp, rfl, hx⟩ | ⟨hp, rfl⟩⟩
  · have hx0 := hx
    obtain ⟨u0, u1, u2, rfl, -, -, l0, l1, l2⟩ := hx
    obtain ⟨au0, cu0, rfl, -⟩ := l0.shape
    obtain ⟨au1, cu1, rfl, -⟩ := l1.shape
    obtain ⟨au2, cu2, rfl, -⟩ := l2.shape
    have z1 := (k1.block _ (lt_in hq) (fun h => h)).trans hq
    have HX := Lib.hid hx0
    have HP := Lib.hid hp
    clear hx0 hp
    have c0 : w1.cell? ⟨w.heap.size, 0, none⟩ = some (Value.int IntKind.i64 0) := cell_in z1
    have g0 : w1.frozen? ⟨w.heap.size, 0, none⟩ = false := frozen_in z1
    have c1 : w1.cell? ⟨w.heap.size, 1, none⟩ = some (Value.slice none 0 0) := cell_in z1
    have g1 : w1.frozen? ⟨w.heap.size, 1, none⟩ = false := frozen_in z1
    have c2 : w1.cell? ⟨w.heap.size, 2, none⟩ = some (Value.slice none 0 0) := cell_in z1
    have g2 : w1.frozen? ⟨w.heap.size, 2, none⟩ = false := frozen_in z1
    have c3 : w1.cell? ⟨w.heap.size, 3, none⟩ = some (Value.slice none 0 0) := cell_in z1
    have g3 : w1.frozen? ⟨w.heap.size, 3, none⟩ = false := frozen_in z1
    have c4 : w1.cell? ⟨w.heap.size, 4, none⟩ = some (Value.int IntKind.i64 0) := cell_in z1
    have g4 : w1.frozen? ⟨w.heap.size, 4, none⟩ = false := frozen_in z1
    have lz := lt_in z1
    have HZ := Lib.hid z1
    clear z1 hq
    go_wp2
    have hW : (((((w1.setCell ⟨w.heap.size, 0, none⟩ (Value.int IntKind.i64 x.epoch)).setCell ⟨w.heap.size, 1, none⟩ (Value.slice au0 x.osds.length cu0)).setCell ⟨w.heap.size, 2, none⟩ (Value.slice au1 x.pools.length cu1)).setCell ⟨w.heap.size, 3, none⟩ (Value.slice au2 x.buckets.length cu2)).setCell ⟨w.heap.size, 4, none⟩ (Value.int IntKind.i64 x.leaf)) = puts w1 w.heap.size 0 [Value.int IntKind.i64 x.epoch, Value.slice au0 x.osds.length cu0, Value.slice au1 x.pools.length cu1, Value.slice au2 x.buckets.length cu2, Value.int IntKind.i64 x.leaf] := rfl
    rw [hW]
    have h1 : (puts w1 w.heap.size 0 [Value.int IntKind.i64 x.epoch, Value.slice au0 x.osds.length cu0, Value.slice au1 x.pools.length cu1, Value.slice au2 x.buckets.length cu2, Value.int IntKind.i64 x.leaf]).heap[w.heap.size]? = some (.cells #[Value.int IntKind.i64 x.epoch, Value.slice au0 x.osds.length cu0, Value.slice au1 x.pools.length cu1, Value.slice au2 x.buckets.length cu2, Value.int IntKind.i64 x.leaf] 67) := puts_heap _ _ [Value.int IntKind.i64 x.epoch, Value.slice au0 x.osds.length cu0, Value.slice au1 x.pools.length cu1, Value.slice au2 x.buckets.length cu2, Value.int IntKind.i64 x.leaf] w1 [] [Value.int IntKind.i64 0, Value.slice none 0 0, Value.slice none 0 0, Value.slice none 0 0, Value.int IntKind.i64 0] HZ.out rfl
    have k2 := puts_kept w.heap.size [Value.int IntKind.i64 x.epoch, Value.slice au0 x.osds.length cu0, Value.slice au1 x.pools.length cu1, Value.slice au2 x.buckets.length cu2, Value.int IntKind.i64 x.leaf] w1 0
    generalize puts w1 w.heap.size 0 [Value.int IntKind.i64 x.epoch, Value.slice au0 x.osds.length cu0, Value.slice au1 x.pools.length cu1, Value.slice au2 x.buckets.length cu2, Value.int IntKind.i64 x.leaf] = w2 at h1 k2 ⊢
    have K3 : Kept (fun _ => False) w w2 := (ka.trans k1).thn k2 (fun i hi => .inr (by omega))
    have y0 : w2.cell? ⟨w.heap.size, 0, none⟩ = some (Value.int IntKind.i64 x.epoch) := cell_in h1
    have y1 : w2.cell? ⟨w.heap.size, 1, none⟩ = some (Value.slice au0 x.osds.length cu0) := cell_in h1
    have y2 : w2.cell? ⟨w.heap.size, 2, none⟩ = some (Value.slice au1 x.pools.length cu1) := cell_in h1
    have y3 : w2.cell? ⟨w.heap.size, 3, none⟩ = some (Value.slice au2 x.buckets.length cu2) := cell_in h1
    have y4 : w2.cell? ⟨w.heap.size, 4, none⟩ = some (Value.int IntKind.i64 x.leaf) := cell_in h1
    refine bodyPost_ret (v := .tuple #[.agg #[Value.int IntKind.i64 x.epoch, Value.slice au0 x.osds.length cu0, Value.slice au1 x.pools.length cu1, Value.slice au2 x.buckets.length cu2, Value.int IntKind.i64 x.leaf], .int .i64 0]) (by simp [results, Tryz.results14, go_sem, y0, y1, y2, y3, y4]) rfl ?_
    have s2 := k2.size
    exact ⟨K3, .inl ⟨x, _, HP.out, rfl, MapT.stable _ _ _ _ _ _ HX.out (fun k hk => ⟨by have := hk.1; omega, by have := hk.2; omega⟩) (fun k hk => k2.block k hk.2 (fun e => by have := hk.1; omega))⟩⟩
  · have z1 := (k1.block _ (lt_in hq) (fun h => h)).trans hq
    have HP := Lib.hid hp
    clear hp
    have c0 : w1.cell? ⟨w.heap.size, 0, none⟩ = some (Value.int IntKind.i64 0) := cell_in z1
    have g0 : w1.frozen? ⟨w.heap.size, 0, none⟩ = false := frozen_in z1
    have c1 : w1.cell? ⟨w.heap.size, 1, none⟩ = some (Value.slice none 0 0) := cell_in z1
    have g1 : w1.frozen? ⟨w.heap.size, 1, none⟩ = false := frozen_in z1
    have c2 : w1.cell? ⟨w.heap.size, 2, none⟩ = some (Value.slice none 0 0) := cell_in z1
    have g2 : w1.frozen? ⟨w.heap.size, 2, none⟩ = false := frozen_in z1
    have c3 : w1.cell? ⟨w.heap.size, 3, none⟩ = some (Value.slice none 0 0) := cell_in z1
    have g3 : w1.frozen? ⟨w.heap.size, 3, none⟩ = false := frozen_in z1
    have c4 : w1.cell? ⟨w.heap.size, 4, none⟩ = some (Value.int IntKind.i64 0) := cell_in z1
    have g4 : w1.frozen? ⟨w.heap.size, 4, none⟩ = false := frozen_in z1
    have lz := lt_in z1
    have HZ := Lib.hid z1
    clear z1 hq
    go_wp2
    have hW : (((((w1.setCell ⟨w.heap.size, 0, none⟩ (Value.int IntKind.i64 0)).setCell ⟨w.heap.size, 1, none⟩ (Value.slice none 0 0)).setCell ⟨w.heap.size, 2, none⟩ (Value.slice none 0 0)).setCell ⟨w.heap.size, 3, none⟩ (Value.slice none 0 0)).setCell ⟨w.heap.size, 4, none⟩ (Value.int IntKind.i64 0)) = puts w1 w.heap.size 0 [Value.int IntKind.i64 0, Value.slice none 0 0, Value.slice none 0 0, Value.slice none 0 0, Value.int IntKind.i64 0] := rfl
    rw [hW]
    have h1 : (puts w1 w.heap.size 0 [Value.int IntKind.i64 0, Value.slice none 0 0, Value.slice none 0 0, Value.slice none 0 0, Value.int IntKind.i64 0]).heap[w.heap.size]? = some (.cells #[Value.int IntKind.i64 0, Value.slice none 0 0, Value.slice none 0 0, Value.slice none 0 0, Value.int IntKind.i64 0] 67) := puts_heap _ _ [Value.int IntKind.i64 0, Value.slice none 0 0, Value.slice none 0 0, Value.slice none 0 0, Value.int IntKind.i64 0] w1 [] [Value.int IntKind.i64 0, Value.slice none 0 0, Value.slice none 0 0, Value.slice none 0 0, Value.int IntKind.i64 0] HZ.out rfl
    have k2 := puts_kept w.heap.size [Value.int IntKind.i64 0, Value.slice none 0 0, Value.slice none 0 0, Value.slice none 0 0, Value.int IntKind.i64 0] w1 0
    generalize puts w1 w.heap.size 0 [Value.int IntKind.i64 0, Value.slice none 0 0, Value.slice none 0 0, Value.slice none 0 0, Value.int IntKind.i64 0] = w2 at h1 k2 ⊢
    have K3 : Kept (fun _ => False) w w2 := (ka.trans k1).thn k2 (fun i hi => .inr (by omega))
    have y0 : w2.cell? ⟨w.heap.size, 0, none⟩ = some (Value.int IntKind.i64 0) := cell_in h1
    have y1 : w2.cell? ⟨w.heap.size, 1, none⟩ = some (Value.slice none 0 0) := cell_in h1
    have y2 : w2.cell? ⟨w.heap.size, 2, none⟩ = some (Value.slice none 0 0) := cell_in h1
    have y3 : w2.cell? ⟨w.heap.size, 3, none⟩ = some (Value.slice none 0 0) := cell_in h1
    have y4 : w2.cell? ⟨w.heap.size, 4, none⟩ = some (Value.int IntKind.i64 0) := cell_in h1
    refine bodyPost_ret (v := .tuple #[.agg #[Value.int IntKind.i64 0, Value.slice none 0 0, Value.slice none 0 0, Value.slice none 0 0, Value.int IntKind.i64 0], .int .i64 74]) (by simp [results, Tryz.results14, go_sem, y0, y1, y2, y3, y4]) rfl ?_
    exact ⟨K3, .inr ⟨HP.out, rfl⟩⟩
/-- The deferred closure, in a frame that panics so. -/
theorem catchInc_bad {w : World} (p q : Nat) {cur : Array Value} {n : Int} (hp : w.heap[p]? = some (.cells cur 57)) (hcs : cur.size = 2) (hq : w.heap[q]? = some (.cells #[.int .i64 n] 39)) :
    CallsD Tryz.prog 102 #[.pointer (some ⟨p, 0, none⟩), .pointer (some ⟨q, 0, none⟩)] (.panicking wrongP) w fun e u' w' =>
      e = .returned (.tuple #[]) ∧ u' = .panicking [{ v := .iface 135 (.agg #[]), recovered := true }] ∧ w'.heap[p]? = some (.cells #[Value.int IntKind.i64 0, Value.slice none 0 0] 57) ∧ w'.heap[q]? = some (.cells #[.int .i64 74] 39) ∧ Kept (fun k => k = p ∨ k = q) w w' := by
  refine callsD_of_wpS Tryz.func102 rfl fun c₀ cs hu => ?_
  have hpq : p ≠ q := fun e => by
    subst e
    rw [hp] at hq
    have := congrArg (fun o => match o with | some (Obj.cells _ t _) => t | _ => 0) hq
    simp at this
  obtain ⟨lc⟩ := cur
  match lc, hcs with
  | [v0, v1], _ =>
  have z0 : w.cell? ⟨p, 0, none⟩ = some v0 := cell_in hp
  have f0 : w.frozen? ⟨p, 0, none⟩ = false := frozen_in hp
  have z1 : w.cell? ⟨p, 1, none⟩ = some v1 := cell_in hp
  have f1 : w.frozen? ⟨p, 1, none⟩ = false := frozen_in hp
  have zq : w.cell? ⟨q, 0, none⟩ = some (.int .i64 n) := cell_in hq
  have fq : w.frozen? ⟨q, 0, none⟩ = false := frozen_in hq
  have lp := lt_in hp
  have lq := lt_in hq
  have HP := Lib.hid hp
  have HQ := Lib.hid hq
  clear hp hq
  apply wpS_seq
  apply wpS_region
  simp [wpOpsS, go_sem, recoverD, hu, wrongP, Tryz.ntmps102, Exit.thenS]
  have hT : (#[Value.pointer (some ⟨p, 0, none⟩), Value.pointer (some ⟨q, 0, none⟩)] ++ ((Array.replicate 16 undef).setIfInBounds 4 (Value.iface 135 (Value.agg #[]))).setIfInBounds 0 (Value.iface 135 (Value.agg #[])) : Array Value) = #[Value.pointer (some ⟨p, 0, none⟩), Value.pointer (some ⟨q, 0, none⟩), (Value.iface 135 (Value.agg #[])), undef, undef, undef, (Value.iface 135 (Value.agg #[])), undef, undef, undef, undef, undef, undef, undef, undef, undef, undef, undef] := rfl
  rw [hT]
  have hta : ∀ w, (Instr.typeAssert (Value.iface 135 (Value.agg #[])) 20 135 true).run Tryz.prog w = .ok (.tuple #[.agg #[], .bool true]) w := fun _ => by kernel_rfl
  refine wpS_of_wp ?_
  go_wp2
  have hW : ((w.setCell ⟨p, 0, none⟩ (Value.int IntKind.i64 0)).setCell ⟨p, 1, none⟩ (Value.slice none 0 0)) = puts w p 0 [Value.int IntKind.i64 0, Value.slice none 0 0] := rfl
  rw [hW]
  have h1 : (puts w p 0 [Value.int IntKind.i64 0, Value.slice none 0 0]).heap[p]? = some (.cells #[Value.int IntKind.i64 0, Value.slice none 0 0] 57) := puts_heap p _ [Value.int IntKind.i64 0, Value.slice none 0 0] w [] [v0, v1] HP.out rfl
  have k1 := puts_kept p [Value.int IntKind.i64 0, Value.slice none 0 0] w 0
  have h2 := (k1.block q lq (fun h => hpq h.symm)).trans HQ.out
  generalize puts w p 0 [Value.int IntKind.i64 0, Value.slice none 0 0] = w1 at h1 h2 k1 ⊢
  have h3 := heap_setCell_same (o := 0) h2 (.int .i64 74)
  have h4 : (w1.setCell ⟨q, 0, none⟩ (.int .i64 74)).heap[p]? = _ := ((Kept.setCell (F := (· = q)) _ ⟨q, 0, none⟩ (.int .i64 74) rfl).block p (lt_in h1) (fun h => hpq h)).trans h1
  have k4 : Kept (fun k => k = p ∨ k = q) w (w1.setCell ⟨q, 0, none⟩ (.int .i64 74)) := (k1.mono (fun _ _ h => .inl h)).st _ (.inl (.inr rfl))
  generalize w1.setCell ⟨q, 0, none⟩ (.int .i64 74) = w2 at h3 h4 k4 ⊢
  obtain ⟨k5, -, -⟩ := two_new w2 (Obj.cells #[] 135) (Obj.cells #[Value.int IntKind.i64 0, Value.slice none 0 0] 57)
  have y1 := (k5.block p (lt_in h4) (fun h => h)).trans h4
  have y2 := (k5.block q (lt_in h3) (fun h => h)).trans h3
  have yk := k4.trans (k5.mono (fun _ _ h => h.elim))
  generalize (w2.alloc (Obj.cells #[] 135)).alloc (Obj.cells #[Value.int IntKind.i64 0, Value.slice none 0 0] 57) = w3 at y1 y2 yk ⊢
  clear h1 h2 h3 h4 hT hta
  simp only [bodyPostS, results, Tryz.results102]
  simp
  exact ⟨y1, y2, yk⟩
/-- The deferred closure, in a frame that returns. -/
theorem catchInc_ok {w : World} (p q : Nat) :
    CallsD Tryz.prog 102 #[.pointer (some ⟨p, 0, none⟩), .pointer (some ⟨q, 0, none⟩)] .returning w fun e u' w' => e = .returned (.tuple #[]) ∧ u' = .returning ∧ w = w' := by
  refine callsD_of_wpS Tryz.func102 rfl fun c₀ cs hu => ?_
  apply wpS_seq
  apply wpS_region
  simp [wpOpsS, go_sem, recoverD, hu, Tryz.ntmps102, Exit.thenS]
  have hT : (#[Value.pointer (some ⟨p, 0, none⟩), Value.pointer (some ⟨q, 0, none⟩)] ++ ((Array.replicate 16 undef).setIfInBounds 4 Value.nilIface).setIfInBounds 0 Value.nilIface : Array Value) = #[Value.pointer (some ⟨p, 0, none⟩), Value.pointer (some ⟨q, 0, none⟩), Value.nilIface, undef, undef, undef, Value.nilIface, undef, undef, undef, undef, undef, undef, undef, undef, undef, undef, undef] := rfl
  rw [hT]
  refine wpS_of_wp ?_
  go_wp2
  simp only [bodyPostS, results, Tryz.results102]
  simp [hu]
  rw [← hu]
theorem readInc_c {w : World} {v : Value} {bs : List UInt8} {g : Option Nat} (hr : Reads w 1 v bs.length (bs.map bv) g) (hgl : ∀ k, g = some k → k < w.heap.size) (hm : bs.length ≤ 140737488351232) :
    Calls Tryz.prog 35 #[v, .func (.func 36) #[] #[]] w (Took IncT.Is pInc [Value.int IntKind.i64 0, Value.slice none 0 0] bs w) := by
  obtain ⟨a, cp, rfl, hc⟩ := hr.shape
  have hmf : ∀ (fn : Fn) (first cap : Array Value) (w : World), (Instr.makeFunc fn first cap).run Tryz.prog w = .ok (.func fn first cap) w := fun _ _ _ _ => rfl
  go_enter_defers Tryz.func35, Tryz.ntmps35
  go_wp2_with fail
  obtain ⟨K0, x1, x2⟩ := two_new w (Obj.cells #[Value.int IntKind.i64 0, Value.slice none 0 0] 57) (Obj.cells #[Value.int IntKind.i64 0] 39)
  have hs0 : ((w.alloc (Obj.cells #[Value.int IntKind.i64 0, Value.slice none 0 0] 57)).alloc (Obj.cells #[Value.int IntKind.i64 0] 39)).heap.size = w.heap.size + 1 + 1 := by simp
  generalize (w.alloc (Obj.cells #[Value.int IntKind.i64 0, Value.slice none 0 0] 57)).alloc (Obj.cells #[Value.int IntKind.i64 0] 39) = wz at K0 x1 x2 hs0 ⊢
  have x3 : (wz.alloc (Obj.cells #[Value.slice none 0 0, Value.slice a bs.length cp, Value.bool true] 138)).heap[wz.heap.size]? = some (Obj.cells #[Value.slice none 0 0, Value.slice a bs.length cp, Value.bool true] 138) := heap_alloc_new' _ _
  rw [hs0] at x3
  have y1 : (wz.alloc (Obj.cells #[Value.slice none 0 0, Value.slice a bs.length cp, Value.bool true] 138)).heap[w.heap.size]? = _ := (Below.heap_alloc _ _ _ (lt_in x1)).trans x1
  have y2 : (wz.alloc (Obj.cells #[Value.slice none 0 0, Value.slice a bs.length cp, Value.bool true] 138)).heap[w.heap.size + 1]? = _ := (Below.heap_alloc _ _ _ (lt_in x2)).trans x2
  have K1 := K0.al (Obj.cells #[Value.slice none 0 0, Value.slice a bs.length cp, Value.bool true] 138)
  generalize wz.alloc (Obj.cells #[Value.slice none 0 0, Value.slice a bs.length cp, Value.bool true] 138) = w0 at x3 y1 y2 K1 ⊢
  clear x1 x2 hs0
  have r0 := hr.kept K1 (fun _ _ h => h)
  have sK := K1.size
  have RD : Rd w0 (w.heap.size + 1 + 1) bs g := ⟨⟨_, x3, r0⟩, fun k hk => by have := hgl k hk; omega, hm⟩
  have BK : Blk w0 w.heap.size #[Value.int IntKind.i64 0, Value.slice none 0 0] 57 (w.heap.size + 1 + 1) g := ⟨y1, by omega, fun e => by have := hgl _ e; omega⟩
  refine (incG_c RD (fun k hk => by have := hgl k hk; omega) BK (o := 0) (by intro f hf; simp)).mono ?_
  rintro e w1 ⟨k1, ⟨hp, rfl, hwas⟩ | ⟨x, r1, cur1, cs, hp, rfl, H1, B1, P1, hx⟩⟩
  · obtain ⟨cur1, z1, hcs⟩ := hwas
    have z2 : w1.heap[w.heap.size + 1]? = _ := (k1.block _ (lt_in y2) (fun h => by omega)).trans y2
    have K2 := K1.thn k1 (fun i hi => .inr (by omega))
    clear x3 y1 y2 r0 RD BK
    refine leaves_cons (f := 102) (args := #[.pointer (some ⟨w.heap.size, 0, none⟩), .pointer (some ⟨w.heap.size + 1, 0, none⟩)]) (by simp) (by simp [go_sem]) ?_
    refine (catchInc_bad w.heap.size (w.heap.size + 1) z1 hcs z2).mono ?_
    rintro e u' w2 ⟨rfl, rfl, q1, q2, k2⟩
    have c0 : w2.cell? ⟨w.heap.size, 0, none⟩ = some (Value.int IntKind.i64 0) := cell_in q1
    have c1 : w2.cell? ⟨w.heap.size, 1, none⟩ = some (Value.slice none 0 0) := cell_in q1
    have cE : w2.cell? ⟨w.heap.size + 1, 0, none⟩ = some (.int .i64 74) := cell_in q2
    have K3 : Kept (fun _ => False) w w2 := K2.thn k2 (fun i hi => .inr (by omega))
    clear q1 q2
    simp [Leaves, settle, results, Tryz.results35, go_sem, c0, c1, cE]
    exact ⟨K3, .inr ⟨fun x h => (by rw [hp] at h; cases h), rfl⟩⟩
  have hx0 := hx
  obtain ⟨u0, rfl, -, l0⟩ := hx
  obtain ⟨au0, cu0, rfl, -⟩ := l0.shape
  obtain rfl : cur1 = #[Value.int IntKind.i64 x.epoch, Value.slice au0 x.changes.length cu0] := P1.full rfl
  obtain ⟨vi, h2, h3⟩ := H1.ex
  obtain ⟨ai, ci, rfl, -⟩ := h3.shape
  have z2 : w1.heap[w.heap.size + 1]? = _ := (k1.block _ (lt_in y2) (fun h => by omega)).trans y2
  have K2 := K1.thn k1 (fun i hi => .inr (by omega))
  have s1 := k1.size
  have d1 : w1.cell? ⟨w.heap.size + 1 + 1, 1, none⟩ = some (.slice ai r1.length ci) := cell_in h2
  have l1 := lt_in h2
  have z1 := B1.heap
  have xn : IncT.Is w1 (New w w1) _ x := IncT.stable _ _ _ _ _ _ hx0 (fun k hk => ⟨by have := hk.1; omega, hk.2⟩) (fun _ _ => rfl)
  have HX := Lib.hid xn
  have HP := Lib.hid hp
  clear x3 y1 y2 r0 RD BK hx0 xn h2 h3 H1 hp P1
  by_cases hr1 : r1 = []
  · subst hr1
    have c0 : w1.cell? ⟨w.heap.size, 0, none⟩ = some (Value.int IntKind.i64 x.epoch) := cell_in z1
    have g0 : w1.frozen? ⟨w.heap.size, 0, none⟩ = false := frozen_in z1
    have e0 := setCell_same' c0
    have c1 : w1.cell? ⟨w.heap.size, 1, none⟩ = some (Value.slice au0 x.changes.length cu0) := cell_in z1
    have g1 : w1.frozen? ⟨w.heap.size, 1, none⟩ = false := frozen_in z1
    have e1 := setCell_same' c1
    have cE : w1.cell? ⟨w.heap.size + 1, 0, none⟩ = some (.int .i64 0) := cell_in z2
    have gE : w1.frozen? ⟨w.heap.size + 1, 0, none⟩ = false := frozen_in z2
    have eE := setCell_same' cE
    have lz1 := lt_in z1
    have lz2 := lt_in z2
    simp only [List.length_nil] at d1
    clear z1 z2 B1
    go_wp2
    refine leaves_cons (f := 102) (args := #[.pointer (some ⟨w.heap.size, 0, none⟩), .pointer (some ⟨w.heap.size + 1, 0, none⟩)]) (by simp) (by simp [go_sem]) ?_
    refine (catchInc_ok w.heap.size (w.heap.size + 1)).mono ?_
    rintro e u' w2 ⟨rfl, rfl, rfl⟩
    simp [Leaves, settle, results, Tryz.results35, go_sem, c0, c1, cE]
    exact ⟨K2, .inl ⟨x, _, HP.out, rfl, HX.out⟩⟩
  · have hpos : (0 : Int) < (r1.length : Int) := by
      have := List.length_pos_iff.2 hr1
      omega
    go_wp2
    refine leaves_cons (f := 102) (args := #[.pointer (some ⟨w.heap.size, 0, none⟩), .pointer (some ⟨w.heap.size + 1, 0, none⟩)]) (by simp) (by simp [go_sem]) ?_
    refine (catchInc_bad w.heap.size (w.heap.size + 1) z1 rfl z2).mono ?_
    rintro e u' w2 ⟨rfl, rfl, q1, q2, k2⟩
    have c0 : w2.cell? ⟨w.heap.size, 0, none⟩ = some (Value.int IntKind.i64 0) := cell_in q1
    have c1 : w2.cell? ⟨w.heap.size, 1, none⟩ = some (Value.slice none 0 0) := cell_in q1
    have cE : w2.cell? ⟨w.heap.size + 1, 0, none⟩ = some (.int .i64 74) := cell_in q2
    have K3 : Kept (fun _ => False) w w2 := K2.thn k2 (fun i hi => .inr (by omega))
    clear q1 q2
    simp [Leaves, settle, results, Tryz.results35, go_sem, c0, c1, cE]
    exact ⟨K3, .inr ⟨fun x h => hr1 (by rw [HP.out] at h; simp at h; exact h.2), rfl⟩⟩
theorem decInc_c {w : World} {v : Value} {bs : List UInt8} {g : Option Nat} (hr : Reads w 1 v bs.length (bs.map bv) g) (hgl : ∀ k, g = some k → k < w.heap.size) (hm : bs.length ≤ 140737488351232) :
    Calls Tryz.prog 10 #[v] w (Took IncT.Is pInc [Value.int IntKind.i64 0, Value.slice none 0 0] bs w) := by
  have ka := Kept.alloc (fun _ => False) w (Obj.cells #[Value.int IntKind.i64 0, Value.slice none 0 0] 57)
  have hq : (w.alloc (Obj.cells #[Value.int IntKind.i64 0, Value.slice none 0 0] 57)).heap[w.heap.size]? = some (Obj.cells #[Value.int IntKind.i64 0, Value.slice none 0 0] 57) := heap_alloc_new' _ _
  have sz : (w.alloc (Obj.cells #[Value.int IntKind.i64 0, Value.slice none 0 0] 57)).heap.size = w.heap.size + 1 := by simp
  obtain ⟨a, cp, rfl, hc⟩ := hr.shape
  go_enter Tryz.func10, Tryz.ntmps10
  go_wp2_with fail
  generalize w.alloc (Obj.cells #[Value.int IntKind.i64 0, Value.slice none 0 0] 57) = w0 at ka hq sz ⊢
  refine (readInc_c (hr.kept ka (fun _ _ h => h)) (fun k hk => by have := hgl k hk; omega) hm).mono ?_
  rintro e w1 ⟨k1, ⟨x, cs, hp, rfl, hx⟩ | ⟨hp, rfl⟩⟩
  · have hx0 := hx
    obtain ⟨u0, rfl, -, l0⟩ := hx
    obtain ⟨au0, cu0, rfl, -⟩ := l0.shape
    have z1 := (k1.block _ (lt_in hq) (fun h => h)).trans hq
    have HX := Lib.hid hx0
    have HP := Lib.hid hp
    clear hx0 hp
    have c0 : w1.cell? ⟨w.heap.size, 0, none⟩ = some (Value.int IntKind.i64 0) := cell_in z1
    have g0 : w1.frozen? ⟨w.heap.size, 0, none⟩ = false := frozen_in z1
    have c1 : w1.cell? ⟨w.heap.size, 1, none⟩ = some (Value.slice none 0 0) := cell_in z1
    have g1 : w1.frozen? ⟨w.heap.size, 1, none⟩ = false := frozen_in z1
    have lz := lt_in z1
    have HZ := Lib.hid z1
    clear z1 hq
    go_wp2
    have hW : ((w1.setCell ⟨w.heap.size, 0, none⟩ (Value.int IntKind.i64 x.epoch)).setCell ⟨w.heap.size, 1, none⟩ (Value.slice au0 x.changes.length cu0)) = puts w1 w.heap.size 0 [Value.int IntKind.i64 x.epoch, Value.slice au0 x.changes.length cu0] := rfl
    rw [hW]
    have h1 : (puts w1 w.heap.size 0 [Value.int IntKind.i64 x.epoch, Value.slice au0 x.changes.length cu0]).heap[w.heap.size]? = some (.cells #[Value.int IntKind.i64 x.epoch, Value.slice au0 x.changes.length cu0] 57) := puts_heap _ _ [Value.int IntKind.i64 x.epoch, Value.slice au0 x.changes.length cu0] w1 [] [Value.int IntKind.i64 0, Value.slice none 0 0] HZ.out rfl
    have k2 := puts_kept w.heap.size [Value.int IntKind.i64 x.epoch, Value.slice au0 x.changes.length cu0] w1 0
    generalize puts w1 w.heap.size 0 [Value.int IntKind.i64 x.epoch, Value.slice au0 x.changes.length cu0] = w2 at h1 k2 ⊢
    have K3 : Kept (fun _ => False) w w2 := (ka.trans k1).thn k2 (fun i hi => .inr (by omega))
    have y0 : w2.cell? ⟨w.heap.size, 0, none⟩ = some (Value.int IntKind.i64 x.epoch) := cell_in h1
    have y1 : w2.cell? ⟨w.heap.size, 1, none⟩ = some (Value.slice au0 x.changes.length cu0) := cell_in h1
    refine bodyPost_ret (v := .tuple #[.agg #[Value.int IntKind.i64 x.epoch, Value.slice au0 x.changes.length cu0], .int .i64 0]) (by simp [results, Tryz.results10, go_sem, y0, y1]) rfl ?_
    have s2 := k2.size
    exact ⟨K3, .inl ⟨x, _, HP.out, rfl, IncT.stable _ _ _ _ _ _ HX.out (fun k hk => ⟨by have := hk.1; omega, by have := hk.2; omega⟩) (fun k hk => k2.block k hk.2 (fun e => by have := hk.1; omega))⟩⟩
  · have z1 := (k1.block _ (lt_in hq) (fun h => h)).trans hq
    have HP := Lib.hid hp
    clear hp
    have c0 : w1.cell? ⟨w.heap.size, 0, none⟩ = some (Value.int IntKind.i64 0) := cell_in z1
    have g0 : w1.frozen? ⟨w.heap.size, 0, none⟩ = false := frozen_in z1
    have c1 : w1.cell? ⟨w.heap.size, 1, none⟩ = some (Value.slice none 0 0) := cell_in z1
    have g1 : w1.frozen? ⟨w.heap.size, 1, none⟩ = false := frozen_in z1
    have lz := lt_in z1
    have HZ := Lib.hid z1
    clear z1 hq
    go_wp2
    have hW : ((w1.setCell ⟨w.heap.size, 0, none⟩ (Value.int IntKind.i64 0)).setCell ⟨w.heap.size, 1, none⟩ (Value.slice none 0 0)) = puts w1 w.heap.size 0 [Value.int IntKind.i64 0, Value.slice none 0 0] := rfl
    rw [hW]
    have h1 : (puts w1 w.heap.size 0 [Value.int IntKind.i64 0, Value.slice none 0 0]).heap[w.heap.size]? = some (.cells #[Value.int IntKind.i64 0, Value.slice none 0 0] 57) := puts_heap _ _ [Value.int IntKind.i64 0, Value.slice none 0 0] w1 [] [Value.int IntKind.i64 0, Value.slice none 0 0] HZ.out rfl
    have k2 := puts_kept w.heap.size [Value.int IntKind.i64 0, Value.slice none 0 0] w1 0
    generalize puts w1 w.heap.size 0 [Value.int IntKind.i64 0, Value.slice none 0 0] = w2 at h1 k2 ⊢
    have K3 : Kept (fun _ => False) w w2 := (ka.trans k1).thn k2 (fun i hi => .inr (by omega))
    have y0 : w2.cell? ⟨w.heap.size, 0, none⟩ = some (Value.int IntKind.i64 0) := cell_in h1
    have y1 : w2.cell? ⟨w.heap.size, 1, none⟩ = some (Value.slice none 0 0) := cell_in h1
    refine bodyPost_ret (v := .tuple #[.agg #[Value.int IntKind.i64 0, Value.slice none 0 0], .int .i64 74]) (by simp [results, Tryz.results10, go_sem, y0, y1]) rfl ?_
    exact ⟨K3, .inr ⟨HP.out, rfl⟩⟩
end Go.Proofs.YtmbjealliinpdaaGreat
end

section

namespace Go.Proofs.YtmbjealliinpdaaGreat
open Go.RowKit
/-- A byte. -/
def byteIs (w : World) (S : Nat → Prop) (cs : List Value) (b : UInt8) : Prop := cs = [bv b]
theorem byteIs_stable : Stable byteIs := fun _ _ _ _ _ _ h _ _ => h
/-- A text. -/
def textIs (w : World) (S : Nat → Prop) (cs : List Value) (s : ByteArray) : Prop := cs = [.string s]
theorem textIs_stable : Stable textIs := fun _ _ _ _ _ _ h _ _ => h
/-- A checksum. -/
def crcIs (w : World) (S : Nat → Prop) (cs : List Value) (n : Nat) : Prop := cs = [.int .u32 n] ∧ n < 4294967296
theorem crcIs_stable : Stable crcIs := fun _ _ _ _ _ _ h _ _ => h
theorem encT_length (s : ByteArray) : (encT s).length = 4 + s.size := by unfold encT; rw [List.length_append, leB_length]; simp
theorem encBy_length (b : List UInt8) : (encBy b).length = 4 + b.length := by unfold encBy; rw [List.length_append, leB_length]
/-- A list of bytes is read as a slice. -/
theorem ListIs.reads {w : World} {S : Nat → Prop} {v : Value} {bs : List UInt8} (h : ListIs 1 byteIs w S v bs) : ∃ g, Reads w 1 v bs.length (bs.map bv) g ∧ ∀ k, g = some k → S k := by
  obtain ⟨a, c, rfl, h1, h2, h3⟩ := h
  by_cases h0 : bs = []
  · subst h0
    exact ⟨none, ⟨by simp, .inl ⟨_, _, rfl, rfl⟩⟩, fun k hk => by cases hk⟩
  · have hp : 0 < bs.length := List.length_pos_iff.2 h0
    obtain ⟨b, off, cs, rfl, hb, -, -, -⟩ := h3 0 bs[0] (List.getElem?_eq_getElem hp)
    refine ⟨some b, ⟨by simp, .inr ⟨b, off, c, rfl, rfl, h1, h2, fun j hj => ?_⟩⟩, fun k hk => by cases hk; exact hb⟩
    rw [List.length_map] at hj
    obtain ⟨b', off', cs, he, -, hl, hc, hr⟩ := h3 j bs[j] (List.getElem?_eq_getElem hj)
    simp only [Option.some.injEq, Addr.mk.injEq, and_true] at he
    obtain ⟨rfl, rfl⟩ := he
    have := hc 0 (by omega)
    rw [Nat.mul_one, Nat.add_zero] at this
    rw [this, hr, List.getElem?_map, List.getElem?_eq_getElem hj]
    rfl
theorem reads_list {w : World} {S : Nat → Prop} {v : Value} {bs : List UInt8} {g : Option Nat} (h : Reads w 1 v bs.length (bs.map bv) g) (hg : ∀ k, g = some k → S k) (hc : ∀ a c, v = .slice a bs.length c → bs.length ≤ c ∧ c ≤ maxLen) : ListIs 1 byteIs w S v bs := by
  obtain ⟨h0, ⟨a, c, rfl, hn⟩ | ⟨b, off, c, rfl, rfl, h1, h2, h3⟩⟩ := h
  · obtain rfl : bs = [] := List.eq_nil_of_length_eq_zero hn
    exact ⟨a, c, rfl, (hc a c rfl).1, (hc a c rfl).2, fun k x hx => by simp at hx⟩
  · refine ⟨_, c, rfl, h1, h2, fun k x hx => ?_⟩
    have hk : k < bs.length := (List.getElem?_eq_some_iff.1 hx).1
    refine ⟨b, off, [bv x], rfl, hg b rfl, rfl, fun f hf => ?_, rfl⟩
    obtain rfl : f = 0 := by omega
    rw [Nat.mul_one, Nat.add_zero, h3 k (by simpa using hk), List.getElem?_map, hx]
    rfl
theorem bytesV_c {w : World} {c p o : Nat} {out : List UInt8} {g : Option Nat} (h : Writes w c out g) {v : Value} {bs : List UInt8} {gb : Option Nat} (hr : Reads w 1 v bs.length (bs.map bv) gb) (hgb : ∀ k, gb = some k → k ≠ c ∧ g ≠ some k) (hv : Var w p o [v]) (hm : out.length + bs.length ≤ 140737488353500) :
    Calls Tryz.prog 139 #[.pointer (some ⟨c, 0, none⟩), .pointer (some ⟨p, o, none⟩)] w fun e w' => e = .returned (.tuple #[]) ∧ Wrote w w' c out g (leB 4 bs.length ++ bs) := by
  obtain ⟨i0, hi, hz0, hz1, hz2⟩ := info_all u8info
  obtain ⟨a, cp, rfl, hc⟩ := hr.shape
  have p0 : w.cell? ⟨p, o, none⟩ = some (.slice a bs.length cp) := hv.cell (f := 0) (by simp)
  have hlp := hv.lt
  have hw := h
  go_enter Tryz.func139, Tryz.ntmps139
  go_wp2_with fail
  refine (countWrite_c h bs.length (by omega) (by omega)).mono ?_
  rintro e w1 ⟨rfl, g1, hw1, k1, hg1⟩
  have hv1 := hv.wrote (more := []) hw k1
  obtain ⟨vo1, q1, o1⟩ := hw1.ex
  obtain ⟨L, hL⟩ : ∃ L, L = out ++ leB 4 bs.length := ⟨_, rfl⟩
  have hLl : L.length = out.length + 4 := by rw [hL, List.length_append, leB_length]
  rw [← hL] at o1
  have HL := Lib.hid hL
  clear hL hw1 p0 h hw
  obtain ⟨a1, cp1, rfl, -, -⟩ := o1.shape
  have r1 := hr.kept k1 (fun k hk h => by rcases h with h | h; exact (hgb k hk).1 h; exact (hgb k hk).2 h)
  have z0 : w1.cell? ⟨c, 0, none⟩ = some (.slice a1 L.length cp1) := cell_in q1
  have z2 : w1.cell? ⟨c, 2, none⟩ = some (.bool false) := cell_in q1
  have hl1 := lt_in q1
  have p0 : w1.cell? ⟨p, o, none⟩ = some (.slice a bs.length cp) := hv1.cell (f := 0) (by simp)
  have hlp1 := hv1.lt
  have Q1 := Lib.hid q1
  have HLl := Lib.hid hLl
  have hLs : L.length + bs.length ≤ 140737488353510 := by omega
  clear q1 hLl
  go_wp2
  refine wp_region_ord [1, 2, 3, 4, 5, 6, 7] [0] [8, 9, 10, 11] (by kernel_rfl) (by kernel_rfl) (fun _ _ d _ _ h => by cases d <;> exact h) ?_
  simp only [sel, List.filterMap_cons, List.filterMap_nil, List.getElem?_cons_zero, List.getElem?_cons_succ]
  repeat (quiet_step (fail))
  refine wpQuiet_nil ?_
  refine wpIdle_step (fun K hK => ?_)
  go_simp
  refine hK _ ?_
  clear hK
  refine wpIdle_nil ?_
  rintro _ ⟨nr, rfl⟩
  have k2 := k1.dN nr
  have o2 := o1.drewN nr
  have r2 := r1.drewN nr
  have q2 : (w1.drewN nr).heap[c]? = _ := Q1.out
  generalize w1.drewN nr = w2 at k2 o2 r2 q2 ⊢
  have hne := o2.ne q2 (by decide)
  clear z0 z2 p0 Q1 o1 r1
  have Q2 := Lib.hid q2
  clear q2
  refine wpList_append_Own rfl _ _ 22 22 rfl 5 i0 (.int .u8 0) 1 1 Tryz.underlying22 hi hz0 hz1 hz2 rfl rfl o2 rfl (by exact Reads.src r2 Tryz.underlying22 (bv_one _)) (by unfold maxLen; omega) (by omega) ?_
  intro a5 k5 w5 g5 hown5 hk5 hg5
  have hA5 : w5.heap[c]? = _ := (hk5.block _ (lt_in Q2.out) (fun h => hne c h rfl)).trans Q2.out
  have f0 := frozen_in (k := 0) hA5
  have z5 := cell_in (k := 0) hA5
  have hl5 := lt_in hA5
  simp only [List.getElem?_toArray, List.getElem?_cons_zero] at z5
  have H5 := Lib.hid hA5
  clear hA5
  go_wp2
  have e9 : L.map bv ++ bs.map bv = (out ++ (leB 4 bs.length ++ bs)).map bv := by rw [← List.append_assoc, ← HL.out, List.map_append]
  have e8 : L.length + bs.length = (out ++ (leB 4 bs.length ++ bs)).length := by rw [← List.append_assoc, ← HL.out, List.length_append]
  have K5 : Kept (fun k => k = c ∨ g = some k) w w5 := k2.thn hk5 (fun i hi => by
    rcases hg1 i hi with h | h
    · exact .inl (.inr h)
    · exact .inr h)
  have hg5' : ∀ k, g5 = some k → g = some k ∨ w.heap.size ≤ k := fun k hk => by
    rcases hg5 k hk with h | h
    · exact hg1 k h
    · have := k2.size; exact .inr (by omega)
  have hne5 := hown5.ne H5.out (by decide)
  rw [e9] at hown5
  refine bodyPost_ret (v := .tuple #[]) (by simp [results, Tryz.results139]) rfl ⟨rfl, g5, ⟨_, heap_setCell_same (o := 0) H5.out _, ?_⟩, K5.st _ (.inl (.inl rfl)), hg5'⟩
  rw [e8] at hown5 ⊢
  exact hown5.kept (Kept.setCell (F := (· = c)) _ _ _ rfl) (fun k hk => hne5 k hk)
theorem bytesW_c {w : World} {c p o : Nat} {out : List UInt8} {g : Option Nat} (h : Writes w c out g) {S : Nat → Prop} (hS : ∀ k, S k → k < w.heap.size ∧ k ≠ c ∧ g ≠ some k) {v : Value} (bs : List UInt8) (hl : ListIs 1 byteIs w S v bs) (hv : Var w p o [v]) (hm : out.length + (encBy bs).length ≤ 140737488352000) :
    Calls Tryz.prog 139 #[.pointer (some ⟨c, 0, none⟩), .pointer (some ⟨p, o, none⟩)] w fun e w' => e = .returned (.tuple #[]) ∧ Wrote w w' c out g (encBy bs) := by
  rw [encBy_length] at hm
  obtain ⟨gb, hr, hg⟩ := hl.reads
  exact bytesV_c h hr (fun k hk => (hS k (hg k hk)).2) hv (by omega)
theorem textW_c {w : World} {c p o : Nat} {out : List UInt8} {g : Option Nat} (h : Writes w c out g) (s : ByteArray) (hv : Var w p o [.string s]) (hm : out.length + (encT s).length ≤ 140737488352000) :
    Calls Tryz.prog 78 #[.pointer (some ⟨c, 0, none⟩), .pointer (some ⟨p, o, none⟩)] w fun e w' => e = .returned (.tuple #[]) ∧ Wrote w w' c out g (encT s) := by
  rw [encT_length] at hm
  have p0 : w.cell? ⟨p, o, none⟩ = some (.string s) := hv.cell (f := 0) (by simp)
  have hlp := hv.lt
  have hlc : c < w.heap.size := by
    obtain ⟨vo, h1, -⟩ := h.ex
    exact lt_in h1
  have hlg : ∀ k, g = some k → k < w.heap.size := by
    obtain ⟨vo, -, h2⟩ := h.ex
    exact h2.lt
  have hcv := Go.Lib.run_convert_string_bytes (P := Tryz.prog) w 9 22 5 s Tryz.underlying9 Tryz.underlying22 Tryz.underlying5
  have hKB := bytesWorld_kept (fun _ => False) w 5 s
  have hRB := bytesWorld_reads w 5 s (by unfold maxLen; omega)
  have hSB := Go.Lib.bytesWorld_size w 5 s
  generalize Go.Lib.bytesWorld w 5 s = wb at hcv hKB hRB hSB
  obtain ⟨cap, hcap⟩ : ∃ cap, cap = grownCap w s.size 0 5 := ⟨_, rfl⟩
  rw [← hcap] at hcv hRB
  have hlen : s.data.toList.length = s.size := by simp
  rw [hlen] at hRB
  clear hcap
  go_enter Tryz.func78, Tryz.ntmps78
  go_wp2_with fail
  have v1 := var_new wb #[Value.slice (some ⟨w.heap.size, 0, none⟩) s.size cap] 22 (by decide) (by decide)
  rw [hSB] at v1
  have x1 : (wb.alloc (Obj.cells #[Value.slice (some ⟨w.heap.size, 0, none⟩) s.size cap] 22)).heap[wb.heap.size]? = some (Obj.cells #[Value.slice (some ⟨w.heap.size, 0, none⟩) s.size cap] 22) := heap_alloc_new' _ _
  rw [hSB] at x1
  have k1 : Kept (fun _ => False) w (wb.alloc (Obj.cells #[Value.slice (some ⟨w.heap.size, 0, none⟩) s.size cap] 22)) := hKB.al _
  have r1 := hRB.kept (Kept.alloc (fun _ => False) wb (Obj.cells #[Value.slice (some ⟨w.heap.size, 0, none⟩) s.size cap] 22)) (fun _ _ h => h)
  have s1 : (wb.alloc (Obj.cells #[Value.slice (some ⟨w.heap.size, 0, none⟩) s.size cap] 22)).heap.size = w.heap.size + 1 + 1 := by simp [hSB]
  generalize wb.alloc (Obj.cells #[Value.slice (some ⟨w.heap.size, 0, none⟩) s.size cap] 22) = w1 at x1 k1 r1 s1 v1 ⊢
  have h1 := h.kept k1 (fun h => h) (fun _ _ h => h)
  refine (bytesV_c h1 (bs := s.data.toList) (gb := some w.heap.size) (by rw [hlen]; exact r1) (fun k hk => ⟨by simp at hk; omega, fun hg => by simp at hk; have := hlg k hg; omega⟩) v1 (by rw [hlen]; omega)).mono ?_
  rintro e w2 ⟨rfl, g2, hw2, k2, hg2⟩
  rw [hlen] at hw2
  have K2 : Kept (fun k => k = c ∨ g = some k) w w2 := (k1.mono (fun _ _ h => h.elim)).trans k2
  have x2 : w2.heap[w.heap.size + 1]? = _ := (k2.block _ (lt_in x1) (fun h => by rcases h with h | h; omega; have := hlg _ h; omega)).trans x1
  have r2 := r1.kept k2 (fun k hk h => by simp at hk; rcases h with h | h; omega; have := hlg _ h; omega)
  have hst := Reads.string_run (P := Tryz.prog) r2 Tryz.underlying22 Tryz.underlying5 Tryz.underlying9
  have hss : (⟨s.data.toList.toArray⟩ : ByteArray) = s := by simp
  rw [hss] at hst
  have hv2 := hv.wrote (more := []) h K2
  have z1 : w2.cell? ⟨w.heap.size + 1, 0, none⟩ = some (.slice (some ⟨w.heap.size, 0, none⟩) s.size cap) := cell_in x2
  have l1 := lt_in x2
  have z2 : w2.cell? ⟨p, o, none⟩ = some (.string s) := hv2.cell (f := 0) (by simp)
  have l2 := hv2.lt
  have f2 : w2.frozen? ⟨p, o, none⟩ = false := hv2.frozen
  have e2 := setCell_same' z2
  have HW := Lib.hid hw2
  clear x1 x2 r1 r2 p0 hcv hw2 h1
  go_wp2
  exact bodyPost_end (v := .tuple #[]) (by simp [results, Tryz.results78]) rfl ⟨rfl, g2, HW.out, K2, fun k hk => by
    rcases hg2 k hk with h | h
    · exact .inl h
    · exact .inr (by omega)⟩
theorem errnoW_c {w : World} {c p o : Nat} {out : List UInt8} {g : Option Nat} (h : Writes w c out g) (n : Int) (hn : in64 n) (hv : Var w p o [.int .i64 n]) (hm : out.length ≤ 140737488352000) :
    Calls Tryz.prog 79 #[.pointer (some ⟨c, 0, none⟩), .pointer (some ⟨p, o, none⟩)] w fun e w' => e = .returned (.tuple #[]) ∧ Wrote w w' c out g (encI n) := by
  have p0 : w.cell? ⟨p, o, none⟩ = some (.int .i64 n) := hv.cell (f := 0) (by simp)
  have hlp := hv.lt
  have S0 := (Cod.start h).alloc (Obj.cells #[Value.int IntKind.i64 n] 3)
  have v1 := var_new w #[Value.int IntKind.i64 n] 3 (by decide) (by decide)
  go_enter Tryz.func79, Tryz.ntmps79
  go_wp2_with fail
  generalize w.alloc (Obj.cells #[Value.int IntKind.i64 n] 3) = w1 at S0 v1 ⊢
  refine (numWrite_c S0.writes n hn v1 (by omega)).mono ?_
  rintro e w2 ⟨rfl, hW⟩
  obtain ⟨L2, g2, S2⟩ := S0.then hW
  have hv2 := S2.var h hv
  obtain ⟨g', hw', k', -⟩ := hW
  have v2 := v1.wrote (more := []) S0.writes k'
  have z1 : w2.cell? ⟨w.heap.size, 0, none⟩ = some (.int .i64 n) := v2.cell (f := 0) (by simp)
  have l1 := v2.lt
  have z2 : w2.cell? ⟨p, o, none⟩ = some (.int .i64 n) := hv2.cell (f := 0) (by simp)
  have l2 := hv2.lt
  have f2 : w2.frozen? ⟨p, o, none⟩ = false := hv2.frozen
  have e2 := setCell_same' z2
  have HS := Lib.hid S2.done
  clear p0 S0 v1 S2 hw' k'
  go_wp2
  have hd := HS.out
  rw [List.nil_append] at hd
  exact bodyPost_end (v := .tuple #[]) (by simp [results, Tryz.results79]) rfl ⟨rfl, hd⟩
theorem crcW_c {w : World} {c p o : Nat} {out : List UInt8} {g : Option Nat} (h : Writes w c out g) (n : Nat) (hn : n < 4294967296) (hv : Var w p o [.int .u32 n]) (hm : out.length ≤ 140737488352000) :
    Calls Tryz.prog 141 #[.pointer (some ⟨c, 0, none⟩), .pointer (some ⟨p, o, none⟩)] w fun e w' => e = .returned (.tuple #[]) ∧ Wrote w w' c out g (leB 4 n) := by
  have p0 : w.cell? ⟨p, o, none⟩ = some (.int .u32 n) := hv.cell (f := 0) (by simp)
  have hlp := hv.lt
  have e1 : (n : Int) % 18446744073709551616 = (n : Int) := by omega
  have e1' : IntKind.u64.wrap (n : Int) = (n : Int) := by rw [← e1]; simp [IntKind.wrap, IntKind.bits, IntKind.signed]
  have e3 : (n : Int) % 4294967296 = (n : Int) := by omega
  have e3' : IntKind.u32.wrap (n : Int) = (n : Int) := by simp [IntKind.wrap, IntKind.bits, IntKind.signed]; omega
  go_enter Tryz.func141, Tryz.ntmps141
  go_wp2_with fail
  refine (wordWrite_c h n 4 (by omega) (by omega) (by omega)).mono ?_
  rintro e w1 ⟨rfl, hw⟩
  have hW := hw
  obtain ⟨g1, hw1, k1, -⟩ := hw
  have hv1 := hv.wrote (more := []) h k1
  have z1 : w1.cell? ⟨p, o, none⟩ = some (.int .u32 n) := hv1.cell (f := 0) (by simp)
  have f1 : w1.frozen? ⟨p, o, none⟩ = false := hv1.frozen
  have l1 := hv1.lt
  have e4 := setCell_same' z1
  have HW := Lib.hid hW
  clear hW p0 hw1
  go_wp2
  exact bodyPost_end (v := .tuple #[]) (by simp [results, Tryz.results141]) rfl ⟨rfl, HW.out⟩
/-- The document's Bytes. -/
theorem bytesRef_c {w : World} {v : Value} {out : List UInt8} {g : Option Nat} (h : Own w 5 1 v out.length (out.map bv) g) {u : Value} {bs : List UInt8} {gb : Option Nat} (hr : Reads w 1 u bs.length (bs.map bv) gb) (hgb : ∀ k, gb = some k → g ≠ some k) (hm : out.length + bs.length ≤ 140737488353500) :
    Calls Tryz.prog 101 #[v, u] w fun e w' => ∃ v', e = .returned v' ∧ Grew w w' v' out g (leB 4 bs.length ++ bs) := by
  obtain ⟨i0, hi, hz0, hz1, hz2⟩ := info_all u8info
  obtain ⟨a, cp, rfl, hc⟩ := hr.shape
  obtain ⟨ao, co, rfl, -, -⟩ := h.shape
  go_enter Tryz.func101, Tryz.ntmps101
  go_wp2_with fail
  refine (countRef_c h bs.length (by omega)).mono ?_
  rintro e w1 ⟨v1, rfl, g1, o1, k1, hg1⟩
  obtain ⟨a1, c1, rfl, -, -⟩ := o1.shape
  have r1 := hr.kept k1 (fun k hk h => hgb k hk h)
  obtain ⟨L, hL⟩ : ∃ L, L = out ++ leB 4 bs.length := ⟨_, rfl⟩
  have hLl : L.length ≤ out.length + 4 := by rw [hL, List.length_append, leB_length]; omega
  rw [← hL] at o1 ⊢
  have HL := Lib.hid hL
  clear hL
  go_wp2_with (at_builtin; refine wpList_append_Own rfl _ _ 22 22 rfl 5 i0 (.int .u8 0) 1 1 Tryz.underlying22 hi hz0 hz1 hz2 rfl rfl o1 rfl (by exact Reads.src r1 Tryz.underlying22 (bv_one _)) (by unfold maxLen; omega) (by omega) ?_; intro a5 k5 w5 g5 hown5 hk5 hg5)
  go_ret
  have e9 : L.map bv ++ bs.map bv = (out ++ (leB 4 bs.length ++ bs)).map bv := by rw [← List.append_assoc, ← HL.out, List.map_append]
  have e8 : L.length + bs.length = (out ++ (leB 4 bs.length ++ bs)).length := by rw [← List.append_assoc, ← HL.out, List.length_append]
  have s1 := k1.size
  refine ⟨_, rfl, g5, ?_, k1.thn hk5 (fun i hi => hg1 i hi), fun k hk => ?_⟩
  · rw [← e9, ← e8]; exact hown5
  · rcases hg5 k hk with h | h
    · exact hg1 k h
    · exact .inr (by omega)
end Go.Proofs.YtmbjealliinpdaaGreat
end

section

namespace Go.Proofs.YtmbjealliinpdaaGreat
open Go.RowKit
/-- A text: bytes, their count ahead. -/
def pT : Pr ByteArray := fun bs => (pB bs).bind fun y => some (⟨y.1.toArray⟩, y.2)
theorem lawT : Law pT encT (fun s => s.size < 4294967296) := by
  refine ⟨fun x rest hx => ?_, fun bs x rest h => ?_, fun x => by rw [encT_length]; omega⟩
  · have h1 := lawB.enc x.data.toList rest (by simpa using hx)
    have e : encT x = encBy x.data.toList := by unfold encT encBy; simp
    unfold pT
    rw [e, h1]
    simp
  · unfold pT at h
    obtain ⟨⟨y, r⟩, h1, h2⟩ := Option.bind_eq_some_iff.1 h
    simp only [Option.some.injEq, Prod.mk.injEq] at h2
    obtain ⟨rfl, rfl⟩ := h2
    obtain ⟨h3, h4⟩ := lawB.dec _ _ _ h1
    refine ⟨?_, by simpa [ByteArray.size] using h4⟩
    rw [h3]
    unfold encT encBy
    simp [ByteArray.size]
/-- A word of four bytes. -/
theorem lawW : Law (pW 4) (leB 4) (fun n => n < 4294967296) := by
  refine ⟨fun x rest hx => ?_, fun bs x rest h => ?_, fun x => by rw [leB_length]; omega⟩
  · rw [pW_app _ _ (leB_length 4 x), leN_leB, Nat.mod_eq_of_lt (by omega : x < 256 ^ 4)]
  · obtain ⟨a, ha, rfl, rfl⟩ := pW_some h
    have := leN_lt a
    rw [ha] at this
    exact ⟨by rw [leB_of ha], by omega⟩
theorem bytesG_c {w : World} {c p o : Nat} {bs : List UInt8} {g : Option Nat} {cur : Array Value} {t : TypeId} (h : Rd w c bs g) (hgl : ∀ k, g = some k → k < w.heap.size) (hb : Blk w p cur t c g) {az : Option Addr} {cz : Nat} (hz : cur[o]? = some (.slice az 0 cz)) :
    Calls Tryz.prog 139 #[.pointer (some ⟨c, 0, none⟩), .pointer (some ⟨p, o, none⟩)] w (Got (sliceIs 1 byteIs) pB bs w c p o g cur t) := by
  obtain ⟨i0, hi, hz0, hz1, hz2⟩ := info_all u8info
  have p0 : w.cell? ⟨p, o, none⟩ = some (.slice az 0 cz) := (cell_in hb.heap).trans hz
  have hlp := lt_in hb.heap
  have hlc := h.lt
  go_enter Tryz.func139, Tryz.ntmps139
  go_wp2_with fail
  refine (countG_c h).mono ?_
  rintro e w1 ⟨k1, ⟨n, r, hp1, rfl, h1⟩ | ⟨hp1, rfl⟩⟩
  rotate_left
  · exact ⟨rfl, k1.mono (fun _ _ h => .inl h), .inl ⟨by unfold pB; rw [hp1]; rfl, rfl, (hb.kept k1 hb.ne).was⟩⟩
  obtain ⟨-, hn32, hnr⟩ := pC_some hp1
  have HP : Hid (pB bs = some (r.take n, r.drop n)) := Lib.hid (by unfold pB; rw [hp1]; rfl)
  obtain ⟨vi, q1, ri⟩ := h1.ex
  obtain ⟨ai, ci, rfl, hci⟩ := ri.shape
  have hsm := h1.small
  have hni : (n : Int) ≤ (r.length : Int) := by omega
  obtain ⟨a2, c2, hsl, hrd⟩ := ri.sliceTo_run (P := Tryz.prog) (t := 22) (hi := (n : Int)) (k := n) Tryz.underlying22 u8size hci rfl (by omega)
  obtain ⟨a3, c3, hsf, hrf⟩ := ri.sliceFrom_run (P := Tryz.prog) (t := 22) (lo := (n : Int)) Tryz.underlying22 u8size hci (by omega) (by omega)
  rw [Int.toNat_natCast] at hsf hrf
  obtain ⟨X, hX⟩ : ∃ X, X = r.take n := ⟨_, rfl⟩
  have hXl : X.length = n := by rw [hX, List.length_take]; omega
  obtain ⟨Y, hY⟩ : ∃ Y, Y = r.drop n := ⟨_, rfl⟩
  have hYl : Y.length = r.length - n := by rw [hY, List.length_drop]
  rw [Nat.mul_one, ← List.map_take, ← hX] at hrd
  rw [Nat.mul_one, ← List.map_drop, ← hY] at hrf
  rw [← hX, ← hY] at HP
  have hb1 := hb.kept k1 hb.ne
  have p1 : w1.cell? ⟨p, o, none⟩ = some (.slice az 0 cz) := (cell_in hb1.heap).trans hz
  have f1 : w1.frozen? ⟨p, o, none⟩ = false := frozen_in hb1.heap
  have lp1 := lt_in hb1.heap
  have z1 : w1.cell? ⟨c, 1, none⟩ = some (.slice ai r.length ci) := cell_in q1
  have z2 : w1.cell? ⟨c, 2, none⟩ = some (.bool true) := cell_in q1
  have lc1 := lt_in q1
  have s1 := k1.size
  have hpc := hb.ne
  have Q1 := Lib.hid q1
  have HXl := Lib.hid hXl
  have HYl := Lib.hid hYl
  have HR := Lib.hid hrf
  have HB := Lib.hid hb1
  clear q1 p0 hp1 hX hY ri h1 hXl hYl hrf hb1
  go_wp2_with (at_builtin; refine wpList_append_Own rfl _ _ 22 22 rfl 5 i0 (.int .u8 0) 1 1 Tryz.underlying22 hi hz0 hz1 hz2 rfl rfl (Own.nil _ _ _) rfl (by exact Reads.src hrd Tryz.underlying22 (bv_one _)) (by unfold maxLen; omega) (by omega) ?_; intro a5 k5 w5 g5 hown5 hk5 hg5; have hbp5 : w5.heap[p]? = _ := (hk5.block _ lp1 (by simp)).trans HB.out.heap; have hbc5 : w5.heap[c]? = _ := (hk5.block _ lc1 (by simp)).trans Q1.out; have y1 := cell_in (k := o) hbp5; rw [hz] at y1; have y2 := frozen_in (k := o) hbp5; have y3 := lt_in hbp5; have y4 : w5.cell? ⟨c, 1, none⟩ = some (.slice ai r.length ci) := cell_in hbc5; have y5 := frozen_in (k := 1) hbc5; have y6 := lt_in hbc5; have HP5 := Lib.hid hbp5; have HC5 := Lib.hid hbc5; clear hbp5 hbc5)
  simp only [Nat.zero_add, List.nil_append] at hown5
  have hX := HXl.out
  have hY := HYl.out
  have hsz5 := hk5.size
  have kp : Kept (· = p) w5 (w5.setCell ⟨p, o, none⟩ (.slice a5 n k5)) := Kept.setCell _ _ _ rfl
  have q1 := heap_setCell_same (o := o) HP5.out (.slice a5 n k5)
  have q2 := (kp.block _ (lt_in HC5.out) (fun e => hpc e.symm)).trans HC5.out
  generalize w5.setCell ⟨p, o, none⟩ (.slice a5 n k5) = w6 at kp q1 q2 ⊢
  have kc : Kept (· = c) w6 (w6.setCell ⟨c, 1, none⟩ (.slice a3 (r.length - n) c3)) := Kept.setCell _ _ _ rfl
  have q3 := heap_setCell_same (o := 1) q2 (.slice a3 (r.length - n) c3)
  have q4 := (kc.block _ (lt_in q1) hpc).trans q1
  generalize w6.setCell ⟨c, 1, none⟩ (.slice a3 (r.length - n) c3) = w7 at kc q3 q4 ⊢
  have hng : ∀ k, g = some k → k ≠ p := fun k hk e => hb.neg (by rw [hk, e])
  have rY := ((HR.out.kept hk5 (fun _ _ h => by cases h)).kept kp hng).kept kc h.ne
  have hg5' : ∀ k, g5 = some k → w1.heap.size ≤ k := fun k hk => by
    rcases hg5 k hk with h | h
    · cases h
    · exact h
  have oX := (hown5.kept kp (fun k hk e => by have := hg5' k hk; omega)).kept kc (fun k hk e => by have := hg5' k hk; omega)
  have s6 := kp.size
  have s7 := kc.size
  have K7 : Kept (fun k => k = c ∨ k = p) w w7 := (((k1.mono (fun _ _ h => .inl h)).trans (hk5.mono (fun _ _ h => by cases h))).trans (kp.mono (fun _ _ h => .inr h))).trans (kc.mono (fun _ _ h => .inl h))
  have hlen5 := hown5.shape
  refine bodyPost_end (v := .tuple #[]) (by simp [results, Tryz.results139]) rfl ⟨K7, .inr ⟨X, Y, _, [.slice a5 n k5], HP.out, rfl, ⟨⟨_, q3, by rw [hY]; exact rY⟩, h.ne, by omega⟩, ⟨q4, hb.ne, hb.neg⟩, Put.one _ _ _ (Array.getElem?_eq_some_iff.1 hz).1, _, rfl, ?_⟩⟩
  have oX' := oX.reads
  rw [← hX] at oX' hlen5 ⊢
  refine reads_list oX' (fun k hk => ⟨by have := hg5' k hk; omega, oX.lt k hk⟩) (fun a' c' he => ?_)
  obtain ⟨a'', c'', e1, e2, e3⟩ := hlen5
  simp only [Value.slice.injEq] at he e1
  obtain ⟨-, -, rfl⟩ := he
  obtain ⟨-, -, rfl⟩ := e1
  exact ⟨e2, e3⟩
theorem textG_c {w : World} {c p o : Nat} {bs : List UInt8} {g : Option Nat} {cur : Array Value} {t : TypeId} (h : Rd w c bs g) (hgl : ∀ k, g = some k → k < w.heap.size) (hb : Blk w p cur t c g) (hz : cur[o]? = some (.string ⟨#[]⟩)) :
    Calls Tryz.prog 78 #[.pointer (some ⟨c, 0, none⟩), .pointer (some ⟨p, o, none⟩)] w (Got textIs pT bs w c p o g cur t) := by
  have p0 : w.cell? ⟨p, o, none⟩ = some (.string ⟨#[]⟩) := (cell_in hb.heap).trans hz
  have hlp := lt_in hb.heap
  have hlc := h.lt
  have hcv := Go.Lib.run_convert_string_bytes (P := Tryz.prog) w 9 22 5 ⟨#[]⟩ Tryz.underlying9 Tryz.underlying22 Tryz.underlying5
  have hKB := bytesWorld_kept (fun _ => False) w 5 ⟨#[]⟩
  have hSB := Go.Lib.bytesWorld_size w 5 ⟨#[]⟩
  generalize Go.Lib.bytesWorld w 5 ⟨#[]⟩ = wb at hcv hKB hSB
  obtain ⟨cap, hcap⟩ : ∃ cap, cap = grownCap w (⟨#[]⟩ : ByteArray).size 0 5 := ⟨_, rfl⟩
  rw [← hcap] at hcv
  have hs0 : (⟨#[]⟩ : ByteArray).size = 0 := rfl
  rw [hs0] at hcv
  clear hcap
  go_enter Tryz.func78, Tryz.ntmps78
  go_wp2_with fail
  have x1 : (wb.alloc (Obj.cells #[Value.slice (some ⟨w.heap.size, 0, none⟩) 0 cap] 22)).heap[wb.heap.size]? = some (Obj.cells #[Value.slice (some ⟨w.heap.size, 0, none⟩) 0 cap] 22) := heap_alloc_new' _ _
  rw [hSB] at x1
  have k1 : Kept (fun _ => False) w (wb.alloc (Obj.cells #[Value.slice (some ⟨w.heap.size, 0, none⟩) 0 cap] 22)) := hKB.al _
  have s1 : (wb.alloc (Obj.cells #[Value.slice (some ⟨w.heap.size, 0, none⟩) 0 cap] 22)).heap.size = w.heap.size + 1 + 1 := by simp [hSB]
  generalize wb.alloc (Obj.cells #[Value.slice (some ⟨w.heap.size, 0, none⟩) 0 cap] 22) = w1 at x1 k1 s1 ⊢
  have h1 : Rd w1 c bs g := h.kept k1
  have b1 : Blk w1 (w.heap.size + 1) #[Value.slice (some ⟨w.heap.size, 0, none⟩) 0 cap] 22 c g := ⟨x1, by omega, fun e => by have := hgl _ e; omega⟩
  refine (bytesG_c (o := 0) h1 (fun k hk => by have := hgl k hk; omega) b1 rfl).mono ?_
  have hbp1 := hb.kept k1 (fun h => h)
  rintro e w2 ⟨k2, ⟨hp, rfl, -⟩ | ⟨X, r, cur2, cs2, hp, rfl, h2, b2, put2, v2, rfl, l2⟩⟩
  · exact ⟨rfl, (k1.mono (fun _ _ h => h.elim)).thn k2 (fun i hi => by rcases hi with rfl | rfl; exact .inl (.inl rfl); exact .inr (by omega)), .inl ⟨by unfold pT; rw [hp]; rfl, rfl, (hbp1.kept k2 (fun e => by rcases e with e | e; exact hb.ne e; omega)).was⟩⟩
  have hbp2 := hbp1.kept k2 (fun e => by rcases e with e | e; exact hb.ne e; omega)
  obtain ⟨gx, rx, -⟩ := l2.reads
  have hst := Reads.string_run (P := Tryz.prog) rx Tryz.underlying22 Tryz.underlying5 Tryz.underlying9
  obtain ⟨ax, cx, rfl, -⟩ := l2.shape
  have zb : w2.cell? ⟨w.heap.size + 1, 0, none⟩ = some (.slice ax X.length cx) := (cell_in b2.heap).trans (by simpa using put2.at_ 0 (by simp))
  have lb := lt_in b2.heap
  have zp : w2.cell? ⟨p, o, none⟩ = some (.string ⟨#[]⟩) := (cell_in hbp2.heap).trans hz
  have fp : w2.frozen? ⟨p, o, none⟩ = false := frozen_in hbp2.heap
  have lp2 := lt_in hbp2.heap
  have HPT : Hid (pT bs = some (⟨X.toArray⟩, r)) := Lib.hid (by unfold pT; rw [hp]; rfl)
  have HB := Lib.hid hbp2
  obtain ⟨sx, hsx⟩ : ∃ sx : ByteArray, sx = ⟨X.toArray⟩ := ⟨_, rfl⟩
  rw [← hsx] at hst HPT
  clear p0 hcv x1 h1 b1 hbp1 hbp2 rx l2 hp b2 put2 hsx
  go_wp2
  have kp : Kept (· = p) w2 (w2.setCell ⟨p, o, none⟩ (.string sx)) := Kept.setCell _ _ _ rfl
  have q1 := heap_setCell_same (o := o) HB.out.heap (.string sx)
  generalize w2.setCell ⟨p, o, none⟩ (.string sx) = w3 at kp q1 ⊢
  have K3 : Kept (fun k => k = c ∨ k = p) w w3 := ((k1.mono (fun _ _ h => h.elim)).thn k2 (fun i hi => by rcases hi with rfl | rfl; exact .inl (.inl rfl); exact .inr (by omega))).trans (kp.mono (fun _ _ h => .inr h))
  exact bodyPost_end (v := .tuple #[]) (by simp [results, Tryz.results78]) rfl ⟨K3, .inr ⟨sx, r, _, [.string sx], HPT.out, rfl, h2.kept kp (fun e => hb.ne e.symm) (fun k hk e => hb.neg (by rw [hk, e])), ⟨q1, hb.ne, hb.neg⟩, Put.one _ _ _ (Array.getElem?_eq_some_iff.1 hz).1, rfl⟩⟩
theorem errnoG_c {w : World} {c p o : Nat} {bs : List UInt8} {g : Option Nat} {cur : Array Value} {t : TypeId} (h : Rd w c bs g) (hgl : ∀ k, g = some k → k < w.heap.size) (hb : Blk w p cur t c g) (hz : cur[o]? = some (.int .i64 0)) :
    Calls Tryz.prog 79 #[.pointer (some ⟨c, 0, none⟩), .pointer (some ⟨p, o, none⟩)] w (Got intIs pI bs w c p o g cur t) := by
  have p0 : w.cell? ⟨p, o, none⟩ = some (.int .i64 0) := (cell_in hb.heap).trans hz
  have hlp := lt_in hb.heap
  have hlc := h.lt
  go_enter Tryz.func79, Tryz.ntmps79
  go_wp2_with fail
  have x1 : (w.alloc (Obj.cells #[Value.int IntKind.i64 0] 3)).heap[w.heap.size]? = some (Obj.cells #[Value.int IntKind.i64 0] 3) := heap_alloc_new' _ _
  have k1 : Kept (fun _ => False) w (w.alloc (Obj.cells #[Value.int IntKind.i64 0] 3)) := Kept.alloc _ _ _
  have s1 : (w.alloc (Obj.cells #[Value.int IntKind.i64 0] 3)).heap.size = w.heap.size + 1 := by simp
  generalize w.alloc (Obj.cells #[Value.int IntKind.i64 0] 3) = w1 at x1 k1 s1 ⊢
  have h1 : Rd w1 c bs g := h.kept k1
  have b1 : Blk w1 w.heap.size #[Value.int IntKind.i64 0] 3 c g := ⟨x1, by omega, fun e => by have := hgl _ e; omega⟩
  refine (numI_c (o := 0) (m := 0) h1 b1 rfl).mono ?_
  have hbp1 := hb.kept k1 (fun h => h)
  rintro e w2 ⟨k2, ⟨hp, rfl, -⟩ | ⟨X, r, cur2, cs2, hp, rfl, h2, b2, put2, rfl, hin⟩⟩
  · exact ⟨rfl, (k1.mono (fun _ _ h => h.elim)).thn k2 (fun i hi => by rcases hi with rfl | rfl; exact .inl (.inl rfl); exact .inr (by omega)), .inl ⟨hp, rfl, (hbp1.kept k2 (fun e => by rcases e with e | e; exact hb.ne e; omega)).was⟩⟩
  have hbp2 := hbp1.kept k2 (fun e => by rcases e with e | e; exact hb.ne e; omega)
  have zb : w2.cell? ⟨w.heap.size, 0, none⟩ = some (.int .i64 X) := (cell_in b2.heap).trans (by simpa using put2.at_ 0 (by simp))
  have lb := lt_in b2.heap
  have zp : w2.cell? ⟨p, o, none⟩ = some (.int .i64 0) := (cell_in hbp2.heap).trans hz
  have fp : w2.frozen? ⟨p, o, none⟩ = false := frozen_in hbp2.heap
  have lp2 := lt_in hbp2.heap
  have HPT := Lib.hid hp
  have HB := Lib.hid hbp2
  clear p0 x1 h1 b1 hbp1 hbp2 hp b2 put2
  go_wp2
  have kp : Kept (· = p) w2 (w2.setCell ⟨p, o, none⟩ (.int .i64 X)) := Kept.setCell _ _ _ rfl
  have q1 := heap_setCell_same (o := o) HB.out.heap (.int .i64 X)
  generalize w2.setCell ⟨p, o, none⟩ (.int .i64 X) = w3 at kp q1 ⊢
  have K3 : Kept (fun k => k = c ∨ k = p) w w3 := ((k1.mono (fun _ _ h => h.elim)).thn k2 (fun i hi => by rcases hi with rfl | rfl; exact .inl (.inl rfl); exact .inr (by omega))).trans (kp.mono (fun _ _ h => .inr h))
  exact bodyPost_end (v := .tuple #[]) (by simp [results, Tryz.results79]) rfl ⟨K3, .inr ⟨X, r, _, [.int .i64 X], HPT.out, rfl, h2.kept kp (fun e => hb.ne e.symm) (fun k hk e => hb.neg (by rw [hk, e])), ⟨q1, hb.ne, hb.neg⟩, Put.one _ _ _ (Array.getElem?_eq_some_iff.1 hz).1, rfl, hin⟩⟩
theorem crcG_c {w : World} {c p o : Nat} {bs : List UInt8} {g : Option Nat} {cur : Array Value} {t : TypeId} (h : Rd w c bs g) (hb : Blk w p cur t c g) (hz : cur[o]? = some (.int .u32 0)) :
    Calls Tryz.prog 141 #[.pointer (some ⟨c, 0, none⟩), .pointer (some ⟨p, o, none⟩)] w (Got crcIs (pW 4) bs w c p o g cur t) := by
  have p0 : w.cell? ⟨p, o, none⟩ = some (.int .u32 0) := (cell_in hb.heap).trans hz
  have hlp := lt_in hb.heap
  go_enter Tryz.func141, Tryz.ntmps141
  go_wp2_with fail
  refine (wordG_c 0 4 (by omega) h).mono ?_
  rintro e w1 ⟨k1, ⟨V, r, hp, rfl, H1⟩ | ⟨hp, rfl⟩⟩
  rotate_left
  · exact ⟨rfl, k1.mono (fun _ _ h => .inl h), .inl ⟨hp, rfl, (hb.kept k1 hb.ne).was⟩⟩
  have hV := (lawW.dec _ _ _ hp).2
  have e3 : (V : Int) % 4294967296 = (V : Int) := by omega
  have e3' : IntKind.u32.wrap (V : Int) = (V : Int) := by simp [IntKind.wrap, IntKind.bits, IntKind.signed]; omega
  have hb1 := hb.kept k1 hb.ne
  have z1 : w1.cell? ⟨p, o, none⟩ = some (.int .u32 0) := (cell_in hb1.heap).trans hz
  have f1 : w1.frozen? ⟨p, o, none⟩ = false := frozen_in hb1.heap
  have l1 := lt_in hb1.heap
  have HPT := Lib.hid hp
  have HB := Lib.hid hb1
  clear p0 hp hb1
  go_wp2
  have kp : Kept (· = p) w1 (w1.setCell ⟨p, o, none⟩ (.int .u32 V)) := Kept.setCell _ _ _ rfl
  have q1 := heap_setCell_same (o := o) HB.out.heap (.int .u32 V)
  generalize w1.setCell ⟨p, o, none⟩ (.int .u32 V) = w3 at kp q1 ⊢
  have K3 : Kept (fun k => k = c ∨ k = p) w w3 := (k1.mono (fun _ _ h => .inl h)).trans (kp.mono (fun _ _ h => .inr h))
  exact bodyPost_end (v := .tuple #[]) (by simp [results, Tryz.results141]) rfl ⟨K3, .inr ⟨V, r, _, [.int .u32 V], HPT.out, rfl, H1.kept kp (fun e => hb.ne e.symm) (fun k hk e => hb.neg (by rw [hk, e])), ⟨q1, hb.ne, hb.neg⟩, Put.one _ _ _ (Array.getElem?_eq_some_iff.1 hz).1, rfl, hV⟩⟩
end Go.Proofs.YtmbjealliinpdaaGreat
end

section

namespace Go.Proofs.YtmbjealliinpdaaGreat
open Go.RowKit
section
variable {P : Program}
theorem run_load_block {w : World} {b : Nat} {cs : Array Value} {e t : TypeId} {fz : Nat × Nat} {i : TypeInfo} (hh : w.heap[b]? = some (.cells cs e fz)) (ha : (isAgg t).run P w = .ok true w) (hi : P.info? t = some i) (hn : i.size = cs.size) :
    (Instr.loadAt t (.pointer (some ⟨b, 0, none⟩))).run P w = .ok (.agg cs) w := by
  have h1 := run_loadCells_list (P := P) w ⟨b, 0, none⟩ cs.toList (fun j v hv => by
    rw [addr_add, Nat.zero_add, cell_in hh]
    simpa using hv)
  have h2 : (sizeOf t).run P w = .ok cs.size w := by simp [sizeOf, typeInfo, hi, hn]
  simp only [Array.length_toList, Array.toArray_toList] at h1
  simp [Instr.loadAt, Instr.sureAddr, loadVar, ha, h2, h1]
theorem wpList_load_block {w : World} {ops : Array Oper} {rest : List Oper} {o : Oper} {a : Act} {Q : Exit → Act → World → Prop} (hgd : Region.wanted o (yielded ops a.tmps) = true) (t : TypeId) (x : Operand) (ho : o.op = .load t x)
    {b : Nat} (hx : a.eval x = .pointer (some ⟨b, 0, none⟩)) {cs : Array Value} {e : TypeId} {fz : Nat × Nat} {i : TypeInfo} (hh : w.heap[b]? = some (.cells cs e fz)) (ha : (isAgg t).run P w = .ok true w) (hi : P.info? t = some i) (hn : i.size = cs.size)
    (h : wpList P ops Q rest (a.put o.dst (.agg cs)) w) : wpList P ops Q (o :: rest) a w := by
  have hr := run_load_block (P := P) hh ha hi hn
  refine BigFrame.wpList_want hgd fun _ hK => ?_
  unfold Oper.wp execOp
  simp only [ho, hx, Sem.run_bind, Sem.run_pure, Result.andThen_ok, hr]
  exact hK _ _ h
theorem heap_setRow {w : World} {b : Nat} {cur cs : Array Value} {e : TypeId} {fz : Nat × Nat} (hh : w.heap[b]? = some (.cells cur e fz)) : (w.setRow b cs).heap[b]? = some (.cells cs e fz) := by
  unfold World.setRow
  simp only [Array.getElem?_modify, hh, Option.map_some, if_true]
theorem kept_setRow {F : Nat → Prop} (w : World) (b : Nat) (cs : Array Value) (h : F b) : Kept F w (w.setRow b cs) := by
  refine ⟨rfl, rfl, rfl, by simp [World.setRow], fun k hk hF => ?_⟩
  have : k ≠ b := fun h' => hF (h' ▸ h)
  unfold World.setRow
  rw [Array.getElem?_modify, if_neg (fun h' => this h'.symm)]
theorem wpList_store_block {w : World} {ops : Array Oper} {rest : List Oper} {o : Oper} {a : Act} {Q : Exit → Act → World → Prop} (hgd : Region.wanted o (yielded ops a.tmps) = true) (t : TypeId) (x y : Operand) (ho : o.op = .store t x y)
    {b : Nat} (hx : a.eval x = .pointer (some ⟨b, 0, none⟩)) {cur cs : Array Value} (hy : a.eval y = .agg cs) {e : TypeId} {i : TypeInfo} (hh : w.heap[b]? = some (.cells cur e)) (hi : P.info? t = some i) (hn : i.size = cs.size) (hc : cur.size = cs.size) (h1 : cs.toList.all (·.oneCell') = true)
    (h : ∀ w', Kept (fun k => k = b) w w' → w'.heap[b]? = some (.cells cs e) → w'.heap.size = w.heap.size → wpList P ops Q rest (a.put o.dst undef) w') : wpList P ops Q (o :: rest) a w := by
  have h2 : (sizeOf t).run P w = .ok cs.size w := by simp [sizeOf, typeInfo, hi, hn]
  have h3 := run_storeCells_from (P := P) b e cs.toList 0 cur w hh (by simp [hc]) (fun v hv => List.all_eq_true.1 h1 v hv)
  simp only [List.take_zero, List.nil_append, Array.toArray_toList] at h3
  have hr : (Instr.storeAt t (.pointer (some ⟨b, 0, none⟩)) (.agg cs)).run P w = .ok () (w.setRow b cs) := by
    simp [Instr.storeAt, Instr.sureAddr, storeVar, Value.cells, h2, h3]
  refine BigFrame.wpList_want hgd fun _ hK => ?_
  unfold Oper.wp execOp
  simp only [ho, hx, hy, Sem.run_bind, Sem.run_pure, Result.andThen_ok, hr]
  exact hK _ _ (h _ (kept_setRow w b cs rfl) (heap_setRow hh) (by simp [World.setRow]))
theorem setRow_same {w : World} {b : Nat} {cs : Array Value} {e : TypeId} {fz : Nat × Nat} (hh : w.heap[b]? = some (.cells cs e fz)) : w.setRow b cs = w := by
  obtain ⟨heap, tape, drawn, os, output⟩ := w
  unfold World.setRow
  simp only [World.mk.injEq, and_true]
  apply Array.ext'
  apply List.ext_getElem?
  intro k
  simp only [Array.getElem?_toList, Array.getElem?_modify]
  by_cases hk : b = k
  · subst hk
    simp only at hh
    simp only [hh, Option.map_some, if_true]
  · rw [if_neg hk]
/-- What is stored stands there already. -/
theorem wpList_store_same {w : World} {ops : Array Oper} {rest : List Oper} {o : Oper} {a : Act} {Q : Exit → Act → World → Prop} (hgd : Region.wanted o (yielded ops a.tmps) = true) (t : TypeId) (x y : Operand) (ho : o.op = .store t x y)
    {b : Nat} (hx : a.eval x = .pointer (some ⟨b, 0, none⟩)) {cs : Array Value} (hy : a.eval y = .agg cs) {e : TypeId} {i : TypeInfo} (hh : w.heap[b]? = some (.cells cs e)) (hi : P.info? t = some i) (hn : i.size = cs.size) (h1 : cs.toList.all (·.oneCell') = true)
    (h : wpList P ops Q rest (a.put o.dst undef) w) : wpList P ops Q (o :: rest) a w := by
  have h2 : (sizeOf t).run P w = .ok cs.size w := by simp [sizeOf, typeInfo, hi, hn]
  have h3 := run_storeCells_from (P := P) b e cs.toList 0 cs w hh (by simp) (fun v hv => List.all_eq_true.1 h1 v hv)
  simp only [List.take_zero, List.nil_append, Array.toArray_toList, setRow_same hh] at h3
  have hr : (Instr.storeAt t (.pointer (some ⟨b, 0, none⟩)) (.agg cs)).run P w = .ok () w := by
    simp [Instr.storeAt, Instr.sureAddr, storeVar, Value.cells, h2, h3]
  refine BigFrame.wpList_want hgd fun _ hK => ?_
  unfold Oper.wp execOp
  simp only [ho, hx, hy, Sem.run_bind, Sem.run_pure, Result.andThen_ok, hr]
  exact hK _ _ h
theorem wpList_alloc_block {w : World} {ops : Array Oper} {rest : List Oper} {o : Oper} {a : Act} {Q : Exit → Act → World → Prop} (hgd : Region.wanted o (yielded ops a.tmps) = true) (t : TypeId) (ho : o.op = .alloc t)
    {z : Array Value} (hz : (zeroValue t).run P w = .ok (.agg z) w) (b : Nat) (hb : w.heap.size = b)
    (h : wpList P ops Q rest (a.put o.dst (.pointer (some ⟨b, 0, none⟩))) (w.alloc (.cells z t))) : wpList P ops Q (o :: rest) a w := by
  subst hb
  have hr : (Instr.alloc t true (.tuple #[])).run P w = .ok (.pointer (some ⟨w.heap.size, 0, none⟩)) (w.alloc (.cells z t)) := by
    simp [Instr.alloc, hz, newVar, newRow, Value.cells]
  refine BigFrame.wpList_want hgd fun _ hK => ?_
  unfold Oper.wp execOp
  simp only [ho, Sem.run_bind, Sem.run_pure, Result.andThen_ok, hr]
  exact hK _ _ h
end
end Go.Proofs.YtmbjealliinpdaaGreat
end

section

namespace Go.Proofs.YtmbjealliinpdaaGreat
open Go.RowKit
/-- What a reader of the document's gives: cells, that are the value if the bytes were good. -/
def Red {α : Type} (size : Nat) (mk : List Value → Value) (R : World → (Nat → Prop) → List Value → α → Prop) (p : Pr α) (o : Option (List UInt8)) (w : World) (q : Nat) (g : Option Nat) (e : Ending) (w' : World) : Prop :=
  Kept (· = q) w w' ∧ Dr w' q (After o p) g ∧ ∃ cs : List Value, e = .returned (mk cs) ∧ cs.length = size ∧ (∀ u ∈ cs, u.oneCell' = true) ∧ ∀ x r, o.bind p = some (x, r) → R w' (New w w') cs x
/-- A reader whose x (block p) has its first fields. -/
structure Fl (w w1 : World) (q p : Nat) (t : TypeId) (z cur : Array Value) (g : Option Nat) (o : Option (List UInt8)) (cs : List Value) (D : World → Prop) : Prop where
  dr : Dr w1 q o g
  blk : w1.heap[p]? = some (.cells cur t)
  put : Put z 0 cs cur
  one : ∀ u ∈ cs, u.oneCell' = true
  kept : Kept (· = q) w w1
  res : w1.heap[w.heap.size]? = some (.cells z t)
  new : p = w.heap.size + 1
  ql : q < w.heap.size
  gl : ∀ k, g = some k → k < w.heap.size
  data : ∀ w', Kept (fun k => k = q ∨ k = p ∨ k = w.heap.size) w1 w' → D w'
theorem Fl.start {w : World} {q : Nat} (t : TypeId) (z : Array Value) {g : Option Nat} {o : Option (List UInt8)} (h : Dr w q o g) (hg : ∀ k, g = some k → k < w.heap.size) : Fl w ((w.alloc (.cells z t)).alloc (.cells z t)) q (w.heap.size + 1) t z z g o [] (fun _ => True) := by
  obtain ⟨k, h1, h2⟩ := two_new w (.cells z t) (.cells z t)
  exact ⟨h.kept k, h2, Put.nil _ _, (fun u h => by cases h), k.mono (fun _ _ h => h.elim), h1, rfl, h.lt, hg, fun _ _ => trivial⟩
theorem Fl.size {w w1 : World} {q p : Nat} {t : TypeId} {z cur : Array Value} {g : Option Nat} {o : Option (List UInt8)} {cs : List Value} {D : World → Prop} (h : Fl w w1 q p t z cur g o cs D) : w.heap.size + 2 ≤ w1.heap.size := by
  have := lt_in h.blk
  have := h.new
  omega
theorem Fl.ne {w w1 : World} {q p : Nat} {t : TypeId} {z cur : Array Value} {g : Option Nat} {o : Option (List UInt8)} {cs : List Value} {D : World → Prop} (h : Fl w w1 q p t z cur g o cs D) : p ≠ q ∧ w.heap.size ≠ q ∧ p ≠ w.heap.size := by
  have := h.new
  have := h.ql
  omega
theorem Fl.step {α : Type} {R : World → (Nat → Prop) → List Value → α → Prop} (hR : Stable R) {pr : Pr α} {w w1 w2 w3 : World} {q p : Nat} {t : TypeId} {z cur cur3 : Array Value} {g : Option Nat} {o : Option (List UInt8)} {cs cs2 : List Value} {D : World → Prop}
    (h : Fl w w1 q p t z cur g o cs D) (k2 : Kept (· = q) w1 w2) (d2 : Dr w2 q (After o pr) g) (o2 : ∀ u ∈ cs2, u.oneCell' = true) (hF : ∀ x r, o.bind pr = some (x, r) → R w2 (New w1 w2) cs2 x)
    (k3 : Kept (· = p) w2 w3) (b3 : w3.heap[p]? = some (.cells cur3 t)) (p3 : Put cur cs.length cs2 cur3) :
    Fl w w3 q p t z cur3 g (After o pr) (cs ++ cs2) (fun w' => D w' ∧ ∀ x r, o.bind pr = some (x, r) → R w' (New w w') cs2 x) := by
  have hpq : q ≠ p := fun e => by have := h.new; have := h.ql; omega
  have s0 := h.kept.size
  have s2 := k2.size
  have s3 := k3.size
  have lp := lt_in h.blk
  have hsz := h.size
  have hne := h.ne
  refine ⟨d2.kept k3 hpq (fun k hk e => by have := h.gl k hk; have := h.new; omega), b3, h.put.append (by rw [Nat.zero_add]; exact p3), fun u hu => ?_, (h.kept.trans k2).thn k3 (fun i hi => .inr (by have := h.new; omega)), ?_, h.new, h.ql, h.gl, fun w' hw => ⟨h.data w' ?_, fun x r hx => ?_⟩⟩
  · rcases List.mem_append.1 hu with h' | h'
    · exact h.one u h'
    · exact o2 u h'
  · rw [k3.block _ (by omega) (fun e => hne.2.2 e.symm), k2.block _ (by omega) hne.2.1]
    exact h.res
  · exact ((k2.mono (fun _ _ e => .inl e)).trans (k3.mono (fun _ _ e => .inr (.inl e)))).trans hw
  · have s4 := hw.size
    refine hR _ _ _ _ _ _ (hF x r hx) (fun k hk => ⟨by have := hk.1; omega, by have := hk.2; omega⟩) (fun k hk => ?_)
    have h1 := hk.1
    have h2 := hk.2
    rw [hw.block k (by omega) (fun e => by have := h.ql; have := h.new; rcases e with e | e | e <;> omega), k3.block k h2 (by omega)]
theorem Fl.full {w w1 : World} {q p : Nat} {t : TypeId} {z cur : Array Value} {g : Option Nat} {o : Option (List UInt8)} {cs : List Value} {D : World → Prop} (h : Fl w w1 q p t z cur g o cs D) (hn : z.size = cs.length) : cur = cs.toArray := h.put.full hn
theorem Fl.all {w w1 : World} {q p : Nat} {t : TypeId} {z cur : Array Value} {g : Option Nat} {o : Option (List UInt8)} {cs : List Value} {D : World → Prop} (h : Fl w w1 q p t z cur g o cs D) (hn : z.size = cs.length) : cur.toList.all (·.oneCell') = true := by
  rw [h.full hn]
  exact List.all_eq_true.2 (fun u hu => h.one u (by simpa using hu))
theorem Fl.red {α : Type} {R : World → (Nat → Prop) → List Value → α → Prop} {pr : Pr α} {o : Option (List UInt8)} {w w1 w2 : World} {q p : Nat} {t : TypeId} {z cur : Array Value} {g : Option Nat} {o' : Option (List UInt8)} {cs : List Value} {D : World → Prop} (h : Fl w w1 q p t z cur g o' cs D) (hn : z.size = cs.length) (k : Kept (fun k => k = w.heap.size) w1 w2) (ha : After o pr = o') (hd : D w2 → ∀ x r, o.bind pr = some (x, r) → R w2 (New w w2) cs x) : Red z.size (fun cs => .agg cs.toArray) R pr o w q g (.returned (.agg cur)) w2 := by
  have hne := h.ne
  have hsz := h.size
  have hql := h.ql
  refine ⟨h.kept.thn k (fun i hi => .inr (by omega)), ?_, cs, by rw [h.full hn], hn.symm, h.one, hd (h.data w2 (k.mono (fun _ _ e => .inr (.inr e))))⟩
  rw [ha]
  exact h.dr.kept k (fun e => hne.2.1 e.symm) (fun k hk e => by have := h.gl k hk; omega)
section
variable {P : Program}
theorem wpList_store_put {w : World} {ops : Array Oper} {rest : List Oper} {o : Oper} {a : Act} {Q : Exit → Act → World → Prop} (hgd : Region.wanted o (yielded ops a.tmps) = true) (t : TypeId) (x y : Operand) (ho : o.op = .store t x y)
    {b off : Nat} (hx : a.eval x = .pointer (some ⟨b, off, none⟩)) {v : Value} (hy : a.eval y = v) {cs : List Value} (hv : v.cells = cs.toArray) {cur : Array Value} {e : TypeId} (hh : w.heap[b]? = some (.cells cur e)) (hn : (P.info? t).map (·.size) = some cs.length) (hc : off + cs.length ≤ cur.size) (h1 : ∀ u ∈ cs, u.oneCell' = true)
    (h : ∀ w' cur', Kept (fun k => k = b) w w' → w'.heap[b]? = some (.cells cur' e) → Put cur off cs cur' → w'.heap.size = w.heap.size → wpList P ops Q rest (a.put o.dst undef) w') : wpList P ops Q (o :: rest) a w := by
  obtain ⟨i, hi, his⟩ : ∃ i, P.info? t = some i ∧ i.size = cs.length := by
    cases hq : P.info? t with
    | none => simp [hq] at hn
    | some i => exact ⟨i, rfl, by simpa [hq] using hn⟩
  have h2 : (sizeOf t).run P w = .ok cs.length w := by simp [sizeOf, typeInfo, hi, his]
  have h3 := run_storeCells_cells (P := P) b off cs 0 w (fun j hj => by rw [Nat.add_zero, cell_in hh, Array.getElem?_eq_getElem (by omega)]; rfl) (fun j hj => frozen_in hh) h1
  rw [Nat.add_zero] at h3
  have hr : (Instr.storeAt t (.pointer (some ⟨b, off, none⟩)) v).run P w = .ok () (w.setCells b off cs) := by
    simp [Instr.storeAt, Instr.sureAddr, storeVar, hv, h2, h3]
  obtain ⟨cur', q1, q2, q3⟩ := heap_setCells cs off w cur hh hc
  refine BigFrame.wpList_want hgd fun _ hK => ?_
  unfold Oper.wp execOp
  simp only [ho, hx, hy, Sem.run_bind, Sem.run_pure, Result.andThen_ok, hr]
  exact hK _ _ (h _ cur' (Kept.setCells w b off cs rfl) q1 ⟨q2, fun f hf => by rw [q3, if_pos (by omega)]; congr 1; omega, fun j hj => by rw [q3, if_neg (by omega)]⟩ (size_setCells' b cs off w))
/-- A field's value is put behind the fields that are there. -/
theorem wpList_store_fl {α : Type} {R : World → (Nat → Prop) → List Value → α → Prop} (hR : Stable R) {pr : Pr α} {w w1 w2 : World} {q p : Nat} {tx : TypeId} {z cur : Array Value} {g : Option Nat} {oo : Option (List UInt8)} {cs cs2 : List Value} {D : World → Prop}
    (hf : Fl w w1 q p tx z cur g oo cs D) (k2 : Kept (· = q) w1 w2) (d2 : Dr w2 q (After oo pr) g) (o2 : ∀ u ∈ cs2, u.oneCell' = true) (hF : ∀ x r, oo.bind pr = some (x, r) → R w2 (New w1 w2) cs2 x)
    {ops : Array Oper} {rest : List Oper} {o : Oper} {a : Act} {Q : Exit → Act → World → Prop} (hgd : Region.wanted o (yielded ops a.tmps) = true) (t : TypeId) (x y : Operand) (ho : o.op = .store t x y)
    {off : Nat} (hx : a.eval x = .pointer (some ⟨p, off, none⟩)) (hoff : off = cs.length) {v : Value} (hy : a.eval y = v) (hv : v.cells = cs2.toArray) (hn : (P.info? t).map (·.size) = some cs2.length) (hc : cs.length + cs2.length ≤ z.size)
    (h : ∀ w3 cur3, Fl w w3 q p tx z cur3 g (After oo pr) (cs ++ cs2) (fun w' => D w' ∧ ∀ x r, oo.bind pr = some (x, r) → R w' (New w w') cs2 x) → w3.heap.size = w2.heap.size → wpList P ops Q rest (a.put o.dst undef) w3) : wpList P ops Q (o :: rest) a w2 := by
  subst hoff
  have hpq : p ≠ q := hf.ne.1
  have hb2 : w2.heap[p]? = some (.cells cur tx) := (k2.block _ (lt_in hf.blk) hpq).trans hf.blk
  refine wpList_store_put hgd t x y ho hx hy hv hb2 hn (by rw [hf.put.size]; exact hc) o2 ?_
  intro w3 cur3 k3 b3 p3 s3
  exact h w3 cur3 (hf.step hR k2 d2 o2 hF k3 b3 p3) s3
theorem run_loadVar_block {w : World} {b : Nat} {cs : Array Value} {e t : TypeId} {fz : Nat × Nat} (hh : w.heap[b]? = some (.cells cs e fz)) (ha : (isAgg t).run P w = .ok true w) (hi : (P.info? t).map (·.size) = some cs.size) : (loadVar t ⟨b, 0, none⟩).run P w = .ok (.agg cs) w := by
  obtain ⟨i, h1, h2⟩ : ∃ i, P.info? t = some i ∧ i.size = cs.size := by
    cases hq : P.info? t with
    | none => simp [hq] at hi
    | some i => exact ⟨i, rfl, by simpa [hq] using hi⟩
  have h := run_load_block (P := P) hh ha h1 h2
  simpa [Instr.loadAt, Instr.sureAddr] using h
end
theorem after_some {α : Type} {o : Option (List UInt8)} {p : Pr α} {x : α} {r : List UInt8} (h : o.bind p = some (x, r)) : After o p = some r := by unfold After; rw [h]; rfl
theorem after_none {α : Type} {o : Option (List UInt8)} {p : Pr α} (h : o.bind p = none) : After o p = none := by unfold After; rw [h]; rfl
end Go.Proofs.YtmbjealliinpdaaGreat
end

section

namespace Go.Proofs.YtmbjealliinpdaaGreat
open Go.RowKit
structure VersionT where
  epoch : Int
  n : Int
def VersionT.Is (w : World) (S : Nat → Prop) (cs : List Value) (x : VersionT) : Prop := cs = [Value.int IntKind.i64 x.epoch, Value.int IntKind.i64 x.n] ∧ in64 x.epoch ∧ in64 x.n
def VersionT.enc (x : VersionT) : List UInt8 := [] ++ encI x.epoch ++ encI x.n
theorem VersionT.Is.heap {w w' : World} {S S' : Nat → Prop} {cs : List Value} {x : VersionT} (h : VersionT.Is w S cs x) : VersionT.Is w' S' cs x := h
theorem putVersion_c {w : World} {v : Value} {out : List UInt8} {g : Option Nat} (h : Own w 5 1 v out.length (out.map bv) g) (x : VersionT) (hi : in64 x.epoch ∧ in64 x.n) (hm : out.length + x.enc.length ≤ 140737488353500) :
    Calls Tryz.prog 123 #[v, .agg #[Value.int IntKind.i64 x.epoch, Value.int IntKind.i64 x.n]] w fun e w' => ∃ v', e = .returned v' ∧ Grew w w' v' out g x.enc := by
  obtain ⟨i0, i1⟩ := hi
  simp only [VersionT.enc] at hm ⊢
  obtain ⟨a0, c0, rfl, -, -⟩ := h.shape
  go_enter Tryz.func123, Tryz.ntmps123
  go_wp2_with fail
  have x0 : (w.alloc (Obj.cells #[Value.int IntKind.i64 x.epoch, Value.int IntKind.i64 x.n] 31)).heap[w.heap.size]? = some (Obj.cells #[Value.int IntKind.i64 x.epoch, Value.int IntKind.i64 x.n] 31) := heap_alloc_new' _ _
  have S0 := (Out.start h).alloc (Obj.cells #[Value.int IntKind.i64 x.epoch, Value.int IntKind.i64 x.n] 31)
  generalize w.alloc (Obj.cells #[Value.int IntKind.i64 x.epoch, Value.int IntKind.i64 x.n] 31) = w0 at x0 S0 ⊢
  refine (int_c S0.own x.epoch (by have := S0.len; simp only [List.length_append, List.length_nil, encI_length, bB_length, leB_length, encT_length, encBy_length] at this hm; omega)).mono ?_
  rintro e w1 ⟨v1, rfl, hG1⟩
  obtain ⟨L1, g1, S1⟩ := S0.then hG1
  obtain ⟨a1, c1, rfl, -, -⟩ := S1.own.shape
  have x1 : w1.heap[w.heap.size]? = some (Obj.cells #[Value.int IntKind.i64 x.epoch, Value.int IntKind.i64 x.n] 31) := (hG1.old _ (lt_in x0) (fun hh => S0.own.ne x0 (by decide) _ hh rfl)).trans x0
  have z1 : w1.cell? ⟨w.heap.size, 1, none⟩ = some (Value.int IntKind.i64 x.n) := cell_in x1
  have lx := lt_in x1
  go_wp2_with fail
  clear z1 lx
  refine (int_c S1.own x.n (by have := S1.len; simp only [List.length_append, List.length_nil, encI_length, bB_length, leB_length, encT_length, encBy_length] at this hm; omega)).mono ?_
  rintro e w2 ⟨v2, rfl, hG2⟩
  obtain ⟨L2, g2, S2⟩ := S1.then hG2
  obtain ⟨a2, c2, rfl, -, -⟩ := S2.own.shape
  have x2 : w2.heap[w.heap.size]? = some (Obj.cells #[Value.int IntKind.i64 x.epoch, Value.int IntKind.i64 x.n] 31) := (hG2.old _ (lt_in x1) (fun hh => S1.own.ne x1 (by decide) _ hh rfl)).trans x1
  go_wp2
  go_ret
  exact ⟨_, rfl, S2.done⟩
structure PgT where
  pool : Int
  seed : Int
def PgT.Is (w : World) (S : Nat → Prop) (cs : List Value) (x : PgT) : Prop := cs = [Value.int IntKind.i64 x.pool, Value.int IntKind.i64 x.seed] ∧ in64 x.pool ∧ in64 x.seed
def PgT.enc (x : PgT) : List UInt8 := [] ++ encI x.pool ++ encI x.seed
theorem PgT.Is.heap {w w' : World} {S S' : Nat → Prop} {cs : List Value} {x : PgT} (h : PgT.Is w S cs x) : PgT.Is w' S' cs x := h
theorem putPg_c {w : World} {v : Value} {out : List UInt8} {g : Option Nat} (h : Own w 5 1 v out.length (out.map bv) g) (x : PgT) (hi : in64 x.pool ∧ in64 x.seed) (hm : out.length + x.enc.length ≤ 140737488353500) :
    Calls Tryz.prog 92 #[v, .agg #[Value.int IntKind.i64 x.pool, Value.int IntKind.i64 x.seed]] w fun e w' => ∃ v', e = .returned v' ∧ Grew w w' v' out g x.enc := by
  obtain ⟨i0, i1⟩ := hi
  simp only [PgT.enc] at hm ⊢
  obtain ⟨a0, c0, rfl, -, -⟩ := h.shape
  go_enter Tryz.func92, Tryz.ntmps92
  go_wp2_with fail
  have x0 : (w.alloc (Obj.cells #[Value.int IntKind.i64 x.pool, Value.int IntKind.i64 x.seed] 26)).heap[w.heap.size]? = some (Obj.cells #[Value.int IntKind.i64 x.pool, Value.int IntKind.i64 x.seed] 26) := heap_alloc_new' _ _
  have S0 := (Out.start h).alloc (Obj.cells #[Value.int IntKind.i64 x.pool, Value.int IntKind.i64 x.seed] 26)
  generalize w.alloc (Obj.cells #[Value.int IntKind.i64 x.pool, Value.int IntKind.i64 x.seed] 26) = w0 at x0 S0 ⊢
  refine (int_c S0.own x.pool (by have := S0.len; simp only [List.length_append, List.length_nil, encI_length, bB_length, leB_length, encT_length, encBy_length] at this hm; omega)).mono ?_
  rintro e w1 ⟨v1, rfl, hG1⟩
  obtain ⟨L1, g1, S1⟩ := S0.then hG1
  obtain ⟨a1, c1, rfl, -, -⟩ := S1.own.shape
  have x1 : w1.heap[w.heap.size]? = some (Obj.cells #[Value.int IntKind.i64 x.pool, Value.int IntKind.i64 x.seed] 26) := (hG1.old _ (lt_in x0) (fun hh => S0.own.ne x0 (by decide) _ hh rfl)).trans x0
  have z1 : w1.cell? ⟨w.heap.size, 1, none⟩ = some (Value.int IntKind.i64 x.seed) := cell_in x1
  have lx := lt_in x1
  go_wp2_with fail
  clear z1 lx
  refine (int_c S1.own x.seed (by have := S1.len; simp only [List.length_append, List.length_nil, encI_length, bB_length, leB_length, encT_length, encBy_length] at this hm; omega)).mono ?_
  rintro e w2 ⟨v2, rfl, hG2⟩
  obtain ⟨L2, g2, S2⟩ := S1.then hG2
  obtain ⟨a2, c2, rfl, -, -⟩ := S2.own.shape
  have x2 : w2.heap[w.heap.size]? = some (Obj.cells #[Value.int IntKind.i64 x.pool, Value.int IntKind.i64 x.seed] 26) := (hG2.old _ (lt_in x1) (fun hh => S1.own.ne x1 (by decide) _ hh rfl)).trans x1
  go_wp2
  go_ret
  exact ⟨_, rfl, S2.done⟩
structure EntryT where
  version : VersionT
  remove : Bool
  errno : Int
  name : ByteArray
  client : Int
  number : Int
def EntryT.Is (w : World) (S : Nat → Prop) (cs : List Value) (x : EntryT) : Prop := cs = [Value.int IntKind.i64 x.version.epoch, Value.int IntKind.i64 x.version.n, Value.bool x.remove, Value.int IntKind.i64 x.errno, Value.string x.name, Value.int IntKind.i64 x.client, Value.int IntKind.i64 x.number] ∧ in64 x.version.epoch ∧ in64 x.version.n ∧ in64 x.errno ∧ in64 x.client ∧ in64 x.number
def EntryT.enc (x : EntryT) : List UInt8 := [] ++ x.version.enc ++ bB x.remove ++ encI x.errno ++ encT x.name ++ encI x.client ++ encI x.number
theorem EntryT.Is.heap {w w' : World} {S S' : Nat → Prop} {cs : List Value} {x : EntryT} (h : EntryT.Is w S cs x) : EntryT.Is w' S' cs x := h
theorem putEntry_c {w : World} {v : Value} {out : List UInt8} {g : Option Nat} (h : Own w 5 1 v out.length (out.map bv) g) (x : EntryT) (hi : in64 x.version.epoch ∧ in64 x.version.n ∧ in64 x.errno ∧ in64 x.client ∧ in64 x.number) (hm : out.length + x.enc.length ≤ 140737488353500) :
    Calls Tryz.prog 97 #[v, .agg #[Value.int IntKind.i64 x.version.epoch, Value.int IntKind.i64 x.version.n, Value.bool x.remove, Value.int IntKind.i64 x.errno, Value.string x.name, Value.int IntKind.i64 x.client, Value.int IntKind.i64 x.number]] w fun e w' => ∃ v', e = .returned v' ∧ Grew w w' v' out g x.enc := by
  obtain ⟨i0, i1, i2, i3, i4⟩ := hi
  simp only [EntryT.enc] at hm ⊢
  obtain ⟨a0, c0, rfl, -, -⟩ := h.shape
  go_enter Tryz.func97, Tryz.ntmps97
  go_wp2_with fail
  have x0 : (w.alloc (Obj.cells #[Value.int IntKind.i64 x.version.epoch, Value.int IntKind.i64 x.version.n, Value.bool x.remove, Value.int IntKind.i64 x.errno, Value.string x.name, Value.int IntKind.i64 x.client, Value.int IntKind.i64 x.number] 41)).heap[w.heap.size]? = some (Obj.cells #[Value.int IntKind.i64 x.version.epoch, Value.int IntKind.i64 x.version.n, Value.bool x.remove, Value.int IntKind.i64 x.errno, Value.string x.name, Value.int IntKind.i64 x.client, Value.int IntKind.i64 x.number] 41) := heap_alloc_new' _ _
  have S0 := (Out.start h).alloc (Obj.cells #[Value.int IntKind.i64 x.version.epoch, Value.int IntKind.i64 x.version.n, Value.bool x.remove, Value.int IntKind.i64 x.errno, Value.string x.name, Value.int IntKind.i64 x.client, Value.int IntKind.i64 x.number] 41)
  generalize w.alloc (Obj.cells #[Value.int IntKind.i64 x.version.epoch, Value.int IntKind.i64 x.version.n, Value.bool x.remove, Value.int IntKind.i64 x.errno, Value.string x.name, Value.int IntKind.i64 x.client, Value.int IntKind.i64 x.number] 41) = w0 at x0 S0 ⊢
  refine (putVersion_c S0.own x.version ⟨i0, i1⟩ (by have := S0.len; simp only [List.length_append, List.length_nil, encI_length, bB_length, leB_length, encT_length, encBy_length] at this hm; simp only [VersionT.enc, List.length_append, List.length_nil, encI_length, bB_length, leB_length, encT_length, encBy_length] at this hm ⊢; omega)).mono ?_
  rintro e w1 ⟨v1, rfl, hG1⟩
  obtain ⟨L1, g1, S1⟩ := S0.then hG1
  obtain ⟨a1, c1, rfl, -, -⟩ := S1.own.shape
  have x1 : w1.heap[w.heap.size]? = some (Obj.cells #[Value.int IntKind.i64 x.version.epoch, Value.int IntKind.i64 x.version.n, Value.bool x.remove, Value.int IntKind.i64 x.errno, Value.string x.name, Value.int IntKind.i64 x.client, Value.int IntKind.i64 x.number] 41) := (hG1.old _ (lt_in x0) (fun hh => S0.own.ne x0 (by decide) _ hh rfl)).trans x0
  have z2 : w1.cell? ⟨w.heap.size, 2, none⟩ = some (Value.bool x.remove) := cell_in x1
  have lx := lt_in x1
  go_wp2_with fail
  clear z2 lx
  refine (boolRef_c S1.own x.remove (by have := S1.len; simp only [List.length_append, List.length_nil, encI_length, bB_length, leB_length, encT_length, encBy_length] at this hm; omega)).mono ?_
  rintro e w2 ⟨v2, rfl, hG2⟩
  obtain ⟨L2, g2, S2⟩ := S1.then hG2
  obtain ⟨a2, c2, rfl, -, -⟩ := S2.own.shape
  have x2 : w2.heap[w.heap.size]? = some (Obj.cells #[Value.int IntKind.i64 x.version.epoch, Value.int IntKind.i64 x.version.n, Value.bool x.remove, Value.int IntKind.i64 x.errno, Value.string x.name, Value.int IntKind.i64 x.client, Value.int IntKind.i64 x.number] 41) := (hG2.old _ (lt_in x1) (fun hh => S1.own.ne x1 (by decide) _ hh rfl)).trans x1
  have z3 : w2.cell? ⟨w.heap.size, 3, none⟩ = some (Value.int IntKind.i64 x.errno) := cell_in x2
  have lx := lt_in x2
  go_wp2_with fail
  clear z3 lx
  refine (int_c S2.own x.errno (by have := S2.len; simp only [List.length_append, List.length_nil, encI_length, bB_length, leB_length, encT_length, encBy_length] at this hm; omega)).mono ?_
  rintro e w3 ⟨v3, rfl, hG3⟩
  obtain ⟨L3, g3, S3⟩ := S2.then hG3
  obtain ⟨a3, c3, rfl, -, -⟩ := S3.own.shape
  have x3 : w3.heap[w.heap.size]? = some (Obj.cells #[Value.int IntKind.i64 x.version.epoch, Value.int IntKind.i64 x.version.n, Value.bool x.remove, Value.int IntKind.i64 x.errno, Value.string x.name, Value.int IntKind.i64 x.client, Value.int IntKind.i64 x.number] 41) := (hG3.old _ (lt_in x2) (fun hh => S2.own.ne x2 (by decide) _ hh rfl)).trans x2
  have z4 : w3.cell? ⟨w.heap.size, 4, none⟩ = some (Value.string x.name) := cell_in x3
  have lx := lt_in x3
  have hcv3 := Go.Lib.run_convert_string_bytes (P := Tryz.prog) w3 9 22 5 x.name Tryz.underlying9 Tryz.underlying22 Tryz.underlying5
  have hKB3 := bytesWorld_kept (fun _ => False) w3 5 x.name
  have hRB3 := bytesWorld_reads w3 5 x.name (by unfold maxLen; simp only [List.length_append, List.length_nil, encI_length, bB_length, leB_length, encT_length, encBy_length] at hm; omega)
  generalize Go.Lib.bytesWorld w3 5 x.name = wb3 at hcv3 hKB3 hRB3
  obtain ⟨cap3, hcap3⟩ : ∃ cap, cap = grownCap w3 x.name.size 0 5 := ⟨_, rfl⟩
  rw [← hcap3] at hcv3 hRB3
  clear hcap3
  go_wp2_with fail
  have T3 : Out w wb3 _ out g _ _ _ := ⟨S3.own.kept hKB3 (fun _ _ h => h), S3.eq, S3.kept.trans (hKB3.mono (fun _ _ h => h.elim)), S3.new⟩
  have t3 := (hKB3.block _ (lt_in x3) (fun h => h)).trans x3
  have n3 : ∀ k, some w3.heap.size = some k → (g3) ≠ some k := fun k hk hg => by
    cases hk
    exact absurd (S3.own.lt _ hg) (by omega)
  have len3 : x.name.data.toList.length = x.name.size := by simp
  have R3 : Reads wb3 1 _ x.name.data.toList.length _ _ := hRB3
  rw [len3] at hRB3
  clear hcv3
  clear z4 lx
  refine (bytesRef_c (bs := x.name.data.toList) T3.own (by rw [len3]; exact hRB3) n3 (by rw [len3]; have := S3.len; simp only [List.length_append, List.length_nil, encI_length, bB_length, leB_length, encT_length, encBy_length] at this hm; omega)).mono ?_
  rw [len3]
  rintro e w4 ⟨v4, rfl, hG4⟩
  obtain ⟨L4, g4, S4⟩ := T3.then hG4
  obtain ⟨a4, c4, rfl, -, -⟩ := S4.own.shape
  have x4 : w4.heap[w.heap.size]? = some (Obj.cells #[Value.int IntKind.i64 x.version.epoch, Value.int IntKind.i64 x.version.n, Value.bool x.remove, Value.int IntKind.i64 x.errno, Value.string x.name, Value.int IntKind.i64 x.client, Value.int IntKind.i64 x.number] 41) := (hG4.old _ (lt_in t3) (fun hh => T3.own.ne t3 (by decide) _ hh rfl)).trans t3
  have z5 : w4.cell? ⟨w.heap.size, 5, none⟩ = some (Value.int IntKind.i64 x.client) := cell_in x4
  have lx := lt_in x4
  go_wp2_with fail
  clear z5 lx
  refine (int_c S4.own x.client (by have := S4.len; simp only [List.length_append, List.length_nil, encI_length, bB_length, leB_length, encT_length, encBy_length] at this hm; omega)).mono ?_
  rintro e w5 ⟨v5, rfl, hG5⟩
  obtain ⟨L5, g5, S5⟩ := S4.then hG5
  obtain ⟨a5, c5, rfl, -, -⟩ := S5.own.shape
  have x5 : w5.heap[w.heap.size]? = some (Obj.cells #[Value.int IntKind.i64 x.version.epoch, Value.int IntKind.i64 x.version.n, Value.bool x.remove, Value.int IntKind.i64 x.errno, Value.string x.name, Value.int IntKind.i64 x.client, Value.int IntKind.i64 x.number] 41) := (hG5.old _ (lt_in x4) (fun hh => S4.own.ne x4 (by decide) _ hh rfl)).trans x4
  have z6 : w5.cell? ⟨w.heap.size, 6, none⟩ = some (Value.int IntKind.i64 x.number) := cell_in x5
  have lx := lt_in x5
  go_wp2_with fail
  clear z6 lx
  refine (int_c S5.own x.number (by have := S5.len; simp only [List.length_append, List.length_nil, encI_length, bB_length, leB_length, encT_length, encBy_length] at this hm; omega)).mono ?_
  rintro e w6 ⟨v6, rfl, hG6⟩
  obtain ⟨L6, g6, S6⟩ := S5.then hG6
  obtain ⟨a6, c6, rfl, -, -⟩ := S6.own.shape
  have x6 : w6.heap[w.heap.size]? = some (Obj.cells #[Value.int IntKind.i64 x.version.epoch, Value.int IntKind.i64 x.version.n, Value.bool x.remove, Value.int IntKind.i64 x.errno, Value.string x.name, Value.int IntKind.i64 x.client, Value.int IntKind.i64 x.number] 41) := (hG6.old _ (lt_in x5) (fun hh => S5.own.ne x5 (by decide) _ hh rfl)).trans x5
  go_wp2
  go_ret
  exact ⟨_, rfl, S6.done⟩
structure LastT where
  client : Int
  number : Int
  errno : Int
  version : VersionT
def LastT.Is (w : World) (S : Nat → Prop) (cs : List Value) (x : LastT) : Prop := cs = [Value.int IntKind.i64 x.client, Value.int IntKind.i64 x.number, Value.int IntKind.i64 x.errno, Value.int IntKind.i64 x.version.epoch, Value.int IntKind.i64 x.version.n] ∧ in64 x.client ∧ in64 x.number ∧ in64 x.errno ∧ in64 x.version.epoch ∧ in64 x.version.n
def LastT.enc (x : LastT) : List UInt8 := [] ++ encI x.client ++ encI x.number ++ encI x.errno ++ x.version.enc
theorem LastT.Is.heap {w w' : World} {S S' : Nat → Prop} {cs : List Value} {x : LastT} (h : LastT.Is w S cs x) : LastT.Is w' S' cs x := h
theorem putLast_c {w : World} {v : Value} {out : List UInt8} {g : Option Nat} (h : Own w 5 1 v out.length (out.map bv) g) (x : LastT) (hi : in64 x.client ∧ in64 x.number ∧ in64 x.errno ∧ in64 x.version.epoch ∧ in64 x.version.n) (hm : out.length + x.enc.length ≤ 140737488353500) :
    Calls Tryz.prog 124 #[v, .agg #[Value.int IntKind.i64 x.client, Value.int IntKind.i64 x.number, Value.int IntKind.i64 x.errno, Value.int IntKind.i64 x.version.epoch, Value.int IntKind.i64 x.version.n]] w fun e w' => ∃ v', e = .returned v' ∧ Grew w w' v' out g x.enc := by
  obtain ⟨i0, i1, i2, i3, i4⟩ := hi
  simp only [LastT.enc] at hm ⊢
  obtain ⟨a0, c0, rfl, -, -⟩ := h.shape
  go_enter Tryz.func124, Tryz.ntmps124
  go_wp2_with fail
  have x0 : (w.alloc (Obj.cells #[Value.int IntKind.i64 x.client, Value.int IntKind.i64 x.number, Value.int IntKind.i64 x.errno, Value.int IntKind.i64 x.version.epoch, Value.int IntKind.i64 x.version.n] 229)).heap[w.heap.size]? = some (Obj.cells #[Value.int IntKind.i64 x.client, Value.int IntKind.i64 x.number, Value.int IntKind.i64 x.errno, Value.int IntKind.i64 x.version.epoch, Value.int IntKind.i64 x.version.n] 229) := heap_alloc_new' _ _
  have S0 := (Out.start h).alloc (Obj.cells #[Value.int IntKind.i64 x.client, Value.int IntKind.i64 x.number, Value.int IntKind.i64 x.errno, Value.int IntKind.i64 x.version.epoch, Value.int IntKind.i64 x.version.n] 229)
  generalize w.alloc (Obj.cells #[Value.int IntKind.i64 x.client, Value.int IntKind.i64 x.number, Value.int IntKind.i64 x.errno, Value.int IntKind.i64 x.version.epoch, Value.int IntKind.i64 x.version.n] 229) = w0 at x0 S0 ⊢
  refine (int_c S0.own x.client (by have := S0.len; simp only [List.length_append, List.length_nil, encI_length, bB_length, leB_length, encT_length, encBy_length] at this hm; omega)).mono ?_
  rintro e w1 ⟨v1, rfl, hG1⟩
  obtain ⟨L1, g1, S1⟩ := S0.then hG1
  obtain ⟨a1, c1, rfl, -, -⟩ := S1.own.shape
  have x1 : w1.heap[w.heap.size]? = some (Obj.cells #[Value.int IntKind.i64 x.client, Value.int IntKind.i64 x.number, Value.int IntKind.i64 x.errno, Value.int IntKind.i64 x.version.epoch, Value.int IntKind.i64 x.version.n] 229) := (hG1.old _ (lt_in x0) (fun hh => S0.own.ne x0 (by decide) _ hh rfl)).trans x0
  have z1 : w1.cell? ⟨w.heap.size, 1, none⟩ = some (Value.int IntKind.i64 x.number) := cell_in x1
  have lx := lt_in x1
  go_wp2_with fail
  clear z1 lx
  refine (int_c S1.own x.number (by have := S1.len; simp only [List.length_append, List.length_nil, encI_length, bB_length, leB_length, encT_length, encBy_length] at this hm; omega)).mono ?_
  rintro e w2 ⟨v2, rfl, hG2⟩
  obtain ⟨L2, g2, S2⟩ := S1.then hG2
  obtain ⟨a2, c2, rfl, -, -⟩ := S2.own.shape
  have x2 : w2.heap[w.heap.size]? = some (Obj.cells #[Value.int IntKind.i64 x.client, Value.int IntKind.i64 x.number, Value.int IntKind.i64 x.errno, Value.int IntKind.i64 x.version.epoch, Value.int IntKind.i64 x.version.n] 229) := (hG2.old _ (lt_in x1) (fun hh => S1.own.ne x1 (by decide) _ hh rfl)).trans x1
  have z2 : w2.cell? ⟨w.heap.size, 2, none⟩ = some (Value.int IntKind.i64 x.errno) := cell_in x2
  have lx := lt_in x2
  go_wp2_with fail
  clear z2 lx
  refine (int_c S2.own x.errno (by have := S2.len; simp only [List.length_append, List.length_nil, encI_length, bB_length, leB_length, encT_length, encBy_length] at this hm; omega)).mono ?_
  rintro e w3 ⟨v3, rfl, hG3⟩
  obtain ⟨L3, g3, S3⟩ := S2.then hG3
  obtain ⟨a3, c3, rfl, -, -⟩ := S3.own.shape
  have x3 : w3.heap[w.heap.size]? = some (Obj.cells #[Value.int IntKind.i64 x.client, Value.int IntKind.i64 x.number, Value.int IntKind.i64 x.errno, Value.int IntKind.i64 x.version.epoch, Value.int IntKind.i64 x.version.n] 229) := (hG3.old _ (lt_in x2) (fun hh => S2.own.ne x2 (by decide) _ hh rfl)).trans x2
  have z3 : w3.cell? ⟨w.heap.size, 3, none⟩ = some (Value.int IntKind.i64 x.version.epoch) := cell_in x3
  have z4 : w3.cell? ⟨w.heap.size, 4, none⟩ = some (Value.int IntKind.i64 x.version.n) := cell_in x3
  have lx := lt_in x3
  go_wp2_with fail
  clear z3 z4 lx
  refine (putVersion_c S3.own x.version ⟨i3, i4⟩ (by have := S3.len; simp only [List.length_append, List.length_nil, encI_length, bB_length, leB_length, encT_length, encBy_length] at this hm; simp only [VersionT.enc, List.length_append, List.length_nil, encI_length, bB_length, leB_length, encT_length, encBy_length] at this hm ⊢; omega)).mono ?_
  rintro e w4 ⟨v4, rfl, hG4⟩
  obtain ⟨L4, g4, S4⟩ := S3.then hG4
  obtain ⟨a4, c4, rfl, -, -⟩ := S4.own.shape
  have x4 : w4.heap[w.heap.size]? = some (Obj.cells #[Value.int IntKind.i64 x.client, Value.int IntKind.i64 x.number, Value.int IntKind.i64 x.errno, Value.int IntKind.i64 x.version.epoch, Value.int IntKind.i64 x.version.n] 229) := (hG4.old _ (lt_in x3) (fun hh => S3.own.ne x3 (by decide) _ hh rfl)).trans x3
  go_wp2
  go_ret
  exact ⟨_, rfl, S4.done⟩
structure ItemT where
  name : ByteArray
  version : VersionT
  crc : Nat
def ItemT.Is (w : World) (S : Nat → Prop) (cs : List Value) (x : ItemT) : Prop := cs = [Value.string x.name, Value.int IntKind.i64 x.version.epoch, Value.int IntKind.i64 x.version.n, Value.int IntKind.u32 (x.crc : Nat)] ∧ in64 x.version.epoch ∧ in64 x.version.n ∧ x.crc < 4294967296
def ItemT.enc (x : ItemT) : List UInt8 := [] ++ encT x.name ++ x.version.enc ++ leB 4 x.crc
theorem ItemT.Is.heap {w w' : World} {S S' : Nat → Prop} {cs : List Value} {x : ItemT} (h : ItemT.Is w S cs x) : ItemT.Is w' S' cs x := h
theorem putItem_c {w : World} {v : Value} {out : List UInt8} {g : Option Nat} (h : Own w 5 1 v out.length (out.map bv) g) (x : ItemT) (hi : in64 x.version.epoch ∧ in64 x.version.n ∧ x.crc < 4294967296) (hm : out.length + x.enc.length ≤ 140737488353500) :
    Calls Tryz.prog 100 #[v, .agg #[Value.string x.name, Value.int IntKind.i64 x.version.epoch, Value.int IntKind.i64 x.version.n, Value.int IntKind.u32 (x.crc : Nat)]] w fun e w' => ∃ v', e = .returned v' ∧ Grew w w' v' out g x.enc := by
  obtain ⟨i0, i1, i2⟩ := hi
  simp only [ItemT.enc] at hm ⊢
  obtain ⟨a0, c0, rfl, -, -⟩ := h.shape
  go_enter Tryz.func100, Tryz.ntmps100
  go_wp2_with fail
  have x0 : (w.alloc (Obj.cells #[Value.string x.name, Value.int IntKind.i64 x.version.epoch, Value.int IntKind.i64 x.version.n, Value.int IntKind.u32 (x.crc : Nat)] 176)).heap[w.heap.size]? = some (Obj.cells #[Value.string x.name, Value.int IntKind.i64 x.version.epoch, Value.int IntKind.i64 x.version.n, Value.int IntKind.u32 (x.crc : Nat)] 176) := heap_alloc_new' _ _
  have S0 := (Out.start h).alloc (Obj.cells #[Value.string x.name, Value.int IntKind.i64 x.version.epoch, Value.int IntKind.i64 x.version.n, Value.int IntKind.u32 (x.crc : Nat)] 176)
  generalize w.alloc (Obj.cells #[Value.string x.name, Value.int IntKind.i64 x.version.epoch, Value.int IntKind.i64 x.version.n, Value.int IntKind.u32 (x.crc : Nat)] 176) = w0 at x0 S0 ⊢
  have z0 : w0.cell? ⟨w.heap.size, 0, none⟩ = some (Value.string x.name) := cell_in x0
  have lx := lt_in x0
  have hcv0 := Go.Lib.run_convert_string_bytes (P := Tryz.prog) w0 9 22 5 x.name Tryz.underlying9 Tryz.underlying22 Tryz.underlying5
  have hKB0 := bytesWorld_kept (fun _ => False) w0 5 x.name
  have hRB0 := bytesWorld_reads w0 5 x.name (by unfold maxLen; simp only [List.length_append, List.length_nil, encI_length, bB_length, leB_length, encT_length, encBy_length] at hm; omega)
  generalize Go.Lib.bytesWorld w0 5 x.name = wb0 at hcv0 hKB0 hRB0
  obtain ⟨cap0, hcap0⟩ : ∃ cap, cap = grownCap w0 x.name.size 0 5 := ⟨_, rfl⟩
  rw [← hcap0] at hcv0 hRB0
  clear hcap0
  rw [hcv0]
  go_simp
  go_wp2_with fail
  have T0 : Out w wb0 _ out g _ _ _ := ⟨S0.own.kept hKB0 (fun _ _ h => h), S0.eq, S0.kept.trans (hKB0.mono (fun _ _ h => h.elim)), S0.new⟩
  have t0 := (hKB0.block _ (lt_in x0) (fun h => h)).trans x0
  have n0 : ∀ k, some w0.heap.size = some k → (g) ≠ some k := fun k hk hg => by
    cases hk
    exact absurd (S0.own.lt _ hg) (by omega)
  have len0 : x.name.data.toList.length = x.name.size := by simp
  have R0 : Reads wb0 1 _ x.name.data.toList.length _ _ := hRB0
  rw [len0] at hRB0
  clear hcv0
  clear z0 lx
  refine (bytesRef_c (bs := x.name.data.toList) T0.own (by rw [len0]; exact hRB0) n0 (by rw [len0]; have := S0.len; simp only [List.length_append, List.length_nil, encI_length, bB_length, leB_length, encT_length, encBy_length] at this hm; omega)).mono ?_
  rw [len0]
  rintro e w1 ⟨v1, rfl, hG1⟩
  obtain ⟨L1, g1, S1⟩ := T0.then hG1
  obtain ⟨a1, c1, rfl, -, -⟩ := S1.own.shape
  have x1 : w1.heap[w.heap.size]? = some (Obj.cells #[Value.string x.name, Value.int IntKind.i64 x.version.epoch, Value.int IntKind.i64 x.version.n, Value.int IntKind.u32 (x.crc : Nat)] 176) := (hG1.old _ (lt_in t0) (fun hh => T0.own.ne t0 (by decide) _ hh rfl)).trans t0
  have z1 : w1.cell? ⟨w.heap.size, 1, none⟩ = some (Value.int IntKind.i64 x.version.epoch) := cell_in x1
  have z2 : w1.cell? ⟨w.heap.size, 2, none⟩ = some (Value.int IntKind.i64 x.version.n) := cell_in x1
  have lx := lt_in x1
  go_wp2_with fail
  clear z1 z2 lx
  refine (putVersion_c S1.own x.version ⟨i0, i1⟩ (by have := S1.len; simp only [List.length_append, List.length_nil, encI_length, bB_length, leB_length, encT_length, encBy_length] at this hm; simp only [VersionT.enc, List.length_append, List.length_nil, encI_length, bB_length, leB_length, encT_length, encBy_length] at this hm ⊢; omega)).mono ?_
  rintro e w2 ⟨v2, rfl, hG2⟩
  obtain ⟨L2, g2, S2⟩ := S1.then hG2
  obtain ⟨a2, c2, rfl, -, -⟩ := S2.own.shape
  have x2 : w2.heap[w.heap.size]? = some (Obj.cells #[Value.string x.name, Value.int IntKind.i64 x.version.epoch, Value.int IntKind.i64 x.version.n, Value.int IntKind.u32 (x.crc : Nat)] 176) := (hG2.old _ (lt_in x1) (fun hh => S1.own.ne x1 (by decide) _ hh rfl)).trans x1
  have z3 : w2.cell? ⟨w.heap.size, 3, none⟩ = some (Value.int IntKind.u32 (x.crc : Nat)) := cell_in x2
  have lx := lt_in x2
  go_wp2_with fail
  clear z3 lx
  refine (word4_c S2.own x.crc i2 (by have := S2.len; simp only [List.length_append, List.length_nil, encI_length, bB_length, leB_length, encT_length, encBy_length] at this hm; omega)).mono ?_
  rintro e w3 ⟨v3, rfl, hG3⟩
  obtain ⟨L3, g3, S3⟩ := S2.then hG3
  obtain ⟨a3, c3, rfl, -, -⟩ := S3.own.shape
  have x3 : w3.heap[w.heap.size]? = some (Obj.cells #[Value.string x.name, Value.int IntKind.i64 x.version.epoch, Value.int IntKind.i64 x.version.n, Value.int IntKind.u32 (x.crc : Nat)] 176) := (hG3.old _ (lt_in x2) (fun hh => S2.own.ne x2 (by decide) _ hh rfl)).trans x2
  go_wp2
  go_ret
  exact ⟨_, rfl, S3.done⟩
structure StateT where
  les : Int
  tail : VersionT
  log : List EntryT
  lasts : List LastT
  items : List ItemT
def StateT.Is (w : World) (S : Nat → Prop) (cs : List Value) (x : StateT) : Prop := ∃ v_log v_lasts v_items : Value, cs = [Value.int IntKind.i64 x.les, Value.int IntKind.i64 x.tail.epoch, Value.int IntKind.i64 x.tail.n, v_log, v_lasts, v_items] ∧ in64 x.les ∧ in64 x.tail.epoch ∧ in64 x.tail.n ∧ ListIs 7 EntryT.Is w S v_log x.log ∧ ListIs 5 LastT.Is w S v_lasts x.lasts ∧ ListIs 4 ItemT.Is w S v_items x.items
def StateT.enc (x : StateT) : List UInt8 := [] ++ encI x.les ++ x.tail.enc ++ leB 4 x.log.length ++ x.log.flatMap EntryT.enc ++ leB 4 x.lasts.length ++ x.lasts.flatMap LastT.enc ++ leB 4 x.items.length ++ x.items.flatMap ItemT.enc
theorem StateT.Is.heap {w w' : World} {S S' : Nat → Prop} {cs : List Value} {x : StateT} (h : StateT.Is w S cs x) (hS : ∀ k, S k → S' k) (hk : ∀ k, S k → w'.heap[k]? = w.heap[k]?) : StateT.Is w' S' cs x := by
  obtain ⟨v_log, v_lasts, v_items, rfl, i0, i1, i2, l0, l1, l2⟩ := h
  exact ⟨v_log, v_lasts, v_items, rfl, i0, i1, i2, l0.heap (fun _ _ h => EntryT.Is.heap h) hS hk, l1.heap (fun _ _ h => LastT.Is.heap h) hS hk, l2.heap (fun _ _ h => ItemT.Is.heap h) hS hk⟩
theorem putState_c {w : World} {v : Value} {out : List UInt8} {g : Option Nat} (h : Own w 5 1 v out.length (out.map bv) g) {S : Nat → Prop} (hS : ∀ k, S k → k < w.heap.size ∧ g ≠ some k) (x : StateT) {cs : List Value} (hx : StateT.Is w S cs x) (hm : out.length + x.enc.length ≤ 140737488353500) :
    Calls Tryz.prog 49 #[v, .agg cs.toArray] w fun e w' => ∃ v', e = .returned v' ∧ Grew w w' v' out g x.enc := by
  obtain ⟨v_log, v_lasts, v_items, rfl, i0, i1, i2, l0, l1, l2⟩ := hx
  obtain ⟨a_v_log, c_v_log, rfl, -⟩ := l0.shape
  obtain ⟨a_v_lasts, c_v_lasts, rfl, -⟩ := l1.shape
  obtain ⟨a_v_items, c_v_items, rfl, -⟩ := l2.shape
  simp only [StateT.enc] at hm ⊢
  obtain ⟨a0, c0, rfl, -, -⟩ := h.shape
  go_enter Tryz.func49, Tryz.ntmps49
  go_wp2_with fail
  have x0 : (w.alloc (Obj.cells #[Value.int IntKind.i64 x.les, Value.int IntKind.i64 x.tail.epoch, Value.int IntKind.i64 x.tail.n, Value.slice a_v_log x.log.length c_v_log, Value.slice a_v_lasts x.lasts.length c_v_lasts, Value.slice a_v_items x.items.length c_v_items] 38)).heap[w.heap.size]? = some (Obj.cells #[Value.int IntKind.i64 x.les, Value.int IntKind.i64 x.tail.epoch, Value.int IntKind.i64 x.tail.n, Value.slice a_v_log x.log.length c_v_log, Value.slice a_v_lasts x.lasts.length c_v_lasts, Value.slice a_v_items x.items.length c_v_items] 38) := heap_alloc_new' _ _
  have S0 := (Out.start h).alloc (Obj.cells #[Value.int IntKind.i64 x.les, Value.int IntKind.i64 x.tail.epoch, Value.int IntKind.i64 x.tail.n, Value.slice a_v_log x.log.length c_v_log, Value.slice a_v_lasts x.lasts.length c_v_lasts, Value.slice a_v_items x.items.length c_v_items] 38)
  generalize w.alloc (Obj.cells #[Value.int IntKind.i64 x.les, Value.int IntKind.i64 x.tail.epoch, Value.int IntKind.i64 x.tail.n, Value.slice a_v_log x.log.length c_v_log, Value.slice a_v_lasts x.lasts.length c_v_lasts, Value.slice a_v_items x.items.length c_v_items] 38) = w0 at x0 S0 ⊢
  refine (int_c S0.own x.les (by have := S0.len; simp only [List.length_append, List.length_nil, encI_length, bB_length, leB_length, encT_length, encBy_length] at this hm; omega)).mono ?_
  rintro e w1 ⟨v1, rfl, hG1⟩
  obtain ⟨L1, g1, S1⟩ := S0.then hG1
  obtain ⟨a1, c1, rfl, -, -⟩ := S1.own.shape
  have x1 : w1.heap[w.heap.size]? = some (Obj.cells #[Value.int IntKind.i64 x.les, Value.int IntKind.i64 x.tail.epoch, Value.int IntKind.i64 x.tail.n, Value.slice a_v_log x.log.length c_v_log, Value.slice a_v_lasts x.lasts.length c_v_lasts, Value.slice a_v_items x.items.length c_v_items] 38) := (hG1.old _ (lt_in x0) (fun hh => S0.own.ne x0 (by decide) _ hh rfl)).trans x0
  have z1 : w1.cell? ⟨w.heap.size, 1, none⟩ = some (Value.int IntKind.i64 x.tail.epoch) := cell_in x1
  have z2 : w1.cell? ⟨w.heap.size, 2, none⟩ = some (Value.int IntKind.i64 x.tail.n) := cell_in x1
  have lx := lt_in x1
  go_wp2_with fail
  clear z1 z2 lx
  refine (putVersion_c S1.own x.tail ⟨i1, i2⟩ (by have := S1.len; simp only [List.length_append, List.length_nil, encI_length, bB_length, leB_length, encT_length, encBy_length] at this hm; simp only [VersionT.enc, List.length_append, List.length_nil, encI_length, bB_length, leB_length, encT_length, encBy_length] at this hm ⊢; omega)).mono ?_
  rintro e w2 ⟨v2, rfl, hG2⟩
  obtain ⟨L2, g2, S2⟩ := S1.then hG2
  obtain ⟨a2, c2, rfl, -, -⟩ := S2.own.shape
  have x2 : w2.heap[w.heap.size]? = some (Obj.cells #[Value.int IntKind.i64 x.les, Value.int IntKind.i64 x.tail.epoch, Value.int IntKind.i64 x.tail.n, Value.slice a_v_log x.log.length c_v_log, Value.slice a_v_lasts x.lasts.length c_v_lasts, Value.slice a_v_items x.items.length c_v_items] 38) := (hG2.old _ (lt_in x1) (fun hh => S1.own.ne x1 (by decide) _ hh rfl)).trans x1
  have z3 : w2.cell? ⟨w.heap.size, 3, none⟩ = some (Value.slice a_v_log x.log.length c_v_log) := cell_in x2
  have lx := lt_in x2
  go_wp2_with fail
  clear z3 lx
  refine (countRef_c S2.own x.log.length (by have := S2.len; simp only [List.length_append, List.length_nil, encI_length, bB_length, leB_length, encT_length, encBy_length] at this hm; omega)).mono ?_
  rintro e w3 ⟨v3, rfl, hG3⟩
  obtain ⟨L3, g3, S3⟩ := S2.then hG3
  obtain ⟨a3, c3, rfl, -, -⟩ := S3.own.shape
  have x3 : w3.heap[w.heap.size]? = some (Obj.cells #[Value.int IntKind.i64 x.les, Value.int IntKind.i64 x.tail.epoch, Value.int IntKind.i64 x.tail.n, Value.slice a_v_log x.log.length c_v_log, Value.slice a_v_lasts x.lasts.length c_v_lasts, Value.slice a_v_items x.items.length c_v_items] 38) := (hG3.old _ (lt_in x2) (fun hh => S2.own.ne x2 (by decide) _ hh rfl)).trans x2
  have z3 : w3.cell? ⟨w.heap.size, 3, none⟩ = some (Value.slice a_v_log x.log.length c_v_log) := cell_in x3
  have lx := lt_in x3
  go_wp2
  clear z3 lx
  go_loopw [27, 0] (fun i o w' => ∃ (k : Nat) (L : List UInt8) (gL : Option Nat), k ≤ x.log.length ∧ i = .int .i64 k ∧ Out w w' o out g (([] ++ encI x.les ++ x.tail.enc ++ leB 4 x.log.length) ++ (x.log.take k).flatMap EntryT.enc) L gL ∧ w'.heap[w.heap.size]? = some (Obj.cells #[Value.int IntKind.i64 x.les, Value.int IntKind.i64 x.tail.epoch, Value.int IntKind.i64 x.tail.n, Value.slice a_v_log x.log.length c_v_log, Value.slice a_v_lasts x.lasts.length c_v_lasts, Value.slice a_v_items x.items.length c_v_items] 38)) (fun i _ _ => x.log.length - (intOf i).toNat)
  case atStart => exact ⟨0, L3, g3, by omega, rfl, S3.cast (by simp), x3⟩
  case round =>
    obtain ⟨k, L, gL, hk, rfl, SL, xl⟩ := hrel
    by_cases hk2 : k < x.log.length
    · have hki : (k : Int) < (x.log.length : Int) := by omega
      have hnl : x.log.length ≤ 9223372036854775807 := l0.small
      have hd := SL.data hS
      obtain ⟨b, off, cs, rfl, hb, hcl, hcell, hr⟩ := (l0.heap (fun _ _ h => EntryT.Is.heap h) (fun _ h => h) hd).at hk2
      have hfl := flatMap_le EntryT.enc x.log (k + 1)
      have hft := flatMap_take EntryT.enc x.log k hk2
      rw [hft, List.length_append] at hfl
      obtain ⟨e, he⟩ : ∃ e, e = x.log[k] := ⟨_, rfl⟩
      rw [← he] at hr hft hfl
      have HFT := Lib.hid hft
      clear hft he hcl
      obtain ⟨aL, cL, rfl, -, -⟩ := SL.own.shape
      have hr0 := hr
      obtain ⟨rfl, j0, j1, j2, j3, j4⟩ := hr
      have y0 : wr.cell? ⟨b, off + k * 7, none⟩ = some (Value.int IntKind.i64 e.version.epoch) := hcell 0 (by omega)
      have y1 : wr.cell? ⟨b, off + k * 7 + 1, none⟩ = some (Value.int IntKind.i64 e.version.n) := hcell 1 (by omega)
      have y2 : wr.cell? ⟨b, off + k * 7 + 2, none⟩ = some (Value.bool e.remove) := hcell 2 (by omega)
      have y3 : wr.cell? ⟨b, off + k * 7 + 3, none⟩ = some (Value.int IntKind.i64 e.errno) := hcell 3 (by omega)
      have y4 : wr.cell? ⟨b, off + k * 7 + 4, none⟩ = some (Value.string e.name) := hcell 4 (by omega)
      have y5 : wr.cell? ⟨b, off + k * 7 + 5, none⟩ = some (Value.int IntKind.i64 e.client) := hcell 5 (by omega)
      have y6 : wr.cell? ⟨b, off + k * 7 + 6, none⟩ = some (Value.int IntKind.i64 e.number) := hcell 6 (by omega)
      go_wp2_with fail
      have SA := SL.alloc (Obj.cells #[Value.int IntKind.i64 e.version.epoch, Value.int IntKind.i64 e.version.n, Value.bool e.remove, Value.int IntKind.i64 e.errno, Value.string e.name, Value.int IntKind.i64 e.client, Value.int IntKind.i64 e.number] 41)
      have xa : (wr.alloc (Obj.cells #[Value.int IntKind.i64 e.version.epoch, Value.int IntKind.i64 e.version.n, Value.bool e.remove, Value.int IntKind.i64 e.errno, Value.string e.name, Value.int IntKind.i64 e.client, Value.int IntKind.i64 e.number] 41)).heap[w.heap.size]? = _ := (Below.heap_alloc _ _ _ (lt_in xl)).trans xl
      generalize wr.alloc (Obj.cells #[Value.int IntKind.i64 e.version.epoch, Value.int IntKind.i64 e.version.n, Value.bool e.remove, Value.int IntKind.i64 e.errno, Value.string e.name, Value.int IntKind.i64 e.client, Value.int IntKind.i64 e.number] 41) = wa at SA xa ⊢
      refine (putEntry_c SA.own e ⟨j0, j1, j2, j3, j4⟩ (by have := SL.len; simp only [List.length_append, List.length_nil, encI_length, bB_length, leB_length, encT_length, encBy_length] at this hm hfl; omega)).mono ?_
      rintro _ w9 ⟨v9, rfl, hG⟩
      obtain ⟨L9, g9, S9⟩ := SA.then hG
      have xl9 : w9.heap[w.heap.size]? = _ := (hG.old _ (lt_in xa) (fun hh => SA.own.ne xa (by decide) _ hh rfl)).trans xa
      obtain ⟨a9, c9, rfl, -, -⟩ := S9.own.shape
      have X9 := Lib.hid xl9
      have HS9 := Lib.hid (S9.cast (more' := ([] ++ encI x.les ++ x.tail.enc ++ leB 4 x.log.length) ++ (x.log.take (k + 1)).flatMap EntryT.enc) (by rw [HFT.out, List.append_assoc]))
      clear xl9 S9 hG
      go_wp2
      exact ⟨⟨k + 1, L9, g9, by omega, by simp, HS9.out, X9.out⟩, by simp [intOf]; omega⟩
    · obtain rfl : k = x.log.length := by omega
      have S4 : Out w wr _ out g (([] ++ encI x.les ++ x.tail.enc ++ leB 4 x.log.length) ++ x.log.flatMap EntryT.enc) L gL := SL.cast (by rw [List.take_length])
      obtain ⟨a4, c4, rfl, -, -⟩ := S4.own.shape
      have x4 := xl
      rename World => w4
      clear SL xl
      have z4 : w4.cell? ⟨w.heap.size, 4, none⟩ = some (Value.slice a_v_lasts x.lasts.length c_v_lasts) := cell_in x4
      have lx := lt_in x4
      go_wp2_with fail
      clear z4 lx
      refine (countRef_c S4.own x.lasts.length (by have := S4.len; simp only [List.length_append, List.length_nil, encI_length, bB_length, leB_length, encT_length, encBy_length] at this hm; omega)).mono ?_
      rintro e w5 ⟨v5, rfl, hG5⟩
      obtain ⟨L5, g5, S5⟩ := S4.then hG5
      obtain ⟨a5, c5, rfl, -, -⟩ := S5.own.shape
      have x5 : w5.heap[w.heap.size]? = some (Obj.cells #[Value.int IntKind.i64 x.les, Value.int IntKind.i64 x.tail.epoch, Value.int IntKind.i64 x.tail.n, Value.slice a_v_log x.log.length c_v_log, Value.slice a_v_lasts x.lasts.length c_v_lasts, Value.slice a_v_items x.items.length c_v_items] 38) := (hG5.old _ (lt_in x4) (fun hh => S4.own.ne x4 (by decide) _ hh rfl)).trans x4
      have z4 : w5.cell? ⟨w.heap.size, 4, none⟩ = some (Value.slice a_v_lasts x.lasts.length c_v_lasts) := cell_in x5
      have lx := lt_in x5
      go_wp2
      clear z4 lx
      go_loopw [43, 0] (fun i o w' => ∃ (k : Nat) (L : List UInt8) (gL : Option Nat), k ≤ x.lasts.length ∧ i = .int .i64 k ∧ Out w w' o out g (([] ++ encI x.les ++ x.tail.enc ++ leB 4 x.log.length ++ x.log.flatMap EntryT.enc ++ leB 4 x.lasts.length) ++ (x.lasts.take k).flatMap LastT.enc) L gL ∧ w'.heap[w.heap.size]? = some (Obj.cells #[Value.int IntKind.i64 x.les, Value.int IntKind.i64 x.tail.epoch, Value.int IntKind.i64 x.tail.n, Value.slice a_v_log x.log.length c_v_log, Value.slice a_v_lasts x.lasts.length c_v_lasts, Value.slice a_v_items x.items.length c_v_items] 38)) (fun i _ _ => x.lasts.length - (intOf i).toNat)
      case atStart => exact ⟨0, L5, g5, by omega, rfl, S5.cast (by simp), x5⟩
      case round =>
        obtain ⟨k, L, gL, hk, rfl, SL, xl⟩ := hrel
        by_cases hk2 : k < x.lasts.length
        · have hki : (k : Int) < (x.lasts.length : Int) := by omega
          have hnl : x.lasts.length ≤ 9223372036854775807 := l1.small
          have hd := SL.data hS
          obtain ⟨b, off, cs, rfl, hb, hcl, hcell, hr⟩ := (l1.heap (fun _ _ h => LastT.Is.heap h) (fun _ h => h) hd).at hk2
          have hfl := flatMap_le LastT.enc x.lasts (k + 1)
          have hft := flatMap_take LastT.enc x.lasts k hk2
          rw [hft, List.length_append] at hfl
          obtain ⟨e, he⟩ : ∃ e, e = x.lasts[k] := ⟨_, rfl⟩
          rw [← he] at hr hft hfl
          have HFT := Lib.hid hft
          clear hft he hcl
          obtain ⟨aL, cL, rfl, -, -⟩ := SL.own.shape
          have hr0 := hr
          obtain ⟨rfl, j0, j1, j2, j3, j4⟩ := hr
          have y0 : wr.cell? ⟨b, off + k * 5, none⟩ = some (Value.int IntKind.i64 e.client) := hcell 0 (by omega)
          have y1 : wr.cell? ⟨b, off + k * 5 + 1, none⟩ = some (Value.int IntKind.i64 e.number) := hcell 1 (by omega)
          have y2 : wr.cell? ⟨b, off + k * 5 + 2, none⟩ = some (Value.int IntKind.i64 e.errno) := hcell 2 (by omega)
          have y3 : wr.cell? ⟨b, off + k * 5 + 3, none⟩ = some (Value.int IntKind.i64 e.version.epoch) := hcell 3 (by omega)
          have y4 : wr.cell? ⟨b, off + k * 5 + 4, none⟩ = some (Value.int IntKind.i64 e.version.n) := hcell 4 (by omega)
          go_wp2_with fail
          have SA := SL.alloc (Obj.cells #[Value.int IntKind.i64 e.client, Value.int IntKind.i64 e.number, Value.int IntKind.i64 e.errno, Value.int IntKind.i64 e.version.epoch, Value.int IntKind.i64 e.version.n] 229)
          have xa : (wr.alloc (Obj.cells #[Value.int IntKind.i64 e.client, Value.int IntKind.i64 e.number, Value.int IntKind.i64 e.errno, Value.int IntKind.i64 e.version.epoch, Value.int IntKind.i64 e.version.n] 229)).heap[w.heap.size]? = _ := (Below.heap_alloc _ _ _ (lt_in xl)).trans xl
          generalize wr.alloc (Obj.cells #[Value.int IntKind.i64 e.client, Value.int IntKind.i64 e.number, Value.int IntKind.i64 e.errno, Value.int IntKind.i64 e.version.epoch, Value.int IntKind.i64 e.version.n] 229) = wa at SA xa ⊢
          refine (putLast_c SA.own e ⟨j0, j1, j2, j3, j4⟩ (by have := SL.len; simp only [List.length_append, List.length_nil, encI_length, bB_length, leB_length, encT_length, encBy_length] at this hm hfl; omega)).mono ?_
          rintro _ w9 ⟨v9, rfl, hG⟩
          obtain ⟨L9, g9, S9⟩ := SA.then hG
          have xl9 : w9.heap[w.heap.size]? = _ := (hG.old _ (lt_in xa) (fun hh => SA.own.ne xa (by decide) _ hh rfl)).trans xa
          obtain ⟨a9, c9, rfl, -, -⟩ := S9.own.shape
          have X9 := Lib.hid xl9
          have HS9 := Lib.hid (S9.cast (more' := ([] ++ encI x.les ++ x.tail.enc ++ leB 4 x.log.length ++ x.log.flatMap EntryT.enc ++ leB 4 x.lasts.length) ++ (x.lasts.take (k + 1)).flatMap LastT.enc) (by rw [HFT.out, List.append_assoc]))
          clear xl9 S9 hG
          go_wp2
          exact ⟨⟨k + 1, L9, g9, by omega, by simp, HS9.out, X9.out⟩, by simp [intOf]; omega⟩
        · obtain rfl : k = x.lasts.length := by omega
          have S6 : Out w wr _ out g (([] ++ encI x.les ++ x.tail.enc ++ leB 4 x.log.length ++ x.log.flatMap EntryT.enc ++ leB 4 x.lasts.length) ++ x.lasts.flatMap LastT.enc) L gL := SL.cast (by rw [List.take_length])
          obtain ⟨a6, c6, rfl, -, -⟩ := S6.own.shape
          have x6 := xl
          rename World => w6
          clear SL xl
          have z5 : w6.cell? ⟨w.heap.size, 5, none⟩ = some (Value.slice a_v_items x.items.length c_v_items) := cell_in x6
          have lx := lt_in x6
          go_wp2_with fail
          clear z5 lx
          refine (countRef_c S6.own x.items.length (by have := S6.len; simp only [List.length_append, List.length_nil, encI_length, bB_length, leB_length, encT_length, encBy_length] at this hm; omega)).mono ?_
          rintro e w7 ⟨v7, rfl, hG7⟩
          obtain ⟨L7, g7, S7⟩ := S6.then hG7
          obtain ⟨a7, c7, rfl, -, -⟩ := S7.own.shape
          have x7 : w7.heap[w.heap.size]? = some (Obj.cells #[Value.int IntKind.i64 x.les, Value.int IntKind.i64 x.tail.epoch, Value.int IntKind.i64 x.tail.n, Value.slice a_v_log x.log.length c_v_log, Value.slice a_v_lasts x.lasts.length c_v_lasts, Value.slice a_v_items x.items.length c_v_items] 38) := (hG7.old _ (lt_in x6) (fun hh => S6.own.ne x6 (by decide) _ hh rfl)).trans x6
          have z5 : w7.cell? ⟨w.heap.size, 5, none⟩ = some (Value.slice a_v_items x.items.length c_v_items) := cell_in x7
          have lx := lt_in x7
          go_wp2
          clear z5 lx
          go_loopw [59, 0] (fun i o w' => ∃ (k : Nat) (L : List UInt8) (gL : Option Nat), k ≤ x.items.length ∧ i = .int .i64 k ∧ Out w w' o out g (([] ++ encI x.les ++ x.tail.enc ++ leB 4 x.log.length ++ x.log.flatMap EntryT.enc ++ leB 4 x.lasts.length ++ x.lasts.flatMap LastT.enc ++ leB 4 x.items.length) ++ (x.items.take k).flatMap ItemT.enc) L gL ∧ w'.heap[w.heap.size]? = some (Obj.cells #[Value.int IntKind.i64 x.les, Value.int IntKind.i64 x.tail.epoch, Value.int IntKind.i64 x.tail.n, Value.slice a_v_log x.log.length c_v_log, Value.slice a_v_lasts x.lasts.length c_v_lasts, Value.slice a_v_items x.items.length c_v_items] 38)) (fun i _ _ => x.items.length - (intOf i).toNat)
          case atStart => exact ⟨0, L7, g7, by omega, rfl, S7.cast (by simp), x7⟩
          case round =>
            obtain ⟨k, L, gL, hk, rfl, SL, xl⟩ := hrel
            by_cases hk2 : k < x.items.length
            · have hki : (k : Int) < (x.items.length : Int) := by omega
              have hnl : x.items.length ≤ 9223372036854775807 := l2.small
              have hd := SL.data hS
              obtain ⟨b, off, cs, rfl, hb, hcl, hcell, hr⟩ := (l2.heap (fun _ _ h => ItemT.Is.heap h) (fun _ h => h) hd).at hk2
              have hfl := flatMap_le ItemT.enc x.items (k + 1)
              have hft := flatMap_take ItemT.enc x.items k hk2
              rw [hft, List.length_append] at hfl
              obtain ⟨e, he⟩ : ∃ e, e = x.items[k] := ⟨_, rfl⟩
              rw [← he] at hr hft hfl
              have HFT := Lib.hid hft
              clear hft he hcl
              obtain ⟨aL, cL, rfl, -, -⟩ := SL.own.shape
              have hr0 := hr
              obtain ⟨rfl, j0, j1, j2⟩ := hr
              have y0 : wr.cell? ⟨b, off + k * 4, none⟩ = some (Value.string e.name) := hcell 0 (by omega)
              have y1 : wr.cell? ⟨b, off + k * 4 + 1, none⟩ = some (Value.int IntKind.i64 e.version.epoch) := hcell 1 (by omega)
              have y2 : wr.cell? ⟨b, off + k * 4 + 2, none⟩ = some (Value.int IntKind.i64 e.version.n) := hcell 2 (by omega)
              have y3 : wr.cell? ⟨b, off + k * 4 + 3, none⟩ = some (Value.int IntKind.u32 (e.crc : Nat)) := hcell 3 (by omega)
              go_wp2_with fail
              have SA := SL.alloc (Obj.cells #[Value.string e.name, Value.int IntKind.i64 e.version.epoch, Value.int IntKind.i64 e.version.n, Value.int IntKind.u32 (e.crc : Nat)] 176)
              have xa : (wr.alloc (Obj.cells #[Value.string e.name, Value.int IntKind.i64 e.version.epoch, Value.int IntKind.i64 e.version.n, Value.int IntKind.u32 (e.crc : Nat)] 176)).heap[w.heap.size]? = _ := (Below.heap_alloc _ _ _ (lt_in xl)).trans xl
              generalize wr.alloc (Obj.cells #[Value.string e.name, Value.int IntKind.i64 e.version.epoch, Value.int IntKind.i64 e.version.n, Value.int IntKind.u32 (e.crc : Nat)] 176) = wa at SA xa ⊢
              refine (putItem_c SA.own e ⟨j0, j1, j2⟩ (by have := SL.len; simp only [List.length_append, List.length_nil, encI_length, bB_length, leB_length, encT_length, encBy_length] at this hm hfl; omega)).mono ?_
              rintro _ w9 ⟨v9, rfl, hG⟩
              obtain ⟨L9, g9, S9⟩ := SA.then hG
              have xl9 : w9.heap[w.heap.size]? = _ := (hG.old _ (lt_in xa) (fun hh => SA.own.ne xa (by decide) _ hh rfl)).trans xa
              obtain ⟨a9, c9, rfl, -, -⟩ := S9.own.shape
              have X9 := Lib.hid xl9
              have HS9 := Lib.hid (S9.cast (more' := ([] ++ encI x.les ++ x.tail.enc ++ leB 4 x.log.length ++ x.log.flatMap EntryT.enc ++ leB 4 x.lasts.length ++ x.lasts.flatMap LastT.enc ++ leB 4 x.items.length) ++ (x.items.take (k + 1)).flatMap ItemT.enc) (by rw [HFT.out, List.append_assoc]))
              clear xl9 S9 hG
              go_wp2
              exact ⟨⟨k + 1, L9, g9, by omega, by simp, HS9.out, X9.out⟩, by simp [intOf]; omega⟩
            · obtain rfl : k = x.items.length := by omega
              have S8 : Out w wr _ out g (([] ++ encI x.les ++ x.tail.enc ++ leB 4 x.log.length ++ x.log.flatMap EntryT.enc ++ leB 4 x.lasts.length ++ x.lasts.flatMap LastT.enc ++ leB 4 x.items.length) ++ x.items.flatMap ItemT.enc) L gL := SL.cast (by rw [List.take_length])
              obtain ⟨a8, c8, rfl, -, -⟩ := S8.own.shape
              have x8 := xl
              rename World => w8
              clear SL xl
              go_wp2
              go_ret
              exact ⟨_, rfl, S8.done⟩
structure StepT where
  kind : Int
  pg : PgT
  name : ByteArray
  pos : Int
  n : Int
  key : ByteArray
  data : List UInt8
def StepT.Is (w : World) (S : Nat → Prop) (cs : List Value) (x : StepT) : Prop := ∃ v_data : Value, cs = [Value.int IntKind.i64 x.kind, Value.int IntKind.i64 x.pg.pool, Value.int IntKind.i64 x.pg.seed, Value.string x.name, Value.int IntKind.i64 x.pos, Value.int IntKind.i64 x.n, Value.string x.key, v_data] ∧ in64 x.kind ∧ in64 x.pg.pool ∧ in64 x.pg.seed ∧ in64 x.pos ∧ in64 x.n ∧ ListIs 1 byteIs w S v_data x.data
def StepT.enc (x : StepT) : List UInt8 := [] ++ encI x.kind ++ x.pg.enc ++ encT x.name ++ encI x.pos ++ encI x.n ++ encT x.key ++ encBy x.data
theorem StepT.Is.heap {w w' : World} {S S' : Nat → Prop} {cs : List Value} {x : StepT} (h : StepT.Is w S cs x) (hS : ∀ k, S k → S' k) (hk : ∀ k, S k → w'.heap[k]? = w.heap[k]?) : StepT.Is w' S' cs x := by
  obtain ⟨v_data, rfl, i0, i1, i2, i3, i4, l0⟩ := h
  exact ⟨v_data, rfl, i0, i1, i2, i3, i4, l0.heap (fun _ _ h => byteIs_stable _ _ _ _ _ _ h hS hk) hS hk⟩
theorem putStep_c {w : World} {v : Value} {out : List UInt8} {g : Option Nat} (h : Own w 5 1 v out.length (out.map bv) g) {S : Nat → Prop} (hS : ∀ k, S k → k < w.heap.size ∧ g ≠ some k) (x : StepT) {cs : List Value} (hx : StepT.Is w S cs x) (hm : out.length + x.enc.length ≤ 140737488353500) :
    Calls Tryz.prog 129 #[v, .agg cs.toArray] w fun e w' => ∃ v', e = .returned v' ∧ Grew w w' v' out g x.enc := by
  obtain ⟨v_data, rfl, i0, i1, i2, i3, i4, l0⟩ := hx
  obtain ⟨a_v_data, c_v_data, rfl, -⟩ := l0.shape
  simp only [StepT.enc] at hm ⊢
  obtain ⟨a0, c0, rfl, -, -⟩ := h.shape
  go_enter Tryz.func129, Tryz.ntmps129
  go_wp2_with fail
  have x0 : (w.alloc (Obj.cells #[Value.int IntKind.i64 x.kind, Value.int IntKind.i64 x.pg.pool, Value.int IntKind.i64 x.pg.seed, Value.string x.name, Value.int IntKind.i64 x.pos, Value.int IntKind.i64 x.n, Value.string x.key, Value.slice a_v_data x.data.length c_v_data] 239)).heap[w.heap.size]? = some (Obj.cells #[Value.int IntKind.i64 x.kind, Value.int IntKind.i64 x.pg.pool, Value.int IntKind.i64 x.pg.seed, Value.string x.name, Value.int IntKind.i64 x.pos, Value.int IntKind.i64 x.n, Value.string x.key, Value.slice a_v_data x.data.length c_v_data] 239) := heap_alloc_new' _ _
  have S0 := (Out.start h).alloc (Obj.cells #[Value.int IntKind.i64 x.kind, Value.int IntKind.i64 x.pg.pool, Value.int IntKind.i64 x.pg.seed, Value.string x.name, Value.int IntKind.i64 x.pos, Value.int IntKind.i64 x.n, Value.string x.key, Value.slice a_v_data x.data.length c_v_data] 239)
  generalize w.alloc (Obj.cells #[Value.int IntKind.i64 x.kind, Value.int IntKind.i64 x.pg.pool, Value.int IntKind.i64 x.pg.seed, Value.string x.name, Value.int IntKind.i64 x.pos, Value.int IntKind.i64 x.n, Value.string x.key, Value.slice a_v_data x.data.length c_v_data] 239) = w0 at x0 S0 ⊢
  refine (int_c S0.own x.kind (by have := S0.len; simp only [List.length_append, List.length_nil, encI_length, bB_length, leB_length, encT_length, encBy_length] at this hm; omega)).mono ?_
  rintro e w1 ⟨v1, rfl, hG1⟩
  obtain ⟨L1, g1, S1⟩ := S0.then hG1
  obtain ⟨a1, c1, rfl, -, -⟩ := S1.own.shape
  have x1 : w1.heap[w.heap.size]? = some (Obj.cells #[Value.int IntKind.i64 x.kind, Value.int IntKind.i64 x.pg.pool, Value.int IntKind.i64 x.pg.seed, Value.string x.name, Value.int IntKind.i64 x.pos, Value.int IntKind.i64 x.n, Value.string x.key, Value.slice a_v_data x.data.length c_v_data] 239) := (hG1.old _ (lt_in x0) (fun hh => S0.own.ne x0 (by decide) _ hh rfl)).trans x0
  have z1 : w1.cell? ⟨w.heap.size, 1, none⟩ = some (Value.int IntKind.i64 x.pg.pool) := cell_in x1
  have z2 : w1.cell? ⟨w.heap.size, 2, none⟩ = some (Value.int IntKind.i64 x.pg.seed) := cell_in x1
  have lx := lt_in x1
  go_wp2_with fail
  clear z1 z2 lx
  refine (putPg_c S1.own x.pg ⟨i1, i2⟩ (by have := S1.len; simp only [List.length_append, List.length_nil, encI_length, bB_length, leB_length, encT_length, encBy_length] at this hm; simp only [PgT.enc, List.length_append, List.length_nil, encI_length, bB_length, leB_length, encT_length, encBy_length] at this hm ⊢; omega)).mono ?_
  rintro e w2 ⟨v2, rfl, hG2⟩
  obtain ⟨L2, g2, S2⟩ := S1.then hG2
  obtain ⟨a2, c2, rfl, -, -⟩ := S2.own.shape
  have x2 : w2.heap[w.heap.size]? = some (Obj.cells #[Value.int IntKind.i64 x.kind, Value.int IntKind.i64 x.pg.pool, Value.int IntKind.i64 x.pg.seed, Value.string x.name, Value.int IntKind.i64 x.pos, Value.int IntKind.i64 x.n, Value.string x.key, Value.slice a_v_data x.data.length c_v_data] 239) := (hG2.old _ (lt_in x1) (fun hh => S1.own.ne x1 (by decide) _ hh rfl)).trans x1
  have z3 : w2.cell? ⟨w.heap.size, 3, none⟩ = some (Value.string x.name) := cell_in x2
  have lx := lt_in x2
  have hcv2 := Go.Lib.run_convert_string_bytes (P := Tryz.prog) w2 9 22 5 x.name Tryz.underlying9 Tryz.underlying22 Tryz.underlying5
  have hKB2 := bytesWorld_kept (fun _ => False) w2 5 x.name
  have hRB2 := bytesWorld_reads w2 5 x.name (by unfold maxLen; simp only [List.length_append, List.length_nil, encI_length, bB_length, leB_length, encT_length, encBy_length] at hm; omega)
  generalize Go.Lib.bytesWorld w2 5 x.name = wb2 at hcv2 hKB2 hRB2
  obtain ⟨cap2, hcap2⟩ : ∃ cap, cap = grownCap w2 x.name.size 0 5 := ⟨_, rfl⟩
  rw [← hcap2] at hcv2 hRB2
  clear hcap2
  go_wp2_with fail
  have T2 : Out w wb2 _ out g _ _ _ := ⟨S2.own.kept hKB2 (fun _ _ h => h), S2.eq, S2.kept.trans (hKB2.mono (fun _ _ h => h.elim)), S2.new⟩
  have t2 := (hKB2.block _ (lt_in x2) (fun h => h)).trans x2
  have n2 : ∀ k, some w2.heap.size = some k → (g2) ≠ some k := fun k hk hg => by
    cases hk
    exact absurd (S2.own.lt _ hg) (by omega)
  have len2 : x.name.data.toList.length = x.name.size := by simp
  have R2 : Reads wb2 1 _ x.name.data.toList.length _ _ := hRB2
  rw [len2] at hRB2
  clear hcv2
  clear z3 lx
  refine (bytesRef_c (bs := x.name.data.toList) T2.own (by rw [len2]; exact hRB2) n2 (by rw [len2]; have := S2.len; simp only [List.length_append, List.length_nil, encI_length, bB_length, leB_length, encT_length, encBy_length] at this hm; omega)).mono ?_
  rw [len2]
  rintro e w3 ⟨v3, rfl, hG3⟩
  obtain ⟨L3, g3, S3⟩ := T2.then hG3
  obtain ⟨a3, c3, rfl, -, -⟩ := S3.own.shape
  have x3 : w3.heap[w.heap.size]? = some (Obj.cells #[Value.int IntKind.i64 x.kind, Value.int IntKind.i64 x.pg.pool, Value.int IntKind.i64 x.pg.seed, Value.string x.name, Value.int IntKind.i64 x.pos, Value.int IntKind.i64 x.n, Value.string x.key, Value.slice a_v_data x.data.length c_v_data] 239) := (hG3.old _ (lt_in t2) (fun hh => T2.own.ne t2 (by decide) _ hh rfl)).trans t2
  have z4 : w3.cell? ⟨w.heap.size, 4, none⟩ = some (Value.int IntKind.i64 x.pos) := cell_in x3
  have lx := lt_in x3
  go_wp2_with fail
  clear z4 lx
  refine (int_c S3.own x.pos (by have := S3.len; simp only [List.length_append, List.length_nil, encI_length, bB_length, leB_length, encT_length, encBy_length] at this hm; omega)).mono ?_
  rintro e w4 ⟨v4, rfl, hG4⟩
  obtain ⟨L4, g4, S4⟩ := S3.then hG4
  obtain ⟨a4, c4, rfl, -, -⟩ := S4.own.shape
  have x4 : w4.heap[w.heap.size]? = some (Obj.cells #[Value.int IntKind.i64 x.kind, Value.int IntKind.i64 x.pg.pool, Value.int IntKind.i64 x.pg.seed, Value.string x.name, Value.int IntKind.i64 x.pos, Value.int IntKind.i64 x.n, Value.string x.key, Value.slice a_v_data x.data.length c_v_data] 239) := (hG4.old _ (lt_in x3) (fun hh => S3.own.ne x3 (by decide) _ hh rfl)).trans x3
  have z5 : w4.cell? ⟨w.heap.size, 5, none⟩ = some (Value.int IntKind.i64 x.n) := cell_in x4
  have lx := lt_in x4
  go_wp2_with fail
  clear z5 lx
  refine (int_c S4.own x.n (by have := S4.len; simp only [List.length_append, List.length_nil, encI_length, bB_length, leB_length, encT_length, encBy_length] at this hm; omega)).mono ?_
  rintro e w5 ⟨v5, rfl, hG5⟩
  obtain ⟨L5, g5, S5⟩ := S4.then hG5
  obtain ⟨a5, c5, rfl, -, -⟩ := S5.own.shape
  have x5 : w5.heap[w.heap.size]? = some (Obj.cells #[Value.int IntKind.i64 x.kind, Value.int IntKind.i64 x.pg.pool, Value.int IntKind.i64 x.pg.seed, Value.string x.name, Value.int IntKind.i64 x.pos, Value.int IntKind.i64 x.n, Value.string x.key, Value.slice a_v_data x.data.length c_v_data] 239) := (hG5.old _ (lt_in x4) (fun hh => S4.own.ne x4 (by decide) _ hh rfl)).trans x4
  have z6 : w5.cell? ⟨w.heap.size, 6, none⟩ = some (Value.string x.key) := cell_in x5
  have lx := lt_in x5
  have hcv5 := Go.Lib.run_convert_string_bytes (P := Tryz.prog) w5 9 22 5 x.key Tryz.underlying9 Tryz.underlying22 Tryz.underlying5
  have hKB5 := bytesWorld_kept (fun _ => False) w5 5 x.key
  have hRB5 := bytesWorld_reads w5 5 x.key (by unfold maxLen; simp only [List.length_append, List.length_nil, encI_length, bB_length, leB_length, encT_length, encBy_length] at hm; omega)
  generalize Go.Lib.bytesWorld w5 5 x.key = wb5 at hcv5 hKB5 hRB5
  obtain ⟨cap5, hcap5⟩ : ∃ cap, cap = grownCap w5 x.key.size 0 5 := ⟨_, rfl⟩
  rw [← hcap5] at hcv5 hRB5
  clear hcap5
  go_wp2_with fail
  have T5 : Out w wb5 _ out g _ _ _ := ⟨S5.own.kept hKB5 (fun _ _ h => h), S5.eq, S5.kept.trans (hKB5.mono (fun _ _ h => h.elim)), S5.new⟩
  have t5 := (hKB5.block _ (lt_in x5) (fun h => h)).trans x5
  have n5 : ∀ k, some w5.heap.size = some k → (g5) ≠ some k := fun k hk hg => by
    cases hk
    exact absurd (S5.own.lt _ hg) (by omega)
  have len5 : x.key.data.toList.length = x.key.size := by simp
  have R5 : Reads wb5 1 _ x.key.data.toList.length _ _ := hRB5
  rw [len5] at hRB5
  clear hcv5
  clear z6 lx
  refine (bytesRef_c (bs := x.key.data.toList) T5.own (by rw [len5]; exact hRB5) n5 (by rw [len5]; have := S5.len; simp only [List.length_append, List.length_nil, encI_length, bB_length, leB_length, encT_length, encBy_length] at this hm; omega)).mono ?_
  rw [len5]
  rintro e w6 ⟨v6, rfl, hG6⟩
  obtain ⟨L6, g6, S6⟩ := T5.then hG6
  obtain ⟨a6, c6, rfl, -, -⟩ := S6.own.shape
  have x6 : w6.heap[w.heap.size]? = some (Obj.cells #[Value.int IntKind.i64 x.kind, Value.int IntKind.i64 x.pg.pool, Value.int IntKind.i64 x.pg.seed, Value.string x.name, Value.int IntKind.i64 x.pos, Value.int IntKind.i64 x.n, Value.string x.key, Value.slice a_v_data x.data.length c_v_data] 239) := (hG6.old _ (lt_in t5) (fun hh => T5.own.ne t5 (by decide) _ hh rfl)).trans t5
  have z7 : w6.cell? ⟨w.heap.size, 7, none⟩ = some (Value.slice a_v_data x.data.length c_v_data) := cell_in x6
  have lx := lt_in x6
  go_wp2_with fail
  clear z7 lx
  have hd6 := S6.data hS
  obtain ⟨gb6, rb6, hb6⟩ := (l0.heap (fun _ _ h => byteIs_stable _ _ _ _ _ _ h (fun _ h => h) hd6) (fun _ h => h) hd6).reads
  refine (bytesRef_c S6.own rb6 (fun k hk hh => by have hk' := hS k (hb6 k hk); rcases S6.new k hh with h' | h'; exact hk'.2 h'; exact absurd hk'.1 (by omega)) (by have := S6.len; simp only [List.length_append, List.length_nil, encI_length, bB_length, leB_length, encT_length, encBy_length] at this hm; omega)).mono ?_
  rintro e w7 ⟨v7, rfl, hG7⟩
  obtain ⟨L7, g7, S7⟩ := S6.then hG7
  obtain ⟨a7, c7, rfl, -, -⟩ := S7.own.shape
  have x7 : w7.heap[w.heap.size]? = some (Obj.cells #[Value.int IntKind.i64 x.kind, Value.int IntKind.i64 x.pg.pool, Value.int IntKind.i64 x.pg.seed, Value.string x.name, Value.int IntKind.i64 x.pos, Value.int IntKind.i64 x.n, Value.string x.key, Value.slice a_v_data x.data.length c_v_data] 239) := (hG7.old _ (lt_in x6) (fun hh => S6.own.ne x6 (by decide) _ hh rfl)).trans x6
  go_wp2
  go_ret
  exact ⟨_, rfl, S7.done⟩
structure TxT where
  steps : List StepT
def TxT.Is (w : World) (S : Nat → Prop) (cs : List Value) (x : TxT) : Prop := ∃ v_steps : Value, cs = [v_steps] ∧ ListIs 8 StepT.Is w S v_steps x.steps
def TxT.enc (x : TxT) : List UInt8 := [] ++ leB 4 x.steps.length ++ x.steps.flatMap StepT.enc
theorem TxT.Is.heap {w w' : World} {S S' : Nat → Prop} {cs : List Value} {x : TxT} (h : TxT.Is w S cs x) (hS : ∀ k, S k → S' k) (hk : ∀ k, S k → w'.heap[k]? = w.heap[k]?) : TxT.Is w' S' cs x := by
  obtain ⟨v_steps, rfl, l0⟩ := h
  exact ⟨v_steps, rfl, l0.heap (fun _ _ h => StepT.Is.heap h hS hk) hS hk⟩
theorem putTx_c {w : World} {v : Value} {out : List UInt8} {g : Option Nat} (h : Own w 5 1 v out.length (out.map bv) g) {S : Nat → Prop} (hS : ∀ k, S k → k < w.heap.size ∧ g ≠ some k) (x : TxT) {cs : List Value} (hx : TxT.Is w S cs x) (hm : out.length + x.enc.length ≤ 140737488353500) :
    Calls Tryz.prog 54 #[v, .agg cs.toArray] w fun e w' => ∃ v', e = .returned v' ∧ Grew w w' v' out g x.enc := by
  obtain ⟨v_steps, rfl, l0⟩ := hx
  obtain ⟨a_v_steps, c_v_steps, rfl, -⟩ := l0.shape
  simp only [TxT.enc] at hm ⊢
  obtain ⟨a0, c0, rfl, -, -⟩ := h.shape
  go_enter Tryz.func54, Tryz.ntmps54
  go_wp2_with fail
  have x0 : (w.alloc (Obj.cells #[Value.slice a_v_steps x.steps.length c_v_steps] 80)).heap[w.heap.size]? = some (Obj.cells #[Value.slice a_v_steps x.steps.length c_v_steps] 80) := heap_alloc_new' _ _
  have S0 := (Out.start h).alloc (Obj.cells #[Value.slice a_v_steps x.steps.length c_v_steps] 80)
  generalize w.alloc (Obj.cells #[Value.slice a_v_steps x.steps.length c_v_steps] 80) = w0 at x0 S0 ⊢
  refine (countRef_c S0.own x.steps.length (by have := S0.len; simp only [List.length_append, List.length_nil, encI_length, bB_length, leB_length, encT_length, encBy_length] at this hm; omega)).mono ?_
  rintro e w1 ⟨v1, rfl, hG1⟩
  obtain ⟨L1, g1, S1⟩ := S0.then hG1
  obtain ⟨a1, c1, rfl, -, -⟩ := S1.own.shape
  have x1 : w1.heap[w.heap.size]? = some (Obj.cells #[Value.slice a_v_steps x.steps.length c_v_steps] 80) := (hG1.old _ (lt_in x0) (fun hh => S0.own.ne x0 (by decide) _ hh rfl)).trans x0
  have z0 : w1.cell? ⟨w.heap.size, 0, none⟩ = some (Value.slice a_v_steps x.steps.length c_v_steps) := cell_in x1
  have lx := lt_in x1
  go_wp2
  clear z0 lx
  go_loopw [15, 0] (fun i o w' => ∃ (k : Nat) (L : List UInt8) (gL : Option Nat), k ≤ x.steps.length ∧ i = .int .i64 k ∧ Out w w' o out g (([] ++ leB 4 x.steps.length) ++ (x.steps.take k).flatMap StepT.enc) L gL ∧ w'.heap[w.heap.size]? = some (Obj.cells #[Value.slice a_v_steps x.steps.length c_v_steps] 80)) (fun i _ _ => x.steps.length - (intOf i).toNat)
  case atStart => exact ⟨0, L1, g1, by omega, rfl, S1.cast (by simp), x1⟩
  case round =>
    obtain ⟨k, L, gL, hk, rfl, SL, xl⟩ := hrel
    by_cases hk2 : k < x.steps.length
    · have hki : (k : Int) < (x.steps.length : Int) := by omega
      have hnl : x.steps.length ≤ 9223372036854775807 := l0.small
      have hd := SL.data hS
      obtain ⟨b, off, cs, rfl, hb, hcl, hcell, hr⟩ := (l0.heap (fun _ _ h => StepT.Is.heap h (fun _ h => h) hd) (fun _ h => h) hd).at hk2
      have hfl := flatMap_le StepT.enc x.steps (k + 1)
      have hft := flatMap_take StepT.enc x.steps k hk2
      rw [hft, List.length_append] at hfl
      obtain ⟨e, he⟩ : ∃ e, e = x.steps[k] := ⟨_, rfl⟩
      rw [← he] at hr hft hfl
      have HFT := Lib.hid hft
      clear hft he hcl
      obtain ⟨aL, cL, rfl, -, -⟩ := SL.own.shape
      have hr0 := hr
      obtain ⟨uv_data, rfl, j0, j1, j2, j3, j4, m0⟩ := hr
      obtain ⟨au0, cu0, rfl, -⟩ := m0.shape
      have y0 : wr.cell? ⟨b, off + k * 8, none⟩ = some (Value.int IntKind.i64 e.kind) := hcell 0 (by omega)
      have y1 : wr.cell? ⟨b, off + k * 8 + 1, none⟩ = some (Value.int IntKind.i64 e.pg.pool) := hcell 1 (by omega)
      have y2 : wr.cell? ⟨b, off + k * 8 + 2, none⟩ = some (Value.int IntKind.i64 e.pg.seed) := hcell 2 (by omega)
      have y3 : wr.cell? ⟨b, off + k * 8 + 3, none⟩ = some (Value.string e.name) := hcell 3 (by omega)
      have y4 : wr.cell? ⟨b, off + k * 8 + 4, none⟩ = some (Value.int IntKind.i64 e.pos) := hcell 4 (by omega)
      have y5 : wr.cell? ⟨b, off + k * 8 + 5, none⟩ = some (Value.int IntKind.i64 e.n) := hcell 5 (by omega)
      have y6 : wr.cell? ⟨b, off + k * 8 + 6, none⟩ = some (Value.string e.key) := hcell 6 (by omega)
      have y7 : wr.cell? ⟨b, off + k * 8 + 7, none⟩ = some (Value.slice au0 e.data.length cu0) := hcell 7 (by omega)
      go_wp2_with fail
      have SA := SL.alloc (Obj.cells #[Value.int IntKind.i64 e.kind, Value.int IntKind.i64 e.pg.pool, Value.int IntKind.i64 e.pg.seed, Value.string e.name, Value.int IntKind.i64 e.pos, Value.int IntKind.i64 e.n, Value.string e.key, Value.slice au0 e.data.length cu0] 239)
      have xa : (wr.alloc (Obj.cells #[Value.int IntKind.i64 e.kind, Value.int IntKind.i64 e.pg.pool, Value.int IntKind.i64 e.pg.seed, Value.string e.name, Value.int IntKind.i64 e.pos, Value.int IntKind.i64 e.n, Value.string e.key, Value.slice au0 e.data.length cu0] 239)).heap[w.heap.size]? = _ := (Below.heap_alloc _ _ _ (lt_in xl)).trans xl
      have hrA : StepT.Is (wr.alloc (Obj.cells #[Value.int IntKind.i64 e.kind, Value.int IntKind.i64 e.pg.pool, Value.int IntKind.i64 e.pg.seed, Value.string e.name, Value.int IntKind.i64 e.pos, Value.int IntKind.i64 e.n, Value.string e.key, Value.slice au0 e.data.length cu0] 239)) S _ e := hr0.heap (fun _ h => h) (fun k hk => Below.heap_alloc _ _ _ (Nat.lt_of_lt_of_le (hS k hk).1 SL.kept.size))
      generalize wr.alloc (Obj.cells #[Value.int IntKind.i64 e.kind, Value.int IntKind.i64 e.pg.pool, Value.int IntKind.i64 e.pg.seed, Value.string e.name, Value.int IntKind.i64 e.pos, Value.int IntKind.i64 e.n, Value.string e.key, Value.slice au0 e.data.length cu0] 239) = wa at SA xa hrA ⊢
      refine (putStep_c (S := S) SA.own (fun k hk => ⟨Nat.lt_of_lt_of_le (hS k hk).1 SA.kept.size, fun hh => by rcases SA.new k hh with h' | h'; exact (hS k hk).2 h'; exact absurd (hS k hk).1 (by omega)⟩) e hrA (by have := SL.len; simp only [List.length_append, List.length_nil, encI_length, bB_length, leB_length, encT_length, encBy_length] at this hm hfl; omega)).mono ?_
      rintro _ w9 ⟨v9, rfl, hG⟩
      obtain ⟨L9, g9, S9⟩ := SA.then hG
      have xl9 : w9.heap[w.heap.size]? = _ := (hG.old _ (lt_in xa) (fun hh => SA.own.ne xa (by decide) _ hh rfl)).trans xa
      obtain ⟨a9, c9, rfl, -, -⟩ := S9.own.shape
      have X9 := Lib.hid xl9
      have HS9 := Lib.hid (S9.cast (more' := ([] ++ leB 4 x.steps.length) ++ (x.steps.take (k + 1)).flatMap StepT.enc) (by rw [HFT.out, List.append_assoc]))
      clear xl9 S9 hG
      go_wp2
      exact ⟨⟨k + 1, L9, g9, by omega, by simp, HS9.out, X9.out⟩, by simp [intOf]; omega⟩
    · obtain rfl : k = x.steps.length := by omega
      have S2 : Out w wr _ out g (([] ++ leB 4 x.steps.length) ++ x.steps.flatMap StepT.enc) L gL := SL.cast (by rw [List.take_length])
      obtain ⟨a2, c2, rfl, -, -⟩ := S2.own.shape
      have x2 := xl
      rename World => w2
      clear SL xl
      go_wp2
      go_ret
      exact ⟨_, rfl, S2.done⟩
end Go.Proofs.YtmbjealliinpdaaGreat
end

section

namespace Go.Proofs.YtmbjealliinpdaaGreat
open Go.RowKit
def pVersion : Pr VersionT := fun bs => (pI bs).bind fun y0 => (pI y0.2).bind fun y1 => some (⟨y0.1, y1.1⟩, y1.2)
def VersionT.ok (x : VersionT) : Prop := in64 x.epoch ∧ in64 x.n
theorem lawVersion : Law pVersion VersionT.enc VersionT.ok := by
  refine ⟨fun x rest hok => ?_, fun bs x rest h => ?_, fun x => by simp only [VersionT.enc, List.length_append, List.length_nil, encI_length, bB_length, leB_length, encT_length, encBy_length]; omega⟩
  · obtain ⟨o0, o1⟩ := hok
    simp only [pVersion, VersionT.enc, List.nil_append, List.append_assoc]
    rw [lawI.enc _ _ o0]
    simp only [Option.bind_some]
    rw [lawI.enc _ _ o1]
    simp only [Option.bind_some]
  · simp only [pVersion] at h
    obtain ⟨⟨x0, r0⟩, h0, h⟩ := Option.bind_eq_some_iff.1 h
    obtain ⟨⟨x1, r1⟩, h1, h⟩ := Option.bind_eq_some_iff.1 h
    simp only [Option.some.injEq, Prod.mk.injEq] at h
    obtain ⟨rfl, rfl⟩ := h
    obtain ⟨e0, o0⟩ := lawI.dec _ _ _ h0
    obtain ⟨e1, o1⟩ := lawI.dec _ _ _ h1
    simp only at e1
    exact ⟨by rw [e0, e1]; simp only [VersionT.enc, List.nil_append, List.append_assoc], o0, o1⟩
theorem VersionT.stable : Stable VersionT.Is := fun _ _ _ _ _ _ h _ _ => VersionT.Is.heap h
theorem VersionT.Is.ok {w : World} {S : Nat → Prop} {cs : List Value} {x : VersionT} (h : VersionT.Is w S cs x) (hl : x.enc.length < 4294967296) : x.ok := by
  obtain ⟨rfl, i0, i1⟩ := h
  simp only [VersionT.enc, List.length_append, List.length_nil, encI_length, bB_length, leB_length, encT_length, encBy_length] at hl
  exact ⟨i0, i1⟩
def pPg : Pr PgT := fun bs => (pI bs).bind fun y0 => (pI y0.2).bind fun y1 => some (⟨y0.1, y1.1⟩, y1.2)
def PgT.ok (x : PgT) : Prop := in64 x.pool ∧ in64 x.seed
theorem lawPg : Law pPg PgT.enc PgT.ok := by
  refine ⟨fun x rest hok => ?_, fun bs x rest h => ?_, fun x => by simp only [PgT.enc, List.length_append, List.length_nil, encI_length, bB_length, leB_length, encT_length, encBy_length]; omega⟩
  · obtain ⟨o0, o1⟩ := hok
    simp only [pPg, PgT.enc, List.nil_append, List.append_assoc]
    rw [lawI.enc _ _ o0]
    simp only [Option.bind_some]
    rw [lawI.enc _ _ o1]
    simp only [Option.bind_some]
  · simp only [pPg] at h
    obtain ⟨⟨x0, r0⟩, h0, h⟩ := Option.bind_eq_some_iff.1 h
    obtain ⟨⟨x1, r1⟩, h1, h⟩ := Option.bind_eq_some_iff.1 h
    simp only [Option.some.injEq, Prod.mk.injEq] at h
    obtain ⟨rfl, rfl⟩ := h
    obtain ⟨e0, o0⟩ := lawI.dec _ _ _ h0
    obtain ⟨e1, o1⟩ := lawI.dec _ _ _ h1
    simp only at e1
    exact ⟨by rw [e0, e1]; simp only [PgT.enc, List.nil_append, List.append_assoc], o0, o1⟩
theorem PgT.stable : Stable PgT.Is := fun _ _ _ _ _ _ h _ _ => PgT.Is.heap h
theorem PgT.Is.ok {w : World} {S : Nat → Prop} {cs : List Value} {x : PgT} (h : PgT.Is w S cs x) (hl : x.enc.length < 4294967296) : x.ok := by
  obtain ⟨rfl, i0, i1⟩ := h
  simp only [PgT.enc, List.length_append, List.length_nil, encI_length, bB_length, leB_length, encT_length, encBy_length] at hl
  exact ⟨i0, i1⟩
def pEntry : Pr EntryT := fun bs => (pVersion bs).bind fun y0 => (pF y0.2).bind fun y1 => (pI y1.2).bind fun y2 => (pT y2.2).bind fun y3 => (pI y3.2).bind fun y4 => (pI y4.2).bind fun y5 => some (⟨y0.1, y1.1, y2.1, y3.1, y4.1, y5.1⟩, y5.2)
def EntryT.ok (x : EntryT) : Prop := VersionT.ok x.version ∧ in64 x.errno ∧ x.name.size < 4294967296 ∧ in64 x.client ∧ in64 x.number
theorem lawEntry : Law pEntry EntryT.enc EntryT.ok := by
  refine ⟨fun x rest hok => ?_, fun bs x rest h => ?_, fun x => by have := lawVersion.pos x.version; simp only [EntryT.enc, List.length_append, List.length_nil, encI_length, bB_length, leB_length, encT_length, encBy_length]; omega⟩
  · obtain ⟨o0, o2, o3, o4, o5⟩ := hok
    simp only [pEntry, EntryT.enc, List.nil_append, List.append_assoc]
    rw [lawVersion.enc _ _ o0]
    simp only [Option.bind_some]
    rw [lawF.enc _ _ trivial]
    simp only [Option.bind_some]
    rw [lawI.enc _ _ o2]
    simp only [Option.bind_some]
    rw [lawT.enc _ _ o3]
    simp only [Option.bind_some]
    rw [lawI.enc _ _ o4]
    simp only [Option.bind_some]
    rw [lawI.enc _ _ o5]
    simp only [Option.bind_some]
  · simp only [pEntry] at h
    obtain ⟨⟨x0, r0⟩, h0, h⟩ := Option.bind_eq_some_iff.1 h
    obtain ⟨⟨x1, r1⟩, h1, h⟩ := Option.bind_eq_some_iff.1 h
    obtain ⟨⟨x2, r2⟩, h2, h⟩ := Option.bind_eq_some_iff.1 h
    obtain ⟨⟨x3, r3⟩, h3, h⟩ := Option.bind_eq_some_iff.1 h
    obtain ⟨⟨x4, r4⟩, h4, h⟩ := Option.bind_eq_some_iff.1 h
    obtain ⟨⟨x5, r5⟩, h5, h⟩ := Option.bind_eq_some_iff.1 h
    simp only [Option.some.injEq, Prod.mk.injEq] at h
    obtain ⟨rfl, rfl⟩ := h
    obtain ⟨e0, o0⟩ := lawVersion.dec _ _ _ h0
    obtain ⟨e1, o1⟩ := lawF.dec _ _ _ h1
    obtain ⟨e2, o2⟩ := lawI.dec _ _ _ h2
    obtain ⟨e3, o3⟩ := lawT.dec _ _ _ h3
    obtain ⟨e4, o4⟩ := lawI.dec _ _ _ h4
    obtain ⟨e5, o5⟩ := lawI.dec _ _ _ h5
    simp only at e1 e2 e3 e4 e5
    exact ⟨by rw [e0, e1, e2, e3, e4, e5]; simp only [EntryT.enc, List.nil_append, List.append_assoc], o0, o2, o3, o4, o5⟩
theorem EntryT.stable : Stable EntryT.Is := fun _ _ _ _ _ _ h _ _ => EntryT.Is.heap h
theorem EntryT.Is.ok {w : World} {S : Nat → Prop} {cs : List Value} {x : EntryT} (h : EntryT.Is w S cs x) (hl : x.enc.length < 4294967296) : x.ok := by
  obtain ⟨rfl, i0, i1, i2, i3, i4⟩ := h
  simp only [EntryT.enc, VersionT.enc, List.length_append, List.length_nil, encI_length, bB_length, leB_length, encT_length, encBy_length] at hl
  exact ⟨⟨i0, i1⟩, i2, by omega, i3, i4⟩
def pLast : Pr LastT := fun bs => (pI bs).bind fun y0 => (pI y0.2).bind fun y1 => (pI y1.2).bind fun y2 => (pVersion y2.2).bind fun y3 => some (⟨y0.1, y1.1, y2.1, y3.1⟩, y3.2)
def LastT.ok (x : LastT) : Prop := in64 x.client ∧ in64 x.number ∧ in64 x.errno ∧ VersionT.ok x.version
theorem lawLast : Law pLast LastT.enc LastT.ok := by
  refine ⟨fun x rest hok => ?_, fun bs x rest h => ?_, fun x => by simp only [LastT.enc, List.length_append, List.length_nil, encI_length, bB_length, leB_length, encT_length, encBy_length]; omega⟩
  · obtain ⟨o0, o1, o2, o3⟩ := hok
    simp only [pLast, LastT.enc, List.nil_append, List.append_assoc]
    rw [lawI.enc _ _ o0]
    simp only [Option.bind_some]
    rw [lawI.enc _ _ o1]
    simp only [Option.bind_some]
    rw [lawI.enc _ _ o2]
    simp only [Option.bind_some]
    rw [lawVersion.enc _ _ o3]
    simp only [Option.bind_some]
  · simp only [pLast] at h
    obtain ⟨⟨x0, r0⟩, h0, h⟩ := Option.bind_eq_some_iff.1 h
    obtain ⟨⟨x1, r1⟩, h1, h⟩ := Option.bind_eq_some_iff.1 h
    obtain ⟨⟨x2, r2⟩, h2, h⟩ := Option.bind_eq_some_iff.1 h
    obtain ⟨⟨x3, r3⟩, h3, h⟩ := Option.bind_eq_some_iff.1 h
    simp only [Option.some.injEq, Prod.mk.injEq] at h
    obtain ⟨rfl, rfl⟩ := h
    obtain ⟨e0, o0⟩ := lawI.dec _ _ _ h0
    obtain ⟨e1, o1⟩ := lawI.dec _ _ _ h1
    obtain ⟨e2, o2⟩ := lawI.dec _ _ _ h2
    obtain ⟨e3, o3⟩ := lawVersion.dec _ _ _ h3
    simp only at e1 e2 e3
    exact ⟨by rw [e0, e1, e2, e3]; simp only [LastT.enc, List.nil_append, List.append_assoc], o0, o1, o2, o3⟩
theorem LastT.stable : Stable LastT.Is := fun _ _ _ _ _ _ h _ _ => LastT.Is.heap h
theorem LastT.Is.ok {w : World} {S : Nat → Prop} {cs : List Value} {x : LastT} (h : LastT.Is w S cs x) (hl : x.enc.length < 4294967296) : x.ok := by
  obtain ⟨rfl, i0, i1, i2, i3, i4⟩ := h
  simp only [LastT.enc, VersionT.enc, List.length_append, List.length_nil, encI_length, bB_length, leB_length, encT_length, encBy_length] at hl
  exact ⟨i0, i1, i2, ⟨i3, i4⟩⟩
def pItem : Pr ItemT := fun bs => (pT bs).bind fun y0 => (pVersion y0.2).bind fun y1 => (pW 4 y1.2).bind fun y2 => some (⟨y0.1, y1.1, y2.1⟩, y2.2)
def ItemT.ok (x : ItemT) : Prop := x.name.size < 4294967296 ∧ VersionT.ok x.version ∧ x.crc < 4294967296
theorem lawItem : Law pItem ItemT.enc ItemT.ok := by
  refine ⟨fun x rest hok => ?_, fun bs x rest h => ?_, fun x => by simp only [ItemT.enc, List.length_append, List.length_nil, encI_length, bB_length, leB_length, encT_length, encBy_length]; omega⟩
  · obtain ⟨o0, o1, o2⟩ := hok
    simp only [pItem, ItemT.enc, List.nil_append, List.append_assoc]
    rw [lawT.enc _ _ o0]
    simp only [Option.bind_some]
    rw [lawVersion.enc _ _ o1]
    simp only [Option.bind_some]
    rw [lawW.enc _ _ o2]
    simp only [Option.bind_some]
  · simp only [pItem] at h
    obtain ⟨⟨x0, r0⟩, h0, h⟩ := Option.bind_eq_some_iff.1 h
    obtain ⟨⟨x1, r1⟩, h1, h⟩ := Option.bind_eq_some_iff.1 h
    obtain ⟨⟨x2, r2⟩, h2, h⟩ := Option.bind_eq_some_iff.1 h
    simp only [Option.some.injEq, Prod.mk.injEq] at h
    obtain ⟨rfl, rfl⟩ := h
    obtain ⟨e0, o0⟩ := lawT.dec _ _ _ h0
    obtain ⟨e1, o1⟩ := lawVersion.dec _ _ _ h1
    obtain ⟨e2, o2⟩ := lawW.dec _ _ _ h2
    simp only at e1 e2
    exact ⟨by rw [e0, e1, e2]; simp only [ItemT.enc, List.nil_append, List.append_assoc], o0, o1, o2⟩
theorem ItemT.stable : Stable ItemT.Is := fun _ _ _ _ _ _ h _ _ => ItemT.Is.heap h
theorem ItemT.Is.ok {w : World} {S : Nat → Prop} {cs : List Value} {x : ItemT} (h : ItemT.Is w S cs x) (hl : x.enc.length < 4294967296) : x.ok := by
  obtain ⟨rfl, i0, i1, i2⟩ := h
  simp only [ItemT.enc, VersionT.enc, List.length_append, List.length_nil, encI_length, bB_length, leB_length, encT_length, encBy_length] at hl
  exact ⟨by omega, ⟨i0, i1⟩, i2⟩
def pState : Pr StateT := fun bs => (pI bs).bind fun y0 => (pVersion y0.2).bind fun y1 => (pL pEntry y1.2).bind fun y2 => (pL pLast y2.2).bind fun y3 => (pL pItem y3.2).bind fun y4 => some (⟨y0.1, y1.1, y2.1, y3.1, y4.1⟩, y4.2)
def StateT.ok (x : StateT) : Prop := in64 x.les ∧ VersionT.ok x.tail ∧ okL EntryT.ok x.log ∧ okL LastT.ok x.lasts ∧ okL ItemT.ok x.items
theorem lawState : Law pState StateT.enc StateT.ok := by
  refine ⟨fun x rest hok => ?_, fun bs x rest h => ?_, fun x => by simp only [StateT.enc, List.length_append, List.length_nil, encI_length, bB_length, leB_length, encT_length, encBy_length]; omega⟩
  · obtain ⟨o0, o1, o2, o3, o4⟩ := hok
    simp only [pState, StateT.enc, List.nil_append, List.append_assoc]
    rw [lawI.enc _ _ o0]
    simp only [Option.bind_some]
    rw [lawVersion.enc _ _ o1]
    simp only [Option.bind_some]
    rw [pL_enc lawEntry _ _ o2]
    simp only [Option.bind_some]
    rw [pL_enc lawLast _ _ o3]
    simp only [Option.bind_some]
    rw [pL_enc lawItem _ _ o4]
    simp only [Option.bind_some]
  · simp only [pState] at h
    obtain ⟨⟨x0, r0⟩, h0, h⟩ := Option.bind_eq_some_iff.1 h
    obtain ⟨⟨x1, r1⟩, h1, h⟩ := Option.bind_eq_some_iff.1 h
    obtain ⟨⟨x2, r2⟩, h2, h⟩ := Option.bind_eq_some_iff.1 h
    obtain ⟨⟨x3, r3⟩, h3, h⟩ := Option.bind_eq_some_iff.1 h
    obtain ⟨⟨x4, r4⟩, h4, h⟩ := Option.bind_eq_some_iff.1 h
    simp only [Option.some.injEq, Prod.mk.injEq] at h
    obtain ⟨rfl, rfl⟩ := h
    obtain ⟨e0, o0⟩ := lawI.dec _ _ _ h0
    obtain ⟨e1, o1⟩ := lawVersion.dec _ _ _ h1
    obtain ⟨e2, o2⟩ := pL_dec lawEntry h2
    obtain ⟨e3, o3⟩ := pL_dec lawLast h3
    obtain ⟨e4, o4⟩ := pL_dec lawItem h4
    simp only at e1 e2 e3 e4
    exact ⟨by rw [e0, e1, e2, e3, e4]; simp only [StateT.enc, List.nil_append, List.append_assoc], o0, o1, o2, o3, o4⟩
theorem StateT.stable : Stable StateT.Is := fun _ _ _ _ _ _ h h1 h2 => StateT.Is.heap h h1 h2
theorem StateT.Is.ok {w : World} {S : Nat → Prop} {cs : List Value} {x : StateT} (h : StateT.Is w S cs x) (hl : x.enc.length < 4294967296) : x.ok := by
  obtain ⟨v_log, v_lasts, v_items, rfl, i0, i1, i2, l0, l1, l2⟩ := h
  simp only [StateT.enc, VersionT.enc, List.length_append, List.length_nil, encI_length, bB_length, leB_length, encT_length, encBy_length] at hl
  exact ⟨i0, ⟨i1, i2⟩, okL_of l0 (fun _ _ h hl => EntryT.Is.ok h hl) lawEntry.pos (by omega), okL_of l1 (fun _ _ h hl => LastT.Is.ok h hl) lawLast.pos (by omega), okL_of l2 (fun _ _ h hl => ItemT.Is.ok h hl) lawItem.pos (by omega)⟩
def pStep : Pr StepT := fun bs => (pI bs).bind fun y0 => (pPg y0.2).bind fun y1 => (pT y1.2).bind fun y2 => (pI y2.2).bind fun y3 => (pI y3.2).bind fun y4 => (pT y4.2).bind fun y5 => (pB y5.2).bind fun y6 => some (⟨y0.1, y1.1, y2.1, y3.1, y4.1, y5.1, y6.1⟩, y6.2)
def StepT.ok (x : StepT) : Prop := in64 x.kind ∧ PgT.ok x.pg ∧ x.name.size < 4294967296 ∧ in64 x.pos ∧ in64 x.n ∧ x.key.size < 4294967296 ∧ x.data.length < 4294967296
theorem lawStep : Law pStep StepT.enc StepT.ok := by
  refine ⟨fun x rest hok => ?_, fun bs x rest h => ?_, fun x => by simp only [StepT.enc, List.length_append, List.length_nil, encI_length, bB_length, leB_length, encT_length, encBy_length]; omega⟩
  · obtain ⟨o0, o1, o2, o3, o4, o5, o6⟩ := hok
    simp only [pStep, StepT.enc, List.nil_append, List.append_assoc]
    rw [lawI.enc _ _ o0]
    simp only [Option.bind_some]
    rw [lawPg.enc _ _ o1]
    simp only [Option.bind_some]
    rw [lawT.enc _ _ o2]
    simp only [Option.bind_some]
    rw [lawI.enc _ _ o3]
    simp only [Option.bind_some]
    rw [lawI.enc _ _ o4]
    simp only [Option.bind_some]
    rw [lawT.enc _ _ o5]
    simp only [Option.bind_some]
    rw [lawB.enc _ _ o6]
    simp only [Option.bind_some]
  · simp only [pStep] at h
    obtain ⟨⟨x0, r0⟩, h0, h⟩ := Option.bind_eq_some_iff.1 h
    obtain ⟨⟨x1, r1⟩, h1, h⟩ := Option.bind_eq_some_iff.1 h
    obtain ⟨⟨x2, r2⟩, h2, h⟩ := Option.bind_eq_some_iff.1 h
    obtain ⟨⟨x3, r3⟩, h3, h⟩ := Option.bind_eq_some_iff.1 h
    obtain ⟨⟨x4, r4⟩, h4, h⟩ := Option.bind_eq_some_iff.1 h
    obtain ⟨⟨x5, r5⟩, h5, h⟩ := Option.bind_eq_some_iff.1 h
    obtain ⟨⟨x6, r6⟩, h6, h⟩ := Option.bind_eq_some_iff.1 h
    simp only [Option.some.injEq, Prod.mk.injEq] at h
    obtain ⟨rfl, rfl⟩ := h
    obtain ⟨e0, o0⟩ := lawI.dec _ _ _ h0
    obtain ⟨e1, o1⟩ := lawPg.dec _ _ _ h1
    obtain ⟨e2, o2⟩ := lawT.dec _ _ _ h2
    obtain ⟨e3, o3⟩ := lawI.dec _ _ _ h3
    obtain ⟨e4, o4⟩ := lawI.dec _ _ _ h4
    obtain ⟨e5, o5⟩ := lawT.dec _ _ _ h5
    obtain ⟨e6, o6⟩ := lawB.dec _ _ _ h6
    simp only at e1 e2 e3 e4 e5 e6
    exact ⟨by rw [e0, e1, e2, e3, e4, e5, e6]; simp only [StepT.enc, List.nil_append, List.append_assoc], o0, o1, o2, o3, o4, o5, o6⟩
theorem StepT.stable : Stable StepT.Is := fun _ _ _ _ _ _ h h1 h2 => StepT.Is.heap h h1 h2
theorem StepT.Is.ok {w : World} {S : Nat → Prop} {cs : List Value} {x : StepT} (h : StepT.Is w S cs x) (hl : x.enc.length < 4294967296) : x.ok := by
  obtain ⟨v_data, rfl, i0, i1, i2, i3, i4, l0⟩ := h
  simp only [StepT.enc, PgT.enc, List.length_append, List.length_nil, encI_length, bB_length, leB_length, encT_length, encBy_length] at hl
  exact ⟨i0, ⟨i1, i2⟩, by omega, i3, i4, by omega, by omega⟩
def pTx : Pr TxT := fun bs => (pL pStep bs).bind fun y0 => some (⟨y0.1⟩, y0.2)
def TxT.ok (x : TxT) : Prop := okL StepT.ok x.steps
theorem lawTx : Law pTx TxT.enc TxT.ok := by
  refine ⟨fun x rest hok => ?_, fun bs x rest h => ?_, fun x => by simp only [TxT.enc, List.length_append, List.length_nil, encI_length, bB_length, leB_length, encT_length, encBy_length]; omega⟩
  · have o0 := hok
    simp only [pTx, TxT.enc, List.nil_append, List.append_assoc]
    rw [pL_enc lawStep _ _ o0]
    simp only [Option.bind_some]
  · simp only [pTx] at h
    obtain ⟨⟨x0, r0⟩, h0, h⟩ := Option.bind_eq_some_iff.1 h
    simp only [Option.some.injEq, Prod.mk.injEq] at h
    obtain ⟨rfl, rfl⟩ := h
    obtain ⟨e0, o0⟩ := pL_dec lawStep h0
    exact ⟨by rw [e0]; simp only [TxT.enc, List.nil_append, List.append_assoc], o0⟩
theorem TxT.stable : Stable TxT.Is := fun _ _ _ _ _ _ h h1 h2 => TxT.Is.heap h h1 h2
theorem TxT.Is.ok {w : World} {S : Nat → Prop} {cs : List Value} {x : TxT} (h : TxT.Is w S cs x) (hl : x.enc.length < 4294967296) : x.ok := by
  obtain ⟨v_steps, rfl, l0⟩ := h
  simp only [TxT.enc, List.length_append, List.length_nil, encI_length, bB_length, leB_length, encT_length, encBy_length] at hl
  exact okL_of l0 (fun _ _ h hl => StepT.Is.ok h hl) lawStep.pos (by omega)
end Go.Proofs.YtmbjealliinpdaaGreat
end
