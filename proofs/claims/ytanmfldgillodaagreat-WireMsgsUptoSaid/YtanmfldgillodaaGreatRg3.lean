/- The codec's readers of the structs, at any bytes. -/
import Derived.Test.YtanmfldgillodaaGreatPr3
set_option linter.unusedSimpArgs false
set_option linter.unusedVariables false
namespace Go.Proofs.YtanmfldgillodaaGreat
open Go.RowKit

theorem info_Inc : (Tryz.prog.info? 60).map (fun i => (i.zero, i.size, i.bytes)) = some (some (Value.agg #[Value.int IntKind.i64 0, Value.slice none 0 0]), 2, 32) := by kernel_rfl

set_option maxRecDepth 100000 in
set_option maxHeartbeats 1600000 in
theorem listIncG_c {w : World} {c p o : Nat} {bs : List UInt8} {g : Option Nat} {cur : Array Value} {t : TypeId} (h : Rd w c bs g) (hgl : ∀ k, g = some k → k < w.heap.size) (hb : Blk w p cur t c g) (hz : cur[o]? = some (.slice none 0 0)) :
    Calls Tryz.prog 69 #[.pointer (some ⟨c, 0, none⟩), .pointer (some ⟨p, o, none⟩), .func (.func 40) #[.pointer (some ⟨c, 0, none⟩)] #[]] w (Got (sliceIs 2 IncT.Is) (pL pInc) bs w c p o g cur t) := by
  obtain ⟨i0, hi0, hz0, hz1, hz2⟩ := info_all info_Inc
  have p0 : w.cell? ⟨p, o, none⟩ = some (.slice none 0 0) := (cell_in hb.heap).trans hz
  have hlp := lt_in hb.heap
  have hlc := h.lt
  go_enter Tryz.func69, Tryz.ntmps69
  go_wp2_with fail
  refine (countG_c h).mono ?_
  rintro e w1 ⟨k1, ⟨n, r1, hp1, rfl, h1⟩ | ⟨hp1, rfl⟩⟩
  rotate_left
  · exact ⟨rfl, k1.mono (fun _ _ h => .inl h), .inl ⟨by unfold pL; rw [hp1]; rfl, rfl, (hb.kept k1 hb.ne).was⟩⟩
  have hb1 := hb.kept k1 hb.ne
  have p1 : w1.cell? ⟨p, o, none⟩ = some (.slice none 0 0) := (cell_in hb1.heap).trans hz
  have f1 : w1.frozen? ⟨p, o, none⟩ = false := frozen_in hb1.heap
  have lp1 := lt_in hb1.heap
  have c2 : w1.cell? ⟨c, 2, none⟩ = some (.bool true) := by
    obtain ⟨vi, h2, -⟩ := h1.ex
    exact cell_in h2
  have lc1 := h1.lt
  have e1 := setCell_same' p1
  have L0 := Lst.start IncT.Is 2 60 hb1 hz k1
  have hn32 := (pC_some hp1).2.1
  have HP1 : Hid (pL pInc bs = pN pInc n r1) := Lib.hid (by unfold pL; rw [hp1]; rfl)
  clear p0 hb1 hp1
  go_wp2
  go_loopw [37] (fun i w' => ∃ (k : Nat) (v : Value) (xs : List IncT) (Ls : List (List Value)) (r : List UInt8) (g' : Option Nat), k ≤ n ∧ i = .int .i64 k ∧ xs.length = k ∧ Hid (pN pInc n r1 = (pN pInc (n - k) r).bind (fun z => some (xs ++ z.1, z.2))) ∧ Rd w' c r g ∧ Lst IncT.Is 2 60 w w' c p o g cur t v xs Ls g') (fun i _ => n - (intOf i).toNat)
  case atStart => exact ⟨0, _, [], [], r1, none, by omega, rfl, rfl, Lib.hid (by rw [Nat.sub_zero]; exact (bind_eta _).symm), h1, L0⟩
  case round =>
    obtain ⟨k, v, xs, Ls, r, g', hk, rfl, rfl, HP, hr, L⟩ := hrel
    by_cases hk2 : xs.length < n
    · have hki : (xs.length : Int) < (n : Int) := by omega
      obtain ⟨a, cp, rfl, hcp, -⟩ := L.own.shape
      obtain ⟨curp, hbp, hvp⟩ := L.cell
      have pr : wr.cell? ⟨p, o, none⟩ = some (.slice a xs.length cp) := (cell_in hbp).trans hvp
      have lpr := lt_in hbp
      have hsw := L.kept.size
      go_wp2_with fail
      have ka := Kept.alloc (fun _ => False) wr (Obj.cells #[Value.int IntKind.i64 0, Value.slice none 0 0] 60)
      have hq : (wr.alloc (Obj.cells #[Value.int IntKind.i64 0, Value.slice none 0 0] 60)).heap[wr.heap.size]? = some (Obj.cells #[Value.int IntKind.i64 0, Value.slice none 0 0] 60) := heap_alloc_new' _ _
      have ra : Rd (wr.alloc (Obj.cells #[Value.int IntKind.i64 0, Value.slice none 0 0] 60)) c r g := hr.kept ka
      have sa : (wr.alloc (Obj.cells #[Value.int IntKind.i64 0, Value.slice none 0 0] 60)).heap.size = wr.heap.size + 1 := by simp
      generalize wr.alloc (Obj.cells #[Value.int IntKind.i64 0, Value.slice none 0 0] 60) = wa at ka hq ra sa ⊢
      have bq : Blk wa wr.heap.size #[Value.int IntKind.i64 0, Value.slice none 0 0] 60 c g := ⟨hq, by omega, fun e => by have := hgl _ e; omega⟩
      refine (incG_c ra (fun k hk => by have := hgl k hk; omega) bq (by intro f hf; simp)).mono ?_
      rintro e w2 ⟨k2, ⟨hp2, rfl, -⟩ | ⟨x, r2, cur2, cs, hp2, rfl, h2, b2, put2, hx⟩⟩
      · exact ⟨rfl, (L.kept.trans (ka.mono (fun _ _ h => h.elim))).thn k2 (fun i hi => by rcases hi with rfl | rfl; exact .inl (.inl rfl); exact .inr hsw), .inl ⟨by rw [HP1.out]; exact pN_stop hk2 HP.out hp2, rfl, L.was.kept ka k2 (fun h => h) (fun h => by rcases h with h | h; exact hb.ne h; omega)⟩⟩
      have k02 : Kept (· = c) wr w2 := (ka.mono (fun _ _ h => h.elim)).thn k2 (fun i hi => by rcases hi with rfl | rfl; exact .inl rfl; exact .inr (Nat.le_refl _))
      have hxn : IncT.Is w2 (New wr w2) cs x := IncT.stable _ _ _ _ _ _ hx (fun k hk => ⟨by have := hk.1; omega, hk.2⟩) (fun _ _ => rfl)
      obtain ⟨uv_changes, rfl, -, m0⟩ := hx
      obtain ⟨au0, cu0, rfl, -⟩ := m0.shape
      have y0 : w2.cell? ⟨wr.heap.size, 0, none⟩ = some (Value.int IntKind.i64 x.epoch) := (cell_in b2.heap).trans (by have := put2.at_ 0 (by simp); simpa using this)
      have y1 : w2.cell? ⟨wr.heap.size, 1, none⟩ = some (Value.slice au0 x.changes.length cu0) := (cell_in b2.heap).trans (by have := put2.at_ 1 (by simp); simpa using this)
      have lq2 := lt_in b2.heap
      have HP2 := Lib.hid (pN_next hk2 HP.out hp2)
      have bp2 : w2.heap[p]? = some (.cells curp t) := (k02.block _ lpr hb.ne).trans hbp
      have HBP := Lib.hid bp2
      have lp2 := lt_in bp2
      have hpq : p ≠ wr.heap.size := by omega
      have own2 := L.own.kept k02 (fun k hk e => by have := L.new k hk; omega)
      clear ka hq ra bq hbp pr HP hp2 bp2
      go_wp2
      refine wp_region_ordJ (fun w' => w'.heap[p]? = some (.cells curp t)) [4] [0, 1, 2, 3] [5, 6] [7, 8] (by kernel_rfl) (by kernel_rfl) (fun _ _ d _ _ h => by cases d <;> exact h) (fun k => HBP.out) ?_
      simp only [sel, List.filterMap_cons, List.filterMap_nil, List.getElem?_cons_zero, List.getElem?_cons_succ]
      repeat (quiet_step (fail))
      refine wpQuiet_nil ?_
      refine wpHeld_step (fun K hK => ?_)
      go_simp
      refine ⟨_, fun _ _ => rfl, hK _ ?_⟩
      refine wpHeld_step (fun K hK => ?_)
      go_simp
      refine ⟨_, fun _ _ => rfl, hK _ ?_⟩
      refine wpHeld_step (fun K hK => ?_)
      go_simp
      refine ⟨_, fun _ _ => rfl, hK _ ?_⟩
      refine wpHeld_step (fun K hK => ?_)
      go_simp
      refine ⟨.slice a xs.length cp, fun w' h => (by
        have h1 := (cell_in (k := o) h).trans hvp
        have h2 := lt_in h
        clear h
        go_simp), hK _ ?_⟩
      refine wpHeld_nil ?_
      rintro _ ⟨nr, rfl⟩
      have kd := Kept.drewN (fun _ => False) w2 nr
      have Q3 : Hid ((w2.drewN nr).heap[p]? = some (.cells curp t)) := Lib.hid HBP.out
      generalize w2.drewN nr = w3 at kd Q3 ⊢
      refine wpListS_step (fun K hK => ?_)
      go_simp
      have hA : (w3.alloc (Obj.cells #[Value.int IntKind.i64 x.epoch, Value.slice au0 x.changes.length cu0] 60)).heap[p]? = some (.cells curp t) := (Below.heap_alloc _ _ _ (lt_in Q3.out)).trans Q3.out
      refine hK _ _ hA ?_
      clear hK
      have k34 := kd.al (Obj.cells #[Value.int IntKind.i64 x.epoch, Value.slice au0 x.changes.length cu0] 60)
      have r4 := reads_allocN w3 [Value.int IntKind.i64 x.epoch, Value.slice au0 x.changes.length cu0] 60 2 rfl
      generalize w3.alloc (Obj.cells #[Value.int IntKind.i64 x.epoch, Value.slice au0 x.changes.length cu0] 60) = w4 at hA k34 r4 ⊢
      have own4 := own2.kept k34 (fun _ _ h => h)
      refine wpListS_append_Own rfl _ _ 27 27 rfl 60 i0 (Value.agg #[Value.int IntKind.i64 0, Value.slice none 0 0]) 2 32 Tryz.underlying27 hi0 hz0 hz1 hz2 rfl rfl own4 rfl (r4.src Tryz.underlying27 (by intro u hu; simp only [List.mem_cons, List.not_mem_nil, or_false] at hu; rcases hu with rfl | rfl <;> rfl)) (by unfold maxLen; omega) (by omega) ?_
      intro a5 k5 w5 g5 hown5 hk5 hg5
      have hgp : g' ≠ some p := fun e => by have := L.new p e; omega
      have hA5 : w5.heap[p]? = _ := (hk5.block _ (lt_in hA) (fun h => hgp h)).trans hA
      refine ⟨hA5, ?_⟩
      refine wpListS_nil ?_
      have k04 : Kept (· = c) wr w4 := k02.trans (k34.mono (fun _ _ h => h.elim))
      have s4 := k34.size
      have hx4 : IncT.Is w4 (New wr w4) _ x := IncT.stable _ _ _ _ _ _ hxn (fun k hk => ⟨hk.1, by have := hk.2; omega⟩) (fun k hk => k34.block k hk.2 (fun h => h))
      have LN := Lib.hid (L.grow IncT.stable (o := o) hlp hlc k04 hx4 rfl hown5 hk5 hg5)
      have RN := Lib.hid (Lst.rd L (w2 := w2) (o := o) (v4 := .slice a5 (xs.length + 1) k5) hlc hgl (h2.kept k34) hk5)
      have f0 : w5.frozen? ⟨p, o, none⟩ = false := frozen_in hA5
      have z5 := (cell_in (k := o) hA5).trans hvp
      have hl5 := lt_in hA5
      have HX2 : Hid ((xs ++ [x]).length = xs.length + 1) := Lib.hid (by rw [List.length_append]; rfl)
      clear hA5 hA hown5 own4 own2 r4 hk5 hg5 hx4 hxn
      go_wp2
      exact ⟨⟨xs.length + 1, _, xs ++ [x], _, r2, g5, by omega, by simp, HX2.out, HP2, RN.out, LN.out⟩, by simp [intOf]; omega⟩
    · obtain rfl : n = xs.length := by omega
      go_wp2
      obtain ⟨cur', hbl, hpu⟩ := L.blk
      exact bodyPost_end (v := .tuple #[]) (by simp [results, Tryz.results69]) rfl ⟨L.kept, .inr ⟨xs, r, cur', [v], by rw [HP1.out]; exact pN_end HP.out, rfl, hr, hbl, hpu, v, rfl, L.done IncT.stable (by omega)⟩⟩

set_option maxRecDepth 100000 in
set_option maxHeartbeats 1600000 in
theorem nodeG_c {w : World} {c p o : Nat} {bs : List UInt8} {g : Option Nat} {cur : Array Value} {t : TypeId} (h : Rd w c bs g) (hgl : ∀ k, g = some k → k < w.heap.size) (hb : Blk w p cur t c g) (hz : ∀ f, f < 2 → cur[o + f]? = ([Value.int IntKind.i64 0, Value.int IntKind.i64 0] : List Value)[f]?) :
    Calls Tryz.prog 64 #[.pointer (some ⟨c, 0, none⟩), .pointer (some ⟨p, o, none⟩)] w (Got NodeT.Is pNode bs w c p o g cur t) := by
  have hmf : ∀ (fn : Fn) (first cap : Array Value) (w : World), (Instr.makeFunc fn first cap).run Tryz.prog w = .ok (.func fn first cap) w := fun _ _ _ _ => rfl
  have hlp := lt_in hb.heap
  have hlc := h.lt
  go_enter Tryz.func64, Tryz.ntmps64
  have B0 := hb
  have H0 := h
  have P0 := Put.nil cur o
  have K0 := Kept.refl (fun k => k = c ∨ k = p) w
  have z0 := hz
  clear h hb
  have lp0 := lt_in B0.heap
  go_wp2
  refine wp_region_ord [1, 2, 3, 4, 5, 6] [0] [7, 8] (by kernel_rfl) (by kernel_rfl) (fun _ _ d _ _ h => by cases d <;> exact h) ?_
  simp only [sel, List.filterMap_cons, List.filterMap_nil, List.getElem?_cons_zero, List.getElem?_cons_succ]
  repeat (quiet_step (fail))
  refine wpQuiet_nil ?_
  refine wpIdle_step (fun K hK => ?_)
  go_simp
  refine hK _ ?_
  clear hK
  refine wpIdle_nil ?_
  rintro _ ⟨nr, rfl⟩
  go_wp2_with fail
  have j0 : Kept (fun _ => False) w ((w.drewN nr).alloc (Obj.cells #[Value.pointer (some ⟨p, o, none⟩), Value.pointer (some ⟨p, o + 1, none⟩)] 140)) := (Kept.drewN _ _ _).al _
  have rr0 := (own_alloc (w.drewN nr) [Value.pointer (some ⟨p, o, none⟩), Value.pointer (some ⟨p, o + 1, none⟩)] 140 2 rfl (by decide)).reads
  have hs0 : (w.drewN nr).heap.size = w.heap.size := rfl
  rw [hs0] at rr0
  generalize (w.drewN nr).alloc (Obj.cells #[Value.pointer (some ⟨p, o, none⟩), Value.pointer (some ⟨p, o + 1, none⟩)] 140) = y0 at j0 rr0 ⊢
  have HH0 : Rd y0 c _ g := H0.kept j0
  have BB0 := B0.kept j0 (fun h => h)
  have hc0 : c < w.heap.size := H0.lt
  have lb0 := lt_in B0.heap
  refine (numsI_c (m := 2) (o := o) HH0 BB0 (gp := some w.heap.size) rr0 (fun k hk => by cases hk; exact ⟨Nat.ne_of_gt hc0, Nat.ne_of_gt lb0⟩) (by
    intro f hf
    obtain rfl | rfl : f = 0 ∨ f = 1 := by omega
    · exact ⟨0, by rw [P0.other _ (by simp)]; exact hz 0 (by omega)⟩
    · exact ⟨0, by rw [P0.other _ (by simp)]; exact hz 1 (by omega)⟩
    ) (by omega)).mono ?_
  rintro _ w1 ⟨k1, ⟨hp, rfl, hwas⟩ | ⟨ns0, r1, cur1, cs0, hp, rfl, H1, B1, q1, hx0⟩⟩
  · exact ⟨rfl, K0.trans (kept_alloc2 j0 k1), .inl ⟨by simp only [pNode, Option.bind_some]; exact pN2_none hp _, rfl, hwas.cast P0.size⟩⟩
  have K1 := K0.trans (kept_alloc2 j0 k1)
  replace k1 := kept_alloc2 j0 k1
  obtain rfl := hx0
  obtain ⟨n0_0, s0_0, n0_1, hp0_0, hp0_1, rfl⟩ := pN2_some hp
  simp only [List.map_cons, List.map_nil] at q1
  have P1 := P0.append q1
  go_wp2
  exact bodyPost_end (v := .tuple #[]) (by simp [results, Tryz.results64]) rfl ⟨K1, .inr ⟨⟨n0_0, n0_1⟩, r1, cur1, _, by simp only [pNode, hp0_0, hp0_1, Option.bind_some], rfl, H1, B1, P1, ⟨rfl, (lawI.dec _ _ _ hp0_0).2, (lawI.dec _ _ _ hp0_1).2⟩⟩⟩

set_option maxRecDepth 100000 in
set_option maxHeartbeats 1600000 in
theorem slotG_c {w : World} {c p o : Nat} {bs : List UInt8} {g : Option Nat} {cur : Array Value} {t : TypeId} (h : Rd w c bs g) (hgl : ∀ k, g = some k → k < w.heap.size) (hb : Blk w p cur t c g) (hz : ∀ f, f < 3 → cur[o + f]? = ([Value.int IntKind.i64 0, Value.int IntKind.i64 0, Value.slice none 0 0] : List Value)[f]?) :
    Calls Tryz.prog 68 #[.pointer (some ⟨c, 0, none⟩), .pointer (some ⟨p, o, none⟩)] w (Got SlotT.Is pSlot bs w c p o g cur t) := by
  have hmf : ∀ (fn : Fn) (first cap : Array Value) (w : World), (Instr.makeFunc fn first cap).run Tryz.prog w = .ok (.func fn first cap) w := fun _ _ _ _ => rfl
  have hlp := lt_in hb.heap
  have hlc := h.lt
  go_enter Tryz.func68, Tryz.ntmps68
  have B0 := hb
  have H0 := h
  have P0 := Put.nil cur o
  have K0 := Kept.refl (fun k => k = c ∨ k = p) w
  have z0 := hz
  clear h hb
  have lp0 := lt_in B0.heap
  go_wp2
  refine wp_region_ord [1, 2, 3, 4, 5, 6] [0] [7, 8] (by kernel_rfl) (by kernel_rfl) (fun _ _ d _ _ h => by cases d <;> exact h) ?_
  simp only [sel, List.filterMap_cons, List.filterMap_nil, List.getElem?_cons_zero, List.getElem?_cons_succ]
  repeat (quiet_step (fail))
  refine wpQuiet_nil ?_
  refine wpIdle_step (fun K hK => ?_)
  go_simp
  refine hK _ ?_
  clear hK
  refine wpIdle_nil ?_
  rintro _ ⟨nr, rfl⟩
  go_wp2_with fail
  have j0 : Kept (fun _ => False) w ((w.drewN nr).alloc (Obj.cells #[Value.pointer (some ⟨p, o, none⟩), Value.pointer (some ⟨p, o + 1, none⟩)] 140)) := (Kept.drewN _ _ _).al _
  have rr0 := (own_alloc (w.drewN nr) [Value.pointer (some ⟨p, o, none⟩), Value.pointer (some ⟨p, o + 1, none⟩)] 140 2 rfl (by decide)).reads
  have hs0 : (w.drewN nr).heap.size = w.heap.size := rfl
  rw [hs0] at rr0
  generalize (w.drewN nr).alloc (Obj.cells #[Value.pointer (some ⟨p, o, none⟩), Value.pointer (some ⟨p, o + 1, none⟩)] 140) = y0 at j0 rr0 ⊢
  have HH0 : Rd y0 c _ g := H0.kept j0
  have BB0 := B0.kept j0 (fun h => h)
  have hc0 : c < w.heap.size := H0.lt
  have lb0 := lt_in B0.heap
  refine (numsI_c (m := 2) (o := o) HH0 BB0 (gp := some w.heap.size) rr0 (fun k hk => by cases hk; exact ⟨Nat.ne_of_gt hc0, Nat.ne_of_gt lb0⟩) (by
    intro f hf
    obtain rfl | rfl : f = 0 ∨ f = 1 := by omega
    · exact ⟨0, by rw [P0.other _ (by simp)]; exact hz 0 (by omega)⟩
    · exact ⟨0, by rw [P0.other _ (by simp)]; exact hz 1 (by omega)⟩
    ) (by omega)).mono ?_
  rintro _ w1 ⟨k1, ⟨hp, rfl, hwas⟩ | ⟨ns0, r1, cur1, cs0, hp, rfl, H1, B1, q1, hx0⟩⟩
  · exact ⟨rfl, K0.trans (kept_alloc2 j0 k1), .inl ⟨by simp only [pSlot, Option.bind_some]; exact pN2_none hp _, rfl, hwas.cast P0.size⟩⟩
  have K1 := K0.trans (kept_alloc2 j0 k1)
  replace k1 := kept_alloc2 j0 k1
  obtain rfl := hx0
  obtain ⟨n0_0, s0_0, n0_1, hp0_0, hp0_1, rfl⟩ := pN2_some hp
  simp only [List.map_cons, List.map_nil] at q1
  have P1 := P0.append q1
  go_wp2_with fail
  refine (bytesG_c H1 (fun k hk => by have := hgl k hk; have := K1.size; omega) B1 (by rw [P1.other (o + 2) (by simp)]; exact hz 2 (by omega))).mono ?_
  rintro _ w2 ⟨k2, ⟨hp, rfl, hwas⟩ | ⟨x1, r2, cur2, cs1, hp1, rfl, H2, B2, q2, hx1⟩⟩
  · exact ⟨rfl, K1.trans k2, .inl ⟨by simp only [pSlot, hp0_0, hp0_1, Option.bind_some]; rw [hp]; rfl, rfl, hwas.cast P1.size⟩⟩
  have K2 := K1.trans k2
  have P2 := P1.append q2
  obtain ⟨v1, rfl, l1⟩ := hx1
  go_wp2
  have T2 := Kept.refl (fun k => k = c ∨ k = p) w2
  have T1 := k2.trans T2
  exact bodyPost_end (v := .tuple #[]) (by simp [results, Tryz.results68]) rfl ⟨K2, .inr ⟨⟨n0_0, n0_1, x1⟩, r2, cur2, _, by simp only [pSlot, hp0_0, hp0_1, hp1, Option.bind_some], rfl, H2, B2, P2, ⟨v1, rfl, (lawI.dec _ _ _ hp0_0).2, (lawI.dec _ _ _ hp0_1).2, l1.late byteIs_stable K1.size T2 hlc hlp⟩⟩⟩

theorem info_Slot : (Tryz.prog.info? 148).map (fun i => (i.zero, i.size, i.bytes)) = some (some (Value.agg #[Value.int IntKind.i64 0, Value.int IntKind.i64 0, Value.slice none 0 0]), 3, 40) := by kernel_rfl

set_option maxRecDepth 100000 in
set_option maxHeartbeats 1600000 in
theorem listSlotG_c {w : World} {c p o : Nat} {bs : List UInt8} {g : Option Nat} {cur : Array Value} {t : TypeId} (h : Rd w c bs g) (hgl : ∀ k, g = some k → k < w.heap.size) (hb : Blk w p cur t c g) (hz : cur[o]? = some (.slice none 0 0)) :
    Calls Tryz.prog 67 #[.pointer (some ⟨c, 0, none⟩), .pointer (some ⟨p, o, none⟩), .func (.func 68) #[.pointer (some ⟨c, 0, none⟩)] #[]] w (Got (sliceIs 3 SlotT.Is) (pL pSlot) bs w c p o g cur t) := by
  obtain ⟨i0, hi0, hz0, hz1, hz2⟩ := info_all info_Slot
  have p0 : w.cell? ⟨p, o, none⟩ = some (.slice none 0 0) := (cell_in hb.heap).trans hz
  have hlp := lt_in hb.heap
  have hlc := h.lt
  go_enter Tryz.func67, Tryz.ntmps67
  go_wp2_with fail
  refine (countG_c h).mono ?_
  rintro e w1 ⟨k1, ⟨n, r1, hp1, rfl, h1⟩ | ⟨hp1, rfl⟩⟩
  rotate_left
  · exact ⟨rfl, k1.mono (fun _ _ h => .inl h), .inl ⟨by unfold pL; rw [hp1]; rfl, rfl, (hb.kept k1 hb.ne).was⟩⟩
  have hb1 := hb.kept k1 hb.ne
  have p1 : w1.cell? ⟨p, o, none⟩ = some (.slice none 0 0) := (cell_in hb1.heap).trans hz
  have f1 : w1.frozen? ⟨p, o, none⟩ = false := frozen_in hb1.heap
  have lp1 := lt_in hb1.heap
  have c2 : w1.cell? ⟨c, 2, none⟩ = some (.bool true) := by
    obtain ⟨vi, h2, -⟩ := h1.ex
    exact cell_in h2
  have lc1 := h1.lt
  have e1 := setCell_same' p1
  have L0 := Lst.start SlotT.Is 3 148 hb1 hz k1
  have hn32 := (pC_some hp1).2.1
  have HP1 : Hid (pL pSlot bs = pN pSlot n r1) := Lib.hid (by unfold pL; rw [hp1]; rfl)
  clear p0 hb1 hp1
  go_wp2
  go_loopw [37] (fun i w' => ∃ (k : Nat) (v : Value) (xs : List SlotT) (Ls : List (List Value)) (r : List UInt8) (g' : Option Nat), k ≤ n ∧ i = .int .i64 k ∧ xs.length = k ∧ Hid (pN pSlot n r1 = (pN pSlot (n - k) r).bind (fun z => some (xs ++ z.1, z.2))) ∧ Rd w' c r g ∧ Lst SlotT.Is 3 148 w w' c p o g cur t v xs Ls g') (fun i _ => n - (intOf i).toNat)
  case atStart => exact ⟨0, _, [], [], r1, none, by omega, rfl, rfl, Lib.hid (by rw [Nat.sub_zero]; exact (bind_eta _).symm), h1, L0⟩
  case round =>
    obtain ⟨k, v, xs, Ls, r, g', hk, rfl, rfl, HP, hr, L⟩ := hrel
    by_cases hk2 : xs.length < n
    · have hki : (xs.length : Int) < (n : Int) := by omega
      obtain ⟨a, cp, rfl, hcp, -⟩ := L.own.shape
      obtain ⟨curp, hbp, hvp⟩ := L.cell
      have pr : wr.cell? ⟨p, o, none⟩ = some (.slice a xs.length cp) := (cell_in hbp).trans hvp
      have lpr := lt_in hbp
      have hsw := L.kept.size
      go_wp2_with fail
      have ka := Kept.alloc (fun _ => False) wr (Obj.cells #[Value.int IntKind.i64 0, Value.int IntKind.i64 0, Value.slice none 0 0] 148)
      have hq : (wr.alloc (Obj.cells #[Value.int IntKind.i64 0, Value.int IntKind.i64 0, Value.slice none 0 0] 148)).heap[wr.heap.size]? = some (Obj.cells #[Value.int IntKind.i64 0, Value.int IntKind.i64 0, Value.slice none 0 0] 148) := heap_alloc_new' _ _
      have ra : Rd (wr.alloc (Obj.cells #[Value.int IntKind.i64 0, Value.int IntKind.i64 0, Value.slice none 0 0] 148)) c r g := hr.kept ka
      have sa : (wr.alloc (Obj.cells #[Value.int IntKind.i64 0, Value.int IntKind.i64 0, Value.slice none 0 0] 148)).heap.size = wr.heap.size + 1 := by simp
      generalize wr.alloc (Obj.cells #[Value.int IntKind.i64 0, Value.int IntKind.i64 0, Value.slice none 0 0] 148) = wa at ka hq ra sa ⊢
      have bq : Blk wa wr.heap.size #[Value.int IntKind.i64 0, Value.int IntKind.i64 0, Value.slice none 0 0] 148 c g := ⟨hq, by omega, fun e => by have := hgl _ e; omega⟩
      refine (slotG_c ra (fun k hk => by have := hgl k hk; omega) bq (by intro f hf; simp)).mono ?_
      rintro e w2 ⟨k2, ⟨hp2, rfl, -⟩ | ⟨x, r2, cur2, cs, hp2, rfl, h2, b2, put2, hx⟩⟩
      · exact ⟨rfl, (L.kept.trans (ka.mono (fun _ _ h => h.elim))).thn k2 (fun i hi => by rcases hi with rfl | rfl; exact .inl (.inl rfl); exact .inr hsw), .inl ⟨by rw [HP1.out]; exact pN_stop hk2 HP.out hp2, rfl, L.was.kept ka k2 (fun h => h) (fun h => by rcases h with h | h; exact hb.ne h; omega)⟩⟩
      have k02 : Kept (· = c) wr w2 := (ka.mono (fun _ _ h => h.elim)).thn k2 (fun i hi => by rcases hi with rfl | rfl; exact .inl rfl; exact .inr (Nat.le_refl _))
      have hxn : SlotT.Is w2 (New wr w2) cs x := SlotT.stable _ _ _ _ _ _ hx (fun k hk => ⟨by have := hk.1; omega, hk.2⟩) (fun _ _ => rfl)
      obtain ⟨uv_value, rfl, -, -, m0⟩ := hx
      obtain ⟨au0, cu0, rfl, -⟩ := m0.shape
      have y0 : w2.cell? ⟨wr.heap.size, 0, none⟩ = some (Value.int IntKind.i64 x.slot) := (cell_in b2.heap).trans (by have := put2.at_ 0 (by simp); simpa using this)
      have y1 : w2.cell? ⟨wr.heap.size, 1, none⟩ = some (Value.int IntKind.i64 x.ballot) := (cell_in b2.heap).trans (by have := put2.at_ 1 (by simp); simpa using this)
      have y2 : w2.cell? ⟨wr.heap.size, 2, none⟩ = some (Value.slice au0 x.value.length cu0) := (cell_in b2.heap).trans (by have := put2.at_ 2 (by simp); simpa using this)
      have lq2 := lt_in b2.heap
      have HP2 := Lib.hid (pN_next hk2 HP.out hp2)
      have bp2 : w2.heap[p]? = some (.cells curp t) := (k02.block _ lpr hb.ne).trans hbp
      have HBP := Lib.hid bp2
      have lp2 := lt_in bp2
      have hpq : p ≠ wr.heap.size := by omega
      have own2 := L.own.kept k02 (fun k hk e => by have := L.new k hk; omega)
      clear ka hq ra bq hbp pr HP hp2 bp2
      go_wp2
      refine wp_region_ordJ (fun w' => w'.heap[p]? = some (.cells curp t)) [4] [0, 1, 2, 3] [5, 6] [7, 8] (by kernel_rfl) (by kernel_rfl) (fun _ _ d _ _ h => by cases d <;> exact h) (fun k => HBP.out) ?_
      simp only [sel, List.filterMap_cons, List.filterMap_nil, List.getElem?_cons_zero, List.getElem?_cons_succ]
      repeat (quiet_step (fail))
      refine wpQuiet_nil ?_
      refine wpHeld_step (fun K hK => ?_)
      go_simp
      refine ⟨_, fun _ _ => rfl, hK _ ?_⟩
      refine wpHeld_step (fun K hK => ?_)
      go_simp
      refine ⟨_, fun _ _ => rfl, hK _ ?_⟩
      refine wpHeld_step (fun K hK => ?_)
      go_simp
      refine ⟨_, fun _ _ => rfl, hK _ ?_⟩
      refine wpHeld_step (fun K hK => ?_)
      go_simp
      refine ⟨.slice a xs.length cp, fun w' h => (by
        have h1 := (cell_in (k := o) h).trans hvp
        have h2 := lt_in h
        clear h
        go_simp), hK _ ?_⟩
      refine wpHeld_nil ?_
      rintro _ ⟨nr, rfl⟩
      have kd := Kept.drewN (fun _ => False) w2 nr
      have Q3 : Hid ((w2.drewN nr).heap[p]? = some (.cells curp t)) := Lib.hid HBP.out
      generalize w2.drewN nr = w3 at kd Q3 ⊢
      refine wpListS_step (fun K hK => ?_)
      go_simp
      have hA : (w3.alloc (Obj.cells #[Value.int IntKind.i64 x.slot, Value.int IntKind.i64 x.ballot, Value.slice au0 x.value.length cu0] 148)).heap[p]? = some (.cells curp t) := (Below.heap_alloc _ _ _ (lt_in Q3.out)).trans Q3.out
      refine hK _ _ hA ?_
      clear hK
      have k34 := kd.al (Obj.cells #[Value.int IntKind.i64 x.slot, Value.int IntKind.i64 x.ballot, Value.slice au0 x.value.length cu0] 148)
      have r4 := reads_allocN w3 [Value.int IntKind.i64 x.slot, Value.int IntKind.i64 x.ballot, Value.slice au0 x.value.length cu0] 148 3 rfl
      generalize w3.alloc (Obj.cells #[Value.int IntKind.i64 x.slot, Value.int IntKind.i64 x.ballot, Value.slice au0 x.value.length cu0] 148) = w4 at hA k34 r4 ⊢
      have own4 := own2.kept k34 (fun _ _ h => h)
      refine wpListS_append_Own rfl _ _ 26 26 rfl 148 i0 (Value.agg #[Value.int IntKind.i64 0, Value.int IntKind.i64 0, Value.slice none 0 0]) 3 40 Tryz.underlying26 hi0 hz0 hz1 hz2 rfl rfl own4 rfl (r4.src Tryz.underlying26 (by intro u hu; simp only [List.mem_cons, List.not_mem_nil, or_false] at hu; rcases hu with rfl | rfl | rfl <;> rfl)) (by unfold maxLen; omega) (by omega) ?_
      intro a5 k5 w5 g5 hown5 hk5 hg5
      have hgp : g' ≠ some p := fun e => by have := L.new p e; omega
      have hA5 : w5.heap[p]? = _ := (hk5.block _ (lt_in hA) (fun h => hgp h)).trans hA
      refine ⟨hA5, ?_⟩
      refine wpListS_nil ?_
      have k04 : Kept (· = c) wr w4 := k02.trans (k34.mono (fun _ _ h => h.elim))
      have s4 := k34.size
      have hx4 : SlotT.Is w4 (New wr w4) _ x := SlotT.stable _ _ _ _ _ _ hxn (fun k hk => ⟨hk.1, by have := hk.2; omega⟩) (fun k hk => k34.block k hk.2 (fun h => h))
      have LN := Lib.hid (L.grow SlotT.stable (o := o) hlp hlc k04 hx4 rfl hown5 hk5 hg5)
      have RN := Lib.hid (Lst.rd L (w2 := w2) (o := o) (v4 := .slice a5 (xs.length + 1) k5) hlc hgl (h2.kept k34) hk5)
      have f0 : w5.frozen? ⟨p, o, none⟩ = false := frozen_in hA5
      have z5 := (cell_in (k := o) hA5).trans hvp
      have hl5 := lt_in hA5
      have HX2 : Hid ((xs ++ [x]).length = xs.length + 1) := Lib.hid (by rw [List.length_append]; rfl)
      clear hA5 hA hown5 own4 own2 r4 hk5 hg5 hx4 hxn
      go_wp2
      exact ⟨⟨xs.length + 1, _, xs ++ [x], _, r2, g5, by omega, by simp, HX2.out, HP2, RN.out, LN.out⟩, by simp [intOf]; omega⟩
    · obtain rfl : n = xs.length := by omega
      go_wp2
      obtain ⟨cur', hbl, hpu⟩ := L.blk
      exact bodyPost_end (v := .tuple #[]) (by simp [results, Tryz.results67]) rfl ⟨L.kept, .inr ⟨xs, r, cur', [v], by rw [HP1.out]; exact pN_end HP.out, rfl, hr, hbl, hpu, v, rfl, L.done SlotT.stable (by omega)⟩⟩

set_option maxRecDepth 100000 in
set_option maxHeartbeats 1600000 in
theorem objectG_c {w : World} {c p o : Nat} {bs : List UInt8} {g : Option Nat} {cur : Array Value} {t : TypeId} (h : Rd w c bs g) (hgl : ∀ k, g = some k → k < w.heap.size) (hb : Blk w p cur t c g) (hz : ∀ f, f < 4 → cur[o + f]? = ([Value.string ⟨#[]⟩, Value.int IntKind.i64 0, Value.int IntKind.i64 0, Value.slice none 0 0] : List Value)[f]?) :
    Calls Tryz.prog 74 #[.pointer (some ⟨c, 0, none⟩), .pointer (some ⟨p, o, none⟩)] w (Got ObjectT.Is pObject bs w c p o g cur t) := by
  have hmf : ∀ (fn : Fn) (first cap : Array Value) (w : World), (Instr.makeFunc fn first cap).run Tryz.prog w = .ok (.func fn first cap) w := fun _ _ _ _ => rfl
  have hlp := lt_in hb.heap
  have hlc := h.lt
  go_enter Tryz.func74, Tryz.ntmps74
  have B0 := hb
  have H0 := h
  have P0 := Put.nil cur o
  have K0 := Kept.refl (fun k => k = c ∨ k = p) w
  have z0 := hz
  clear h hb
  go_wp2_with fail
  refine (textG_c H0 (fun k hk => by have := hgl k hk; have := K0.size; omega) B0 (by rw [P0.other (o) (by simp)]; exact hz 0 (by omega))).mono ?_
  rintro _ w1 ⟨k1, ⟨hp, rfl, hwas⟩ | ⟨x0, r1, cur1, cs0, hp0, rfl, H1, B1, q1, hx0⟩⟩
  · exact ⟨rfl, K0.trans k1, .inl ⟨by simp only [pObject, Option.bind_some]; rw [hp]; rfl, rfl, hwas.cast P0.size⟩⟩
  have K1 := K0.trans k1
  have P1 := P0.append q1
  obtain rfl := hx0
  have lp1 := lt_in B1.heap
  go_wp2_with fail
  refine (versionG_c H1 (fun k hk => by have := hgl k hk; have := K1.size; omega) B1 (o := o + 1) (by
    intro f hf
    obtain rfl | rfl : f = 0 ∨ f = 1 := by omega
    · rw [P1.other _ (by simp)]; exact hz 1 (by omega)
    · rw [P1.other _ (by simp)]; exact hz 2 (by omega)
    )).mono ?_
  rintro _ w2 ⟨k2, ⟨hp, rfl, hwas⟩ | ⟨x1, r2, cur2, cs1, hp1, rfl, H2, B2, q2, hx1⟩⟩
  · exact ⟨rfl, K1.trans k2, .inl ⟨by simp only [pObject, hp0, Option.bind_some]; rw [hp]; rfl, rfl, hwas.cast P1.size⟩⟩
  have K2 := K1.trans k2
  have P2 := P1.append q2
  obtain ⟨rfl, j1_0, j1_1⟩ := hx1
  go_wp2_with fail
  refine (bytesG_c H2 (fun k hk => by have := hgl k hk; have := K2.size; omega) B2 (by rw [P2.other (o + 3) (by simp)]; exact hz 3 (by omega))).mono ?_
  rintro _ w3 ⟨k3, ⟨hp, rfl, hwas⟩ | ⟨x2, r3, cur3, cs2, hp2, rfl, H3, B3, q3, hx2⟩⟩
  · exact ⟨rfl, K2.trans k3, .inl ⟨by simp only [pObject, hp0, hp1, Option.bind_some]; rw [hp]; rfl, rfl, hwas.cast P2.size⟩⟩
  have K3 := K2.trans k3
  have P3 := P2.append q3
  obtain ⟨v2, rfl, l2⟩ := hx2
  go_wp2
  have T3 := Kept.refl (fun k => k = c ∨ k = p) w3
  have T2 := k3.trans T3
  have T1 := k2.trans T2
  exact bodyPost_end (v := .tuple #[]) (by simp [results, Tryz.results74]) rfl ⟨K3, .inr ⟨⟨x0, x1, x2⟩, r3, cur3, _, by simp only [pObject, hp0, hp1, hp2, Option.bind_some], rfl, H3, B3, P3, ⟨v2, rfl, j1_0, j1_1, l2.late byteIs_stable K2.size T3 hlc hlp⟩⟩⟩

set_option maxRecDepth 100000 in
set_option maxHeartbeats 1600000 in
theorem infoG_c {w : World} {c p o : Nat} {bs : List UInt8} {g : Option Nat} {cur : Array Value} {t : TypeId} (h : Rd w c bs g) (hgl : ∀ k, g = some k → k < w.heap.size) (hb : Blk w p cur t c g) (hz : ∀ f, f < 6 → cur[o + f]? = ([Value.int IntKind.i64 0, Value.int IntKind.i64 0, Value.int IntKind.i64 0, Value.int IntKind.i64 0, Value.int IntKind.i64 0, Value.int IntKind.i64 0] : List Value)[f]?) :
    Calls Tryz.prog 72 #[.pointer (some ⟨c, 0, none⟩), .pointer (some ⟨p, o, none⟩)] w (Got InfoT.Is pInfo bs w c p o g cur t) := by
  have hmf : ∀ (fn : Fn) (first cap : Array Value) (w : World), (Instr.makeFunc fn first cap).run Tryz.prog w = .ok (.func fn first cap) w := fun _ _ _ _ => rfl
  have hlp := lt_in hb.heap
  have hlc := h.lt
  go_enter Tryz.func72, Tryz.ntmps72
  have B0 := hb
  have H0 := h
  have P0 := Put.nil cur o
  have K0 := Kept.refl (fun k => k = c ∨ k = p) w
  have z0 := hz
  clear h hb
  go_wp2_with fail
  refine (numI_c H0 B0 (m := 0) (by rw [P0.other (o) (by simp)]; exact hz 0 (by omega))).mono ?_
  rintro _ w1 ⟨k1, ⟨hp, rfl, hwas⟩ | ⟨x0, r1, cur1, cs0, hp0, rfl, H1, B1, q1, hx0⟩⟩
  · exact ⟨rfl, K0.trans k1, .inl ⟨by simp only [pInfo, Option.bind_some]; rw [hp]; rfl, rfl, hwas.cast P0.size⟩⟩
  have K1 := K0.trans k1
  have P1 := P0.append q1
  obtain ⟨rfl, j0⟩ := hx0
  have lp1 := lt_in B1.heap
  go_wp2_with fail
  refine (versionG_c H1 (fun k hk => by have := hgl k hk; have := K1.size; omega) B1 (o := o + 1) (by
    intro f hf
    obtain rfl | rfl : f = 0 ∨ f = 1 := by omega
    · rw [P1.other _ (by simp)]; exact hz 1 (by omega)
    · rw [P1.other _ (by simp)]; exact hz 2 (by omega)
    )).mono ?_
  rintro _ w2 ⟨k2, ⟨hp, rfl, hwas⟩ | ⟨x1, r2, cur2, cs1, hp1, rfl, H2, B2, q2, hx1⟩⟩
  · exact ⟨rfl, K1.trans k2, .inl ⟨by simp only [pInfo, hp0, Option.bind_some]; rw [hp]; rfl, rfl, hwas.cast P1.size⟩⟩
  have K2 := K1.trans k2
  have P2 := P1.append q2
  obtain ⟨rfl, j1_0, j1_1⟩ := hx1
  have lp2 := lt_in B2.heap
  go_wp2_with fail
  refine (versionG_c H2 (fun k hk => by have := hgl k hk; have := K2.size; omega) B2 (o := o + 3) (by
    intro f hf
    obtain rfl | rfl : f = 0 ∨ f = 1 := by omega
    · rw [P2.other _ (by simp)]; exact hz 3 (by omega)
    · rw [P2.other _ (by simp)]; exact hz 4 (by omega)
    )).mono ?_
  rintro _ w3 ⟨k3, ⟨hp, rfl, hwas⟩ | ⟨x2, r3, cur3, cs2, hp2, rfl, H3, B3, q3, hx2⟩⟩
  · exact ⟨rfl, K2.trans k3, .inl ⟨by simp only [pInfo, hp0, hp1, Option.bind_some]; rw [hp]; rfl, rfl, hwas.cast P2.size⟩⟩
  have K3 := K2.trans k3
  have P3 := P2.append q3
  obtain ⟨rfl, j2_0, j2_1⟩ := hx2
  go_wp2_with fail
  refine (numI_c H3 B3 (m := 0) (by rw [P3.other (o + 5) (by simp)]; exact hz 5 (by omega))).mono ?_
  rintro _ w4 ⟨k4, ⟨hp, rfl, hwas⟩ | ⟨x3, r4, cur4, cs3, hp3, rfl, H4, B4, q4, hx3⟩⟩
  · exact ⟨rfl, K3.trans k4, .inl ⟨by simp only [pInfo, hp0, hp1, hp2, Option.bind_some]; rw [hp]; rfl, rfl, hwas.cast P3.size⟩⟩
  have K4 := K3.trans k4
  have P4 := P3.append q4
  obtain ⟨rfl, j3⟩ := hx3
  go_wp2
  exact bodyPost_end (v := .tuple #[]) (by simp [results, Tryz.results72]) rfl ⟨K4, .inr ⟨⟨x0, x1, x2, x3⟩, r4, cur4, _, by simp only [pInfo, hp0, hp1, hp2, hp3, Option.bind_some], rfl, H4, B4, P4, ⟨rfl, j0, j1_0, j1_1, j2_0, j2_1, j3⟩⟩⟩

set_option maxRecDepth 100000 in
set_option maxHeartbeats 1600000 in
theorem opG_c {w : World} {c p o : Nat} {bs : List UInt8} {g : Option Nat} {cur : Array Value} {t : TypeId} (h : Rd w c bs g) (hgl : ∀ k, g = some k → k < w.heap.size) (hb : Blk w p cur t c g) (hz : ∀ f, f < 5 → cur[o + f]? = ([Value.int IntKind.i64 0, Value.string ⟨#[]⟩, Value.slice none 0 0, Value.int IntKind.i64 0, Value.int IntKind.i64 0] : List Value)[f]?) :
    Calls Tryz.prog 75 #[.pointer (some ⟨c, 0, none⟩), .pointer (some ⟨p, o, none⟩)] w (Got OpT.Is pOp bs w c p o g cur t) := by
  have hmf : ∀ (fn : Fn) (first cap : Array Value) (w : World), (Instr.makeFunc fn first cap).run Tryz.prog w = .ok (.func fn first cap) w := fun _ _ _ _ => rfl
  have hlp := lt_in hb.heap
  have hlc := h.lt
  go_enter Tryz.func75, Tryz.ntmps75
  have B0 := hb
  have H0 := h
  have P0 := Put.nil cur o
  have K0 := Kept.refl (fun k => k = c ∨ k = p) w
  have z0 := hz
  clear h hb
  go_wp2_with fail
  refine (numI_c H0 B0 (m := 0) (by rw [P0.other (o) (by simp)]; exact hz 0 (by omega))).mono ?_
  rintro _ w1 ⟨k1, ⟨hp, rfl, hwas⟩ | ⟨x0, r1, cur1, cs0, hp0, rfl, H1, B1, q1, hx0⟩⟩
  · exact ⟨rfl, K0.trans k1, .inl ⟨by simp only [pOp, Option.bind_some]; rw [hp]; rfl, rfl, hwas.cast P0.size⟩⟩
  have K1 := K0.trans k1
  have P1 := P0.append q1
  obtain ⟨rfl, j0⟩ := hx0
  go_wp2_with fail
  refine (textG_c H1 (fun k hk => by have := hgl k hk; have := K1.size; omega) B1 (by rw [P1.other (o + 1) (by simp)]; exact hz 1 (by omega))).mono ?_
  rintro _ w2 ⟨k2, ⟨hp, rfl, hwas⟩ | ⟨x1, r2, cur2, cs1, hp1, rfl, H2, B2, q2, hx1⟩⟩
  · exact ⟨rfl, K1.trans k2, .inl ⟨by simp only [pOp, hp0, Option.bind_some]; rw [hp]; rfl, rfl, hwas.cast P1.size⟩⟩
  have K2 := K1.trans k2
  have P2 := P1.append q2
  obtain rfl := hx1
  go_wp2_with fail
  refine (bytesG_c H2 (fun k hk => by have := hgl k hk; have := K2.size; omega) B2 (by rw [P2.other (o + 2) (by simp)]; exact hz 2 (by omega))).mono ?_
  rintro _ w3 ⟨k3, ⟨hp, rfl, hwas⟩ | ⟨x2, r3, cur3, cs2, hp2, rfl, H3, B3, q3, hx2⟩⟩
  · exact ⟨rfl, K2.trans k3, .inl ⟨by simp only [pOp, hp0, hp1, Option.bind_some]; rw [hp]; rfl, rfl, hwas.cast P2.size⟩⟩
  have K3 := K2.trans k3
  have P3 := P2.append q3
  obtain ⟨v2, rfl, l2⟩ := hx2
  have lp3 := lt_in B3.heap
  go_wp2_with fail
  refine (versionG_c H3 (fun k hk => by have := hgl k hk; have := K3.size; omega) B3 (o := o + 3) (by
    intro f hf
    obtain rfl | rfl : f = 0 ∨ f = 1 := by omega
    · rw [P3.other _ (by simp)]; exact hz 3 (by omega)
    · rw [P3.other _ (by simp)]; exact hz 4 (by omega)
    )).mono ?_
  rintro _ w4 ⟨k4, ⟨hp, rfl, hwas⟩ | ⟨x3, r4, cur4, cs3, hp3, rfl, H4, B4, q4, hx3⟩⟩
  · exact ⟨rfl, K3.trans k4, .inl ⟨by simp only [pOp, hp0, hp1, hp2, Option.bind_some]; rw [hp]; rfl, rfl, hwas.cast P3.size⟩⟩
  have K4 := K3.trans k4
  have P4 := P3.append q4
  obtain ⟨rfl, j3_0, j3_1⟩ := hx3
  go_wp2
  have T4 := Kept.refl (fun k => k = c ∨ k = p) w4
  have T3 := k4.trans T4
  have T2 := k3.trans T3
  have T1 := k2.trans T2
  exact bodyPost_end (v := .tuple #[]) (by simp [results, Tryz.results75]) rfl ⟨K4, .inr ⟨⟨x0, x1, x2, x3⟩, r4, cur4, _, by simp only [pOp, hp0, hp1, hp2, hp3, Option.bind_some], rfl, H4, B4, P4, ⟨v2, rfl, j0, j3_0, j3_1, l2.late byteIs_stable K2.size T3 hlc hlp⟩⟩⟩

set_option maxRecDepth 100000 in
set_option maxHeartbeats 1600000 in
theorem msgG_c {w : World} {c p o : Nat} {bs : List UInt8} {g : Option Nat} {cur : Array Value} {t : TypeId} (h : Rd w c bs g) (hgl : ∀ k, g = some k → k < w.heap.size) (hb : Blk w p cur t c g) (hz : ∀ f, f < 46 → cur[o + f]? = ([Value.int IntKind.i64 0, Value.int IntKind.i64 0, Value.int IntKind.i64 0, Value.int IntKind.i64 0, Value.int IntKind.i64 0, Value.int IntKind.i64 0, Value.int IntKind.i64 0, Value.int IntKind.i64 0, Value.int IntKind.i64 0, Value.int IntKind.i64 0, Value.int IntKind.i64 0, Value.int IntKind.i64 0, Value.slice none 0 0, Value.slice none 0 0, Value.slice none 0 0, Value.int IntKind.i64 0, Value.int IntKind.i64 0, Value.int IntKind.i64 0, Value.int IntKind.i64 0, Value.int IntKind.i64 0, Value.int IntKind.i64 0, Value.int IntKind.i64 0, Value.int IntKind.i64 0, Value.int IntKind.i64 0, Value.slice none 0 0, Value.slice none 0 0, Value.slice none 0 0, Value.int IntKind.i64 0, Value.int IntKind.i64 0, Value.bool false, Value.int IntKind.i64 0, Value.string ⟨#[]⟩, Value.int IntKind.i64 0, Value.int IntKind.i64 0, Value.string ⟨#[]⟩, Value.int IntKind.i64 0, Value.int IntKind.i64 0, Value.slice none 0 0, Value.int IntKind.i64 0, Value.string ⟨#[]⟩, Value.slice none 0 0, Value.int IntKind.i64 0, Value.int IntKind.i64 0, Value.slice none 0 0, Value.slice none 0 0, Value.int IntKind.i64 0] : List Value)[f]?) :
    Calls Tryz.prog 33 #[.pointer (some ⟨c, 0, none⟩), .pointer (some ⟨p, o, none⟩)] w (Got MsgT.Is pMsg bs w c p o g cur t) := by
  have hmf : ∀ (fn : Fn) (first cap : Array Value) (w : World), (Instr.makeFunc fn first cap).run Tryz.prog w = .ok (.func fn first cap) w := fun _ _ _ _ => rfl
  have hlp := lt_in hb.heap
  have hlc := h.lt
  go_enter Tryz.func33, Tryz.ntmps33
  have B0 := hb
  have H0 := h
  have P0 := Put.nil cur o
  have K0 := Kept.refl (fun k => k = c ∨ k = p) w
  have z0 := hz
  clear h hb
  go_wp2_with fail
  refine (numI_c H0 B0 (m := 0) (by rw [P0.other (o) (by simp)]; exact hz 0 (by omega))).mono ?_
  rintro _ w1 ⟨k1, ⟨hp, rfl, hwas⟩ | ⟨x0, r1, cur1, cs0, hp0, rfl, H1, B1, q1, hx0⟩⟩
  · exact ⟨rfl, K0.trans k1, .inl ⟨by (unfold pMsg); rw [hp]; rfl, rfl, hwas.cast P0.size⟩⟩
  have K1 := K0.trans k1
  have P1 := P0.append q1
  obtain ⟨rfl, j0⟩ := hx0
  have lp1 := lt_in B1.heap
  go_wp2_with fail
  refine (nodeG_c H1 (fun k hk => by have := hgl k hk; have := K1.size; omega) B1 (o := o + 1) (by
    intro f hf
    obtain rfl | rfl : f = 0 ∨ f = 1 := by omega
    · rw [P1.other _ (by simp)]; exact hz 1 (by omega)
    · rw [P1.other _ (by simp)]; exact hz 2 (by omega)
    )).mono ?_
  rintro _ w2 ⟨k2, ⟨hp, rfl, hwas⟩ | ⟨x1, r2, cur2, cs1, hp1, rfl, H2, B2, q2, hx1⟩⟩
  · exact ⟨rfl, K1.trans k2, .inl ⟨by (unfold pMsg; simp only [hp0, Option.bind_some]); rw [hp]; rfl, rfl, hwas.cast P1.size⟩⟩
  have K2 := K1.trans k2
  have P2 := P1.append q2
  obtain ⟨rfl, j1_0, j1_1⟩ := hx1
  have lp2 := lt_in B2.heap
  go_wp2_with fail
  refine (nodeG_c H2 (fun k hk => by have := hgl k hk; have := K2.size; omega) B2 (o := o + 3) (by
    intro f hf
    obtain rfl | rfl : f = 0 ∨ f = 1 := by omega
    · rw [P2.other _ (by simp)]; exact hz 3 (by omega)
    · rw [P2.other _ (by simp)]; exact hz 4 (by omega)
    )).mono ?_
  rintro _ w3 ⟨k3, ⟨hp, rfl, hwas⟩ | ⟨x2, r3, cur3, cs2, hp2, rfl, H3, B3, q3, hx2⟩⟩
  · exact ⟨rfl, K2.trans k3, .inl ⟨by (unfold pMsg; simp only [hp0, hp1, Option.bind_some]); rw [hp]; rfl, rfl, hwas.cast P2.size⟩⟩
  have K3 := K2.trans k3
  have P3 := P2.append q3
  obtain ⟨rfl, j2_0, j2_1⟩ := hx2
  have lp3 := lt_in B3.heap
  go_wp2
  refine wp_region_ord [1, 2, 3, 4, 5, 6] [0] [7, 8] (by kernel_rfl) (by kernel_rfl) (fun _ _ d _ _ h => by cases d <;> exact h) ?_
  simp only [sel, List.filterMap_cons, List.filterMap_nil, List.getElem?_cons_zero, List.getElem?_cons_succ]
  repeat (quiet_step (fail))
  refine wpQuiet_nil ?_
  refine wpIdle_step (fun K hK => ?_)
  go_simp
  refine hK _ ?_
  clear hK
  refine wpIdle_nil ?_
  rintro _ ⟨nr, rfl⟩
  go_wp2_with fail
  have j3 : Kept (fun _ => False) w3 ((w3.drewN nr).alloc (Obj.cells #[Value.pointer (some ⟨p, o + 5, none⟩), Value.pointer (some ⟨p, o + 6, none⟩)] 140)) := (Kept.drewN _ _ _).al _
  have rr3 := (own_alloc (w3.drewN nr) [Value.pointer (some ⟨p, o + 5, none⟩), Value.pointer (some ⟨p, o + 6, none⟩)] 140 2 rfl (by decide)).reads
  have hs3 : (w3.drewN nr).heap.size = w3.heap.size := rfl
  rw [hs3] at rr3
  generalize (w3.drewN nr).alloc (Obj.cells #[Value.pointer (some ⟨p, o + 5, none⟩), Value.pointer (some ⟨p, o + 6, none⟩)] 140) = y3 at j3 rr3 ⊢
  have HH3 : Rd y3 c _ g := H3.kept j3
  have BB3 := B3.kept j3 (fun h => h)
  have hc3 : c < w3.heap.size := H3.lt
  have lb3 := lt_in B3.heap
  refine (numsI_c (m := 2) (o := o + 5) HH3 BB3 (gp := some w3.heap.size) rr3 (fun k hk => by cases hk; exact ⟨Nat.ne_of_gt hc3, Nat.ne_of_gt lb3⟩) (by
    intro f hf
    obtain rfl | rfl : f = 0 ∨ f = 1 := by omega
    · exact ⟨0, by rw [P3.other _ (by simp)]; exact hz 5 (by omega)⟩
    · exact ⟨0, by rw [P3.other _ (by simp)]; exact hz 6 (by omega)⟩
    ) (by omega)).mono ?_
  rintro _ w4 ⟨k4, ⟨hp, rfl, hwas⟩ | ⟨ns3, r4, cur4, cs3, hp, rfl, H4, B4, q4, hx3⟩⟩
  · exact ⟨rfl, K3.trans (kept_alloc2 j3 k4), .inl ⟨by (unfold pMsg; simp only [hp0, hp1, hp2, Option.bind_some]); exact pN2_none hp _, rfl, hwas.cast P3.size⟩⟩
  have K4 := K3.trans (kept_alloc2 j3 k4)
  replace k4 := kept_alloc2 j3 k4
  obtain rfl := hx3
  obtain ⟨n3_0, s3_0, n3_1, hp3_0, hp3_1, rfl⟩ := pN2_some hp
  simp only [List.map_cons, List.map_nil] at q4
  have P4 := P3.append q4
  have lp4 := lt_in B4.heap
  go_wp2_with fail
  refine (pgG_c H4 (fun k hk => by have := hgl k hk; have := K4.size; omega) B4 (o := o + 7) (by
    intro f hf
    obtain rfl | rfl : f = 0 ∨ f = 1 := by omega
    · rw [P4.other _ (by simp)]; exact hz 7 (by omega)
    · rw [P4.other _ (by simp)]; exact hz 8 (by omega)
    )).mono ?_
  rintro _ w5 ⟨k5, ⟨hp, rfl, hwas⟩ | ⟨x4, r5, cur5, cs4, hp4, rfl, H5, B5, q5, hx4⟩⟩
  · exact ⟨rfl, K4.trans k5, .inl ⟨by (unfold pMsg; simp only [hp0, hp1, hp2, hp3_0, hp3_1, Option.bind_some]); rw [hp]; rfl, rfl, hwas.cast P4.size⟩⟩
  have K5 := K4.trans k5
  have P5 := P4.append q5
  obtain ⟨rfl, j4_0, j4_1⟩ := hx4
  have lp5 := lt_in B5.heap
  go_wp2
  refine wp_region_ord [1, 2, 3, 4, 5, 6, 7, 8, 9] [0] [10, 11] (by kernel_rfl) (by kernel_rfl) (fun _ _ d _ _ h => by cases d <;> exact h) ?_
  simp only [sel, List.filterMap_cons, List.filterMap_nil, List.getElem?_cons_zero, List.getElem?_cons_succ]
  repeat (quiet_step (fail))
  refine wpQuiet_nil ?_
  refine wpIdle_step (fun K hK => ?_)
  go_simp
  refine hK _ ?_
  clear hK
  refine wpIdle_nil ?_
  rintro _ ⟨nr, rfl⟩
  go_wp2_with fail
  have j5 : Kept (fun _ => False) w5 ((w5.drewN nr).alloc (Obj.cells #[Value.pointer (some ⟨p, o + 9, none⟩), Value.pointer (some ⟨p, o + 10, none⟩), Value.pointer (some ⟨p, o + 11, none⟩)] 140)) := (Kept.drewN _ _ _).al _
  have rr5 := (own_alloc (w5.drewN nr) [Value.pointer (some ⟨p, o + 9, none⟩), Value.pointer (some ⟨p, o + 10, none⟩), Value.pointer (some ⟨p, o + 11, none⟩)] 140 3 rfl (by decide)).reads
  have hs5 : (w5.drewN nr).heap.size = w5.heap.size := rfl
  rw [hs5] at rr5
  generalize (w5.drewN nr).alloc (Obj.cells #[Value.pointer (some ⟨p, o + 9, none⟩), Value.pointer (some ⟨p, o + 10, none⟩), Value.pointer (some ⟨p, o + 11, none⟩)] 140) = y5 at j5 rr5 ⊢
  have HH5 : Rd y5 c _ g := H5.kept j5
  have BB5 := B5.kept j5 (fun h => h)
  have hc5 : c < w5.heap.size := H5.lt
  have lb5 := lt_in B5.heap
  refine (numsI_c (m := 3) (o := o + 9) HH5 BB5 (gp := some w5.heap.size) rr5 (fun k hk => by cases hk; exact ⟨Nat.ne_of_gt hc5, Nat.ne_of_gt lb5⟩) (by
    intro f hf
    obtain rfl | rfl | rfl : f = 0 ∨ f = 1 ∨ f = 2 := by omega
    · exact ⟨0, by rw [P5.other _ (by simp)]; exact hz 9 (by omega)⟩
    · exact ⟨0, by rw [P5.other _ (by simp)]; exact hz 10 (by omega)⟩
    · exact ⟨0, by rw [P5.other _ (by simp)]; exact hz 11 (by omega)⟩
    ) (by omega)).mono ?_
  rintro _ w6 ⟨k6, ⟨hp, rfl, hwas⟩ | ⟨ns5, r6, cur6, cs5, hp, rfl, H6, B6, q6, hx5⟩⟩
  · exact ⟨rfl, K5.trans (kept_alloc2 j5 k6), .inl ⟨by (unfold pMsg; simp only [hp0, hp1, hp2, hp3_0, hp3_1, hp4, Option.bind_some]); exact pN3_none hp _, rfl, hwas.cast P5.size⟩⟩
  have K6 := K5.trans (kept_alloc2 j5 k6)
  replace k6 := kept_alloc2 j5 k6
  obtain rfl := hx5
  obtain ⟨n5_0, s5_0, n5_1, s5_1, n5_2, hp5_0, hp5_1, hp5_2, rfl⟩ := pN3_some hp
  simp only [List.map_cons, List.map_nil] at q6
  have P6 := P5.append q6
  have lp6 := lt_in B6.heap
  go_wp2_with fail
  refine (listSlotG_c H6 (fun k hk => by have := hgl k hk; have := K6.size; omega) B6 (by rw [P6.other (o + 12) (by simp)]; exact hz 12 (by omega))).mono ?_
  rintro _ w7 ⟨k7, ⟨hp, rfl, hwas⟩ | ⟨x6, r7, cur7, cs6, hp6, rfl, H7, B7, q7, hx6⟩⟩
  · exact ⟨rfl, K6.trans k7, .inl ⟨by (unfold pMsg; simp only [hp0, hp1, hp2, hp3_0, hp3_1, hp4, hp5_0, hp5_1, hp5_2, Option.bind_some]); rw [hp]; rfl, rfl, hwas.cast P6.size⟩⟩
  have K7 := K6.trans k7
  have P7 := P6.append q7
  obtain ⟨v6, rfl, l6⟩ := hx6
  have lp7 := lt_in B7.heap
  go_wp2_with fail
  refine (listIncG_c H7 (fun k hk => by have := hgl k hk; have := K7.size; omega) B7 (by rw [P7.other (o + 13) (by simp)]; exact hz 13 (by omega))).mono ?_
  rintro _ w8 ⟨k8, ⟨hp, rfl, hwas⟩ | ⟨x7, r8, cur8, cs7, hp7, rfl, H8, B8, q8, hx7⟩⟩
  · exact ⟨rfl, K7.trans k8, .inl ⟨by (unfold pMsg; simp only [hp0, hp1, hp2, hp3_0, hp3_1, hp4, hp5_0, hp5_1, hp5_2, hp6, Option.bind_some]); rw [hp]; rfl, rfl, hwas.cast P7.size⟩⟩
  have K8 := K7.trans k8
  have P8 := P7.append q8
  obtain ⟨v7, rfl, l7⟩ := hx7
  have lp8 := lt_in B8.heap
  go_wp2_with fail
  refine (listChangeG_c H8 (fun k hk => by have := hgl k hk; have := K8.size; omega) B8 (by rw [P8.other (o + 14) (by simp)]; exact hz 14 (by omega))).mono ?_
  rintro _ w9 ⟨k9, ⟨hp, rfl, hwas⟩ | ⟨x8, r9, cur9, cs8, hp8, rfl, H9, B9, q9, hx8⟩⟩
  · exact ⟨rfl, K8.trans k9, .inl ⟨by (unfold pMsg; simp only [hp0, hp1, hp2, hp3_0, hp3_1, hp4, hp5_0, hp5_1, hp5_2, hp6, hp7, Option.bind_some]); rw [hp]; rfl, rfl, hwas.cast P8.size⟩⟩
  have K9 := K8.trans k9
  have P9 := P8.append q9
  obtain ⟨v8, rfl, l8⟩ := hx8
  have lp9 := lt_in B9.heap
  go_wp2_with fail
  refine (infoG_c H9 (fun k hk => by have := hgl k hk; have := K9.size; omega) B9 (o := o + 15) (by
    intro f hf
    obtain rfl | rfl | rfl | rfl | rfl | rfl : f = 0 ∨ f = 1 ∨ f = 2 ∨ f = 3 ∨ f = 4 ∨ f = 5 := by omega
    · rw [P9.other _ (by simp)]; exact hz 15 (by omega)
    · rw [P9.other _ (by simp)]; exact hz 16 (by omega)
    · rw [P9.other _ (by simp)]; exact hz 17 (by omega)
    · rw [P9.other _ (by simp)]; exact hz 18 (by omega)
    · rw [P9.other _ (by simp)]; exact hz 19 (by omega)
    · rw [P9.other _ (by simp)]; exact hz 20 (by omega)
    )).mono ?_
  rintro _ w10 ⟨k10, ⟨hp, rfl, hwas⟩ | ⟨x9, r10, cur10, cs9, hp9, rfl, H10, B10, q10, hx9⟩⟩
  · exact ⟨rfl, K9.trans k10, .inl ⟨by (unfold pMsg; simp only [hp0, hp1, hp2, hp3_0, hp3_1, hp4, hp5_0, hp5_1, hp5_2, hp6, hp7, hp8, Option.bind_some]); rw [hp]; rfl, rfl, hwas.cast P9.size⟩⟩
  have K10 := K9.trans k10
  have P10 := P9.append q10
  obtain ⟨rfl, j9_0, j9_1, j9_2, j9_3, j9_4, j9_5⟩ := hx9
  have lp10 := lt_in B10.heap
  go_wp2_with fail
  refine (stateG_c H10 (fun k hk => by have := hgl k hk; have := K10.size; omega) B10 (o := o + 21) (by
    intro f hf
    obtain rfl | rfl | rfl | rfl | rfl | rfl : f = 0 ∨ f = 1 ∨ f = 2 ∨ f = 3 ∨ f = 4 ∨ f = 5 := by omega
    · rw [P10.other _ (by simp)]; exact hz 21 (by omega)
    · rw [P10.other _ (by simp)]; exact hz 22 (by omega)
    · rw [P10.other _ (by simp)]; exact hz 23 (by omega)
    · rw [P10.other _ (by simp)]; exact hz 24 (by omega)
    · rw [P10.other _ (by simp)]; exact hz 25 (by omega)
    · rw [P10.other _ (by simp)]; exact hz 26 (by omega)
    )).mono ?_
  rintro _ w11 ⟨k11, ⟨hp, rfl, hwas⟩ | ⟨x10, r11, cur11, cs10, hp10, rfl, H11, B11, q11, hx10⟩⟩
  · exact ⟨rfl, K10.trans k11, .inl ⟨by (unfold pMsg; simp only [hp0, hp1, hp2, hp3_0, hp3_1, hp4, hp5_0, hp5_1, hp5_2, hp6, hp7, hp8, hp9, Option.bind_some]); rw [hp]; rfl, rfl, hwas.cast P10.size⟩⟩
  have K11 := K10.trans k11
  have P11 := P10.append q11
  obtain ⟨u10_0, u10_1, u10_2, rfl, j10_0, j10_1, j10_2, l10_0, l10_1, l10_2⟩ := hx10
  have lp11 := lt_in B11.heap
  go_wp2_with fail
  refine (entryG_c H11 (fun k hk => by have := hgl k hk; have := K11.size; omega) B11 (o := o + 27) (by
    intro f hf
    obtain rfl | rfl | rfl | rfl | rfl | rfl | rfl : f = 0 ∨ f = 1 ∨ f = 2 ∨ f = 3 ∨ f = 4 ∨ f = 5 ∨ f = 6 := by omega
    · rw [P11.other _ (by simp)]; exact hz 27 (by omega)
    · rw [P11.other _ (by simp)]; exact hz 28 (by omega)
    · rw [P11.other _ (by simp)]; exact hz 29 (by omega)
    · rw [P11.other _ (by simp)]; exact hz 30 (by omega)
    · rw [P11.other _ (by simp)]; exact hz 31 (by omega)
    · rw [P11.other _ (by simp)]; exact hz 32 (by omega)
    · rw [P11.other _ (by simp)]; exact hz 33 (by omega)
    )).mono ?_
  rintro _ w12 ⟨k12, ⟨hp, rfl, hwas⟩ | ⟨x11, r12, cur12, cs11, hp11, rfl, H12, B12, q12, hx11⟩⟩
  · exact ⟨rfl, K11.trans k12, .inl ⟨by (unfold pMsg; simp only [hp0, hp1, hp2, hp3_0, hp3_1, hp4, hp5_0, hp5_1, hp5_2, hp6, hp7, hp8, hp9, hp10, Option.bind_some]); rw [hp]; rfl, rfl, hwas.cast P11.size⟩⟩
  have K12 := K11.trans k12
  have P12 := P11.append q12
  obtain ⟨rfl, j11_0, j11_1, j11_2, j11_3, j11_4⟩ := hx11
  have lp12 := lt_in B12.heap
  go_wp2_with fail
  refine (objectG_c H12 (fun k hk => by have := hgl k hk; have := K12.size; omega) B12 (o := o + 34) (by
    intro f hf
    obtain rfl | rfl | rfl | rfl : f = 0 ∨ f = 1 ∨ f = 2 ∨ f = 3 := by omega
    · rw [P12.other _ (by simp)]; exact hz 34 (by omega)
    · rw [P12.other _ (by simp)]; exact hz 35 (by omega)
    · rw [P12.other _ (by simp)]; exact hz 36 (by omega)
    · rw [P12.other _ (by simp)]; exact hz 37 (by omega)
    )).mono ?_
  rintro _ w13 ⟨k13, ⟨hp, rfl, hwas⟩ | ⟨x12, r13, cur13, cs12, hp12, rfl, H13, B13, q13, hx12⟩⟩
  · exact ⟨rfl, K12.trans k13, .inl ⟨by (unfold pMsg; simp only [hp0, hp1, hp2, hp3_0, hp3_1, hp4, hp5_0, hp5_1, hp5_2, hp6, hp7, hp8, hp9, hp10, hp11, Option.bind_some]); rw [hp]; rfl, rfl, hwas.cast P12.size⟩⟩
  have K13 := K12.trans k13
  have P13 := P12.append q13
  obtain ⟨u12_0, rfl, j12_0, j12_1, l12_0⟩ := hx12
  have lp13 := lt_in B13.heap
  go_wp2_with fail
  refine (opG_c H13 (fun k hk => by have := hgl k hk; have := K13.size; omega) B13 (o := o + 38) (by
    intro f hf
    obtain rfl | rfl | rfl | rfl | rfl : f = 0 ∨ f = 1 ∨ f = 2 ∨ f = 3 ∨ f = 4 := by omega
    · rw [P13.other _ (by simp)]; exact hz 38 (by omega)
    · rw [P13.other _ (by simp)]; exact hz 39 (by omega)
    · rw [P13.other _ (by simp)]; exact hz 40 (by omega)
    · rw [P13.other _ (by simp)]; exact hz 41 (by omega)
    · rw [P13.other _ (by simp)]; exact hz 42 (by omega)
    )).mono ?_
  rintro _ w14 ⟨k14, ⟨hp, rfl, hwas⟩ | ⟨x13, r14, cur14, cs13, hp13, rfl, H14, B14, q14, hx13⟩⟩
  · exact ⟨rfl, K13.trans k14, .inl ⟨by (unfold pMsg; simp only [hp0, hp1, hp2, hp3_0, hp3_1, hp4, hp5_0, hp5_1, hp5_2, hp6, hp7, hp8, hp9, hp10, hp11, hp12, Option.bind_some]); rw [hp]; rfl, rfl, hwas.cast P13.size⟩⟩
  have K14 := K13.trans k14
  have P14 := P13.append q14
  obtain ⟨u13_0, rfl, j13_0, j13_1, j13_2, l13_0⟩ := hx13
  have lp14 := lt_in B14.heap
  go_wp2_with fail
  refine (listItemG_c H14 (fun k hk => by have := hgl k hk; have := K14.size; omega) B14 (by rw [P14.other (o + 43) (by simp)]; exact hz 43 (by omega))).mono ?_
  rintro _ w15 ⟨k15, ⟨hp, rfl, hwas⟩ | ⟨x14, r15, cur15, cs14, hp14, rfl, H15, B15, q15, hx14⟩⟩
  · exact ⟨rfl, K14.trans k15, .inl ⟨by (unfold pMsg; simp only [hp0, hp1, hp2, hp3_0, hp3_1, hp4, hp5_0, hp5_1, hp5_2, hp6, hp7, hp8, hp9, hp10, hp11, hp12, hp13, Option.bind_some]); rw [hp]; rfl, rfl, hwas.cast P14.size⟩⟩
  have K15 := K14.trans k15
  have P15 := P14.append q15
  obtain ⟨v14, rfl, l14⟩ := hx14
  have lp15 := lt_in B15.heap
  go_wp2_with fail
  refine (listtextG_c H15 (fun k hk => by have := hgl k hk; have := K15.size; omega) B15 (by rw [P15.other (o + 44) (by simp)]; exact hz 44 (by omega))).mono ?_
  rintro _ w16 ⟨k16, ⟨hp, rfl, hwas⟩ | ⟨x15, r16, cur16, cs15, hp15, rfl, H16, B16, q16, hx15⟩⟩
  · exact ⟨rfl, K15.trans k16, .inl ⟨by (unfold pMsg; simp only [hp0, hp1, hp2, hp3_0, hp3_1, hp4, hp5_0, hp5_1, hp5_2, hp6, hp7, hp8, hp9, hp10, hp11, hp12, hp13, hp14, Option.bind_some]); rw [hp]; rfl, rfl, hwas.cast P15.size⟩⟩
  have K16 := K15.trans k16
  have P16 := P15.append q16
  obtain ⟨v15, rfl, l15⟩ := hx15
  go_wp2_with fail
  refine (errnoG_c H16 (fun k hk => by have := hgl k hk; have := K16.size; omega) B16 (by rw [P16.other (o + 45) (by simp)]; exact hz 45 (by omega))).mono ?_
  rintro _ w17 ⟨k17, ⟨hp, rfl, hwas⟩ | ⟨x16, r17, cur17, cs16, hp16, rfl, H17, B17, q17, hx16⟩⟩
  · exact ⟨rfl, K16.trans k17, .inl ⟨by (unfold pMsg; simp only [hp0, hp1, hp2, hp3_0, hp3_1, hp4, hp5_0, hp5_1, hp5_2, hp6, hp7, hp8, hp9, hp10, hp11, hp12, hp13, hp14, hp15, Option.bind_some]); rw [hp]; rfl, rfl, hwas.cast P16.size⟩⟩
  have K17 := K16.trans k17
  have P17 := P16.append q17
  obtain ⟨rfl, j16⟩ := hx16
  go_wp2
  have T17 := Kept.refl (fun k => k = c ∨ k = p) w17
  have T16 := k17.trans T17
  have T15 := k16.trans T16
  have T14 := k15.trans T15
  have T13 := k14.trans T14
  have T12 := k13.trans T13
  have T11 := k12.trans T12
  have T10 := k11.trans T11
  have T9 := k10.trans T10
  have T8 := k9.trans T9
  have T7 := k8.trans T8
  have T6 := k7.trans T7
  have T5 := k6.trans T6
  have T4 := k5.trans T5
  have T3 := k4.trans T4
  have T2 := k3.trans T3
  have T1 := k2.trans T2
  exact bodyPost_end (v := .tuple #[]) (by simp [results, Tryz.results33]) rfl ⟨K17, .inr ⟨⟨x0, x1, x2, n3_0, n3_1, x4, n5_0, n5_1, n5_2, x6, x7, x8, x9, x10, x11, x12, x13, x14, x15, x16⟩, r17, cur17, _, by (unfold pMsg; simp only [hp0, hp1, hp2, hp3_0, hp3_1, hp4, hp5_0, hp5_1, hp5_2, hp6, hp7, hp8, hp9, hp10, hp11, hp12, hp13, hp14, hp15, hp16, Option.bind_some]), rfl, H17, B17, P17, ⟨v6, v7, v8, u10_0, u10_1, u10_2, u12_0, u13_0, v14, v15, rfl, j0, j1_0, j1_1, j2_0, j2_1, (lawI.dec _ _ _ hp3_0).2, (lawI.dec _ _ _ hp3_1).2, j4_0, j4_1, (lawI.dec _ _ _ hp5_0).2, (lawI.dec _ _ _ hp5_1).2, (lawI.dec _ _ _ hp5_2).2, j9_0, j9_1, j9_2, j9_3, j9_4, j9_5, j10_0, j10_1, j10_2, j11_0, j11_1, j11_2, j11_3, j11_4, j12_0, j12_1, j13_0, j13_1, j13_2, j16, l6.late SlotT.stable K6.size T7 hlc hlp, l7.late IncT.stable K7.size T8 hlc hlp, l8.late ChangeT.stable K8.size T9 hlc hlp, l10_0.late EntryT.stable K10.size T11 hlc hlp, l10_1.late LastT.stable K10.size T11 hlc hlp, l10_2.late ItemT.stable K10.size T11 hlc hlp, l12_0.late byteIs_stable K12.size T13 hlc hlp, l13_0.late byteIs_stable K13.size T14 hlc hlp, l14.late ItemT.stable K14.size T15 hlc hlp, l15.late textIs_stable K15.size T16 hlc hlp⟩⟩⟩

end Go.Proofs.YtanmfldgillodaaGreat
