/- Part 4 of the proof: Rg2, Rr2, Cw2, Cm, Cm2, Sr. -/
import Derived.Recover
import Derived.Test.YtmbjealliinpdaaGreatM3
set_option linter.unusedSimpArgs false
set_option linter.unusedVariables false
set_option maxRecDepth 100000
set_option maxHeartbeats 16000000
section

namespace Go.Proofs.YtmbjealliinpdaaGreat
open Go.RowKit
theorem info_text : (Tryz.prog.info? 9).map (fun i => (i.zero, i.size, i.bytes)) = some (some (Value.string ⟨#[]⟩), 1, 16) := by kernel_rfl
theorem listtextG_c {w : World} {c p o : Nat} {bs : List UInt8} {g : Option Nat} {cur : Array Value} {t : TypeId} (h : Rd w c bs g) (hgl : ∀ k, g = some k → k < w.heap.size) (hb : Blk w p cur t c g) (hz : cur[o]? = some (.slice none 0 0)) :
    Calls Tryz.prog 77 #[.pointer (some ⟨c, 0, none⟩), .pointer (some ⟨p, o, none⟩), .func (.func 78) #[.pointer (some ⟨c, 0, none⟩)] #[]] w (Got (sliceIs 1 textIs) (pL pT) bs w c p o g cur t) := by
  obtain ⟨i0, hi0, hz0, hz1, hz2⟩ := info_all info_text
  have p0 : w.cell? ⟨p, o, none⟩ = some (.slice none 0 0) := (cell_in hb.heap).trans hz
  have hlp := lt_in hb.heap
  have hlc := h.lt
  go_enter Tryz.func77, Tryz.ntmps77
  go_wp2_with fail
  refine (countG_c h).mono ?_
  rintro e w1 ⟨k1, ⟨n, r1, hp1, rfl, h1⟩ | ⟨hp1, rfl⟩⟩
  rotate_left
  · exact ⟨rfl, k1.mono (fun _ _ h => .inl h), .inl ⟨by unfold pL; rw [hp1]; rfl, rfl, (hb.kept k1 hb.ne).was⟩⟩
  have hb1 := hb.kept k1 hb.ne
  have p1 : w1.cell? ⟨p, o, none⟩ = some (.slice none 0 0) := (cell_in hb1.heap).trans hz
  have f1 : w1.frozen? ⟨p, o, none⟩ = false := frozen_in hb1.heap
  have lp1 := lt_in hb1.heap
  have c2 : w1.cell? ⟨c, 2, none⟩ = some (.bool true) := by
    obtain ⟨vi, h2, -⟩ := h1.ex
    exact cell_in h2
  have lc1 := h1.lt
  have e1 := setCell_same' p1
  have L0 := Lst.start textIs 1 9 hb1 hz k1
  have hn32 := (pC_some hp1).2.1
  have HP1 : Hid (pL pT bs = pN pT n r1) := Lib.hid (by unfold pL; rw [hp1]; rfl)
  clear p0 hb1 hp1
  go_wp2
  go_loopw [37] (fun i w' => ∃ (k : Nat) (v : Value) (xs : List ByteArray) (Ls : List (List Value)) (r : List UInt8) (g' : Option Nat), k ≤ n ∧ i = .int .i64 k ∧ xs.length = k ∧ Hid (pN pT n r1 = (pN pT (n - k) r).bind (fun z => some (xs ++ z.1, z.2))) ∧ Rd w' c r g ∧ Lst textIs 1 9 w w' c p o g cur t v xs Ls g') (fun i _ => n - (intOf i).toNat)
  case atStart => exact ⟨0, _, [], [], r1, none, by omega, rfl, rfl, Lib.hid (by rw [Nat.sub_zero]; exact (bind_eta _).symm), h1, L0⟩
  case round =>
    obtain ⟨k, v, xs, Ls, r, g', hk, rfl, rfl, HP, hr, L⟩ := hrel
    by_cases hk2 : xs.length < n
    · have hki : (xs.length : Int) < (n : Int) := by omega
      obtain ⟨a, cp, rfl, hcp, -⟩ := L.own.shape
      obtain ⟨curp, hbp, hvp⟩ := L.cell
      have pr : wr.cell? ⟨p, o, none⟩ = some (.slice a xs.length cp) := (cell_in hbp).trans hvp
      have lpr := lt_in hbp
      have hsw := L.kept.size
      go_wp2_with fail
      have ka := Kept.alloc (fun _ => False) wr (Obj.cells #[Value.string ⟨#[]⟩] 9)
      have hq : (wr.alloc (Obj.cells #[Value.string ⟨#[]⟩] 9)).heap[wr.heap.size]? = some (Obj.cells #[Value.string ⟨#[]⟩] 9) := heap_alloc_new' _ _
      have ra : Rd (wr.alloc (Obj.cells #[Value.string ⟨#[]⟩] 9)) c r g := hr.kept ka
      have sa : (wr.alloc (Obj.cells #[Value.string ⟨#[]⟩] 9)).heap.size = wr.heap.size + 1 := by simp
      generalize wr.alloc (Obj.cells #[Value.string ⟨#[]⟩] 9) = wa at ka hq ra sa ⊢
      have bq : Blk wa wr.heap.size #[Value.string ⟨#[]⟩] 9 c g := ⟨hq, by omega, fun e => by have := hgl _ e; omega⟩
      refine (textG_c ra (fun k hk => by have := hgl k hk; omega) bq rfl).mono ?_
      rintro e w2 ⟨k2, ⟨hp2, rfl, -⟩ | ⟨x, r2, cur2, cs, hp2, rfl, h2, b2, put2, hx⟩⟩
      · exact ⟨rfl, (L.kept.trans (ka.mono (fun _ _ h => h.elim))).thn k2 (fun i hi => by rcases hi with rfl | rfl; exact .inl (.inl rfl); exact .inr hsw), .inl ⟨by rw [HP1.out]; exact pN_stop hk2 HP.out hp2, rfl, L.was.kept ka k2 (fun h => h) (fun h => by rcases h with h | h; exact hb.ne h; omega)⟩⟩
      have k02 : Kept (· = c) wr w2 := (ka.mono (fun _ _ h => h.elim)).thn k2 (fun i hi => by rcases hi with rfl | rfl; exact .inl rfl; exact .inr (Nat.le_refl _))
      have hxn : textIs w2 (New wr w2) cs x := textIs_stable _ _ _ _ _ _ hx (fun k hk => ⟨by have := hk.1; omega, hk.2⟩) (fun _ _ => rfl)
      obtain rfl := hx
      have y0 : w2.cell? ⟨wr.heap.size, 0, none⟩ = some (Value.string x) := (cell_in b2.heap).trans (by have := put2.at_ 0 (by simp); simpa using this)
      have lq2 := lt_in b2.heap
      have HP2 := Lib.hid (pN_next hk2 HP.out hp2)
      have bp2 : w2.heap[p]? = some (.cells curp t) := (k02.block _ lpr hb.ne).trans hbp
      have HBP := Lib.hid bp2
      have lp2 := lt_in bp2
      have hpq : p ≠ wr.heap.size := by omega
      have own2 := L.own.kept k02 (fun k hk e => by have := L.new k hk; omega)
      clear ka hq ra bq hbp pr HP hp2 bp2
      go_wp2
      refine wp_region_ordJ (fun w' => w'.heap[p]? = some (.cells curp t)) [4] [0, 1, 2, 3] [5, 6] [7, 8] (by kernel_rfl) (by kernel_rfl) (fun _ _ d _ _ h => by cases d <;> exact h) (fun k => HBP.out) ?_
      simp only [sel, List.filterMap_cons, List.filterMap_nil, List.getElem?_cons_zero, List.getElem?_cons_succ]
      repeat (quiet_step (fail))
      refine wpQuiet_nil ?_
      refine wpHeld_step (fun K hK => ?_)
      go_simp
      refine ⟨_, fun _ _ => rfl, hK _ ?_⟩
      refine wpHeld_step (fun K hK => ?_)
      go_simp
      refine ⟨_, fun _ _ => rfl, hK _ ?_⟩
      refine wpHeld_step (fun K hK => ?_)
      go_simp
      refine ⟨_, fun _ _ => rfl, hK _ ?_⟩
      refine wpHeld_step (fun K hK => ?_)
      go_simp
      refine ⟨.slice a xs.length cp, fun w' h => (by
        have h1 := (cell_in (k := o) h).trans hvp
        have h2 := lt_in h
        clear h
        go_simp), hK _ ?_⟩
      refine wpHeld_nil ?_
      rintro _ ⟨nr, rfl⟩
      have kd := Kept.drewN (fun _ => False) w2 nr
      have Q3 : Hid ((w2.drewN nr).heap[p]? = some (.cells curp t)) := Lib.hid HBP.out
      generalize w2.drewN nr = w3 at kd Q3 ⊢
      refine wpListS_step (fun K hK => ?_)
      go_simp
      have hA : (w3.alloc (Obj.cells #[Value.string x] 9)).heap[p]? = some (.cells curp t) := (Below.heap_alloc _ _ _ (lt_in Q3.out)).trans Q3.out
      refine hK _ _ hA ?_
      clear hK
      have k34 := kd.al (Obj.cells #[Value.string x] 9)
      have r4 := reads_allocN w3 [Value.string x] 9 1 rfl
      generalize w3.alloc (Obj.cells #[Value.string x] 9) = w4 at hA k34 r4 ⊢
      have own4 := own2.kept k34 (fun _ _ h => h)
      refine wpListS_append_Own rfl _ _ 46 46 rfl 9 i0 (Value.string ⟨#[]⟩) 1 16 Tryz.underlying46 hi0 hz0 hz1 hz2 rfl rfl own4 rfl (r4.src Tryz.underlying46 (by intro u hu; simp only [List.mem_cons, List.not_mem_nil, or_false] at hu; rcases hu with rfl <;> rfl)) (by unfold maxLen; omega) (by omega) ?_
      intro a5 k5 w5 g5 hown5 hk5 hg5
      have hgp : g' ≠ some p := fun e => by have := L.new p e; omega
      have hA5 : w5.heap[p]? = _ := (hk5.block _ (lt_in hA) (fun h => hgp h)).trans hA
      refine ⟨hA5, ?_⟩
      refine wpListS_nil ?_
      have k04 : Kept (· = c) wr w4 := k02.trans (k34.mono (fun _ _ h => h.elim))
      have s4 := k34.size
      have hx4 : textIs w4 (New wr w4) _ x := textIs_stable _ _ _ _ _ _ hxn (fun k hk => ⟨hk.1, by have := hk.2; omega⟩) (fun k hk => k34.block k hk.2 (fun h => h))
      have LN := Lib.hid (L.grow textIs_stable (o := o) hlp hlc k04 hx4 rfl hown5 hk5 hg5)
      have RN := Lib.hid (Lst.rd L (w2 := w2) (o := o) (v4 := .slice a5 (xs.length + 1) k5) hlc hgl (h2.kept k34) hk5)
      have f0 : w5.frozen? ⟨p, o, none⟩ = false := frozen_in hA5
      have z5 := (cell_in (k := o) hA5).trans hvp
      have hl5 := lt_in hA5
      have HX2 : Hid ((xs ++ [x]).length = xs.length + 1) := Lib.hid (by rw [List.length_append]; rfl)
      clear hA5 hA hown5 own4 own2 r4 hk5 hg5 hx4 hxn
      go_wp2
      exact ⟨⟨xs.length + 1, _, xs ++ [x], _, r2, g5, by omega, by simp, HX2.out, HP2, RN.out, LN.out⟩, by simp [intOf]; omega⟩
    · obtain rfl : n = xs.length := by omega
      go_wp2
      obtain ⟨cur', hbl, hpu⟩ := L.blk
      exact bodyPost_end (v := .tuple #[]) (by simp [results, Tryz.results77]) rfl ⟨L.kept, .inr ⟨xs, r, cur', [v], by rw [HP1.out]; exact pN_end HP.out, rfl, hr, hbl, hpu, v, rfl, L.done textIs_stable (by omega)⟩⟩
theorem versionG_c {w : World} {c p o : Nat} {bs : List UInt8} {g : Option Nat} {cur : Array Value} {t : TypeId} (h : Rd w c bs g) (hgl : ∀ k, g = some k → k < w.heap.size) (hb : Blk w p cur t c g) (hz : ∀ f, f < 2 → cur[o + f]? = ([Value.int IntKind.i64 0, Value.int IntKind.i64 0] : List Value)[f]?) :
    Calls Tryz.prog 117 #[.pointer (some ⟨c, 0, none⟩), .pointer (some ⟨p, o, none⟩)] w (Got VersionT.Is pVersion bs w c p o g cur t) := by
  have hmf : ∀ (fn : Fn) (first cap : Array Value) (w : World), (Instr.makeFunc fn first cap).run Tryz.prog w = .ok (.func fn first cap) w := fun _ _ _ _ => rfl
  have hlp := lt_in hb.heap
  have hlc := h.lt
  go_enter Tryz.func117, Tryz.ntmps117
  have B0 := hb
  have H0 := h
  have P0 := Put.nil cur o
  have K0 := Kept.refl (fun k => k = c ∨ k = p) w
  have z0 := hz
  clear h hb
  have lp0 := lt_in B0.heap
  go_wp2
  refine wp_region_ord [1, 2, 3, 4, 5, 6] [0] [7, 8] (by kernel_rfl) (by kernel_rfl) (fun _ _ d _ _ h => by cases d <;> exact h) ?_
  simp only [sel, List.filterMap_cons, List.filterMap_nil, List.getElem?_cons_zero, List.getElem?_cons_succ]
  repeat (quiet_step (fail))
  refine wpQuiet_nil ?_
  refine wpIdle_step (fun K hK => ?_)
  go_simp
  refine hK _ ?_
  clear hK
  refine wpIdle_nil ?_
  rintro _ ⟨nr, rfl⟩
  go_wp2_with fail
  have j0 : Kept (fun _ => False) w ((w.drewN nr).alloc (Obj.cells #[Value.pointer (some ⟨p, o, none⟩), Value.pointer (some ⟨p, o + 1, none⟩)] 141)) := (Kept.drewN _ _ _).al _
  have rr0 := (own_alloc (w.drewN nr) [Value.pointer (some ⟨p, o, none⟩), Value.pointer (some ⟨p, o + 1, none⟩)] 141 2 rfl (by decide)).reads
  have hs0 : (w.drewN nr).heap.size = w.heap.size := rfl
  rw [hs0] at rr0
  generalize (w.drewN nr).alloc (Obj.cells #[Value.pointer (some ⟨p, o, none⟩), Value.pointer (some ⟨p, o + 1, none⟩)] 141) = y0 at j0 rr0 ⊢
  have HH0 : Rd y0 c _ g := H0.kept j0
  have BB0 := B0.kept j0 (fun h => h)
  have hc0 : c < w.heap.size := H0.lt
  have lb0 := lt_in B0.heap
  refine (numsI_c (m := 2) (o := o) HH0 BB0 (gp := some w.heap.size) rr0 (fun k hk => by cases hk; exact ⟨Nat.ne_of_gt hc0, Nat.ne_of_gt lb0⟩) (by
    intro f hf
    obtain rfl | rfl : f = 0 ∨ f = 1 := by omega
    · exact ⟨0, by rw [P0.other _ (by simp)]; exact hz 0 (by omega)⟩
    · exact ⟨0, by rw [P0.other _ (by simp)]; exact hz 1 (by omega)⟩
    ) (by omega)).mono ?_
  rintro _ w1 ⟨k1, ⟨hp, rfl, hwas⟩ | ⟨ns0, r1, cur1, cs0, hp, rfl, H1, B1, q1, hx0⟩⟩
  · exact ⟨rfl, K0.trans (kept_alloc2 j0 k1), .inl ⟨by simp only [pVersion, Option.bind_some]; exact pN2_none hp _, rfl, hwas.cast P0.size⟩⟩
  have K1 := K0.trans (kept_alloc2 j0 k1)
  replace k1 := kept_alloc2 j0 k1
  obtain rfl := hx0
  obtain ⟨n0_0, s0_0, n0_1, hp0_0, hp0_1, rfl⟩ := pN2_some hp
  simp only [List.map_cons, List.map_nil] at q1
  have P1 := P0.append q1
  go_wp2
  exact bodyPost_end (v := .tuple #[]) (by simp [results, Tryz.results117]) rfl ⟨K1, .inr ⟨⟨n0_0, n0_1⟩, r1, cur1, _, by simp only [pVersion, hp0_0, hp0_1, Option.bind_some], rfl, H1, B1, P1, ⟨rfl, (lawI.dec _ _ _ hp0_0).2, (lawI.dec _ _ _ hp0_1).2⟩⟩⟩
theorem pgG_c {w : World} {c p o : Nat} {bs : List UInt8} {g : Option Nat} {cur : Array Value} {t : TypeId} (h : Rd w c bs g) (hgl : ∀ k, g = some k → k < w.heap.size) (hb : Blk w p cur t c g) (hz : ∀ f, f < 2 → cur[o + f]? = ([Value.int IntKind.i64 0, Value.int IntKind.i64 0] : List Value)[f]?) :
    Calls Tryz.prog 65 #[.pointer (some ⟨c, 0, none⟩), .pointer (some ⟨p, o, none⟩)] w (Got PgT.Is pPg bs w c p o g cur t) := by
  have hmf : ∀ (fn : Fn) (first cap : Array Value) (w : World), (Instr.makeFunc fn first cap).run Tryz.prog w = .ok (.func fn first cap) w := fun _ _ _ _ => rfl
  have hlp := lt_in hb.heap
  have hlc := h.lt
  go_enter Tryz.func65, Tryz.ntmps65
  have B0 := hb
  have H0 := h
  have P0 := Put.nil cur o
  have K0 := Kept.refl (fun k => k = c ∨ k = p) w
  have z0 := hz
  clear h hb
  have lp0 := lt_in B0.heap
  go_wp2
  refine wp_region_ord [1, 2, 3, 4, 5, 6] [0] [7, 8] (by kernel_rfl) (by kernel_rfl) (fun _ _ d _ _ h => by cases d <;> exact h) ?_
  simp only [sel, List.filterMap_cons, List.filterMap_nil, List.getElem?_cons_zero, List.getElem?_cons_succ]
  repeat (quiet_step (fail))
  refine wpQuiet_nil ?_
  refine wpIdle_step (fun K hK => ?_)
  go_simp
  refine hK _ ?_
  clear hK
  refine wpIdle_nil ?_
  rintro _ ⟨nr, rfl⟩
  go_wp2_with fail
  have j0 : Kept (fun _ => False) w ((w.drewN nr).alloc (Obj.cells #[Value.pointer (some ⟨p, o, none⟩), Value.pointer (some ⟨p, o + 1, none⟩)] 141)) := (Kept.drewN _ _ _).al _
  have rr0 := (own_alloc (w.drewN nr) [Value.pointer (some ⟨p, o, none⟩), Value.pointer (some ⟨p, o + 1, none⟩)] 141 2 rfl (by decide)).reads
  have hs0 : (w.drewN nr).heap.size = w.heap.size := rfl
  rw [hs0] at rr0
  generalize (w.drewN nr).alloc (Obj.cells #[Value.pointer (some ⟨p, o, none⟩), Value.pointer (some ⟨p, o + 1, none⟩)] 141) = y0 at j0 rr0 ⊢
  have HH0 : Rd y0 c _ g := H0.kept j0
  have BB0 := B0.kept j0 (fun h => h)
  have hc0 : c < w.heap.size := H0.lt
  have lb0 := lt_in B0.heap
  refine (numsI_c (m := 2) (o := o) HH0 BB0 (gp := some w.heap.size) rr0 (fun k hk => by cases hk; exact ⟨Nat.ne_of_gt hc0, Nat.ne_of_gt lb0⟩) (by
    intro f hf
    obtain rfl | rfl : f = 0 ∨ f = 1 := by omega
    · exact ⟨0, by rw [P0.other _ (by simp)]; exact hz 0 (by omega)⟩
    · exact ⟨0, by rw [P0.other _ (by simp)]; exact hz 1 (by omega)⟩
    ) (by omega)).mono ?_
  rintro _ w1 ⟨k1, ⟨hp, rfl, hwas⟩ | ⟨ns0, r1, cur1, cs0, hp, rfl, H1, B1, q1, hx0⟩⟩
  · exact ⟨rfl, K0.trans (kept_alloc2 j0 k1), .inl ⟨by simp only [pPg, Option.bind_some]; exact pN2_none hp _, rfl, hwas.cast P0.size⟩⟩
  have K1 := K0.trans (kept_alloc2 j0 k1)
  replace k1 := kept_alloc2 j0 k1
  obtain rfl := hx0
  obtain ⟨n0_0, s0_0, n0_1, hp0_0, hp0_1, rfl⟩ := pN2_some hp
  simp only [List.map_cons, List.map_nil] at q1
  have P1 := P0.append q1
  go_wp2
  exact bodyPost_end (v := .tuple #[]) (by simp [results, Tryz.results65]) rfl ⟨K1, .inr ⟨⟨n0_0, n0_1⟩, r1, cur1, _, by simp only [pPg, hp0_0, hp0_1, Option.bind_some], rfl, H1, B1, P1, ⟨rfl, (lawI.dec _ _ _ hp0_0).2, (lawI.dec _ _ _ hp0_1).2⟩⟩⟩
theorem entryG_c {w : World} {c p o : Nat} {bs : List UInt8} {g : Option Nat} {cur : Array Value} {t : TypeId} (h : Rd w c bs g) (hgl : ∀ k, g = some k → k < w.heap.size) (hb : Blk w p cur t c g) (hz : ∀ f, f < 7 → cur[o + f]? = ([Value.int IntKind.i64 0, Value.int IntKind.i64 0, Value.bool false, Value.int IntKind.i64 0, Value.string ⟨#[]⟩, Value.int IntKind.i64 0, Value.int IntKind.i64 0] : List Value)[f]?) :
    Calls Tryz.prog 72 #[.pointer (some ⟨c, 0, none⟩), .pointer (some ⟨p, o, none⟩)] w (Got EntryT.Is pEntry bs w c p o g cur t) := by
  have hmf : ∀ (fn : Fn) (first cap : Array Value) (w : World), (Instr.makeFunc fn first cap).run Tryz.prog w = .ok (.func fn first cap) w := fun _ _ _ _ => rfl
  have hlp := lt_in hb.heap
  have hlc := h.lt
  go_enter Tryz.func72, Tryz.ntmps72
  have B0 := hb
  have H0 := h
  have P0 := Put.nil cur o
  have K0 := Kept.refl (fun k => k = c ∨ k = p) w
  have z0 := hz
  clear h hb
  have lp0 := lt_in B0.heap
  go_wp2_with fail
  refine (versionG_c H0 (fun k hk => by have := hgl k hk; have := K0.size; omega) B0 (o := o) (by
    intro f hf
    obtain rfl | rfl : f = 0 ∨ f = 1 := by omega
    · rw [P0.other _ (by simp)]; exact hz 0 (by omega)
    · rw [P0.other _ (by simp)]; exact hz 1 (by omega)
    )).mono ?_
  rintro _ w1 ⟨k1, ⟨hp, rfl, hwas⟩ | ⟨x0, r1, cur1, cs0, hp0, rfl, H1, B1, q1, hx0⟩⟩
  · exact ⟨rfl, K0.trans k1, .inl ⟨by simp only [pEntry, Option.bind_some]; rw [hp]; rfl, rfl, hwas.cast P0.size⟩⟩
  have K1 := K0.trans k1
  have P1 := P0.append q1
  obtain ⟨rfl, j0_0, j0_1⟩ := hx0
  go_wp2_with fail
  refine (flagI_c H1 B1 (by rw [P1.other (o + 2) (by simp)]; exact hz 2 (by omega))).mono ?_
  rintro _ w2 ⟨k2, ⟨hp, rfl, hwas⟩ | ⟨x1, r2, cur2, cs1, hp1, rfl, H2, B2, q2, hx1⟩⟩
  · exact ⟨rfl, K1.trans k2, .inl ⟨by simp only [pEntry, hp0, Option.bind_some]; rw [hp]; rfl, rfl, hwas.cast P1.size⟩⟩
  have K2 := K1.trans k2
  have P2 := P1.append q2
  obtain rfl := hx1
  go_wp2_with fail
  refine (errnoG_c H2 (fun k hk => by have := hgl k hk; have := K2.size; omega) B2 (by rw [P2.other (o + 3) (by simp)]; exact hz 3 (by omega))).mono ?_
  rintro _ w3 ⟨k3, ⟨hp, rfl, hwas⟩ | ⟨x2, r3, cur3, cs2, hp2, rfl, H3, B3, q3, hx2⟩⟩
  · exact ⟨rfl, K2.trans k3, .inl ⟨by simp only [pEntry, hp0, hp1, Option.bind_some]; rw [hp]; rfl, rfl, hwas.cast P2.size⟩⟩
  have K3 := K2.trans k3
  have P3 := P2.append q3
  obtain ⟨rfl, j2⟩ := hx2
  go_wp2_with fail
  refine (textG_c H3 (fun k hk => by have := hgl k hk; have := K3.size; omega) B3 (by rw [P3.other (o + 4) (by simp)]; exact hz 4 (by omega))).mono ?_
  rintro _ w4 ⟨k4, ⟨hp, rfl, hwas⟩ | ⟨x3, r4, cur4, cs3, hp3, rfl, H4, B4, q4, hx3⟩⟩
  · exact ⟨rfl, K3.trans k4, .inl ⟨by simp only [pEntry, hp0, hp1, hp2, Option.bind_some]; rw [hp]; rfl, rfl, hwas.cast P3.size⟩⟩
  have K4 := K3.trans k4
  have P4 := P3.append q4
  obtain rfl := hx3
  have lp4 := lt_in B4.heap
  go_wp2
  refine wp_region_ord [1, 2, 3, 4, 5, 6] [0] [7, 8] (by kernel_rfl) (by kernel_rfl) (fun _ _ d _ _ h => by cases d <;> exact h) ?_
  simp only [sel, List.filterMap_cons, List.filterMap_nil, List.getElem?_cons_zero, List.getElem?_cons_succ]
  repeat (quiet_step (fail))
  refine wpQuiet_nil ?_
  refine wpIdle_step (fun K hK => ?_)
  go_simp
  refine hK _ ?_
  clear hK
  refine wpIdle_nil ?_
  rintro _ ⟨nr, rfl⟩
  go_wp2_with fail
  have j4 : Kept (fun _ => False) w4 ((w4.drewN nr).alloc (Obj.cells #[Value.pointer (some ⟨p, o + 5, none⟩), Value.pointer (some ⟨p, o + 6, none⟩)] 141)) := (Kept.drewN _ _ _).al _
  have rr4 := (own_alloc (w4.drewN nr) [Value.pointer (some ⟨p, o + 5, none⟩), Value.pointer (some ⟨p, o + 6, none⟩)] 141 2 rfl (by decide)).reads
  have hs4 : (w4.drewN nr).heap.size = w4.heap.size := rfl
  rw [hs4] at rr4
  generalize (w4.drewN nr).alloc (Obj.cells #[Value.pointer (some ⟨p, o + 5, none⟩), Value.pointer (some ⟨p, o + 6, none⟩)] 141) = y4 at j4 rr4 ⊢
  have HH4 : Rd y4 c _ g := H4.kept j4
  have BB4 := B4.kept j4 (fun h => h)
  have hc4 : c < w4.heap.size := H4.lt
  have lb4 := lt_in B4.heap
  refine (numsI_c (m := 2) (o := o + 5) HH4 BB4 (gp := some w4.heap.size) rr4 (fun k hk => by cases hk; exact ⟨Nat.ne_of_gt hc4, Nat.ne_of_gt lb4⟩) (by
    intro f hf
    obtain rfl | rfl : f = 0 ∨ f = 1 := by omega
    · exact ⟨0, by rw [P4.other _ (by simp)]; exact hz 5 (by omega)⟩
    · exact ⟨0, by rw [P4.other _ (by simp)]; exact hz 6 (by omega)⟩
    ) (by omega)).mono ?_
  rintro _ w5 ⟨k5, ⟨hp, rfl, hwas⟩ | ⟨ns4, r5, cur5, cs4, hp, rfl, H5, B5, q5, hx4⟩⟩
  · exact ⟨rfl, K4.trans (kept_alloc2 j4 k5), .inl ⟨by simp only [pEntry, hp0, hp1, hp2, hp3, Option.bind_some]; exact pN2_none hp _, rfl, hwas.cast P4.size⟩⟩
  have K5 := K4.trans (kept_alloc2 j4 k5)
  replace k5 := kept_alloc2 j4 k5
  obtain rfl := hx4
  obtain ⟨n4_0, s4_0, n4_1, hp4_0, hp4_1, rfl⟩ := pN2_some hp
  simp only [List.map_cons, List.map_nil] at q5
  have P5 := P4.append q5
  go_wp2
  exact bodyPost_end (v := .tuple #[]) (by simp [results, Tryz.results72]) rfl ⟨K5, .inr ⟨⟨x0, x1, x2, x3, n4_0, n4_1⟩, r5, cur5, _, by simp only [pEntry, hp0, hp1, hp2, hp3, hp4_0, hp4_1, Option.bind_some], rfl, H5, B5, P5, ⟨rfl, j0_0, j0_1, j2, (lawI.dec _ _ _ hp4_0).2, (lawI.dec _ _ _ hp4_1).2⟩⟩⟩
theorem info_Entry : (Tryz.prog.info? 41).map (fun i => (i.zero, i.size, i.bytes)) = some (some (Value.agg #[Value.int IntKind.i64 0, Value.int IntKind.i64 0, Value.bool false, Value.int IntKind.i64 0, Value.string ⟨#[]⟩, Value.int IntKind.i64 0, Value.int IntKind.i64 0]), 7, 64) := by kernel_rfl
theorem listEntryG_c {w : World} {c p o : Nat} {bs : List UInt8} {g : Option Nat} {cur : Array Value} {t : TypeId} (h : Rd w c bs g) (hgl : ∀ k, g = some k → k < w.heap.size) (hb : Blk w p cur t c g) (hz : cur[o]? = some (.slice none 0 0)) :
    Calls Tryz.prog 118 #[.pointer (some ⟨c, 0, none⟩), .pointer (some ⟨p, o, none⟩), .func (.func 72) #[.pointer (some ⟨c, 0, none⟩)] #[]] w (Got (sliceIs 7 EntryT.Is) (pL pEntry) bs w c p o g cur t) := by
  obtain ⟨i0, hi0, hz0, hz1, hz2⟩ := info_all info_Entry
  have p0 : w.cell? ⟨p, o, none⟩ = some (.slice none 0 0) := (cell_in hb.heap).trans hz
  have hlp := lt_in hb.heap
  have hlc := h.lt
  go_enter Tryz.func118, Tryz.ntmps118
  go_wp2_with fail
  refine (countG_c h).mono ?_
  rintro e w1 ⟨k1, ⟨n, r1, hp1, rfl, h1⟩ | ⟨hp1, rfl⟩⟩
  rotate_left
  · exact ⟨rfl, k1.mono (fun _ _ h => .inl h), .inl ⟨by unfold pL; rw [hp1]; rfl, rfl, (hb.kept k1 hb.ne).was⟩⟩
  have hb1 := hb.kept k1 hb.ne
  have p1 : w1.cell? ⟨p, o, none⟩ = some (.slice none 0 0) := (cell_in hb1.heap).trans hz
  have f1 : w1.frozen? ⟨p, o, none⟩ = false := frozen_in hb1.heap
  have lp1 := lt_in hb1.heap
  have c2 : w1.cell? ⟨c, 2, none⟩ = some (.bool true) := by
    obtain ⟨vi, h2, -⟩ := h1.ex
    exact cell_in h2
  have lc1 := h1.lt
  have e1 := setCell_same' p1
  have L0 := Lst.start EntryT.Is 7 41 hb1 hz k1
  have hn32 := (pC_some hp1).2.1
  have HP1 : Hid (pL pEntry bs = pN pEntry n r1) := Lib.hid (by unfold pL; rw [hp1]; rfl)
  clear p0 hb1 hp1
  go_wp2
  go_loopw [37] (fun i w' => ∃ (k : Nat) (v : Value) (xs : List EntryT) (Ls : List (List Value)) (r : List UInt8) (g' : Option Nat), k ≤ n ∧ i = .int .i64 k ∧ xs.length = k ∧ Hid (pN pEntry n r1 = (pN pEntry (n - k) r).bind (fun z => some (xs ++ z.1, z.2))) ∧ Rd w' c r g ∧ Lst EntryT.Is 7 41 w w' c p o g cur t v xs Ls g') (fun i _ => n - (intOf i).toNat)
  case atStart => exact ⟨0, _, [], [], r1, none, by omega, rfl, rfl, Lib.hid (by rw [Nat.sub_zero]; exact (bind_eta _).symm), h1, L0⟩
  case round =>
    obtain ⟨k, v, xs, Ls, r, g', hk, rfl, rfl, HP, hr, L⟩ := hrel
    by_cases hk2 : xs.length < n
    · have hki : (xs.length : Int) < (n : Int) := by omega
      obtain ⟨a, cp, rfl, hcp, -⟩ := L.own.shape
      obtain ⟨curp, hbp, hvp⟩ := L.cell
      have pr : wr.cell? ⟨p, o, none⟩ = some (.slice a xs.length cp) := (cell_in hbp).trans hvp
      have lpr := lt_in hbp
      have hsw := L.kept.size
      go_wp2_with fail
      have ka := Kept.alloc (fun _ => False) wr (Obj.cells #[Value.int IntKind.i64 0, Value.int IntKind.i64 0, Value.bool false, Value.int IntKind.i64 0, Value.string ⟨#[]⟩, Value.int IntKind.i64 0, Value.int IntKind.i64 0] 41)
      have hq : (wr.alloc (Obj.cells #[Value.int IntKind.i64 0, Value.int IntKind.i64 0, Value.bool false, Value.int IntKind.i64 0, Value.string ⟨#[]⟩, Value.int IntKind.i64 0, Value.int IntKind.i64 0] 41)).heap[wr.heap.size]? = some (Obj.cells #[Value.int IntKind.i64 0, Value.int IntKind.i64 0, Value.bool false, Value.int IntKind.i64 0, Value.string ⟨#[]⟩, Value.int IntKind.i64 0, Value.int IntKind.i64 0] 41) := heap_alloc_new' _ _
      have ra : Rd (wr.alloc (Obj.cells #[Value.int IntKind.i64 0, Value.int IntKind.i64 0, Value.bool false, Value.int IntKind.i64 0, Value.string ⟨#[]⟩, Value.int IntKind.i64 0, Value.int IntKind.i64 0] 41)) c r g := hr.kept ka
      have sa : (wr.alloc (Obj.cells #[Value.int IntKind.i64 0, Value.int IntKind.i64 0, Value.bool false, Value.int IntKind.i64 0, Value.string ⟨#[]⟩, Value.int IntKind.i64 0, Value.int IntKind.i64 0] 41)).heap.size = wr.heap.size + 1 := by simp
      generalize wr.alloc (Obj.cells #[Value.int IntKind.i64 0, Value.int IntKind.i64 0, Value.bool false, Value.int IntKind.i64 0, Value.string ⟨#[]⟩, Value.int IntKind.i64 0, Value.int IntKind.i64 0] 41) = wa at ka hq ra sa ⊢
      have bq : Blk wa wr.heap.size #[Value.int IntKind.i64 0, Value.int IntKind.i64 0, Value.bool false, Value.int IntKind.i64 0, Value.string ⟨#[]⟩, Value.int IntKind.i64 0, Value.int IntKind.i64 0] 41 c g := ⟨hq, by omega, fun e => by have := hgl _ e; omega⟩
      refine (entryG_c ra (fun k hk => by have := hgl k hk; omega) bq (by intro f hf; simp)).mono ?_
      rintro e w2 ⟨k2, ⟨hp2, rfl, -⟩ | ⟨x, r2, cur2, cs, hp2, rfl, h2, b2, put2, hx⟩⟩
      · exact ⟨rfl, (L.kept.trans (ka.mono (fun _ _ h => h.elim))).thn k2 (fun i hi => by rcases hi with rfl | rfl; exact .inl (.inl rfl); exact .inr hsw), .inl ⟨by rw [HP1.out]; exact pN_stop hk2 HP.out hp2, rfl, L.was.kept ka k2 (fun h => h) (fun h => by rcases h with h | h; exact hb.ne h; omega)⟩⟩
      have k02 : Kept (· = c) wr w2 := (ka.mono (fun _ _ h => h.elim)).thn k2 (fun i hi => by rcases hi with rfl | rfl; exact .inl rfl; exact .inr (Nat.le_refl _))
      have hxn : EntryT.Is w2 (New wr w2) cs x := EntryT.stable _ _ _ _ _ _ hx (fun k hk => ⟨by have := hk.1; omega, hk.2⟩) (fun _ _ => rfl)
      obtain ⟨rfl, -, -, -, -, -⟩ := hx
      have y0 : w2.cell? ⟨wr.heap.size, 0, none⟩ = some (Value.int IntKind.i64 x.version.epoch) := (cell_in b2.heap).trans (by have := put2.at_ 0 (by simp); simpa using this)
      have y1 : w2.cell? ⟨wr.heap.size, 1, none⟩ = some (Value.int IntKind.i64 x.version.n) := (cell_in b2.heap).trans (by have := put2.at_ 1 (by simp); simpa using this)
      have y2 : w2.cell? ⟨wr.heap.size, 2, none⟩ = some (Value.bool x.remove) := (cell_in b2.heap).trans (by have := put2.at_ 2 (by simp); simpa using this)
      have y3 : w2.cell? ⟨wr.heap.size, 3, none⟩ = some (Value.int IntKind.i64 x.errno) := (cell_in b2.heap).trans (by have := put2.at_ 3 (by simp); simpa using this)
      have y4 : w2.cell? ⟨wr.heap.size, 4, none⟩ = some (Value.string x.name) := (cell_in b2.heap).trans (by have := put2.at_ 4 (by simp); simpa using this)
      have y5 : w2.cell? ⟨wr.heap.size, 5, none⟩ = some (Value.int IntKind.i64 x.client) := (cell_in b2.heap).trans (by have := put2.at_ 5 (by simp); simpa using this)
      have y6 : w2.cell? ⟨wr.heap.size, 6, none⟩ = some (Value.int IntKind.i64 x.number) := (cell_in b2.heap).trans (by have := put2.at_ 6 (by simp); simpa using this)
      have lq2 := lt_in b2.heap
      have HP2 := Lib.hid (pN_next hk2 HP.out hp2)
      have bp2 : w2.heap[p]? = some (.cells curp t) := (k02.block _ lpr hb.ne).trans hbp
      have HBP := Lib.hid bp2
      have lp2 := lt_in bp2
      have hpq : p ≠ wr.heap.size := by omega
      have own2 := L.own.kept k02 (fun k hk e => by have := L.new k hk; omega)
      clear ka hq ra bq hbp pr HP hp2 bp2
      go_wp2
      refine wp_region_ordJ (fun w' => w'.heap[p]? = some (.cells curp t)) [4] [0, 1, 2, 3] [5, 6] [7, 8] (by kernel_rfl) (by kernel_rfl) (fun _ _ d _ _ h => by cases d <;> exact h) (fun k => HBP.out) ?_
      simp only [sel, List.filterMap_cons, List.filterMap_nil, List.getElem?_cons_zero, List.getElem?_cons_succ]
      repeat (quiet_step (fail))
      refine wpQuiet_nil ?_
      refine wpHeld_step (fun K hK => ?_)
      go_simp
      refine ⟨_, fun _ _ => rfl, hK _ ?_⟩
      refine wpHeld_step (fun K hK => ?_)
      go_simp
      refine ⟨_, fun _ _ => rfl, hK _ ?_⟩
      refine wpHeld_step (fun K hK => ?_)
      go_simp
      refine ⟨_, fun _ _ => rfl, hK _ ?_⟩
      refine wpHeld_step (fun K hK => ?_)
      go_simp
      refine ⟨.slice a xs.length cp, fun w' h => (by
        have h1 := (cell_in (k := o) h).trans hvp
        have h2 := lt_in h
        clear h
        go_simp), hK _ ?_⟩
      refine wpHeld_nil ?_
      rintro _ ⟨nr, rfl⟩
      have kd := Kept.drewN (fun _ => False) w2 nr
      have Q3 : Hid ((w2.drewN nr).heap[p]? = some (.cells curp t)) := Lib.hid HBP.out
      generalize w2.drewN nr = w3 at kd Q3 ⊢
      refine wpListS_step (fun K hK => ?_)
      go_simp
      have hA : (w3.alloc (Obj.cells #[Value.int IntKind.i64 x.version.epoch, Value.int IntKind.i64 x.version.n, Value.bool x.remove, Value.int IntKind.i64 x.errno, Value.string x.name, Value.int IntKind.i64 x.client, Value.int IntKind.i64 x.number] 41)).heap[p]? = some (.cells curp t) := (Below.heap_alloc _ _ _ (lt_in Q3.out)).trans Q3.out
      refine hK _ _ hA ?_
      clear hK
      have k34 := kd.al (Obj.cells #[Value.int IntKind.i64 x.version.epoch, Value.int IntKind.i64 x.version.n, Value.bool x.remove, Value.int IntKind.i64 x.errno, Value.string x.name, Value.int IntKind.i64 x.client, Value.int IntKind.i64 x.number] 41)
      have r4 := reads_allocN w3 [Value.int IntKind.i64 x.version.epoch, Value.int IntKind.i64 x.version.n, Value.bool x.remove, Value.int IntKind.i64 x.errno, Value.string x.name, Value.int IntKind.i64 x.client, Value.int IntKind.i64 x.number] 41 7 rfl
      generalize w3.alloc (Obj.cells #[Value.int IntKind.i64 x.version.epoch, Value.int IntKind.i64 x.version.n, Value.bool x.remove, Value.int IntKind.i64 x.errno, Value.string x.name, Value.int IntKind.i64 x.client, Value.int IntKind.i64 x.number] 41) = w4 at hA k34 r4 ⊢
      have own4 := own2.kept k34 (fun _ _ h => h)
      refine wpListS_append_Own rfl _ _ 34 34 rfl 41 i0 (Value.agg #[Value.int IntKind.i64 0, Value.int IntKind.i64 0, Value.bool false, Value.int IntKind.i64 0, Value.string ⟨#[]⟩, Value.int IntKind.i64 0, Value.int IntKind.i64 0]) 7 64 Tryz.underlying34 hi0 hz0 hz1 hz2 rfl rfl own4 rfl (r4.src Tryz.underlying34 (by intro u hu; simp only [List.mem_cons, List.not_mem_nil, or_false] at hu; rcases hu with rfl | rfl | rfl | rfl | rfl | rfl | rfl <;> rfl)) (by unfold maxLen; omega) (by omega) ?_
      intro a5 k5 w5 g5 hown5 hk5 hg5
      have hgp : g' ≠ some p := fun e => by have := L.new p e; omega
      have hA5 : w5.heap[p]? = _ := (hk5.block _ (lt_in hA) (fun h => hgp h)).trans hA
      refine ⟨hA5, ?_⟩
      refine wpListS_nil ?_
      have k04 : Kept (· = c) wr w4 := k02.trans (k34.mono (fun _ _ h => h.elim))
      have s4 := k34.size
      have hx4 : EntryT.Is w4 (New wr w4) _ x := EntryT.stable _ _ _ _ _ _ hxn (fun k hk => ⟨hk.1, by have := hk.2; omega⟩) (fun k hk => k34.block k hk.2 (fun h => h))
      have LN := Lib.hid (L.grow EntryT.stable (o := o) hlp hlc k04 hx4 rfl hown5 hk5 hg5)
      have RN := Lib.hid (Lst.rd L (w2 := w2) (o := o) (v4 := .slice a5 (xs.length + 1) k5) hlc hgl (h2.kept k34) hk5)
      have f0 : w5.frozen? ⟨p, o, none⟩ = false := frozen_in hA5
      have z5 := (cell_in (k := o) hA5).trans hvp
      have hl5 := lt_in hA5
      have HX2 : Hid ((xs ++ [x]).length = xs.length + 1) := Lib.hid (by rw [List.length_append]; rfl)
      clear hA5 hA hown5 own4 own2 r4 hk5 hg5 hx4 hxn
      go_wp2
      exact ⟨⟨xs.length + 1, _, xs ++ [x], _, r2, g5, by omega, by simp, HX2.out, HP2, RN.out, LN.out⟩, by simp [intOf]; omega⟩
    · obtain rfl : n = xs.length := by omega
      go_wp2
      obtain ⟨cur', hbl, hpu⟩ := L.blk
      exact bodyPost_end (v := .tuple #[]) (by simp [results, Tryz.results118]) rfl ⟨L.kept, .inr ⟨xs, r, cur', [v], by rw [HP1.out]; exact pN_end HP.out, rfl, hr, hbl, hpu, v, rfl, L.done EntryT.stable (by omega)⟩⟩
theorem lastG_c {w : World} {c p o : Nat} {bs : List UInt8} {g : Option Nat} {cur : Array Value} {t : TypeId} (h : Rd w c bs g) (hgl : ∀ k, g = some k → k < w.heap.size) (hb : Blk w p cur t c g) (hz : ∀ f, f < 5 → cur[o + f]? = ([Value.int IntKind.i64 0, Value.int IntKind.i64 0, Value.int IntKind.i64 0, Value.int IntKind.i64 0, Value.int IntKind.i64 0] : List Value)[f]?) :
    Calls Tryz.prog 120 #[.pointer (some ⟨c, 0, none⟩), .pointer (some ⟨p, o, none⟩)] w (Got LastT.Is pLast bs w c p o g cur t) := by
  have hmf : ∀ (fn : Fn) (first cap : Array Value) (w : World), (Instr.makeFunc fn first cap).run Tryz.prog w = .ok (.func fn first cap) w := fun _ _ _ _ => rfl
  have hlp := lt_in hb.heap
  have hlc := h.lt
  go_enter Tryz.func120, Tryz.ntmps120
  have B0 := hb
  have H0 := h
  have P0 := Put.nil cur o
  have K0 := Kept.refl (fun k => k = c ∨ k = p) w
  have z0 := hz
  clear h hb
  have lp0 := lt_in B0.heap
  go_wp2
  refine wp_region_ord [1, 2, 3, 4, 5, 6] [0] [7, 8] (by kernel_rfl) (by kernel_rfl) (fun _ _ d _ _ h => by cases d <;> exact h) ?_
  simp only [sel, List.filterMap_cons, List.filterMap_nil, List.getElem?_cons_zero, List.getElem?_cons_succ]
  repeat (quiet_step (fail))
  refine wpQuiet_nil ?_
  refine wpIdle_step (fun K hK => ?_)
  go_simp
  refine hK _ ?_
  clear hK
  refine wpIdle_nil ?_
  rintro _ ⟨nr, rfl⟩
  go_wp2_with fail
  have j0 : Kept (fun _ => False) w ((w.drewN nr).alloc (Obj.cells #[Value.pointer (some ⟨p, o, none⟩), Value.pointer (some ⟨p, o + 1, none⟩)] 141)) := (Kept.drewN _ _ _).al _
  have rr0 := (own_alloc (w.drewN nr) [Value.pointer (some ⟨p, o, none⟩), Value.pointer (some ⟨p, o + 1, none⟩)] 141 2 rfl (by decide)).reads
  have hs0 : (w.drewN nr).heap.size = w.heap.size := rfl
  rw [hs0] at rr0
  generalize (w.drewN nr).alloc (Obj.cells #[Value.pointer (some ⟨p, o, none⟩), Value.pointer (some ⟨p, o + 1, none⟩)] 141) = y0 at j0 rr0 ⊢
  have HH0 : Rd y0 c _ g := H0.kept j0
  have BB0 := B0.kept j0 (fun h => h)
  have hc0 : c < w.heap.size := H0.lt
  have lb0 := lt_in B0.heap
  refine (numsI_c (m := 2) (o := o) HH0 BB0 (gp := some w.heap.size) rr0 (fun k hk => by cases hk; exact ⟨Nat.ne_of_gt hc0, Nat.ne_of_gt lb0⟩) (by
    intro f hf
    obtain rfl | rfl : f = 0 ∨ f = 1 := by omega
    · exact ⟨0, by rw [P0.other _ (by simp)]; exact hz 0 (by omega)⟩
    · exact ⟨0, by rw [P0.other _ (by simp)]; exact hz 1 (by omega)⟩
    ) (by omega)).mono ?_
  rintro _ w1 ⟨k1, ⟨hp, rfl, hwas⟩ | ⟨ns0, r1, cur1, cs0, hp, rfl, H1, B1, q1, hx0⟩⟩
  · exact ⟨rfl, K0.trans (kept_alloc2 j0 k1), .inl ⟨by simp only [pLast, Option.bind_some]; exact pN2_none hp _, rfl, hwas.cast P0.size⟩⟩
  have K1 := K0.trans (kept_alloc2 j0 k1)
  replace k1 := kept_alloc2 j0 k1
  obtain rfl := hx0
  obtain ⟨n0_0, s0_0, n0_1, hp0_0, hp0_1, rfl⟩ := pN2_some hp
  simp only [List.map_cons, List.map_nil] at q1
  have P1 := P0.append q1
  go_wp2_with fail
  refine (errnoG_c H1 (fun k hk => by have := hgl k hk; have := K1.size; omega) B1 (by rw [P1.other (o + 2) (by simp)]; exact hz 2 (by omega))).mono ?_
  rintro _ w2 ⟨k2, ⟨hp, rfl, hwas⟩ | ⟨x1, r2, cur2, cs1, hp1, rfl, H2, B2, q2, hx1⟩⟩
  · exact ⟨rfl, K1.trans k2, .inl ⟨by simp only [pLast, hp0_0, hp0_1, Option.bind_some]; rw [hp]; rfl, rfl, hwas.cast P1.size⟩⟩
  have K2 := K1.trans k2
  have P2 := P1.append q2
  obtain ⟨rfl, j1⟩ := hx1
  have lp2 := lt_in B2.heap
  go_wp2_with fail
  refine (versionG_c H2 (fun k hk => by have := hgl k hk; have := K2.size; omega) B2 (o := o + 3) (by
    intro f hf
    obtain rfl | rfl : f = 0 ∨ f = 1 := by omega
    · rw [P2.other _ (by simp)]; exact hz 3 (by omega)
    · rw [P2.other _ (by simp)]; exact hz 4 (by omega)
    )).mono ?_
  rintro _ w3 ⟨k3, ⟨hp, rfl, hwas⟩ | ⟨x2, r3, cur3, cs2, hp2, rfl, H3, B3, q3, hx2⟩⟩
  · exact ⟨rfl, K2.trans k3, .inl ⟨by simp only [pLast, hp0_0, hp0_1, hp1, Option.bind_some]; rw [hp]; rfl, rfl, hwas.cast P2.size⟩⟩
  have K3 := K2.trans k3
  have P3 := P2.append q3
  obtain ⟨rfl, j2_0, j2_1⟩ := hx2
  go_wp2
  exact bodyPost_end (v := .tuple #[]) (by simp [results, Tryz.results120]) rfl ⟨K3, .inr ⟨⟨n0_0, n0_1, x1, x2⟩, r3, cur3, _, by simp only [pLast, hp0_0, hp0_1, hp1, hp2, Option.bind_some], rfl, H3, B3, P3, ⟨rfl, (lawI.dec _ _ _ hp0_0).2, (lawI.dec _ _ _ hp0_1).2, j1, j2_0, j2_1⟩⟩⟩
theorem info_Last : (Tryz.prog.info? 229).map (fun i => (i.zero, i.size, i.bytes)) = some (some (Value.agg #[Value.int IntKind.i64 0, Value.int IntKind.i64 0, Value.int IntKind.i64 0, Value.int IntKind.i64 0, Value.int IntKind.i64 0]), 5, 40) := by kernel_rfl
theorem listLastG_c {w : World} {c p o : Nat} {bs : List UInt8} {g : Option Nat} {cur : Array Value} {t : TypeId} (h : Rd w c bs g) (hgl : ∀ k, g = some k → k < w.heap.size) (hb : Blk w p cur t c g) (hz : cur[o]? = some (.slice none 0 0)) :
    Calls Tryz.prog 119 #[.pointer (some ⟨c, 0, none⟩), .pointer (some ⟨p, o, none⟩), .func (.func 120) #[.pointer (some ⟨c, 0, none⟩)] #[]] w (Got (sliceIs 5 LastT.Is) (pL pLast) bs w c p o g cur t) := by
  obtain ⟨i0, hi0, hz0, hz1, hz2⟩ := info_all info_Last
  have p0 : w.cell? ⟨p, o, none⟩ = some (.slice none 0 0) := (cell_in hb.heap).trans hz
  have hlp := lt_in hb.heap
  have hlc := h.lt
  go_enter Tryz.func119, Tryz.ntmps119
  go_wp2_with fail
  refine (countG_c h).mono ?_
  rintro e w1 ⟨k1, ⟨n, r1, hp1, rfl, h1⟩ | ⟨hp1, rfl⟩⟩
  rotate_left
  · exact ⟨rfl, k1.mono (fun _ _ h => .inl h), .inl ⟨by unfold pL; rw [hp1]; rfl, rfl, (hb.kept k1 hb.ne).was⟩⟩
  have hb1 := hb.kept k1 hb.ne
  have p1 : w1.cell? ⟨p, o, none⟩ = some (.slice none 0 0) := (cell_in hb1.heap).trans hz
  have f1 : w1.frozen? ⟨p, o, none⟩ = false := frozen_in hb1.heap
  have lp1 := lt_in hb1.heap
  have c2 : w1.cell? ⟨c, 2, none⟩ = some (.bool true) := by
    obtain ⟨vi, h2, -⟩ := h1.ex
    exact cell_in h2
  have lc1 := h1.lt
  have e1 := setCell_same' p1
  have L0 := Lst.start LastT.Is 5 229 hb1 hz k1
  have hn32 := (pC_some hp1).2.1
  have HP1 : Hid (pL pLast bs = pN pLast n r1) := Lib.hid (by unfold pL; rw [hp1]; rfl)
  clear p0 hb1 hp1
  go_wp2
  go_loopw [37] (fun i w' => ∃ (k : Nat) (v : Value) (xs : List LastT) (Ls : List (List Value)) (r : List UInt8) (g' : Option Nat), k ≤ n ∧ i = .int .i64 k ∧ xs.length = k ∧ Hid (pN pLast n r1 = (pN pLast (n - k) r).bind (fun z => some (xs ++ z.1, z.2))) ∧ Rd w' c r g ∧ Lst LastT.Is 5 229 w w' c p o g cur t v xs Ls g') (fun i _ => n - (intOf i).toNat)
  case atStart => exact ⟨0, _, [], [], r1, none, by omega, rfl, rfl, Lib.hid (by rw [Nat.sub_zero]; exact (bind_eta _).symm), h1, L0⟩
  case round =>
    obtain ⟨k, v, xs, Ls, r, g', hk, rfl, rfl, HP, hr, L⟩ := hrel
    by_cases hk2 : xs.length < n
    · have hki : (xs.length : Int) < (n : Int) := by omega
      obtain ⟨a, cp, rfl, hcp, -⟩ := L.own.shape
      obtain ⟨curp, hbp, hvp⟩ := L.cell
      have pr : wr.cell? ⟨p, o, none⟩ = some (.slice a xs.length cp) := (cell_in hbp).trans hvp
      have lpr := lt_in hbp
      have hsw := L.kept.size
      go_wp2_with fail
      have ka := Kept.alloc (fun _ => False) wr (Obj.cells #[Value.int IntKind.i64 0, Value.int IntKind.i64 0, Value.int IntKind.i64 0, Value.int IntKind.i64 0, Value.int IntKind.i64 0] 229)
      have hq : (wr.alloc (Obj.cells #[Value.int IntKind.i64 0, Value.int IntKind.i64 0, Value.int IntKind.i64 0, Value.int IntKind.i64 0, Value.int IntKind.i64 0] 229)).heap[wr.heap.size]? = some (Obj.cells #[Value.int IntKind.i64 0, Value.int IntKind.i64 0, Value.int IntKind.i64 0, Value.int IntKind.i64 0, Value.int IntKind.i64 0] 229) := heap_alloc_new' _ _
      have ra : Rd (wr.alloc (Obj.cells #[Value.int IntKind.i64 0, Value.int IntKind.i64 0, Value.int IntKind.i64 0, Value.int IntKind.i64 0, Value.int IntKind.i64 0] 229)) c r g := hr.kept ka
      have sa : (wr.alloc (Obj.cells #[Value.int IntKind.i64 0, Value.int IntKind.i64 0, Value.int IntKind.i64 0, Value.int IntKind.i64 0, Value.int IntKind.i64 0] 229)).heap.size = wr.heap.size + 1 := by simp
      generalize wr.alloc (Obj.cells #[Value.int IntKind.i64 0, Value.int IntKind.i64 0, Value.int IntKind.i64 0, Value.int IntKind.i64 0, Value.int IntKind.i64 0] 229) = wa at ka hq ra sa ⊢
      have bq : Blk wa wr.heap.size #[Value.int IntKind.i64 0, Value.int IntKind.i64 0, Value.int IntKind.i64 0, Value.int IntKind.i64 0, Value.int IntKind.i64 0] 229 c g := ⟨hq, by omega, fun e => by have := hgl _ e; omega⟩
      refine (lastG_c ra (fun k hk => by have := hgl k hk; omega) bq (by intro f hf; simp)).mono ?_
      rintro e w2 ⟨k2, ⟨hp2, rfl, -⟩ | ⟨x, r2, cur2, cs, hp2, rfl, h2, b2, put2, hx⟩⟩
      · exact ⟨rfl, (L.kept.trans (ka.mono (fun _ _ h => h.elim))).thn k2 (fun i hi => by rcases hi with rfl | rfl; exact .inl (.inl rfl); exact .inr hsw), .inl ⟨by rw [HP1.out]; exact pN_stop hk2 HP.out hp2, rfl, L.was.kept ka k2 (fun h => h) (fun h => by rcases h with h | h; exact hb.ne h; omega)⟩⟩
      have k02 : Kept (· = c) wr w2 := (ka.mono (fun _ _ h => h.elim)).thn k2 (fun i hi => by rcases hi with rfl | rfl; exact .inl rfl; exact .inr (Nat.le_refl _))
      have hxn : LastT.Is w2 (New wr w2) cs x := LastT.stable _ _ _ _ _ _ hx (fun k hk => ⟨by have := hk.1; omega, hk.2⟩) (fun _ _ => rfl)
      obtain ⟨rfl, -, -, -, -, -⟩ := hx
      have y0 : w2.cell? ⟨wr.heap.size, 0, none⟩ = some (Value.int IntKind.i64 x.client) := (cell_in b2.heap).trans (by have := put2.at_ 0 (by simp); simpa using this)
      have y1 : w2.cell? ⟨wr.heap.size, 1, none⟩ = some (Value.int IntKind.i64 x.number) := (cell_in b2.heap).trans (by have := put2.at_ 1 (by simp); simpa using this)
      have y2 : w2.cell? ⟨wr.heap.size, 2, none⟩ = some (Value.int IntKind.i64 x.errno) := (cell_in b2.heap).trans (by have := put2.at_ 2 (by simp); simpa using this)
      have y3 : w2.cell? ⟨wr.heap.size, 3, none⟩ = some (Value.int IntKind.i64 x.version.epoch) := (cell_in b2.heap).trans (by have := put2.at_ 3 (by simp); simpa using this)
      have y4 : w2.cell? ⟨wr.heap.size, 4, none⟩ = some (Value.int IntKind.i64 x.version.n) := (cell_in b2.heap).trans (by have := put2.at_ 4 (by simp); simpa using this)
      have lq2 := lt_in b2.heap
      have HP2 := Lib.hid (pN_next hk2 HP.out hp2)
      have bp2 : w2.heap[p]? = some (.cells curp t) := (k02.block _ lpr hb.ne).trans hbp
      have HBP := Lib.hid bp2
      have lp2 := lt_in bp2
      have hpq : p ≠ wr.heap.size := by omega
      have own2 := L.own.kept k02 (fun k hk e => by have := L.new k hk; omega)
      clear ka hq ra bq hbp pr HP hp2 bp2
      go_wp2
      refine wp_region_ordJ (fun w' => w'.heap[p]? = some (.cells curp t)) [4] [0, 1, 2, 3] [5, 6] [7, 8] (by kernel_rfl) (by kernel_rfl) (fun _ _ d _ _ h => by cases d <;> exact h) (fun k => HBP.out) ?_
      simp only [sel, List.filterMap_cons, List.filterMap_nil, List.getElem?_cons_zero, List.getElem?_cons_succ]
      repeat (quiet_step (fail))
      refine wpQuiet_nil ?_
      refine wpHeld_step (fun K hK => ?_)
      go_simp
      refine ⟨_, fun _ _ => rfl, hK _ ?_⟩
      refine wpHeld_step (fun K hK => ?_)
      go_simp
      refine ⟨_, fun _ _ => rfl, hK _ ?_⟩
      refine wpHeld_step (fun K hK => ?_)
      go_simp
      refine ⟨_, fun _ _ => rfl, hK _ ?_⟩
      refine wpHeld_step (fun K hK => ?_)
      go_simp
      refine ⟨.slice a xs.length cp, fun w' h => (by
        have h1 := (cell_in (k := o) h).trans hvp
        have h2 := lt_in h
        clear h
        go_simp), hK _ ?_⟩
      refine wpHeld_nil ?_
      rintro _ ⟨nr, rfl⟩
      have kd := Kept.drewN (fun _ => False) w2 nr
      have Q3 : Hid ((w2.drewN nr).heap[p]? = some (.cells curp t)) := Lib.hid HBP.out
      generalize w2.drewN nr = w3 at kd Q3 ⊢
      refine wpListS_step (fun K hK => ?_)
      go_simp
      have hA : (w3.alloc (Obj.cells #[Value.int IntKind.i64 x.client, Value.int IntKind.i64 x.number, Value.int IntKind.i64 x.errno, Value.int IntKind.i64 x.version.epoch, Value.int IntKind.i64 x.version.n] 229)).heap[p]? = some (.cells curp t) := (Below.heap_alloc _ _ _ (lt_in Q3.out)).trans Q3.out
      refine hK _ _ hA ?_
      clear hK
      have k34 := kd.al (Obj.cells #[Value.int IntKind.i64 x.client, Value.int IntKind.i64 x.number, Value.int IntKind.i64 x.errno, Value.int IntKind.i64 x.version.epoch, Value.int IntKind.i64 x.version.n] 229)
      have r4 := reads_allocN w3 [Value.int IntKind.i64 x.client, Value.int IntKind.i64 x.number, Value.int IntKind.i64 x.errno, Value.int IntKind.i64 x.version.epoch, Value.int IntKind.i64 x.version.n] 229 5 rfl
      generalize w3.alloc (Obj.cells #[Value.int IntKind.i64 x.client, Value.int IntKind.i64 x.number, Value.int IntKind.i64 x.errno, Value.int IntKind.i64 x.version.epoch, Value.int IntKind.i64 x.version.n] 229) = w4 at hA k34 r4 ⊢
      have own4 := own2.kept k34 (fun _ _ h => h)
      refine wpListS_append_Own rfl _ _ 35 35 rfl 229 i0 (Value.agg #[Value.int IntKind.i64 0, Value.int IntKind.i64 0, Value.int IntKind.i64 0, Value.int IntKind.i64 0, Value.int IntKind.i64 0]) 5 40 Tryz.underlying35 hi0 hz0 hz1 hz2 rfl rfl own4 rfl (r4.src Tryz.underlying35 (by intro u hu; simp only [List.mem_cons, List.not_mem_nil, or_false] at hu; rcases hu with rfl | rfl | rfl | rfl | rfl <;> rfl)) (by unfold maxLen; omega) (by omega) ?_
      intro a5 k5 w5 g5 hown5 hk5 hg5
      have hgp : g' ≠ some p := fun e => by have := L.new p e; omega
      have hA5 : w5.heap[p]? = _ := (hk5.block _ (lt_in hA) (fun h => hgp h)).trans hA
      refine ⟨hA5, ?_⟩
      refine wpListS_nil ?_
      have k04 : Kept (· = c) wr w4 := k02.trans (k34.mono (fun _ _ h => h.elim))
      have s4 := k34.size
      have hx4 : LastT.Is w4 (New wr w4) _ x := LastT.stable _ _ _ _ _ _ hxn (fun k hk => ⟨hk.1, by have := hk.2; omega⟩) (fun k hk => k34.block k hk.2 (fun h => h))
      have LN := Lib.hid (L.grow LastT.stable (o := o) hlp hlc k04 hx4 rfl hown5 hk5 hg5)
      have RN := Lib.hid (Lst.rd L (w2 := w2) (o := o) (v4 := .slice a5 (xs.length + 1) k5) hlc hgl (h2.kept k34) hk5)
      have f0 : w5.frozen? ⟨p, o, none⟩ = false := frozen_in hA5
      have z5 := (cell_in (k := o) hA5).trans hvp
      have hl5 := lt_in hA5
      have HX2 : Hid ((xs ++ [x]).length = xs.length + 1) := Lib.hid (by rw [List.length_append]; rfl)
      clear hA5 hA hown5 own4 own2 r4 hk5 hg5 hx4 hxn
      go_wp2
      exact ⟨⟨xs.length + 1, _, xs ++ [x], _, r2, g5, by omega, by simp, HX2.out, HP2, RN.out, LN.out⟩, by simp [intOf]; omega⟩
    · obtain rfl : n = xs.length := by omega
      go_wp2
      obtain ⟨cur', hbl, hpu⟩ := L.blk
      exact bodyPost_end (v := .tuple #[]) (by simp [results, Tryz.results119]) rfl ⟨L.kept, .inr ⟨xs, r, cur', [v], by rw [HP1.out]; exact pN_end HP.out, rfl, hr, hbl, hpu, v, rfl, L.done LastT.stable (by omega)⟩⟩
theorem itemG_c {w : World} {c p o : Nat} {bs : List UInt8} {g : Option Nat} {cur : Array Value} {t : TypeId} (h : Rd w c bs g) (hgl : ∀ k, g = some k → k < w.heap.size) (hb : Blk w p cur t c g) (hz : ∀ f, f < 4 → cur[o + f]? = ([Value.string ⟨#[]⟩, Value.int IntKind.i64 0, Value.int IntKind.i64 0, Value.int IntKind.u32 0] : List Value)[f]?) :
    Calls Tryz.prog 76 #[.pointer (some ⟨c, 0, none⟩), .pointer (some ⟨p, o, none⟩)] w (Got ItemT.Is pItem bs w c p o g cur t) := by
  have hmf : ∀ (fn : Fn) (first cap : Array Value) (w : World), (Instr.makeFunc fn first cap).run Tryz.prog w = .ok (.func fn first cap) w := fun _ _ _ _ => rfl
  have hlp := lt_in hb.heap
  have hlc := h.lt
  go_enter Tryz.func76, Tryz.ntmps76
  have B0 := hb
  have H0 := h
  have P0 := Put.nil cur o
  have K0 := Kept.refl (fun k => k = c ∨ k = p) w
  have z0 := hz
  clear h hb
  go_wp2_with fail
  refine (textG_c H0 (fun k hk => by have := hgl k hk; have := K0.size; omega) B0 (by rw [P0.other (o) (by simp)]; exact hz 0 (by omega))).mono ?_
  rintro _ w1 ⟨k1, ⟨hp, rfl, hwas⟩ | ⟨x0, r1, cur1, cs0, hp0, rfl, H1, B1, q1, hx0⟩⟩
  · exact ⟨rfl, K0.trans k1, .inl ⟨by simp only [pItem, Option.bind_some]; rw [hp]; rfl, rfl, hwas.cast P0.size⟩⟩
  have K1 := K0.trans k1
  have P1 := P0.append q1
  obtain rfl := hx0
  have lp1 := lt_in B1.heap
  go_wp2_with fail
  refine (versionG_c H1 (fun k hk => by have := hgl k hk; have := K1.size; omega) B1 (o := o + 1) (by
    intro f hf
    obtain rfl | rfl : f = 0 ∨ f = 1 := by omega
    · rw [P1.other _ (by simp)]; exact hz 1 (by omega)
    · rw [P1.other _ (by simp)]; exact hz 2 (by omega)
    )).mono ?_
  rintro _ w2 ⟨k2, ⟨hp, rfl, hwas⟩ | ⟨x1, r2, cur2, cs1, hp1, rfl, H2, B2, q2, hx1⟩⟩
  · exact ⟨rfl, K1.trans k2, .inl ⟨by simp only [pItem, hp0, Option.bind_some]; rw [hp]; rfl, rfl, hwas.cast P1.size⟩⟩
  have K2 := K1.trans k2
  have P2 := P1.append q2
  obtain ⟨rfl, j1_0, j1_1⟩ := hx1
  go_wp2_with fail
  refine (crcG_c H2 B2 (by rw [P2.other (o + 3) (by simp)]; exact hz 3 (by omega))).mono ?_
  rintro _ w3 ⟨k3, ⟨hp, rfl, hwas⟩ | ⟨x2, r3, cur3, cs2, hp2, rfl, H3, B3, q3, hx2⟩⟩
  · exact ⟨rfl, K2.trans k3, .inl ⟨by simp only [pItem, hp0, hp1, Option.bind_some]; rw [hp]; rfl, rfl, hwas.cast P2.size⟩⟩
  have K3 := K2.trans k3
  have P3 := P2.append q3
  obtain ⟨rfl, j2⟩ := hx2
  go_wp2
  exact bodyPost_end (v := .tuple #[]) (by simp [results, Tryz.results76]) rfl ⟨K3, .inr ⟨⟨x0, x1, x2⟩, r3, cur3, _, by simp only [pItem, hp0, hp1, hp2, Option.bind_some], rfl, H3, B3, P3, ⟨rfl, j1_0, j1_1, j2⟩⟩⟩
theorem info_Item : (Tryz.prog.info? 176).map (fun i => (i.zero, i.size, i.bytes)) = some (some (Value.agg #[Value.string ⟨#[]⟩, Value.int IntKind.i64 0, Value.int IntKind.i64 0, Value.int IntKind.u32 0]), 4, 40) := by kernel_rfl
theorem listItemG_c {w : World} {c p o : Nat} {bs : List UInt8} {g : Option Nat} {cur : Array Value} {t : TypeId} (h : Rd w c bs g) (hgl : ∀ k, g = some k → k < w.heap.size) (hb : Blk w p cur t c g) (hz : cur[o]? = some (.slice none 0 0)) :
    Calls Tryz.prog 75 #[.pointer (some ⟨c, 0, none⟩), .pointer (some ⟨p, o, none⟩), .func (.func 76) #[.pointer (some ⟨c, 0, none⟩)] #[]] w (Got (sliceIs 4 ItemT.Is) (pL pItem) bs w c p o g cur t) := by
  obtain ⟨i0, hi0, hz0, hz1, hz2⟩ := info_all info_Item
  have p0 : w.cell? ⟨p, o, none⟩ = some (.slice none 0 0) := (cell_in hb.heap).trans hz
  have hlp := lt_in hb.heap
  have hlc := h.lt
  go_enter Tryz.func75, Tryz.ntmps75
  go_wp2_with fail
  refine (countG_c h).mono ?_
  rintro e w1 ⟨k1, ⟨n, r1, hp1, rfl, h1⟩ | ⟨hp1, rfl⟩⟩
  rotate_left
  · exact ⟨rfl, k1.mono (fun _ _ h => .inl h), .inl ⟨by unfold pL; rw [hp1]; rfl, rfl, (hb.kept k1 hb.ne).was⟩⟩
  have hb1 := hb.kept k1 hb.ne
  have p1 : w1.cell? ⟨p, o, none⟩ = some (.slice none 0 0) := (cell_in hb1.heap).trans hz
  have f1 : w1.frozen? ⟨p, o, none⟩ = false := frozen_in hb1.heap
  have lp1 := lt_in hb1.heap
  have c2 : w1.cell? ⟨c, 2, none⟩ = some (.bool true) := by
    obtain ⟨vi, h2, -⟩ := h1.ex
    exact cell_in h2
  have lc1 := h1.lt
  have e1 := setCell_same' p1
  have L0 := Lst.start ItemT.Is 4 176 hb1 hz k1
  have hn32 := (pC_some hp1).2.1
  have HP1 : Hid (pL pItem bs = pN pItem n r1) := Lib.hid (by unfold pL; rw [hp1]; rfl)
  clear p0 hb1 hp1
  go_wp2
  go_loopw [37] (fun i w' => ∃ (k : Nat) (v : Value) (xs : List ItemT) (Ls : List (List Value)) (r : List UInt8) (g' : Option Nat), k ≤ n ∧ i = .int .i64 k ∧ xs.length = k ∧ Hid (pN pItem n r1 = (pN pItem (n - k) r).bind (fun z => some (xs ++ z.1, z.2))) ∧ Rd w' c r g ∧ Lst ItemT.Is 4 176 w w' c p o g cur t v xs Ls g') (fun i _ => n - (intOf i).toNat)
  case atStart => exact ⟨0, _, [], [], r1, none, by omega, rfl, rfl, Lib.hid (by rw [Nat.sub_zero]; exact (bind_eta _).symm), h1, L0⟩
  case round =>
    obtain ⟨k, v, xs, Ls, r, g', hk, rfl, rfl, HP, hr, L⟩ := hrel
    by_cases hk2 : xs.length < n
    · have hki : (xs.length : Int) < (n : Int) := by omega
      obtain ⟨a, cp, rfl, hcp, -⟩ := L.own.shape
      obtain ⟨curp, hbp, hvp⟩ := L.cell
      have pr : wr.cell? ⟨p, o, none⟩ = some (.slice a xs.length cp) := (cell_in hbp).trans hvp
      have lpr := lt_in hbp
      have hsw := L.kept.size
      go_wp2_with fail
      have ka := Kept.alloc (fun _ => False) wr (Obj.cells #[Value.string ⟨#[]⟩, Value.int IntKind.i64 0, Value.int IntKind.i64 0, Value.int IntKind.u32 0] 176)
      have hq : (wr.alloc (Obj.cells #[Value.string ⟨#[]⟩, Value.int IntKind.i64 0, Value.int IntKind.i64 0, Value.int IntKind.u32 0] 176)).heap[wr.heap.size]? = some (Obj.cells #[Value.string ⟨#[]⟩, Value.int IntKind.i64 0, Value.int IntKind.i64 0, Value.int IntKind.u32 0] 176) := heap_alloc_new' _ _
      have ra : Rd (wr.alloc (Obj.cells #[Value.string ⟨#[]⟩, Value.int IntKind.i64 0, Value.int IntKind.i64 0, Value.int IntKind.u32 0] 176)) c r g := hr.kept ka
      have sa : (wr.alloc (Obj.cells #[Value.string ⟨#[]⟩, Value.int IntKind.i64 0, Value.int IntKind.i64 0, Value.int IntKind.u32 0] 176)).heap.size = wr.heap.size + 1 := by simp
      generalize wr.alloc (Obj.cells #[Value.string ⟨#[]⟩, Value.int IntKind.i64 0, Value.int IntKind.i64 0, Value.int IntKind.u32 0] 176) = wa at ka hq ra sa ⊢
      have bq : Blk wa wr.heap.size #[Value.string ⟨#[]⟩, Value.int IntKind.i64 0, Value.int IntKind.i64 0, Value.int IntKind.u32 0] 176 c g := ⟨hq, by omega, fun e => by have := hgl _ e; omega⟩
      refine (itemG_c ra (fun k hk => by have := hgl k hk; omega) bq (by intro f hf; simp)).mono ?_
      rintro e w2 ⟨k2, ⟨hp2, rfl, -⟩ | ⟨x, r2, cur2, cs, hp2, rfl, h2, b2, put2, hx⟩⟩
      · exact ⟨rfl, (L.kept.trans (ka.mono (fun _ _ h => h.elim))).thn k2 (fun i hi => by rcases hi with rfl | rfl; exact .inl (.inl rfl); exact .inr hsw), .inl ⟨by rw [HP1.out]; exact pN_stop hk2 HP.out hp2, rfl, L.was.kept ka k2 (fun h => h) (fun h => by rcases h with h | h; exact hb.ne h; omega)⟩⟩
      have k02 : Kept (· = c) wr w2 := (ka.mono (fun _ _ h => h.elim)).thn k2 (fun i hi => by rcases hi with rfl | rfl; exact .inl rfl; exact .inr (Nat.le_refl _))
      have hxn : ItemT.Is w2 (New wr w2) cs x := ItemT.stable _ _ _ _ _ _ hx (fun k hk => ⟨by have := hk.1; omega, hk.2⟩) (fun _ _ => rfl)
      obtain ⟨rfl, -, -, -⟩ := hx
      have y0 : w2.cell? ⟨wr.heap.size, 0, none⟩ = some (Value.string x.name) := (cell_in b2.heap).trans (by have := put2.at_ 0 (by simp); simpa using this)
      have y1 : w2.cell? ⟨wr.heap.size, 1, none⟩ = some (Value.int IntKind.i64 x.version.epoch) := (cell_in b2.heap).trans (by have := put2.at_ 1 (by simp); simpa using this)
      have y2 : w2.cell? ⟨wr.heap.size, 2, none⟩ = some (Value.int IntKind.i64 x.version.n) := (cell_in b2.heap).trans (by have := put2.at_ 2 (by simp); simpa using this)
      have y3 : w2.cell? ⟨wr.heap.size, 3, none⟩ = some (Value.int IntKind.u32 (x.crc : Nat)) := (cell_in b2.heap).trans (by have := put2.at_ 3 (by simp); simpa using this)
      have lq2 := lt_in b2.heap
      have HP2 := Lib.hid (pN_next hk2 HP.out hp2)
      have bp2 : w2.heap[p]? = some (.cells curp t) := (k02.block _ lpr hb.ne).trans hbp
      have HBP := Lib.hid bp2
      have lp2 := lt_in bp2
      have hpq : p ≠ wr.heap.size := by omega
      have own2 := L.own.kept k02 (fun k hk e => by have := L.new k hk; omega)
      clear ka hq ra bq hbp pr HP hp2 bp2
      go_wp2
      refine wp_region_ordJ (fun w' => w'.heap[p]? = some (.cells curp t)) [4] [0, 1, 2, 3] [5, 6] [7, 8] (by kernel_rfl) (by kernel_rfl) (fun _ _ d _ _ h => by cases d <;> exact h) (fun k => HBP.out) ?_
      simp only [sel, List.filterMap_cons, List.filterMap_nil, List.getElem?_cons_zero, List.getElem?_cons_succ]
      repeat (quiet_step (fail))
      refine wpQuiet_nil ?_
      refine wpHeld_step (fun K hK => ?_)
      go_simp
      refine ⟨_, fun _ _ => rfl, hK _ ?_⟩
      refine wpHeld_step (fun K hK => ?_)
      go_simp
      refine ⟨_, fun _ _ => rfl, hK _ ?_⟩
      refine wpHeld_step (fun K hK => ?_)
      go_simp
      refine ⟨_, fun _ _ => rfl, hK _ ?_⟩
      refine wpHeld_step (fun K hK => ?_)
      go_simp
      refine ⟨.slice a xs.length cp, fun w' h => (by
        have h1 := (cell_in (k := o) h).trans hvp
        have h2 := lt_in h
        clear h
        go_simp), hK _ ?_⟩
      refine wpHeld_nil ?_
      rintro _ ⟨nr, rfl⟩
      have kd := Kept.drewN (fun _ => False) w2 nr
      have Q3 : Hid ((w2.drewN nr).heap[p]? = some (.cells curp t)) := Lib.hid HBP.out
      generalize w2.drewN nr = w3 at kd Q3 ⊢
      refine wpListS_step (fun K hK => ?_)
      go_simp
      have hA : (w3.alloc (Obj.cells #[Value.string x.name, Value.int IntKind.i64 x.version.epoch, Value.int IntKind.i64 x.version.n, Value.int IntKind.u32 (x.crc : Nat)] 176)).heap[p]? = some (.cells curp t) := (Below.heap_alloc _ _ _ (lt_in Q3.out)).trans Q3.out
      refine hK _ _ hA ?_
      clear hK
      have k34 := kd.al (Obj.cells #[Value.string x.name, Value.int IntKind.i64 x.version.epoch, Value.int IntKind.i64 x.version.n, Value.int IntKind.u32 (x.crc : Nat)] 176)
      have r4 := reads_allocN w3 [Value.string x.name, Value.int IntKind.i64 x.version.epoch, Value.int IntKind.i64 x.version.n, Value.int IntKind.u32 (x.crc : Nat)] 176 4 rfl
      generalize w3.alloc (Obj.cells #[Value.string x.name, Value.int IntKind.i64 x.version.epoch, Value.int IntKind.i64 x.version.n, Value.int IntKind.u32 (x.crc : Nat)] 176) = w4 at hA k34 r4 ⊢
      have own4 := own2.kept k34 (fun _ _ h => h)
      refine wpListS_append_Own rfl _ _ 36 36 rfl 176 i0 (Value.agg #[Value.string ⟨#[]⟩, Value.int IntKind.i64 0, Value.int IntKind.i64 0, Value.int IntKind.u32 0]) 4 40 Tryz.underlying36 hi0 hz0 hz1 hz2 rfl rfl own4 rfl (r4.src Tryz.underlying36 (by intro u hu; simp only [List.mem_cons, List.not_mem_nil, or_false] at hu; rcases hu with rfl | rfl | rfl | rfl <;> rfl)) (by unfold maxLen; omega) (by omega) ?_
      intro a5 k5 w5 g5 hown5 hk5 hg5
      have hgp : g' ≠ some p := fun e => by have := L.new p e; omega
      have hA5 : w5.heap[p]? = _ := (hk5.block _ (lt_in hA) (fun h => hgp h)).trans hA
      refine ⟨hA5, ?_⟩
      refine wpListS_nil ?_
      have k04 : Kept (· = c) wr w4 := k02.trans (k34.mono (fun _ _ h => h.elim))
      have s4 := k34.size
      have hx4 : ItemT.Is w4 (New wr w4) _ x := ItemT.stable _ _ _ _ _ _ hxn (fun k hk => ⟨hk.1, by have := hk.2; omega⟩) (fun k hk => k34.block k hk.2 (fun h => h))
      have LN := Lib.hid (L.grow ItemT.stable (o := o) hlp hlc k04 hx4 rfl hown5 hk5 hg5)
      have RN := Lib.hid (Lst.rd L (w2 := w2) (o := o) (v4 := .slice a5 (xs.length + 1) k5) hlc hgl (h2.kept k34) hk5)
      have f0 : w5.frozen? ⟨p, o, none⟩ = false := frozen_in hA5
      have z5 := (cell_in (k := o) hA5).trans hvp
      have hl5 := lt_in hA5
      have HX2 : Hid ((xs ++ [x]).length = xs.length + 1) := Lib.hid (by rw [List.length_append]; rfl)
      clear hA5 hA hown5 own4 own2 r4 hk5 hg5 hx4 hxn
      go_wp2
      exact ⟨⟨xs.length + 1, _, xs ++ [x], _, r2, g5, by omega, by simp, HX2.out, HP2, RN.out, LN.out⟩, by simp [intOf]; omega⟩
    · obtain rfl : n = xs.length := by omega
      go_wp2
      obtain ⟨cur', hbl, hpu⟩ := L.blk
      exact bodyPost_end (v := .tuple #[]) (by simp [results, Tryz.results75]) rfl ⟨L.kept, .inr ⟨xs, r, cur', [v], by rw [HP1.out]; exact pN_end HP.out, rfl, hr, hbl, hpu, v, rfl, L.done ItemT.stable (by omega)⟩⟩
theorem stateG_c {w : World} {c p o : Nat} {bs : List UInt8} {g : Option Nat} {cur : Array Value} {t : TypeId} (h : Rd w c bs g) (hgl : ∀ k, g = some k → k < w.heap.size) (hb : Blk w p cur t c g) (hz : ∀ f, f < 6 → cur[o + f]? = ([Value.int IntKind.i64 0, Value.int IntKind.i64 0, Value.int IntKind.i64 0, Value.slice none 0 0, Value.slice none 0 0, Value.slice none 0 0] : List Value)[f]?) :
    Calls Tryz.prog 46 #[.pointer (some ⟨c, 0, none⟩), .pointer (some ⟨p, o, none⟩)] w (Got StateT.Is pState bs w c p o g cur t) := by
  have hmf : ∀ (fn : Fn) (first cap : Array Value) (w : World), (Instr.makeFunc fn first cap).run Tryz.prog w = .ok (.func fn first cap) w := fun _ _ _ _ => rfl
  have hlp := lt_in hb.heap
  have hlc := h.lt
  go_enter Tryz.func46, Tryz.ntmps46
  have B0 := hb
  have H0 := h
  have P0 := Put.nil cur o
  have K0 := Kept.refl (fun k => k = c ∨ k = p) w
  have z0 := hz
  clear h hb
  go_wp2_with fail
  refine (numI_c H0 B0 (m := 0) (by rw [P0.other (o) (by simp)]; exact hz 0 (by omega))).mono ?_
  rintro _ w1 ⟨k1, ⟨hp, rfl, hwas⟩ | ⟨x0, r1, cur1, cs0, hp0, rfl, H1, B1, q1, hx0⟩⟩
  · exact ⟨rfl, K0.trans k1, .inl ⟨by simp only [pState, Option.bind_some]; rw [hp]; rfl, rfl, hwas.cast P0.size⟩⟩
  have K1 := K0.trans k1
  have P1 := P0.append q1
  obtain ⟨rfl, j0⟩ := hx0
  have lp1 := lt_in B1.heap
  go_wp2_with fail
  refine (versionG_c H1 (fun k hk => by have := hgl k hk; have := K1.size; omega) B1 (o := o + 1) (by
    intro f hf
    obtain rfl | rfl : f = 0 ∨ f = 1 := by omega
    · rw [P1.other _ (by simp)]; exact hz 1 (by omega)
    · rw [P1.other _ (by simp)]; exact hz 2 (by omega)
    )).mono ?_
  rintro _ w2 ⟨k2, ⟨hp, rfl, hwas⟩ | ⟨x1, r2, cur2, cs1, hp1, rfl, H2, B2, q2, hx1⟩⟩
  · exact ⟨rfl, K1.trans k2, .inl ⟨by simp only [pState, hp0, Option.bind_some]; rw [hp]; rfl, rfl, hwas.cast P1.size⟩⟩
  have K2 := K1.trans k2
  have P2 := P1.append q2
  obtain ⟨rfl, j1_0, j1_1⟩ := hx1
  have lp2 := lt_in B2.heap
  go_wp2_with fail
  refine (listEntryG_c H2 (fun k hk => by have := hgl k hk; have := K2.size; omega) B2 (by rw [P2.other (o + 3) (by simp)]; exact hz 3 (by omega))).mono ?_
  rintro _ w3 ⟨k3, ⟨hp, rfl, hwas⟩ | ⟨x2, r3, cur3, cs2, hp2, rfl, H3, B3, q3, hx2⟩⟩
  · exact ⟨rfl, K2.trans k3, .inl ⟨by simp only [pState, hp0, hp1, Option.bind_some]; rw [hp]; rfl, rfl, hwas.cast P2.size⟩⟩
  have K3 := K2.trans k3
  have P3 := P2.append q3
  obtain ⟨v2, rfl, l2⟩ := hx2
  have lp3 := lt_in B3.heap
  go_wp2_with fail
  refine (listLastG_c H3 (fun k hk => by have := hgl k hk; have := K3.size; omega) B3 (by rw [P3.other (o + 4) (by simp)]; exact hz 4 (by omega))).mono ?_
  rintro _ w4 ⟨k4, ⟨hp, rfl, hwas⟩ | ⟨x3, r4, cur4, cs3, hp3, rfl, H4, B4, q4, hx3⟩⟩
  · exact ⟨rfl, K3.trans k4, .inl ⟨by simp only [pState, hp0, hp1, hp2, Option.bind_some]; rw [hp]; rfl, rfl, hwas.cast P3.size⟩⟩
  have K4 := K3.trans k4
  have P4 := P3.append q4
  obtain ⟨v3, rfl, l3⟩ := hx3
  have lp4 := lt_in B4.heap
  go_wp2_with fail
  refine (listItemG_c H4 (fun k hk => by have := hgl k hk; have := K4.size; omega) B4 (by rw [P4.other (o + 5) (by simp)]; exact hz 5 (by omega))).mono ?_
  rintro _ w5 ⟨k5, ⟨hp, rfl, hwas⟩ | ⟨x4, r5, cur5, cs4, hp4, rfl, H5, B5, q5, hx4⟩⟩
  · exact ⟨rfl, K4.trans k5, .inl ⟨by simp only [pState, hp0, hp1, hp2, hp3, Option.bind_some]; rw [hp]; rfl, rfl, hwas.cast P4.size⟩⟩
  have K5 := K4.trans k5
  have P5 := P4.append q5
  obtain ⟨v4, rfl, l4⟩ := hx4
  go_wp2
  have T5 := Kept.refl (fun k => k = c ∨ k = p) w5
  have T4 := k5.trans T5
  have T3 := k4.trans T4
  have T2 := k3.trans T3
  have T1 := k2.trans T2
  exact bodyPost_end (v := .tuple #[]) (by simp [results, Tryz.results46]) rfl ⟨K5, .inr ⟨⟨x0, x1, x2, x3, x4⟩, r5, cur5, _, by simp only [pState, hp0, hp1, hp2, hp3, hp4, Option.bind_some], rfl, H5, B5, P5, ⟨v2, v3, v4, rfl, j0, j1_0, j1_1, l2.late EntryT.stable K2.size T3 hlc hlp, l3.late LastT.stable K3.size T4 hlc hlp, l4.late ItemT.stable K4.size T5 hlc hlp⟩⟩⟩
theorem stepG_c {w : World} {c p o : Nat} {bs : List UInt8} {g : Option Nat} {cur : Array Value} {t : TypeId} (h : Rd w c bs g) (hgl : ∀ k, g = some k → k < w.heap.size) (hb : Blk w p cur t c g) (hz : ∀ f, f < 8 → cur[o + f]? = ([Value.int IntKind.i64 0, Value.int IntKind.i64 0, Value.int IntKind.i64 0, Value.string ⟨#[]⟩, Value.int IntKind.i64 0, Value.int IntKind.i64 0, Value.string ⟨#[]⟩, Value.slice none 0 0] : List Value)[f]?) :
    Calls Tryz.prog 127 #[.pointer (some ⟨c, 0, none⟩), .pointer (some ⟨p, o, none⟩)] w (Got StepT.Is pStep bs w c p o g cur t) := by
  have hmf : ∀ (fn : Fn) (first cap : Array Value) (w : World), (Instr.makeFunc fn first cap).run Tryz.prog w = .ok (.func fn first cap) w := fun _ _ _ _ => rfl
  have hlp := lt_in hb.heap
  have hlc := h.lt
  go_enter Tryz.func127, Tryz.ntmps127
  have B0 := hb
  have H0 := h
  have P0 := Put.nil cur o
  have K0 := Kept.refl (fun k => k = c ∨ k = p) w
  have z0 := hz
  clear h hb
  go_wp2_with fail
  refine (numI_c H0 B0 (m := 0) (by rw [P0.other (o) (by simp)]; exact hz 0 (by omega))).mono ?_
  rintro _ w1 ⟨k1, ⟨hp, rfl, hwas⟩ | ⟨x0, r1, cur1, cs0, hp0, rfl, H1, B1, q1, hx0⟩⟩
  · exact ⟨rfl, K0.trans k1, .inl ⟨by simp only [pStep, Option.bind_some]; rw [hp]; rfl, rfl, hwas.cast P0.size⟩⟩
  have K1 := K0.trans k1
  have P1 := P0.append q1
  obtain ⟨rfl, j0⟩ := hx0
  have lp1 := lt_in B1.heap
  go_wp2_with fail
  refine (pgG_c H1 (fun k hk => by have := hgl k hk; have := K1.size; omega) B1 (o := o + 1) (by
    intro f hf
    obtain rfl | rfl : f = 0 ∨ f = 1 := by omega
    · rw [P1.other _ (by simp)]; exact hz 1 (by omega)
    · rw [P1.other _ (by simp)]; exact hz 2 (by omega)
    )).mono ?_
  rintro _ w2 ⟨k2, ⟨hp, rfl, hwas⟩ | ⟨x1, r2, cur2, cs1, hp1, rfl, H2, B2, q2, hx1⟩⟩
  · exact ⟨rfl, K1.trans k2, .inl ⟨by simp only [pStep, hp0, Option.bind_some]; rw [hp]; rfl, rfl, hwas.cast P1.size⟩⟩
  have K2 := K1.trans k2
  have P2 := P1.append q2
  obtain ⟨rfl, j1_0, j1_1⟩ := hx1
  go_wp2_with fail
  refine (textG_c H2 (fun k hk => by have := hgl k hk; have := K2.size; omega) B2 (by rw [P2.other (o + 3) (by simp)]; exact hz 3 (by omega))).mono ?_
  rintro _ w3 ⟨k3, ⟨hp, rfl, hwas⟩ | ⟨x2, r3, cur3, cs2, hp2, rfl, H3, B3, q3, hx2⟩⟩
  · exact ⟨rfl, K2.trans k3, .inl ⟨by simp only [pStep, hp0, hp1, Option.bind_some]; rw [hp]; rfl, rfl, hwas.cast P2.size⟩⟩
  have K3 := K2.trans k3
  have P3 := P2.append q3
  obtain rfl := hx2
  have lp3 := lt_in B3.heap
  go_wp2
  refine wp_region_ord [1, 2, 3, 4, 5, 6] [0] [7, 8] (by kernel_rfl) (by kernel_rfl) (fun _ _ d _ _ h => by cases d <;> exact h) ?_
  simp only [sel, List.filterMap_cons, List.filterMap_nil, List.getElem?_cons_zero, List.getElem?_cons_succ]
  repeat (quiet_step (fail))
  refine wpQuiet_nil ?_
  refine wpIdle_step (fun K hK => ?_)
  go_simp
  refine hK _ ?_
  clear hK
  refine wpIdle_nil ?_
  rintro _ ⟨nr, rfl⟩
  go_wp2_with fail
  have j3 : Kept (fun _ => False) w3 ((w3.drewN nr).alloc (Obj.cells #[Value.pointer (some ⟨p, o + 4, none⟩), Value.pointer (some ⟨p, o + 5, none⟩)] 141)) := (Kept.drewN _ _ _).al _
  have rr3 := (own_alloc (w3.drewN nr) [Value.pointer (some ⟨p, o + 4, none⟩), Value.pointer (some ⟨p, o + 5, none⟩)] 141 2 rfl (by decide)).reads
  have hs3 : (w3.drewN nr).heap.size = w3.heap.size := rfl
  rw [hs3] at rr3
  generalize (w3.drewN nr).alloc (Obj.cells #[Value.pointer (some ⟨p, o + 4, none⟩), Value.pointer (some ⟨p, o + 5, none⟩)] 141) = y3 at j3 rr3 ⊢
  have HH3 : Rd y3 c _ g := H3.kept j3
  have BB3 := B3.kept j3 (fun h => h)
  have hc3 : c < w3.heap.size := H3.lt
  have lb3 := lt_in B3.heap
  refine (numsI_c (m := 2) (o := o + 4) HH3 BB3 (gp := some w3.heap.size) rr3 (fun k hk => by cases hk; exact ⟨Nat.ne_of_gt hc3, Nat.ne_of_gt lb3⟩) (by
    intro f hf
    obtain rfl | rfl : f = 0 ∨ f = 1 := by omega
    · exact ⟨0, by rw [P3.other _ (by simp)]; exact hz 4 (by omega)⟩
    · exact ⟨0, by rw [P3.other _ (by simp)]; exact hz 5 (by omega)⟩
    ) (by omega)).mono ?_
  rintro _ w4 ⟨k4, ⟨hp, rfl, hwas⟩ | ⟨ns3, r4, cur4, cs3, hp, rfl, H4, B4, q4, hx3⟩⟩
  · exact ⟨rfl, K3.trans (kept_alloc2 j3 k4), .inl ⟨by simp only [pStep, hp0, hp1, hp2, Option.bind_some]; exact pN2_none hp _, rfl, hwas.cast P3.size⟩⟩
  have K4 := K3.trans (kept_alloc2 j3 k4)
  replace k4 := kept_alloc2 j3 k4
  obtain rfl := hx3
  obtain ⟨n3_0, s3_0, n3_1, hp3_0, hp3_1, rfl⟩ := pN2_some hp
  simp only [List.map_cons, List.map_nil] at q4
  have P4 := P3.append q4
  go_wp2_with fail
  refine (textG_c H4 (fun k hk => by have := hgl k hk; have := K4.size; omega) B4 (by rw [P4.other (o + 6) (by simp)]; exact hz 6 (by omega))).mono ?_
  rintro _ w5 ⟨k5, ⟨hp, rfl, hwas⟩ | ⟨x4, r5, cur5, cs4, hp4, rfl, H5, B5, q5, hx4⟩⟩
  · exact ⟨rfl, K4.trans k5, .inl ⟨by simp only [pStep, hp0, hp1, hp2, hp3_0, hp3_1, Option.bind_some]; rw [hp]; rfl, rfl, hwas.cast P4.size⟩⟩
  have K5 := K4.trans k5
  have P5 := P4.append q5
  obtain rfl := hx4
  go_wp2_with fail
  refine (bytesG_c H5 (fun k hk => by have := hgl k hk; have := K5.size; omega) B5 (by rw [P5.other (o + 7) (by simp)]; exact hz 7 (by omega))).mono ?_
  rintro _ w6 ⟨k6, ⟨hp, rfl, hwas⟩ | ⟨x5, r6, cur6, cs5, hp5, rfl, H6, B6, q6, hx5⟩⟩
  · exact ⟨rfl, K5.trans k6, .inl ⟨by simp only [pStep, hp0, hp1, hp2, hp3_0, hp3_1, hp4, Option.bind_some]; rw [hp]; rfl, rfl, hwas.cast P5.size⟩⟩
  have K6 := K5.trans k6
  have P6 := P5.append q6
  obtain ⟨v5, rfl, l5⟩ := hx5
  go_wp2
  have T6 := Kept.refl (fun k => k = c ∨ k = p) w6
  have T5 := k6.trans T6
  have T4 := k5.trans T5
  have T3 := k4.trans T4
  have T2 := k3.trans T3
  have T1 := k2.trans T2
  exact bodyPost_end (v := .tuple #[]) (by simp [results, Tryz.results127]) rfl ⟨K6, .inr ⟨⟨x0, x1, x2, n3_0, n3_1, x4, x5⟩, r6, cur6, _, by simp only [pStep, hp0, hp1, hp2, hp3_0, hp3_1, hp4, hp5, Option.bind_some], rfl, H6, B6, P6, ⟨v5, rfl, j0, j1_0, j1_1, (lawI.dec _ _ _ hp3_0).2, (lawI.dec _ _ _ hp3_1).2, l5.late byteIs_stable K5.size T6 hlc hlp⟩⟩⟩
theorem info_Step : (Tryz.prog.info? 239).map (fun i => (i.zero, i.size, i.bytes)) = some (some (Value.agg #[Value.int IntKind.i64 0, Value.int IntKind.i64 0, Value.int IntKind.i64 0, Value.string ⟨#[]⟩, Value.int IntKind.i64 0, Value.int IntKind.i64 0, Value.string ⟨#[]⟩, Value.slice none 0 0]), 8, 96) := by kernel_rfl
theorem listStepG_c {w : World} {c p o : Nat} {bs : List UInt8} {g : Option Nat} {cur : Array Value} {t : TypeId} (h : Rd w c bs g) (hgl : ∀ k, g = some k → k < w.heap.size) (hb : Blk w p cur t c g) (hz : cur[o]? = some (.slice none 0 0)) :
    Calls Tryz.prog 126 #[.pointer (some ⟨c, 0, none⟩), .pointer (some ⟨p, o, none⟩), .func (.func 127) #[.pointer (some ⟨c, 0, none⟩)] #[]] w (Got (sliceIs 8 StepT.Is) (pL pStep) bs w c p o g cur t) := by
  obtain ⟨i0, hi0, hz0, hz1, hz2⟩ := info_all info_Step
  have p0 : w.cell? ⟨p, o, none⟩ = some (.slice none 0 0) := (cell_in hb.heap).trans hz
  have hlp := lt_in hb.heap
  have hlc := h.lt
  go_enter Tryz.func126, Tryz.ntmps126
  go_wp2_with fail
  refine (countG_c h).mono ?_
  rintro e w1 ⟨k1, ⟨n, r1, hp1, rfl, h1⟩ | ⟨hp1, rfl⟩⟩
  rotate_left
  · exact ⟨rfl, k1.mono (fun _ _ h => .inl h), .inl ⟨by unfold pL; rw [hp1]; rfl, rfl, (hb.kept k1 hb.ne).was⟩⟩
  have hb1 := hb.kept k1 hb.ne
  have p1 : w1.cell? ⟨p, o, none⟩ = some (.slice none 0 0) := (cell_in hb1.heap).trans hz
  have f1 : w1.frozen? ⟨p, o, none⟩ = false := frozen_in hb1.heap
  have lp1 := lt_in hb1.heap
  have c2 : w1.cell? ⟨c, 2, none⟩ = some (.bool true) := by
    obtain ⟨vi, h2, -⟩ := h1.ex
    exact cell_in h2
  have lc1 := h1.lt
  have e1 := setCell_same' p1
  have L0 := Lst.start StepT.Is 8 239 hb1 hz k1
  have hn32 := (pC_some hp1).2.1
  have HP1 : Hid (pL pStep bs = pN pStep n r1) := Lib.hid (by unfold pL; rw [hp1]; rfl)
  clear p0 hb1 hp1
  go_wp2
  go_loopw [37] (fun i w' => ∃ (k : Nat) (v : Value) (xs : List StepT) (Ls : List (List Value)) (r : List UInt8) (g' : Option Nat), k ≤ n ∧ i = .int .i64 k ∧ xs.length = k ∧ Hid (pN pStep n r1 = (pN pStep (n - k) r).bind (fun z => some (xs ++ z.1, z.2))) ∧ Rd w' c r g ∧ Lst StepT.Is 8 239 w w' c p o g cur t v xs Ls g') (fun i _ => n - (intOf i).toNat)
  case atStart => exact ⟨0, _, [], [], r1, none, by omega, rfl, rfl, Lib.hid (by rw [Nat.sub_zero]; exact (bind_eta _).symm), h1, L0⟩
  case round =>
    obtain ⟨k, v, xs, Ls, r, g', hk, rfl, rfl, HP, hr, L⟩ := hrel
    by_cases hk2 : xs.length < n
    · have hki : (xs.length : Int) < (n : Int) := by omega
      obtain ⟨a, cp, rfl, hcp, -⟩ := L.own.shape
      obtain ⟨curp, hbp, hvp⟩ := L.cell
      have pr : wr.cell? ⟨p, o, none⟩ = some (.slice a xs.length cp) := (cell_in hbp).trans hvp
      have lpr := lt_in hbp
      have hsw := L.kept.size
      go_wp2_with fail
      have ka := Kept.alloc (fun _ => False) wr (Obj.cells #[Value.int IntKind.i64 0, Value.int IntKind.i64 0, Value.int IntKind.i64 0, Value.string ⟨#[]⟩, Value.int IntKind.i64 0, Value.int IntKind.i64 0, Value.string ⟨#[]⟩, Value.slice none 0 0] 239)
      have hq : (wr.alloc (Obj.cells #[Value.int IntKind.i64 0, Value.int IntKind.i64 0, Value.int IntKind.i64 0, Value.string ⟨#[]⟩, Value.int IntKind.i64 0, Value.int IntKind.i64 0, Value.string ⟨#[]⟩, Value.slice none 0 0] 239)).heap[wr.heap.size]? = some (Obj.cells #[Value.int IntKind.i64 0, Value.int IntKind.i64 0, Value.int IntKind.i64 0, Value.string ⟨#[]⟩, Value.int IntKind.i64 0, Value.int IntKind.i64 0, Value.string ⟨#[]⟩, Value.slice none 0 0] 239) := heap_alloc_new' _ _
      have ra : Rd (wr.alloc (Obj.cells #[Value.int IntKind.i64 0, Value.int IntKind.i64 0, Value.int IntKind.i64 0, Value.string ⟨#[]⟩, Value.int IntKind.i64 0, Value.int IntKind.i64 0, Value.string ⟨#[]⟩, Value.slice none 0 0] 239)) c r g := hr.kept ka
      have sa : (wr.alloc (Obj.cells #[Value.int IntKind.i64 0, Value.int IntKind.i64 0, Value.int IntKind.i64 0, Value.string ⟨#[]⟩, Value.int IntKind.i64 0, Value.int IntKind.i64 0, Value.string ⟨#[]⟩, Value.slice none 0 0] 239)).heap.size = wr.heap.size + 1 := by simp
      generalize wr.alloc (Obj.cells #[Value.int IntKind.i64 0, Value.int IntKind.i64 0, Value.int IntKind.i64 0, Value.string ⟨#[]⟩, Value.int IntKind.i64 0, Value.int IntKind.i64 0, Value.string ⟨#[]⟩, Value.slice none 0 0] 239) = wa at ka hq ra sa ⊢
      have bq : Blk wa wr.heap.size #[Value.int IntKind.i64 0, Value.int IntKind.i64 0, Value.int IntKind.i64 0, Value.string ⟨#[]⟩, Value.int IntKind.i64 0, Value.int IntKind.i64 0, Value.string ⟨#[]⟩, Value.slice none 0 0] 239 c g := ⟨hq, by omega, fun e => by have := hgl _ e; omega⟩
      refine (stepG_c ra (fun k hk => by have := hgl k hk; omega) bq (by intro f hf; simp)).mono ?_
      rintro e w2 ⟨k2, ⟨hp2, rfl, -⟩ | ⟨x, r2, cur2, cs, hp2, rfl, h2, b2, put2, hx⟩⟩
      · exact ⟨rfl, (L.kept.trans (ka.mono (fun _ _ h => h.elim))).thn k2 (fun i hi => by rcases hi with rfl | rfl; exact .inl (.inl rfl); exact .inr hsw), .inl ⟨by rw [HP1.out]; exact pN_stop hk2 HP.out hp2, rfl, L.was.kept ka k2 (fun h => h) (fun h => by rcases h with h | h; exact hb.ne h; omega)⟩⟩
      have k02 : Kept (· = c) wr w2 := (ka.mono (fun _ _ h => h.elim)).thn k2 (fun i hi => by rcases hi with rfl | rfl; exact .inl rfl; exact .inr (Nat.le_refl _))
      have hxn : StepT.Is w2 (New wr w2) cs x := StepT.stable _ _ _ _ _ _ hx (fun k hk => ⟨by have := hk.1; omega, hk.2⟩) (fun _ _ => rfl)
      obtain ⟨uv_data, rfl, -, -, -, -, -, m0⟩ := hx
      obtain ⟨au0, cu0, rfl, -⟩ := m0.shape
      have y0 : w2.cell? ⟨wr.heap.size, 0, none⟩ = some (Value.int IntKind.i64 x.kind) := (cell_in b2.heap).trans (by have := put2.at_ 0 (by simp); simpa using this)
      have y1 : w2.cell? ⟨wr.heap.size, 1, none⟩ = some (Value.int IntKind.i64 x.pg.pool) := (cell_in b2.heap).trans (by have := put2.at_ 1 (by simp); simpa using this)
      have y2 : w2.cell? ⟨wr.heap.size, 2, none⟩ = some (Value.int IntKind.i64 x.pg.seed) := (cell_in b2.heap).trans (by have := put2.at_ 2 (by simp); simpa using this)
      have y3 : w2.cell? ⟨wr.heap.size, 3, none⟩ = some (Value.string x.name) := (cell_in b2.heap).trans (by have := put2.at_ 3 (by simp); simpa using this)
      have y4 : w2.cell? ⟨wr.heap.size, 4, none⟩ = some (Value.int IntKind.i64 x.pos) := (cell_in b2.heap).trans (by have := put2.at_ 4 (by simp); simpa using this)
      have y5 : w2.cell? ⟨wr.heap.size, 5, none⟩ = some (Value.int IntKind.i64 x.n) := (cell_in b2.heap).trans (by have := put2.at_ 5 (by simp); simpa using this)
      have y6 : w2.cell? ⟨wr.heap.size, 6, none⟩ = some (Value.string x.key) := (cell_in b2.heap).trans (by have := put2.at_ 6 (by simp); simpa using this)
      have y7 : w2.cell? ⟨wr.heap.size, 7, none⟩ = some (Value.slice au0 x.data.length cu0) := (cell_in b2.heap).trans (by have := put2.at_ 7 (by simp); simpa using this)
      have lq2 := lt_in b2.heap
      have HP2 := Lib.hid (pN_next hk2 HP.out hp2)
      have bp2 : w2.heap[p]? = some (.cells curp t) := (k02.block _ lpr hb.ne).trans hbp
      have HBP := Lib.hid bp2
      have lp2 := lt_in bp2
      have hpq : p ≠ wr.heap.size := by omega
      have own2 := L.own.kept k02 (fun k hk e => by have := L.new k hk; omega)
      clear ka hq ra bq hbp pr HP hp2 bp2
      go_wp2
      refine wp_region_ordJ (fun w' => w'.heap[p]? = some (.cells curp t)) [4] [0, 1, 2, 3] [5, 6] [7, 8] (by kernel_rfl) (by kernel_rfl) (fun _ _ d _ _ h => by cases d <;> exact h) (fun k => HBP.out) ?_
      simp only [sel, List.filterMap_cons, List.filterMap_nil, List.getElem?_cons_zero, List.getElem?_cons_succ]
      repeat (quiet_step (fail))
      refine wpQuiet_nil ?_
      refine wpHeld_step (fun K hK => ?_)
      go_simp
      refine ⟨_, fun _ _ => rfl, hK _ ?_⟩
      refine wpHeld_step (fun K hK => ?_)
      go_simp
      refine ⟨_, fun _ _ => rfl, hK _ ?_⟩
      refine wpHeld_step (fun K hK => ?_)
      go_simp
      refine ⟨_, fun _ _ => rfl, hK _ ?_⟩
      refine wpHeld_step (fun K hK => ?_)
      go_simp
      refine ⟨.slice a xs.length cp, fun w' h => (by
        have h1 := (cell_in (k := o) h).trans hvp
        have h2 := lt_in h
        clear h
        go_simp), hK _ ?_⟩
      refine wpHeld_nil ?_
      rintro _ ⟨nr, rfl⟩
      have kd := Kept.drewN (fun _ => False) w2 nr
      have Q3 : Hid ((w2.drewN nr).heap[p]? = some (.cells curp t)) := Lib.hid HBP.out
      generalize w2.drewN nr = w3 at kd Q3 ⊢
      refine wpListS_step (fun K hK => ?_)
      go_simp
      have hA : (w3.alloc (Obj.cells #[Value.int IntKind.i64 x.kind, Value.int IntKind.i64 x.pg.pool, Value.int IntKind.i64 x.pg.seed, Value.string x.name, Value.int IntKind.i64 x.pos, Value.int IntKind.i64 x.n, Value.string x.key, Value.slice au0 x.data.length cu0] 239)).heap[p]? = some (.cells curp t) := (Below.heap_alloc _ _ _ (lt_in Q3.out)).trans Q3.out
      refine hK _ _ hA ?_
      clear hK
      have k34 := kd.al (Obj.cells #[Value.int IntKind.i64 x.kind, Value.int IntKind.i64 x.pg.pool, Value.int IntKind.i64 x.pg.seed, Value.string x.name, Value.int IntKind.i64 x.pos, Value.int IntKind.i64 x.n, Value.string x.key, Value.slice au0 x.data.length cu0] 239)
      have r4 := reads_allocN w3 [Value.int IntKind.i64 x.kind, Value.int IntKind.i64 x.pg.pool, Value.int IntKind.i64 x.pg.seed, Value.string x.name, Value.int IntKind.i64 x.pos, Value.int IntKind.i64 x.n, Value.string x.key, Value.slice au0 x.data.length cu0] 239 8 rfl
      generalize w3.alloc (Obj.cells #[Value.int IntKind.i64 x.kind, Value.int IntKind.i64 x.pg.pool, Value.int IntKind.i64 x.pg.seed, Value.string x.name, Value.int IntKind.i64 x.pos, Value.int IntKind.i64 x.n, Value.string x.key, Value.slice au0 x.data.length cu0] 239) = w4 at hA k34 r4 ⊢
      have own4 := own2.kept k34 (fun _ _ h => h)
      refine wpListS_append_Own rfl _ _ 78 78 rfl 239 i0 (Value.agg #[Value.int IntKind.i64 0, Value.int IntKind.i64 0, Value.int IntKind.i64 0, Value.string ⟨#[]⟩, Value.int IntKind.i64 0, Value.int IntKind.i64 0, Value.string ⟨#[]⟩, Value.slice none 0 0]) 8 96 Tryz.underlying78 hi0 hz0 hz1 hz2 rfl rfl own4 rfl (r4.src Tryz.underlying78 (by intro u hu; simp only [List.mem_cons, List.not_mem_nil, or_false] at hu; rcases hu with rfl | rfl | rfl | rfl | rfl | rfl | rfl | rfl <;> rfl)) (by unfold maxLen; omega) (by omega) ?_
      intro a5 k5 w5 g5 hown5 hk5 hg5
      have hgp : g' ≠ some p := fun e => by have := L.new p e; omega
      have hA5 : w5.heap[p]? = _ := (hk5.block _ (lt_in hA) (fun h => hgp h)).trans hA
      refine ⟨hA5, ?_⟩
      refine wpListS_nil ?_
      have k04 : Kept (· = c) wr w4 := k02.trans (k34.mono (fun _ _ h => h.elim))
      have s4 := k34.size
      have hx4 : StepT.Is w4 (New wr w4) _ x := StepT.stable _ _ _ _ _ _ hxn (fun k hk => ⟨hk.1, by have := hk.2; omega⟩) (fun k hk => k34.block k hk.2 (fun h => h))
      have LN := Lib.hid (L.grow StepT.stable (o := o) hlp hlc k04 hx4 rfl hown5 hk5 hg5)
      have RN := Lib.hid (Lst.rd L (w2 := w2) (o := o) (v4 := .slice a5 (xs.length + 1) k5) hlc hgl (h2.kept k34) hk5)
      have f0 : w5.frozen? ⟨p, o, none⟩ = false := frozen_in hA5
      have z5 := (cell_in (k := o) hA5).trans hvp
      have hl5 := lt_in hA5
      have HX2 : Hid ((xs ++ [x]).length = xs.length + 1) := Lib.hid (by rw [List.length_append]; rfl)
      clear hA5 hA hown5 own4 own2 r4 hk5 hg5 hx4 hxn
      go_wp2
      exact ⟨⟨xs.length + 1, _, xs ++ [x], _, r2, g5, by omega, by simp, HX2.out, HP2, RN.out, LN.out⟩, by simp [intOf]; omega⟩
    · obtain rfl : n = xs.length := by omega
      go_wp2
      obtain ⟨cur', hbl, hpu⟩ := L.blk
      exact bodyPost_end (v := .tuple #[]) (by simp [results, Tryz.results126]) rfl ⟨L.kept, .inr ⟨xs, r, cur', [v], by rw [HP1.out]; exact pN_end HP.out, rfl, hr, hbl, hpu, v, rfl, L.done StepT.stable (by omega)⟩⟩
theorem txG_c {w : World} {c p o : Nat} {bs : List UInt8} {g : Option Nat} {cur : Array Value} {t : TypeId} (h : Rd w c bs g) (hgl : ∀ k, g = some k → k < w.heap.size) (hb : Blk w p cur t c g) (hz : ∀ f, f < 1 → cur[o + f]? = ([Value.slice none 0 0] : List Value)[f]?) :
    Calls Tryz.prog 51 #[.pointer (some ⟨c, 0, none⟩), .pointer (some ⟨p, o, none⟩)] w (Got TxT.Is pTx bs w c p o g cur t) := by
  have hmf : ∀ (fn : Fn) (first cap : Array Value) (w : World), (Instr.makeFunc fn first cap).run Tryz.prog w = .ok (.func fn first cap) w := fun _ _ _ _ => rfl
  have hlp := lt_in hb.heap
  have hlc := h.lt
  go_enter Tryz.func51, Tryz.ntmps51
  have B0 := hb
  have H0 := h
  have P0 := Put.nil cur o
  have K0 := Kept.refl (fun k => k = c ∨ k = p) w
  have z0 := hz
  clear h hb
  have lp0 := lt_in B0.heap
  go_wp2_with fail
  refine (listStepG_c H0 (fun k hk => by have := hgl k hk; have := K0.size; omega) B0 (by rw [P0.other (o) (by simp)]; exact hz 0 (by omega))).mono ?_
  rintro _ w1 ⟨k1, ⟨hp, rfl, hwas⟩ | ⟨x0, r1, cur1, cs0, hp0, rfl, H1, B1, q1, hx0⟩⟩
  · exact ⟨rfl, K0.trans k1, .inl ⟨by simp only [pTx, Option.bind_some]; rw [hp]; rfl, rfl, hwas.cast P0.size⟩⟩
  have K1 := K0.trans k1
  have P1 := P0.append q1
  obtain ⟨v0, rfl, l0⟩ := hx0
  go_wp2
  have T1 := Kept.refl (fun k => k = c ∨ k = p) w1
  exact bodyPost_end (v := .tuple #[]) (by simp [results, Tryz.results51]) rfl ⟨K1, .inr ⟨⟨x0⟩, r1, cur1, _, by simp only [pTx, hp0, Option.bind_some], rfl, H1, B1, P1, ⟨v0, rfl, l0.late StepT.stable K0.size T1 hlc hlp⟩⟩⟩
end Go.Proofs.YtmbjealliinpdaaGreat
end

section

namespace Go.Proofs.YtmbjealliinpdaaGreat
open Go.RowKit
/-- The deferred closure, in a frame that panics so. -/
theorem catchState_bad {w : World} (p q : Nat) {cur : Array Value} {n : Int} (hp : w.heap[p]? = some (.cells cur 38)) (hcs : cur.size = 6) (hq : w.heap[q]? = some (.cells #[.int .i64 n] 39)) :
    CallsD Tryz.prog 116 #[.pointer (some ⟨p, 0, none⟩), .pointer (some ⟨q, 0, none⟩)] (.panicking wrongP) w fun e u' w' =>
      e = .returned (.tuple #[]) ∧ u' = .panicking [{ v := .iface 135 (.agg #[]), recovered := true }] ∧ w'.heap[p]? = some (.cells #[Value.int IntKind.i64 0, Value.int IntKind.i64 0, Value.int IntKind.i64 0, Value.slice none 0 0, Value.slice none 0 0, Value.slice none 0 0] 38) ∧ w'.heap[q]? = some (.cells #[.int .i64 74] 39) ∧ Kept (fun k => k = p ∨ k = q) w w' := by
  refine callsD_of_wpS Tryz.func116 rfl fun c₀ cs hu => ?_
  have hpq : p ≠ q := fun e => by
    subst e
    rw [hp] at hq
    have := congrArg (fun o => match o with | some (Obj.cells _ t _) => t | _ => 0) hq
    simp at this
  obtain ⟨lc⟩ := cur
  match lc, hcs with
  | [v0, v1, v2, v3, v4, v5], _ =>
  have z0 : w.cell? ⟨p, 0, none⟩ = some v0 := cell_in hp
  have f0 : w.frozen? ⟨p, 0, none⟩ = false := frozen_in hp
  have z1 : w.cell? ⟨p, 1, none⟩ = some v1 := cell_in hp
  have f1 : w.frozen? ⟨p, 1, none⟩ = false := frozen_in hp
  have z2 : w.cell? ⟨p, 2, none⟩ = some v2 := cell_in hp
  have f2 : w.frozen? ⟨p, 2, none⟩ = false := frozen_in hp
  have z3 : w.cell? ⟨p, 3, none⟩ = some v3 := cell_in hp
  have f3 : w.frozen? ⟨p, 3, none⟩ = false := frozen_in hp
  have z4 : w.cell? ⟨p, 4, none⟩ = some v4 := cell_in hp
  have f4 : w.frozen? ⟨p, 4, none⟩ = false := frozen_in hp
  have z5 : w.cell? ⟨p, 5, none⟩ = some v5 := cell_in hp
  have f5 : w.frozen? ⟨p, 5, none⟩ = false := frozen_in hp
  have zq : w.cell? ⟨q, 0, none⟩ = some (.int .i64 n) := cell_in hq
  have fq : w.frozen? ⟨q, 0, none⟩ = false := frozen_in hq
  have lp := lt_in hp
  have lq := lt_in hq
  have HP := Lib.hid hp
  have HQ := Lib.hid hq
  clear hp hq
  apply wpS_seq
  apply wpS_region
  simp [wpOpsS, go_sem, recoverD, hu, wrongP, Tryz.ntmps116, Exit.thenS]
  have hT : (#[Value.pointer (some ⟨p, 0, none⟩), Value.pointer (some ⟨q, 0, none⟩)] ++ ((Array.replicate 16 undef).setIfInBounds 4 (Value.iface 135 (Value.agg #[]))).setIfInBounds 0 (Value.iface 135 (Value.agg #[])) : Array Value) = #[Value.pointer (some ⟨p, 0, none⟩), Value.pointer (some ⟨q, 0, none⟩), (Value.iface 135 (Value.agg #[])), undef, undef, undef, (Value.iface 135 (Value.agg #[])), undef, undef, undef, undef, undef, undef, undef, undef, undef, undef, undef] := rfl
  rw [hT]
  have hta : ∀ w, (Instr.typeAssert (Value.iface 135 (Value.agg #[])) 20 135 true).run Tryz.prog w = .ok (.tuple #[.agg #[], .bool true]) w := fun _ => by kernel_rfl
  refine wpS_of_wp ?_
  go_wp2
  have hW : ((((((w.setCell ⟨p, 0, none⟩ (Value.int IntKind.i64 0)).setCell ⟨p, 1, none⟩ (Value.int IntKind.i64 0)).setCell ⟨p, 2, none⟩ (Value.int IntKind.i64 0)).setCell ⟨p, 3, none⟩ (Value.slice none 0 0)).setCell ⟨p, 4, none⟩ (Value.slice none 0 0)).setCell ⟨p, 5, none⟩ (Value.slice none 0 0)) = puts w p 0 [Value.int IntKind.i64 0, Value.int IntKind.i64 0, Value.int IntKind.i64 0, Value.slice none 0 0, Value.slice none 0 0, Value.slice none 0 0] := rfl
  rw [hW]
  have h1 : (puts w p 0 [Value.int IntKind.i64 0, Value.int IntKind.i64 0, Value.int IntKind.i64 0, Value.slice none 0 0, Value.slice none 0 0, Value.slice none 0 0]).heap[p]? = some (.cells #[Value.int IntKind.i64 0, Value.int IntKind.i64 0, Value.int IntKind.i64 0, Value.slice none 0 0, Value.slice none 0 0, Value.slice none 0 0] 38) := puts_heap p _ [Value.int IntKind.i64 0, Value.int IntKind.i64 0, Value.int IntKind.i64 0, Value.slice none 0 0, Value.slice none 0 0, Value.slice none 0 0] w [] [v0, v1, v2, v3, v4, v5] HP.out rfl
  have k1 := puts_kept p [Value.int IntKind.i64 0, Value.int IntKind.i64 0, Value.int IntKind.i64 0, Value.slice none 0 0, Value.slice none 0 0, Value.slice none 0 0] w 0
  have h2 := (k1.block q lq (fun h => hpq h.symm)).trans HQ.out
  generalize puts w p 0 [Value.int IntKind.i64 0, Value.int IntKind.i64 0, Value.int IntKind.i64 0, Value.slice none 0 0, Value.slice none 0 0, Value.slice none 0 0] = w1 at h1 h2 k1 ⊢
  have h3 := heap_setCell_same (o := 0) h2 (.int .i64 74)
  have h4 : (w1.setCell ⟨q, 0, none⟩ (.int .i64 74)).heap[p]? = _ := ((Kept.setCell (F := (· = q)) _ ⟨q, 0, none⟩ (.int .i64 74) rfl).block p (lt_in h1) (fun h => hpq h)).trans h1
  have k4 : Kept (fun k => k = p ∨ k = q) w (w1.setCell ⟨q, 0, none⟩ (.int .i64 74)) := (k1.mono (fun _ _ h => .inl h)).st _ (.inl (.inr rfl))
  generalize w1.setCell ⟨q, 0, none⟩ (.int .i64 74) = w2 at h3 h4 k4 ⊢
  obtain ⟨k5, -, -⟩ := two_new w2 (Obj.cells #[] 135) (Obj.cells #[Value.int IntKind.i64 0, Value.int IntKind.i64 0, Value.int IntKind.i64 0, Value.slice none 0 0, Value.slice none 0 0, Value.slice none 0 0] 38)
  have y1 := (k5.block p (lt_in h4) (fun h => h)).trans h4
  have y2 := (k5.block q (lt_in h3) (fun h => h)).trans h3
  have yk := k4.trans (k5.mono (fun _ _ h => h.elim))
  generalize (w2.alloc (Obj.cells #[] 135)).alloc (Obj.cells #[Value.int IntKind.i64 0, Value.int IntKind.i64 0, Value.int IntKind.i64 0, Value.slice none 0 0, Value.slice none 0 0, Value.slice none 0 0] 38) = w3 at y1 y2 yk ⊢
  clear h1 h2 h3 h4 hT hta
  simp only [bodyPostS, results, Tryz.results116]
  simp
  exact ⟨y1, y2, yk⟩
/-- The deferred closure, in a frame that returns. -/
theorem catchState_ok {w : World} (p q : Nat) :
    CallsD Tryz.prog 116 #[.pointer (some ⟨p, 0, none⟩), .pointer (some ⟨q, 0, none⟩)] .returning w fun e u' w' => e = .returned (.tuple #[]) ∧ u' = .returning ∧ w = w' := by
  refine callsD_of_wpS Tryz.func116 rfl fun c₀ cs hu => ?_
  apply wpS_seq
  apply wpS_region
  simp [wpOpsS, go_sem, recoverD, hu, Tryz.ntmps116, Exit.thenS]
  have hT : (#[Value.pointer (some ⟨p, 0, none⟩), Value.pointer (some ⟨q, 0, none⟩)] ++ ((Array.replicate 16 undef).setIfInBounds 4 Value.nilIface).setIfInBounds 0 Value.nilIface : Array Value) = #[Value.pointer (some ⟨p, 0, none⟩), Value.pointer (some ⟨q, 0, none⟩), Value.nilIface, undef, undef, undef, Value.nilIface, undef, undef, undef, undef, undef, undef, undef, undef, undef, undef, undef] := rfl
  rw [hT]
  refine wpS_of_wp ?_
  go_wp2
  simp only [bodyPostS, results, Tryz.results116]
  simp [hu]
  rw [← hu]
theorem readState_c {w : World} {v : Value} {bs : List UInt8} {g : Option Nat} (hr : Reads w 1 v bs.length (bs.map bv) g) (hgl : ∀ k, g = some k → k < w.heap.size) (hm : bs.length ≤ 140737488351232) :
    Calls Tryz.prog 45 #[v, .func (.func 46) #[] #[]] w (Took StateT.Is pState [Value.int IntKind.i64 0, Value.int IntKind.i64 0, Value.int IntKind.i64 0, Value.slice none 0 0, Value.slice none 0 0, Value.slice none 0 0] bs w) := by
  obtain ⟨a, cp, rfl, hc⟩ := hr.shape
  have hmf : ∀ (fn : Fn) (first cap : Array Value) (w : World), (Instr.makeFunc fn first cap).run Tryz.prog w = .ok (.func fn first cap) w := fun _ _ _ _ => rfl
  go_enter_defers Tryz.func45, Tryz.ntmps45
  go_wp2_with fail
  obtain ⟨K0, x1, x2⟩ := two_new w (Obj.cells #[Value.int IntKind.i64 0, Value.int IntKind.i64 0, Value.int IntKind.i64 0, Value.slice none 0 0, Value.slice none 0 0, Value.slice none 0 0] 38) (Obj.cells #[Value.int IntKind.i64 0] 39)
  have hs0 : ((w.alloc (Obj.cells #[Value.int IntKind.i64 0, Value.int IntKind.i64 0, Value.int IntKind.i64 0, Value.slice none 0 0, Value.slice none 0 0, Value.slice none 0 0] 38)).alloc (Obj.cells #[Value.int IntKind.i64 0] 39)).heap.size = w.heap.size + 1 + 1 := by simp
  generalize (w.alloc (Obj.cells #[Value.int IntKind.i64 0, Value.int IntKind.i64 0, Value.int IntKind.i64 0, Value.slice none 0 0, Value.slice none 0 0, Value.slice none 0 0] 38)).alloc (Obj.cells #[Value.int IntKind.i64 0] 39) = wz at K0 x1 x2 hs0 ⊢
  have x3 : (wz.alloc (Obj.cells #[Value.slice none 0 0, Value.slice a bs.length cp, Value.bool true] 138)).heap[wz.heap.size]? = some (Obj.cells #[Value.slice none 0 0, Value.slice a bs.length cp, Value.bool true] 138) := heap_alloc_new' _ _
  rw [hs0] at x3
  have y1 : (wz.alloc (Obj.cells #[Value.slice none 0 0, Value.slice a bs.length cp, Value.bool true] 138)).heap[w.heap.size]? = _ := (Below.heap_alloc _ _ _ (lt_in x1)).trans x1
  have y2 : (wz.alloc (Obj.cells #[Value.slice none 0 0, Value.slice a bs.length cp, Value.bool true] 138)).heap[w.heap.size + 1]? = _ := (Below.heap_alloc _ _ _ (lt_in x2)).trans x2
  have K1 := K0.al (Obj.cells #[Value.slice none 0 0, Value.slice a bs.length cp, Value.bool true] 138)
  generalize wz.alloc (Obj.cells #[Value.slice none 0 0, Value.slice a bs.length cp, Value.bool true] 138) = w0 at x3 y1 y2 K1 ⊢
  clear x1 x2 hs0
  have r0 := hr.kept K1 (fun _ _ h => h)
  have sK := K1.size
  have RD : Rd w0 (w.heap.size + 1 + 1) bs g := ⟨⟨_, x3, r0⟩, fun k hk => by have := hgl k hk; omega, hm⟩
  have BK : Blk w0 w.heap.size #[Value.int IntKind.i64 0, Value.int IntKind.i64 0, Value.int IntKind.i64 0, Value.slice none 0 0, Value.slice none 0 0, Value.slice none 0 0] 38 (w.heap.size + 1 + 1) g := ⟨y1, by omega, fun e => by have := hgl _ e; omega⟩
  refine (stateG_c RD (fun k hk => by have := hgl k hk; omega) BK (o := 0) (by intro f hf; simp)).mono ?_
  rintro e w1 ⟨k1, ⟨hp, rfl, hwas⟩ | ⟨x, r1, cur1, cs, hp, rfl, H1, B1, P1, hx⟩⟩
  · obtain ⟨cur1, z1, hcs⟩ := hwas
    have z2 : w1.heap[w.heap.size + 1]? = _ := (k1.block _ (lt_in y2) (fun h => by omega)).trans y2
    have K2 := K1.thn k1 (fun i hi => .inr (by omega))
    clear x3 y1 y2 r0 RD BK
    refine leaves_cons (f := 116) (args := #[.pointer (some ⟨w.heap.size, 0, none⟩), .pointer (some ⟨w.heap.size + 1, 0, none⟩)]) (by simp) (by simp [go_sem]) ?_
    refine (catchState_bad w.heap.size (w.heap.size + 1) z1 hcs z2).mono ?_
    rintro e u' w2 ⟨rfl, rfl, q1, q2, k2⟩
    have c0 : w2.cell? ⟨w.heap.size, 0, none⟩ = some (Value.int IntKind.i64 0) := cell_in q1
    have c1 : w2.cell? ⟨w.heap.size, 1, none⟩ = some (Value.int IntKind.i64 0) := cell_in q1
    have c2 : w2.cell? ⟨w.heap.size, 2, none⟩ = some (Value.int IntKind.i64 0) := cell_in q1
    have c3 : w2.cell? ⟨w.heap.size, 3, none⟩ = some (Value.slice none 0 0) := cell_in q1
    have c4 : w2.cell? ⟨w.heap.size, 4, none⟩ = some (Value.slice none 0 0) := cell_in q1
    have c5 : w2.cell? ⟨w.heap.size, 5, none⟩ = some (Value.slice none 0 0) := cell_in q1
    have cE : w2.cell? ⟨w.heap.size + 1, 0, none⟩ = some (.int .i64 74) := cell_in q2
    have K3 : Kept (fun _ => False) w w2 := K2.thn k2 (fun i hi => .inr (by omega))
    clear q1 q2
    simp [Leaves, settle, results, Tryz.results45, go_sem, c0, c1, c2, c3, c4, c5, cE]
    exact ⟨K3, .inr ⟨fun x h => (by rw [hp] at h; cases h), rfl⟩⟩
  have hx0 := hx
  obtain ⟨u0, u1, u2, rfl, -, -, -, l0, l1, l2⟩ := hx
  obtain ⟨au0, cu0, rfl, -⟩ := l0.shape
  obtain ⟨au1, cu1, rfl, -⟩ := l1.shape
  obtain ⟨au2, cu2, rfl, -⟩ := l2.shape
  obtain rfl : cur1 = #[Value.int IntKind.i64 x.les, Value.int IntKind.i64 x.tail.epoch, Value.int IntKind.i64 x.tail.n, Value.slice au0 x.log.length cu0, Value.slice au1 x.lasts.length cu1, Value.slice au2 x.items.length cu2] := P1.full rfl
  obtain ⟨vi, h2, h3⟩ := H1.ex
  obtain ⟨ai, ci, rfl, -⟩ := h3.shape
  have z2 : w1.heap[w.heap.size + 1]? = _ := (k1.block _ (lt_in y2) (fun h => by omega)).trans y2
  have K2 := K1.thn k1 (fun i hi => .inr (by omega))
  have s1 := k1.size
  have d1 : w1.cell? ⟨w.heap.size + 1 + 1, 1, none⟩ = some (.slice ai r1.length ci) := cell_in h2
  have l1 := lt_in h2
  have z1 := B1.heap
  have xn : StateT.Is w1 (New w w1) _ x := StateT.stable _ _ _ _ _ _ hx0 (fun k hk => ⟨by have := hk.1; omega, hk.2⟩) (fun _ _ => rfl)
  have HX := Lib.hid xn
  have HP := Lib.hid hp
  clear x3 y1 y2 r0 RD BK hx0 xn h2 h3 H1 hp P1
  by_cases hr1 : r1 = []
  · subst hr1
    have c0 : w1.cell? ⟨w.heap.size, 0, none⟩ = some (Value.int IntKind.i64 x.les) := cell_in z1
    have g0 : w1.frozen? ⟨w.heap.size, 0, none⟩ = false := frozen_in z1
    have e0 := setCell_same' c0
    have c1 : w1.cell? ⟨w.heap.size, 1, none⟩ = some (Value.int IntKind.i64 x.tail.epoch) := cell_in z1
    have g1 : w1.frozen? ⟨w.heap.size, 1, none⟩ = false := frozen_in z1
    have e1 := setCell_same' c1
    have c2 : w1.cell? ⟨w.heap.size, 2, none⟩ = some (Value.int IntKind.i64 x.tail.n) := cell_in z1
    have g2 : w1.frozen? ⟨w.heap.size, 2, none⟩ = false := frozen_in z1
    have e2 := setCell_same' c2
    have c3 : w1.cell? ⟨w.heap.size, 3, none⟩ = some (Value.slice au0 x.log.length cu0) := cell_in z1
    have g3 : w1.frozen? ⟨w.heap.size, 3, none⟩ = false := frozen_in z1
    have e3 := setCell_same' c3
    have c4 : w1.cell? ⟨w.heap.size, 4, none⟩ = some (Value.slice au1 x.lasts.length cu1) := cell_in z1
    have g4 : w1.frozen? ⟨w.heap.size, 4, none⟩ = false := frozen_in z1
    have e4 := setCell_same' c4
    have c5 : w1.cell? ⟨w.heap.size, 5, none⟩ = some (Value.slice au2 x.items.length cu2) := cell_in z1
    have g5 : w1.frozen? ⟨w.heap.size, 5, none⟩ = false := frozen_in z1
    have e5 := setCell_same' c5
    have cE : w1.cell? ⟨w.heap.size + 1, 0, none⟩ = some (.int .i64 0) := cell_in z2
    have gE : w1.frozen? ⟨w.heap.size + 1, 0, none⟩ = false := frozen_in z2
    have eE := setCell_same' cE
    have lz1 := lt_in z1
    have lz2 := lt_in z2
    simp only [List.length_nil] at d1
    clear z1 z2 B1
    go_wp2
    refine leaves_cons (f := 116) (args := #[.pointer (some ⟨w.heap.size, 0, none⟩), .pointer (some ⟨w.heap.size + 1, 0, none⟩)]) (by simp) (by simp [go_sem]) ?_
    refine (catchState_ok w.heap.size (w.heap.size + 1)).mono ?_
    rintro e u' w2 ⟨rfl, rfl, rfl⟩
    simp [Leaves, settle, results, Tryz.results45, go_sem, c0, c1, c2, c3, c4, c5, cE]
    exact ⟨K2, .inl ⟨x, _, HP.out, rfl, HX.out⟩⟩
  · have hpos : (0 : Int) < (r1.length : Int) := by
      have := List.length_pos_iff.2 hr1
      omega
    go_wp2
    refine leaves_cons (f := 116) (args := #[.pointer (some ⟨w.heap.size, 0, none⟩), .pointer (some ⟨w.heap.size + 1, 0, none⟩)]) (by simp) (by simp [go_sem]) ?_
    refine (catchState_bad w.heap.size (w.heap.size + 1) z1 rfl z2).mono ?_
    rintro e u' w2 ⟨rfl, rfl, q1, q2, k2⟩
    have c0 : w2.cell? ⟨w.heap.size, 0, none⟩ = some (Value.int IntKind.i64 0) := cell_in q1
    have c1 : w2.cell? ⟨w.heap.size, 1, none⟩ = some (Value.int IntKind.i64 0) := cell_in q1
    have c2 : w2.cell? ⟨w.heap.size, 2, none⟩ = some (Value.int IntKind.i64 0) := cell_in q1
    have c3 : w2.cell? ⟨w.heap.size, 3, none⟩ = some (Value.slice none 0 0) := cell_in q1
    have c4 : w2.cell? ⟨w.heap.size, 4, none⟩ = some (Value.slice none 0 0) := cell_in q1
    have c5 : w2.cell? ⟨w.heap.size, 5, none⟩ = some (Value.slice none 0 0) := cell_in q1
    have cE : w2.cell? ⟨w.heap.size + 1, 0, none⟩ = some (.int .i64 74) := cell_in q2
    have K3 : Kept (fun _ => False) w w2 := K2.thn k2 (fun i hi => .inr (by omega))
    clear q1 q2
    simp [Leaves, settle, results, Tryz.results45, go_sem, c0, c1, c2, c3, c4, c5, cE]
    exact ⟨K3, .inr ⟨fun x h => hr1 (by rw [HP.out] at h; simp at h; exact h.2), rfl⟩⟩
theorem decState_c {w : World} {v : Value} {bs : List UInt8} {g : Option Nat} (hr : Reads w 1 v bs.length (bs.map bv) g) (hgl : ∀ k, g = some k → k < w.heap.size) (hm : bs.length ≤ 140737488351232) :
    Calls Tryz.prog 18 #[v] w (Took StateT.Is pState [Value.int IntKind.i64 0, Value.int IntKind.i64 0, Value.int IntKind.i64 0, Value.slice none 0 0, Value.slice none 0 0, Value.slice none 0 0] bs w) := by
  have ka := Kept.alloc (fun _ => False) w (Obj.cells #[Value.int IntKind.i64 0, Value.int IntKind.i64 0, Value.int IntKind.i64 0, Value.slice none 0 0, Value.slice none 0 0, Value.slice none 0 0] 38)
  have hq : (w.alloc (Obj.cells #[Value.int IntKind.i64 0, Value.int IntKind.i64 0, Value.int IntKind.i64 0, Value.slice none 0 0, Value.slice none 0 0, Value.slice none 0 0] 38)).heap[w.heap.size]? = some (Obj.cells #[Value.int IntKind.i64 0, Value.int IntKind.i64 0, Value.int IntKind.i64 0, Value.slice none 0 0, Value.slice none 0 0, Value.slice none 0 0] 38) := heap_alloc_new' _ _
  have sz : (w.alloc (Obj.cells #[Value.int IntKind.i64 0, Value.int IntKind.i64 0, Value.int IntKind.i64 0, Value.slice none 0 0, Value.slice none 0 0, Value.slice none 0 0] 38)).heap.size = w.heap.size + 1 := by simp
  obtain ⟨a, cp, rfl, hc⟩ := hr.shape
  go_enter Tryz.func18, Tryz.ntmps18
  go_wp2_with fail
  generalize w.alloc (Obj.cells #[Value.int IntKind.i64 0, Value.int IntKind.i64 0, Value.int IntKind.i64 0, Value.slice none 0 0, Value.slice none 0 0, Value.slice none 0 0] 38) = w0 at ka hq sz ⊢
  refine (readState_c (hr.kept ka (fun _ _ h => h)) (fun k hk => by have := hgl k hk; omega) hm).mono ?_
  rintro e w1 ⟨k1, ⟨x, cs, hp, rfl, hx⟩ | ⟨hp, rfl⟩⟩
  · have hx0 := hx
    obtain ⟨u0, u1, u2, rfl, -, -, -, l0, l1, l2⟩ := hx
    obtain ⟨au0, cu0, rfl, -⟩ := l0.shape
    obtain ⟨au1, cu1, rfl, -⟩ := l1.shape
    obtain ⟨au2, cu2, rfl, -⟩ := l2.shape
    have z1 := (k1.block _ (lt_in hq) (fun h => h)).trans hq
    have HX := Lib.hid hx0
    have HP := Lib.hid hp
    clear hx0 hp
    have c0 : w1.cell? ⟨w.heap.size, 0, none⟩ = some (Value.int IntKind.i64 0) := cell_in z1
    have g0 : w1.frozen? ⟨w.heap.size, 0, none⟩ = false := frozen_in z1
    have c1 : w1.cell? ⟨w.heap.size, 1, none⟩ = some (Value.int IntKind.i64 0) := cell_in z1
    have g1 : w1.frozen? ⟨w.heap.size, 1, none⟩ = false := frozen_in z1
    have c2 : w1.cell? ⟨w.heap.size, 2, none⟩ = some (Value.int IntKind.i64 0) := cell_in z1
    have g2 : w1.frozen? ⟨w.heap.size, 2, none⟩ = false := frozen_in z1
    have c3 : w1.cell? ⟨w.heap.size, 3, none⟩ = some (Value.slice none 0 0) := cell_in z1
    have g3 : w1.frozen? ⟨w.heap.size, 3, none⟩ = false := frozen_in z1
    have c4 : w1.cell? ⟨w.heap.size, 4, none⟩ = some (Value.slice none 0 0) := cell_in z1
    have g4 : w1.frozen? ⟨w.heap.size, 4, none⟩ = false := frozen_in z1
    have c5 : w1.cell? ⟨w.heap.size, 5, none⟩ = some (Value.slice none 0 0) := cell_in z1
    have g5 : w1.frozen? ⟨w.heap.size, 5, none⟩ = false := frozen_in z1
    have lz := lt_in z1
    have HZ := Lib.hid z1
    clear z1 hq
    go_wp2
    have hW : ((((((w1.setCell ⟨w.heap.size, 0, none⟩ (Value.int IntKind.i64 x.les)).setCell ⟨w.heap.size, 1, none⟩ (Value.int IntKind.i64 x.tail.epoch)).setCell ⟨w.heap.size, 2, none⟩ (Value.int IntKind.i64 x.tail.n)).setCell ⟨w.heap.size, 3, none⟩ (Value.slice au0 x.log.length cu0)).setCell ⟨w.heap.size, 4, none⟩ (Value.slice au1 x.lasts.length cu1)).setCell ⟨w.heap.size, 5, none⟩ (Value.slice au2 x.items.length cu2)) = puts w1 w.heap.size 0 [Value.int IntKind.i64 x.les, Value.int IntKind.i64 x.tail.epoch, Value.int IntKind.i64 x.tail.n, Value.slice au0 x.log.length cu0, Value.slice au1 x.lasts.length cu1, Value.slice au2 x.items.length cu2] := rfl
    rw [hW]
    have h1 : (puts w1 w.heap.size 0 [Value.int IntKind.i64 x.les, Value.int IntKind.i64 x.tail.epoch, Value.int IntKind.i64 x.tail.n, Value.slice au0 x.log.length cu0, Value.slice au1 x.lasts.length cu1, Value.slice au2 x.items.length cu2]).heap[w.heap.size]? = some (.cells #[Value.int IntKind.i64 x.les, Value.int IntKind.i64 x.tail.epoch, Value.int IntKind.i64 x.tail.n, Value.slice au0 x.log.length cu0, Value.slice au1 x.lasts.length cu1, Value.slice au2 x.items.length cu2] 38) := puts_heap _ _ [Value.int IntKind.i64 x.les, Value.int IntKind.i64 x.tail.epoch, Value.int IntKind.i64 x.tail.n, Value.slice au0 x.log.length cu0, Value.slice au1 x.lasts.length cu1, Value.slice au2 x.items.length cu2] w1 [] [Value.int IntKind.i64 0, Value.int IntKind.i64 0, Value.int IntKind.i64 0, Value.slice none 0 0, Value.slice none 0 0, Value.slice none 0 0] HZ.out rfl
    have k2 := puts_kept w.heap.size [Value.int IntKind.i64 x.les, Value.int IntKind.i64 x.tail.epoch, Value.int IntKind.i64 x.tail.n, Value.slice au0 x.log.length cu0, Value.slice au1 x.lasts.length cu1, Value.slice au2 x.items.length cu2] w1 0
    generalize puts w1 w.heap.size 0 [Value.int IntKind.i64 x.les, Value.int IntKind.i64 x.tail.epoch, Value.int IntKind.i64 x.tail.n, Value.slice au0 x.log.length cu0, Value.slice au1 x.lasts.length cu1, Value.slice au2 x.items.length cu2] = w2 at h1 k2 ⊢
    have K3 : Kept (fun _ => False) w w2 := (ka.trans k1).thn k2 (fun i hi => .inr (by omega))
    have y0 : w2.cell? ⟨w.heap.size, 0, none⟩ = some (Value.int IntKind.i64 x.les) := cell_in h1
    have y1 : w2.cell? ⟨w.heap.size, 1, none⟩ = some (Value.int IntKind.i64 x.tail.epoch) := cell_in h1
    have y2 : w2.cell? ⟨w.heap.size, 2, none⟩ = some (Value.int IntKind.i64 x.tail.n) := cell_in h1
    have y3 : w2.cell? ⟨w.heap.size, 3, none⟩ = some (Value.slice au0 x.log.length cu0) := cell_in h1
    have y4 : w2.cell? ⟨w.heap.size, 4, none⟩ = some (Value.slice au1 x.lasts.length cu1) := cell_in h1
    have y5 : w2.cell? ⟨w.heap.size, 5, none⟩ = some (Value.slice au2 x.items.length cu2) := cell_in h1
    refine bodyPost_ret (v := .tuple #[.agg #[Value.int IntKind.i64 x.les, Value.int IntKind.i64 x.tail.epoch, Value.int IntKind.i64 x.tail.n, Value.slice au0 x.log.length cu0, Value.slice au1 x.lasts.length cu1, Value.slice au2 x.items.length cu2], .int .i64 0]) (by simp [results, Tryz.results18, go_sem, y0, y1, y2, y3, y4, y5]) rfl ?_
    have s2 := k2.size
    exact ⟨K3, .inl ⟨x, _, HP.out, rfl, StateT.stable _ _ _ _ _ _ HX.out (fun k hk => ⟨by have := hk.1; omega, by have := hk.2; omega⟩) (fun k hk => k2.block k hk.2 (fun e => by have := hk.1; omega))⟩⟩
  · have z1 := (k1.block _ (lt_in hq) (fun h => h)).trans hq
    have HP := Lib.hid hp
    clear hp
    have c0 : w1.cell? ⟨w.heap.size, 0, none⟩ = some (Value.int IntKind.i64 0) := cell_in z1
    have g0 : w1.frozen? ⟨w.heap.size, 0, none⟩ = false := frozen_in z1
    have c1 : w1.cell? ⟨w.heap.size, 1, none⟩ = some (Value.int IntKind.i64 0) := cell_in z1
    have g1 : w1.frozen? ⟨w.heap.size, 1, none⟩ = false := frozen_in z1
    have c2 : w1.cell? ⟨w.heap.size, 2, none⟩ = some (Value.int IntKind.i64 0) := cell_in z1
    have g2 : w1.frozen? ⟨w.heap.size, 2, none⟩ = false := frozen_in z1
    have c3 : w1.cell? ⟨w.heap.size, 3, none⟩ = some (Value.slice none 0 0) := cell_in z1
    have g3 : w1.frozen? ⟨w.heap.size, 3, none⟩ = false := frozen_in z1
    have c4 : w1.cell? ⟨w.heap.size, 4, none⟩ = some (Value.slice none 0 0) := cell_in z1
    have g4 : w1.frozen? ⟨w.heap.size, 4, none⟩ = false := frozen_in z1
    have c5 : w1.cell? ⟨w.heap.size, 5, none⟩ = some (Value.slice none 0 0) := cell_in z1
    have g5 : w1.frozen? ⟨w.heap.size, 5, none⟩ = false := frozen_in z1
    have lz := lt_in z1
    have HZ := Lib.hid z1
    clear z1 hq
    go_wp2
    have hW : ((((((w1.setCell ⟨w.heap.size, 0, none⟩ (Value.int IntKind.i64 0)).setCell ⟨w.heap.size, 1, none⟩ (Value.int IntKind.i64 0)).setCell ⟨w.heap.size, 2, none⟩ (Value.int IntKind.i64 0)).setCell ⟨w.heap.size, 3, none⟩ (Value.slice none 0 0)).setCell ⟨w.heap.size, 4, none⟩ (Value.slice none 0 0)).setCell ⟨w.heap.size, 5, none⟩ (Value.slice none 0 0)) = puts w1 w.heap.size 0 [Value.int IntKind.i64 0, Value.int IntKind.i64 0, Value.int IntKind.i64 0, Value.slice none 0 0, Value.slice none 0 0, Value.slice none 0 0] := rfl
    rw [hW]
    have h1 : (puts w1 w.heap.size 0 [Value.int IntKind.i64 0, Value.int IntKind.i64 0, Value.int IntKind.i64 0, Value.slice none 0 0, Value.slice none 0 0, Value.slice none 0 0]).heap[w.heap.size]? = some (.cells #[Value.int IntKind.i64 0, Value.int IntKind.i64 0, Value.int IntKind.i64 0, Value.slice none 0 0, Value.slice none 0 0, Value.slice none 0 0] 38) := puts_heap _ _ [Value.int IntKind.i64 0, Value.int IntKind.i64 0, Value.int IntKind.i64 0, Value.slice none 0 0, Value.slice none 0 0, Value.slice none 0 0] w1 [] [Value.int IntKind.i64 0, Value.int IntKind.i64 0, Value.int IntKind.i64 0, Value.slice none 0 0, Value.slice none 0 0, Value.slice none 0 0] HZ.out rfl
    have k2 := puts_kept w.heap.size [Value.int IntKind.i64 0, Value.int IntKind.i64 0, Value.int IntKind.i64 0, Value.slice none 0 0, Value.slice none 0 0, Value.slice none 0 0] w1 0
    generalize puts w1 w.heap.size 0 [Value.int IntKind.i64 0, Value.int IntKind.i64 0, Value.int IntKind.i64 0, Value.slice none 0 0, Value.slice none 0 0, Value.slice none 0 0] = w2 at h1 k2 ⊢
    have K3 : Kept (fun _ => False) w w2 := (ka.trans k1).thn k2 (fun i hi => .inr (by omega))
    have y0 : w2.cell? ⟨w.heap.size, 0, none⟩ = some (Value.int IntKind.i64 0) := cell_in h1
    have y1 : w2.cell? ⟨w.heap.size, 1, none⟩ = some (Value.int IntKind.i64 0) := cell_in h1
    have y2 : w2.cell? ⟨w.heap.size, 2, none⟩ = some (Value.int IntKind.i64 0) := cell_in h1
    have y3 : w2.cell? ⟨w.heap.size, 3, none⟩ = some (Value.slice none 0 0) := cell_in h1
    have y4 : w2.cell? ⟨w.heap.size, 4, none⟩ = some (Value.slice none 0 0) := cell_in h1
    have y5 : w2.cell? ⟨w.heap.size, 5, none⟩ = some (Value.slice none 0 0) := cell_in h1
    refine bodyPost_ret (v := .tuple #[.agg #[Value.int IntKind.i64 0, Value.int IntKind.i64 0, Value.int IntKind.i64 0, Value.slice none 0 0, Value.slice none 0 0, Value.slice none 0 0], .int .i64 74]) (by simp [results, Tryz.results18, go_sem, y0, y1, y2, y3, y4, y5]) rfl ?_
    exact ⟨K3, .inr ⟨HP.out, rfl⟩⟩
/-- The deferred closure, in a frame that panics so. -/
theorem catchTx_bad {w : World} (p q : Nat) {cur : Array Value} {n : Int} (hp : w.heap[p]? = some (.cells cur 80)) (hcs : cur.size = 1) (hq : w.heap[q]? = some (.cells #[.int .i64 n] 39)) :
    CallsD Tryz.prog 125 #[.pointer (some ⟨p, 0, none⟩), .pointer (some ⟨q, 0, none⟩)] (.panicking wrongP) w fun e u' w' =>
      e = .returned (.tuple #[]) ∧ u' = .panicking [{ v := .iface 135 (.agg #[]), recovered := true }] ∧ w'.heap[p]? = some (.cells #[Value.slice none 0 0] 80) ∧ w'.heap[q]? = some (.cells #[.int .i64 74] 39) ∧ Kept (fun k => k = p ∨ k = q) w w' := by
  refine callsD_of_wpS Tryz.func125 rfl fun c₀ cs hu => ?_
  have hpq : p ≠ q := fun e => by
    subst e
    rw [hp] at hq
    have := congrArg (fun o => match o with | some (Obj.cells _ t _) => t | _ => 0) hq
    simp at this
  obtain ⟨lc⟩ := cur
  match lc, hcs with
  | [v0], _ =>
  have z0 : w.cell? ⟨p, 0, none⟩ = some v0 := cell_in hp
  have f0 : w.frozen? ⟨p, 0, none⟩ = false := frozen_in hp
  have zq : w.cell? ⟨q, 0, none⟩ = some (.int .i64 n) := cell_in hq
  have fq : w.frozen? ⟨q, 0, none⟩ = false := frozen_in hq
  have lp := lt_in hp
  have lq := lt_in hq
  have HP := Lib.hid hp
  have HQ := Lib.hid hq
  clear hp hq
  apply wpS_seq
  apply wpS_region
  simp [wpOpsS, go_sem, recoverD, hu, wrongP, Tryz.ntmps125, Exit.thenS]
  have hT : (#[Value.pointer (some ⟨p, 0, none⟩), Value.pointer (some ⟨q, 0, none⟩)] ++ ((Array.replicate 16 undef).setIfInBounds 4 (Value.iface 135 (Value.agg #[]))).setIfInBounds 0 (Value.iface 135 (Value.agg #[])) : Array Value) = #[Value.pointer (some ⟨p, 0, none⟩), Value.pointer (some ⟨q, 0, none⟩), (Value.iface 135 (Value.agg #[])), undef, undef, undef, (Value.iface 135 (Value.agg #[])), undef, undef, undef, undef, undef, undef, undef, undef, undef, undef, undef] := rfl
  rw [hT]
  have hta : ∀ w, (Instr.typeAssert (Value.iface 135 (Value.agg #[])) 20 135 true).run Tryz.prog w = .ok (.tuple #[.agg #[], .bool true]) w := fun _ => by kernel_rfl
  refine wpS_of_wp ?_
  go_wp2
  have hW : (w.setCell ⟨p, 0, none⟩ (Value.slice none 0 0)) = puts w p 0 [Value.slice none 0 0] := rfl
  rw [hW]
  have h1 : (puts w p 0 [Value.slice none 0 0]).heap[p]? = some (.cells #[Value.slice none 0 0] 80) := puts_heap p _ [Value.slice none 0 0] w [] [v0] HP.out rfl
  have k1 := puts_kept p [Value.slice none 0 0] w 0
  have h2 := (k1.block q lq (fun h => hpq h.symm)).trans HQ.out
  generalize puts w p 0 [Value.slice none 0 0] = w1 at h1 h2 k1 ⊢
  have h3 := heap_setCell_same (o := 0) h2 (.int .i64 74)
  have h4 : (w1.setCell ⟨q, 0, none⟩ (.int .i64 74)).heap[p]? = _ := ((Kept.setCell (F := (· = q)) _ ⟨q, 0, none⟩ (.int .i64 74) rfl).block p (lt_in h1) (fun h => hpq h)).trans h1
  have k4 : Kept (fun k => k = p ∨ k = q) w (w1.setCell ⟨q, 0, none⟩ (.int .i64 74)) := (k1.mono (fun _ _ h => .inl h)).st _ (.inl (.inr rfl))
  generalize w1.setCell ⟨q, 0, none⟩ (.int .i64 74) = w2 at h3 h4 k4 ⊢
  obtain ⟨k5, -, -⟩ := two_new w2 (Obj.cells #[] 135) (Obj.cells #[Value.slice none 0 0] 80)
  have y1 := (k5.block p (lt_in h4) (fun h => h)).trans h4
  have y2 := (k5.block q (lt_in h3) (fun h => h)).trans h3
  have yk := k4.trans (k5.mono (fun _ _ h => h.elim))
  generalize (w2.alloc (Obj.cells #[] 135)).alloc (Obj.cells #[Value.slice none 0 0] 80) = w3 at y1 y2 yk ⊢
  clear h1 h2 h3 h4 hT hta
  simp only [bodyPostS, results, Tryz.results125]
  simp
  exact ⟨y1, y2, yk⟩
/-- The deferred closure, in a frame that returns. -/
theorem catchTx_ok {w : World} (p q : Nat) :
    CallsD Tryz.prog 125 #[.pointer (some ⟨p, 0, none⟩), .pointer (some ⟨q, 0, none⟩)] .returning w fun e u' w' => e = .returned (.tuple #[]) ∧ u' = .returning ∧ w = w' := by
  refine callsD_of_wpS Tryz.func125 rfl fun c₀ cs hu => ?_
  apply wpS_seq
  apply wpS_region
  simp [wpOpsS, go_sem, recoverD, hu, Tryz.ntmps125, Exit.thenS]
  have hT : (#[Value.pointer (some ⟨p, 0, none⟩), Value.pointer (some ⟨q, 0, none⟩)] ++ ((Array.replicate 16 undef).setIfInBounds 4 Value.nilIface).setIfInBounds 0 Value.nilIface : Array Value) = #[Value.pointer (some ⟨p, 0, none⟩), Value.pointer (some ⟨q, 0, none⟩), Value.nilIface, undef, undef, undef, Value.nilIface, undef, undef, undef, undef, undef, undef, undef, undef, undef, undef, undef] := rfl
  rw [hT]
  refine wpS_of_wp ?_
  go_wp2
  simp only [bodyPostS, results, Tryz.results125]
  simp [hu]
  rw [← hu]
theorem readTx_c {w : World} {v : Value} {bs : List UInt8} {g : Option Nat} (hr : Reads w 1 v bs.length (bs.map bv) g) (hgl : ∀ k, g = some k → k < w.heap.size) (hm : bs.length ≤ 140737488351232) :
    Calls Tryz.prog 50 #[v, .func (.func 51) #[] #[]] w (Took TxT.Is pTx [Value.slice none 0 0] bs w) := by
  obtain ⟨a, cp, rfl, hc⟩ := hr.shape
  have hmf : ∀ (fn : Fn) (first cap : Array Value) (w : World), (Instr.makeFunc fn first cap).run Tryz.prog w = .ok (.func fn first cap) w := fun _ _ _ _ => rfl
  go_enter_defers Tryz.func50, Tryz.ntmps50
  go_wp2_with fail
  obtain ⟨K0, x1, x2⟩ := two_new w (Obj.cells #[Value.slice none 0 0] 80) (Obj.cells #[Value.int IntKind.i64 0] 39)
  have hs0 : ((w.alloc (Obj.cells #[Value.slice none 0 0] 80)).alloc (Obj.cells #[Value.int IntKind.i64 0] 39)).heap.size = w.heap.size + 1 + 1 := by simp
  generalize (w.alloc (Obj.cells #[Value.slice none 0 0] 80)).alloc (Obj.cells #[Value.int IntKind.i64 0] 39) = wz at K0 x1 x2 hs0 ⊢
  have x3 : (wz.alloc (Obj.cells #[Value.slice none 0 0, Value.slice a bs.length cp, Value.bool true] 138)).heap[wz.heap.size]? = some (Obj.cells #[Value.slice none 0 0, Value.slice a bs.length cp, Value.bool true] 138) := heap_alloc_new' _ _
  rw [hs0] at x3
  have y1 : (wz.alloc (Obj.cells #[Value.slice none 0 0, Value.slice a bs.length cp, Value.bool true] 138)).heap[w.heap.size]? = _ := (Below.heap_alloc _ _ _ (lt_in x1)).trans x1
  have y2 : (wz.alloc (Obj.cells #[Value.slice none 0 0, Value.slice a bs.length cp, Value.bool true] 138)).heap[w.heap.size + 1]? = _ := (Below.heap_alloc _ _ _ (lt_in x2)).trans x2
  have K1 := K0.al (Obj.cells #[Value.slice none 0 0, Value.slice a bs.length cp, Value.bool true] 138)
  generalize wz.alloc (Obj.cells #[Value.slice none 0 0, Value.slice a bs.length cp, Value.bool true] 138) = w0 at x3 y1 y2 K1 ⊢
  clear x1 x2 hs0
  have r0 := hr.kept K1 (fun _ _ h => h)
  have sK := K1.size
  have RD : Rd w0 (w.heap.size + 1 + 1) bs g := ⟨⟨_, x3, r0⟩, fun k hk => by have := hgl k hk; omega, hm⟩
  have BK : Blk w0 w.heap.size #[Value.slice none 0 0] 80 (w.heap.size + 1 + 1) g := ⟨y1, by omega, fun e => by have := hgl _ e; omega⟩
  refine (txG_c RD (fun k hk => by have := hgl k hk; omega) BK (o := 0) (by intro f hf; simp)).mono ?_
  rintro e w1 ⟨k1, ⟨hp, rfl, hwas⟩ | ⟨x, r1, cur1, cs, hp, rfl, H1, B1, P1, hx⟩⟩
  · obtain ⟨cur1, z1, hcs⟩ := hwas
    have z2 : w1.heap[w.heap.size + 1]? = _ := (k1.block _ (lt_in y2) (fun h => by omega)).trans y2
    have K2 := K1.thn k1 (fun i hi => .inr (by omega))
    clear x3 y1 y2 r0 RD BK
    refine leaves_cons (f := 125) (args := #[.pointer (some ⟨w.heap.size, 0, none⟩), .pointer (some ⟨w.heap.size + 1, 0, none⟩)]) (by simp) (by simp [go_sem]) ?_
    refine (catchTx_bad w.heap.size (w.heap.size + 1) z1 hcs z2).mono ?_
    rintro e u' w2 ⟨rfl, rfl, q1, q2, k2⟩
    have c0 : w2.cell? ⟨w.heap.size, 0, none⟩ = some (Value.slice none 0 0) := cell_in q1
    have cE : w2.cell? ⟨w.heap.size + 1, 0, none⟩ = some (.int .i64 74) := cell_in q2
    have K3 : Kept (fun _ => False) w w2 := K2.thn k2 (fun i hi => .inr (by omega))
    clear q1 q2
    simp [Leaves, settle, results, Tryz.results50, go_sem, c0, cE]
    exact ⟨K3, .inr ⟨fun x h => (by rw [hp] at h; cases h), rfl⟩⟩
  have hx0 := hx
  obtain ⟨u0, rfl, l0⟩ := hx
  obtain ⟨au0, cu0, rfl, -⟩ := l0.shape
  obtain rfl : cur1 = #[Value.slice au0 x.steps.length cu0] := P1.full rfl
  obtain ⟨vi, h2, h3⟩ := H1.ex
  obtain ⟨ai, ci, rfl, -⟩ := h3.shape
  have z2 : w1.heap[w.heap.size + 1]? = _ := (k1.block _ (lt_in y2) (fun h => by omega)).trans y2
  have K2 := K1.thn k1 (fun i hi => .inr (by omega))
  have s1 := k1.size
  have d1 : w1.cell? ⟨w.heap.size + 1 + 1, 1, none⟩ = some (.slice ai r1.length ci) := cell_in h2
  have l1 := lt_in h2
  have z1 := B1.heap
  have xn : TxT.Is w1 (New w w1) _ x := TxT.stable _ _ _ _ _ _ hx0 (fun k hk => ⟨by have := hk.1; omega, hk.2⟩) (fun _ _ => rfl)
  have HX := Lib.hid xn
  have HP := Lib.hid hp
  clear x3 y1 y2 r0 RD BK hx0 xn h2 h3 H1 hp P1
  by_cases hr1 : r1 = []
  · subst hr1
    have c0 : w1.cell? ⟨w.heap.size, 0, none⟩ = some (Value.slice au0 x.steps.length cu0) := cell_in z1
    have g0 : w1.frozen? ⟨w.heap.size, 0, none⟩ = false := frozen_in z1
    have e0 := setCell_same' c0
    have cE : w1.cell? ⟨w.heap.size + 1, 0, none⟩ = some (.int .i64 0) := cell_in z2
    have gE : w1.frozen? ⟨w.heap.size + 1, 0, none⟩ = false := frozen_in z2
    have eE := setCell_same' cE
    have lz1 := lt_in z1
    have lz2 := lt_in z2
    simp only [List.length_nil] at d1
    clear z1 z2 B1
    go_wp2
    refine leaves_cons (f := 125) (args := #[.pointer (some ⟨w.heap.size, 0, none⟩), .pointer (some ⟨w.heap.size + 1, 0, none⟩)]) (by simp) (by simp [go_sem]) ?_
    refine (catchTx_ok w.heap.size (w.heap.size + 1)).mono ?_
    rintro e u' w2 ⟨rfl, rfl, rfl⟩
    simp [Leaves, settle, results, Tryz.results50, go_sem, c0, cE]
    exact ⟨K2, .inl ⟨x, _, HP.out, rfl, HX.out⟩⟩
  · have hpos : (0 : Int) < (r1.length : Int) := by
      have := List.length_pos_iff.2 hr1
      omega
    go_wp2
    refine leaves_cons (f := 125) (args := #[.pointer (some ⟨w.heap.size, 0, none⟩), .pointer (some ⟨w.heap.size + 1, 0, none⟩)]) (by simp) (by simp [go_sem]) ?_
    refine (catchTx_bad w.heap.size (w.heap.size + 1) z1 rfl z2).mono ?_
    rintro e u' w2 ⟨rfl, rfl, q1, q2, k2⟩
    have c0 : w2.cell? ⟨w.heap.size, 0, none⟩ = some (Value.slice none 0 0) := cell_in q1
    have cE : w2.cell? ⟨w.heap.size + 1, 0, none⟩ = some (.int .i64 74) := cell_in q2
    have K3 : Kept (fun _ => False) w w2 := K2.thn k2 (fun i hi => .inr (by omega))
    clear q1 q2
    simp [Leaves, settle, results, Tryz.results50, go_sem, c0, cE]
    exact ⟨K3, .inr ⟨fun x h => hr1 (by rw [HP.out] at h; simp at h; exact h.2), rfl⟩⟩
theorem decTx_c {w : World} {v : Value} {bs : List UInt8} {g : Option Nat} (hr : Reads w 1 v bs.length (bs.map bv) g) (hgl : ∀ k, g = some k → k < w.heap.size) (hm : bs.length ≤ 140737488351232) :
    Calls Tryz.prog 22 #[v] w (Took TxT.Is pTx [Value.slice none 0 0] bs w) := by
  have ka := Kept.alloc (fun _ => False) w (Obj.cells #[Value.slice none 0 0] 80)
  have hq : (w.alloc (Obj.cells #[Value.slice none 0 0] 80)).heap[w.heap.size]? = some (Obj.cells #[Value.slice none 0 0] 80) := heap_alloc_new' _ _
  have sz : (w.alloc (Obj.cells #[Value.slice none 0 0] 80)).heap.size = w.heap.size + 1 := by simp
  obtain ⟨a, cp, rfl, hc⟩ := hr.shape
  go_enter Tryz.func22, Tryz.ntmps22
  go_wp2_with fail
  generalize w.alloc (Obj.cells #[Value.slice none 0 0] 80) = w0 at ka hq sz ⊢
  refine (readTx_c (hr.kept ka (fun _ _ h => h)) (fun k hk => by have := hgl k hk; omega) hm).mono ?_
  rintro e w1 ⟨k1, ⟨x, cs, hp, rfl, hx⟩ | ⟨hp, rfl⟩⟩
  · have hx0 := hx
    obtain ⟨u0, rfl, l0⟩ := hx
    obtain ⟨au0, cu0, rfl, -⟩ := l0.shape
    have z1 := (k1.block _ (lt_in hq) (fun h => h)).trans hq
    have HX := Lib.hid hx0
    have HP := Lib.hid hp
    clear hx0 hp
    have c0 : w1.cell? ⟨w.heap.size, 0, none⟩ = some (Value.slice none 0 0) := cell_in z1
    have g0 : w1.frozen? ⟨w.heap.size, 0, none⟩ = false := frozen_in z1
    have lz := lt_in z1
    have HZ := Lib.hid z1
    clear z1 hq
    go_wp2
    have hW : (w1.setCell ⟨w.heap.size, 0, none⟩ (Value.slice au0 x.steps.length cu0)) = puts w1 w.heap.size 0 [Value.slice au0 x.steps.length cu0] := rfl
    rw [hW]
    have h1 : (puts w1 w.heap.size 0 [Value.slice au0 x.steps.length cu0]).heap[w.heap.size]? = some (.cells #[Value.slice au0 x.steps.length cu0] 80) := puts_heap _ _ [Value.slice au0 x.steps.length cu0] w1 [] [Value.slice none 0 0] HZ.out rfl
    have k2 := puts_kept w.heap.size [Value.slice au0 x.steps.length cu0] w1 0
    generalize puts w1 w.heap.size 0 [Value.slice au0 x.steps.length cu0] = w2 at h1 k2 ⊢
    have K3 : Kept (fun _ => False) w w2 := (ka.trans k1).thn k2 (fun i hi => .inr (by omega))
    have y0 : w2.cell? ⟨w.heap.size, 0, none⟩ = some (Value.slice au0 x.steps.length cu0) := cell_in h1
    refine bodyPost_ret (v := .tuple #[.agg #[Value.slice au0 x.steps.length cu0], .int .i64 0]) (by simp [results, Tryz.results22, go_sem, y0]) rfl ?_
    have s2 := k2.size
    exact ⟨K3, .inl ⟨x, _, HP.out, rfl, TxT.stable _ _ _ _ _ _ HX.out (fun k hk => ⟨by have := hk.1; omega, by have := hk.2; omega⟩) (fun k hk => k2.block k hk.2 (fun e => by have := hk.1; omega))⟩⟩
  · have z1 := (k1.block _ (lt_in hq) (fun h => h)).trans hq
    have HP := Lib.hid hp
    clear hp
    have c0 : w1.cell? ⟨w.heap.size, 0, none⟩ = some (Value.slice none 0 0) := cell_in z1
    have g0 : w1.frozen? ⟨w.heap.size, 0, none⟩ = false := frozen_in z1
    have lz := lt_in z1
    have HZ := Lib.hid z1
    clear z1 hq
    go_wp2
    have hW : (w1.setCell ⟨w.heap.size, 0, none⟩ (Value.slice none 0 0)) = puts w1 w.heap.size 0 [Value.slice none 0 0] := rfl
    rw [hW]
    have h1 : (puts w1 w.heap.size 0 [Value.slice none 0 0]).heap[w.heap.size]? = some (.cells #[Value.slice none 0 0] 80) := puts_heap _ _ [Value.slice none 0 0] w1 [] [Value.slice none 0 0] HZ.out rfl
    have k2 := puts_kept w.heap.size [Value.slice none 0 0] w1 0
    generalize puts w1 w.heap.size 0 [Value.slice none 0 0] = w2 at h1 k2 ⊢
    have K3 : Kept (fun _ => False) w w2 := (ka.trans k1).thn k2 (fun i hi => .inr (by omega))
    have y0 : w2.cell? ⟨w.heap.size, 0, none⟩ = some (Value.slice none 0 0) := cell_in h1
    refine bodyPost_ret (v := .tuple #[.agg #[Value.slice none 0 0], .int .i64 74]) (by simp [results, Tryz.results22, go_sem, y0]) rfl ?_
    exact ⟨K3, .inr ⟨HP.out, rfl⟩⟩
end Go.Proofs.YtmbjealliinpdaaGreat
end

section

namespace Go.Proofs.YtmbjealliinpdaaGreat
open Go.RowKit
theorem listtextWrite_c {w : World} {c p o : Nat} {out : List UInt8} {g : Option Nat} (h : Writes w c out g) {S : Nat → Prop} (hS : ∀ k, S k → k < w.heap.size ∧ k ≠ c ∧ g ≠ some k) {v : Value} (xs : List ByteArray) (hl : ListIs 1 textIs w S v xs) (hv : Var w p o [v]) (hm : out.length + (leB 4 xs.length ++ xs.flatMap encT).length ≤ 140737488352000) :
    Calls Tryz.prog 77 #[.pointer (some ⟨c, 0, none⟩), .pointer (some ⟨p, o, none⟩), .func (.func 78) #[.pointer (some ⟨c, 0, none⟩)] #[]] w fun e w' => e = .returned (.tuple #[]) ∧ Wrote w w' c out g (leB 4 xs.length ++ xs.flatMap encT) := by
  obtain ⟨a, cp, rfl, hc⟩ := hl.shape
  have hnl := hl.small
  have p0 : w.cell? ⟨p, o, none⟩ = some (.slice a xs.length cp) := hv.cell (f := 0) (by simp)
  have hlp := hv.lt
  simp only [List.length_append, leB_length] at hm
  go_enter Tryz.func77, Tryz.ntmps77
  go_wp2_with fail
  refine (countWrite_c h xs.length (by omega) (by omega)).mono ?_
  rintro e w1 ⟨rfl, hW1⟩
  obtain ⟨L1, g1, S1⟩ := (Cod.start h).then hW1
  have c2 : w1.cell? ⟨c, 2, none⟩ = some (.bool false) := by
    obtain ⟨vo, h1, -⟩ := S1.writes.ex
    exact cell_in h1
  have hl1 : c < w1.heap.size := by
    obtain ⟨vo, h1, -⟩ := S1.writes.ex
    exact lt_in h1
  clear p0
  go_wp2
  go_loopw [22] (fun i w' => ∃ (k : Nat) (L : List UInt8) (gL : Option Nat), k ≤ xs.length ∧ i = .int .i64 k ∧ Cod w w' c out g (leB 4 xs.length ++ (xs.take k).flatMap encT) L gL) (fun i _ => xs.length - (intOf i).toNat)
  case atStart => exact ⟨0, L1, g1, by omega, rfl, S1.cast (by simp)⟩
  case round =>
    obtain ⟨k, L, gL, hk, rfl, SL⟩ := hrel
    by_cases hk2 : k < xs.length
    · have hki : (k : Int) < (xs.length : Int) := by omega
      have hd := SL.data hS
      obtain ⟨b, off, cs, rfl, hb, hcl, hcell, hr⟩ := (hl.heap (fun _ _ h => textIs_stable _ _ _ _ _ _ h (fun _ h => h) hd) (fun _ h => h) hd).at hk2
      have hfl := flatMap_le encT xs (k + 1)
      have hft := flatMap_take encT xs k hk2
      rw [hft, List.length_append] at hfl
      obtain ⟨e, he⟩ : ∃ e, e = xs[k] := ⟨_, rfl⟩
      rw [← he] at hr hft hfl
      have HFT := Lib.hid hft
      clear hft he hcl
      have hvr := SL.var h hv
      have p0 : wr.cell? ⟨p, o, none⟩ = some (.slice (some ⟨b, off, none⟩) xs.length cp) := hvr.cell (f := 0) (by simp)
      have l2 := hvr.lt
      have hr0 := hr
      obtain rfl := hr
      have y0 := hcell 0 (by omega)
      simp only [Nat.mul_one, Nat.add_zero, List.getElem?_cons_zero] at y0
      go_wp2_with fail
      have SA := SL.alloc (Obj.cells #[Value.string e] 9)
      have vA := var_new wr #[Value.string e] 9 (by decide) (by decide)
      generalize wr.alloc (Obj.cells #[Value.string e] 9) = wa at SA vA ⊢
      have hbnd := SA.len
      simp only [List.length_append, leB_length] at hbnd
      refine (textW_c SA.writes e vA (by omega)).mono ?_
      rintro _ w9 ⟨rfl, hG⟩
      obtain ⟨L9, g9, S9⟩ := SA.then hG
      have HS9 := Lib.hid (S9.cast (more' := leB 4 xs.length ++ (xs.take (k + 1)).flatMap encT) (by rw [HFT.out, List.append_assoc]))
      clear S9 hG
      go_wp2
      exact ⟨⟨k + 1, L9, g9, by omega, by simp, HS9.out⟩, by simp [intOf]; omega⟩
    · obtain rfl : k = xs.length := by omega
      go_wp2
      rw [List.take_length] at SL
      exact bodyPost_ret (v := .tuple #[]) (by simp [results, Tryz.results77]) rfl ⟨rfl, SL.done⟩
theorem versionWrite_c {w : World} {c p o : Nat} {out : List UInt8} {g : Option Nat} (h : Writes w c out g) (x : VersionT) (hi : in64 x.epoch ∧ in64 x.n) (hv : Var w p o [Value.int IntKind.i64 x.epoch, Value.int IntKind.i64 x.n]) (hm : out.length + x.enc.length ≤ 140737488352000) :
    Calls Tryz.prog 117 #[.pointer (some ⟨c, 0, none⟩), .pointer (some ⟨p, o, none⟩)] w fun e w' => e = .returned (.tuple #[]) ∧ Wrote w w' c out g x.enc := by
  have hmf : ∀ (fn : Fn) (first cap : Array Value) (w : World), (Instr.makeFunc fn first cap).run Tryz.prog w = .ok (.func fn first cap) w := fun _ _ _ _ => rfl
  obtain ⟨i0, i1⟩ := hi
  simp only [VersionT.enc, List.length_append, List.length_nil, encI_length, bB_length, leB_length, encT_length, encBy_length] at hm
  simp only [VersionT.enc]
  have hlp := hv.lt
  have S0 := Cod.start h
  go_enter Tryz.func117, Tryz.ntmps117
  have lv0 := (S0.var h hv).lt
  go_wp2
  refine wp_region_ord [1, 2, 3, 4, 5, 6] [0] [7, 8] (by kernel_rfl) (by kernel_rfl) (fun _ _ d _ _ h => by cases d <;> exact h) ?_
  simp only [sel, List.filterMap_cons, List.filterMap_nil, List.getElem?_cons_zero, List.getElem?_cons_succ]
  repeat (quiet_step (fail))
  refine wpQuiet_nil ?_
  refine wpIdle_step (fun K hK => ?_)
  go_simp
  refine hK _ ?_
  clear hK
  refine wpIdle_nil ?_
  rintro _ ⟨nr, rfl⟩
  have T0 := S0.dN nr
  generalize w.drewN nr = y0 at T0 ⊢
  go_wp2_with fail
  have U0 := T0.alloc (Obj.cells #[Value.pointer (some ⟨p, o, none⟩), Value.pointer (some ⟨p, o + 1, none⟩)] 141)
  have r0 := (own_alloc y0 [Value.pointer (some ⟨p, o, none⟩), Value.pointer (some ⟨p, o + 1, none⟩)] 141 2 rfl (by decide)).reads
  generalize y0.alloc (Obj.cells #[Value.pointer (some ⟨p, o, none⟩), Value.pointer (some ⟨p, o + 1, none⟩)] 141) = z0 at U0 r0 ⊢
  have hq0 : ∀ q ∈ ([⟨p, o, x.epoch⟩, ⟨p, o + 1, x.n⟩] : List Place), Var z0 q.p q.o [.int .i64 q.n] ∧ in64 q.n := by
    intro q hq
    simp only [List.mem_cons, List.not_mem_nil, or_false] at hq
    rcases hq with rfl | rfl
    · exact ⟨(U0.var h hv).sub (i := 0) (by intro f hf; simp at hf; subst hf; simp), i0⟩
    · exact ⟨(U0.var h hv).sub (i := 1) (by intro f hf; simp at hf; subst hf; simp), i1⟩
  have hyc0 : y0.heap.size ≠ c ∧ g ≠ some y0.heap.size := by
    obtain ⟨vo, h1, h2⟩ := T0.writes.ex
    exact ⟨Nat.ne_of_gt (lt_in h1), fun e => absurd (h2.lt _ e) (by omega)⟩
  refine (numsWrite_c (ps := [⟨p, o, x.epoch⟩, ⟨p, o + 1, x.n⟩]) U0.writes (gp := some y0.heap.size) r0 (fun k hk => by cases hk; exact hyc0) hq0 (by simp) (by have := U0.len; simp only [List.length_append, List.length_nil, encI_length, bB_length, leB_length, encT_length, encBy_length] at this; omega)).mono ?_
  rintro _ w1 ⟨rfl, hW1⟩
  obtain ⟨L1, g1, Q1⟩ := U0.then hW1
  have S1 := Q1.cast (more' := [] ++ encI x.epoch ++ encI x.n) (by simp [Place.enc])
  clear Q1
  go_wp2
  exact bodyPost_end (v := .tuple #[]) (by simp [results, Tryz.results117]) rfl ⟨rfl, S1.done⟩
theorem pgWrite_c {w : World} {c p o : Nat} {out : List UInt8} {g : Option Nat} (h : Writes w c out g) (x : PgT) (hi : in64 x.pool ∧ in64 x.seed) (hv : Var w p o [Value.int IntKind.i64 x.pool, Value.int IntKind.i64 x.seed]) (hm : out.length + x.enc.length ≤ 140737488352000) :
    Calls Tryz.prog 65 #[.pointer (some ⟨c, 0, none⟩), .pointer (some ⟨p, o, none⟩)] w fun e w' => e = .returned (.tuple #[]) ∧ Wrote w w' c out g x.enc := by
  have hmf : ∀ (fn : Fn) (first cap : Array Value) (w : World), (Instr.makeFunc fn first cap).run Tryz.prog w = .ok (.func fn first cap) w := fun _ _ _ _ => rfl
  obtain ⟨i0, i1⟩ := hi
  simp only [PgT.enc, List.length_append, List.length_nil, encI_length, bB_length, leB_length, encT_length, encBy_length] at hm
  simp only [PgT.enc]
  have hlp := hv.lt
  have S0 := Cod.start h
  go_enter Tryz.func65, Tryz.ntmps65
  have lv0 := (S0.var h hv).lt
  go_wp2
  refine wp_region_ord [1, 2, 3, 4, 5, 6] [0] [7, 8] (by kernel_rfl) (by kernel_rfl) (fun _ _ d _ _ h => by cases d <;> exact h) ?_
  simp only [sel, List.filterMap_cons, List.filterMap_nil, List.getElem?_cons_zero, List.getElem?_cons_succ]
  repeat (quiet_step (fail))
  refine wpQuiet_nil ?_
  refine wpIdle_step (fun K hK => ?_)
  go_simp
  refine hK _ ?_
  clear hK
  refine wpIdle_nil ?_
  rintro _ ⟨nr, rfl⟩
  have T0 := S0.dN nr
  generalize w.drewN nr = y0 at T0 ⊢
  go_wp2_with fail
  have U0 := T0.alloc (Obj.cells #[Value.pointer (some ⟨p, o, none⟩), Value.pointer (some ⟨p, o + 1, none⟩)] 141)
  have r0 := (own_alloc y0 [Value.pointer (some ⟨p, o, none⟩), Value.pointer (some ⟨p, o + 1, none⟩)] 141 2 rfl (by decide)).reads
  generalize y0.alloc (Obj.cells #[Value.pointer (some ⟨p, o, none⟩), Value.pointer (some ⟨p, o + 1, none⟩)] 141) = z0 at U0 r0 ⊢
  have hq0 : ∀ q ∈ ([⟨p, o, x.pool⟩, ⟨p, o + 1, x.seed⟩] : List Place), Var z0 q.p q.o [.int .i64 q.n] ∧ in64 q.n := by
    intro q hq
    simp only [List.mem_cons, List.not_mem_nil, or_false] at hq
    rcases hq with rfl | rfl
    · exact ⟨(U0.var h hv).sub (i := 0) (by intro f hf; simp at hf; subst hf; simp), i0⟩
    · exact ⟨(U0.var h hv).sub (i := 1) (by intro f hf; simp at hf; subst hf; simp), i1⟩
  have hyc0 : y0.heap.size ≠ c ∧ g ≠ some y0.heap.size := by
    obtain ⟨vo, h1, h2⟩ := T0.writes.ex
    exact ⟨Nat.ne_of_gt (lt_in h1), fun e => absurd (h2.lt _ e) (by omega)⟩
  refine (numsWrite_c (ps := [⟨p, o, x.pool⟩, ⟨p, o + 1, x.seed⟩]) U0.writes (gp := some y0.heap.size) r0 (fun k hk => by cases hk; exact hyc0) hq0 (by simp) (by have := U0.len; simp only [List.length_append, List.length_nil, encI_length, bB_length, leB_length, encT_length, encBy_length] at this; omega)).mono ?_
  rintro _ w1 ⟨rfl, hW1⟩
  obtain ⟨L1, g1, Q1⟩ := U0.then hW1
  have S1 := Q1.cast (more' := [] ++ encI x.pool ++ encI x.seed) (by simp [Place.enc])
  clear Q1
  go_wp2
  exact bodyPost_end (v := .tuple #[]) (by simp [results, Tryz.results65]) rfl ⟨rfl, S1.done⟩
theorem entryWrite_c {w : World} {c p o : Nat} {out : List UInt8} {g : Option Nat} (h : Writes w c out g) (x : EntryT) (hi : in64 x.version.epoch ∧ in64 x.version.n ∧ in64 x.errno ∧ in64 x.client ∧ in64 x.number) (hv : Var w p o [Value.int IntKind.i64 x.version.epoch, Value.int IntKind.i64 x.version.n, Value.bool x.remove, Value.int IntKind.i64 x.errno, Value.string x.name, Value.int IntKind.i64 x.client, Value.int IntKind.i64 x.number]) (hm : out.length + x.enc.length ≤ 140737488352000) :
    Calls Tryz.prog 72 #[.pointer (some ⟨c, 0, none⟩), .pointer (some ⟨p, o, none⟩)] w fun e w' => e = .returned (.tuple #[]) ∧ Wrote w w' c out g x.enc := by
  have hmf : ∀ (fn : Fn) (first cap : Array Value) (w : World), (Instr.makeFunc fn first cap).run Tryz.prog w = .ok (.func fn first cap) w := fun _ _ _ _ => rfl
  obtain ⟨i0, i1, i2, i3, i4⟩ := hi
  simp only [EntryT.enc, List.length_append, List.length_nil, encI_length, bB_length, leB_length, encT_length, encBy_length] at hm
  simp only [EntryT.enc]
  have hlp := hv.lt
  have S0 := Cod.start h
  go_enter Tryz.func72, Tryz.ntmps72
  have hv0 : Var w p (o) [Value.int IntKind.i64 x.version.epoch, Value.int IntKind.i64 x.version.n] := (S0.var h hv).sub (i := 0) (by
    intro f hf
    simp only [List.length_cons, List.length_nil] at hf
    have : f = 0 ∨ f = 1 := by omega
    rcases this with rfl | rfl <;> simp)
  have lv0 := hv0.lt
  go_wp2_with fail
  refine (versionWrite_c S0.writes x.version ⟨i0, i1⟩ hv0 (by have := S0.len; simp only [List.length_append, List.length_nil, encI_length, bB_length, leB_length, encT_length, encBy_length] at this; omega)).mono ?_
  rintro _ w1 ⟨rfl, hW1⟩
  obtain ⟨L1, g1, S1⟩ := S0.then hW1
  have hv1 : Var w1 p (o + 2) [Value.bool x.remove] := (S1.var h hv).sub (i := 2) (by intro f hf; simp at hf; subst hf; simp)
  have lv1 := hv1.lt
  go_wp2_with fail
  refine (flagWrite_c S1.writes x.remove hv1 (by have := S1.len; simp only [List.length_append, List.length_nil, encI_length, bB_length, leB_length, encT_length, encBy_length] at this; omega)).mono ?_
  rintro _ w2 ⟨rfl, hW2⟩
  obtain ⟨L2, g2, S2⟩ := S1.then hW2
  have hv2 : Var w2 p (o + 3) [Value.int IntKind.i64 x.errno] := (S2.var h hv).sub (i := 3) (by intro f hf; simp at hf; subst hf; simp)
  have lv2 := hv2.lt
  go_wp2_with fail
  refine (errnoW_c S2.writes x.errno i2 hv2 (by have := S2.len; simp only [List.length_append, List.length_nil, encI_length, bB_length, leB_length, encT_length, encBy_length] at this; omega)).mono ?_
  rintro _ w3 ⟨rfl, hW3⟩
  obtain ⟨L3, g3, S3⟩ := S2.then hW3
  have hv3 : Var w3 p (o + 4) [Value.string x.name] := (S3.var h hv).sub (i := 4) (by intro f hf; simp at hf; subst hf; simp)
  have lv3 := hv3.lt
  go_wp2_with fail
  refine (textW_c S3.writes x.name hv3 (by have := S3.len; simp only [List.length_append, List.length_nil, encI_length, bB_length, leB_length, encT_length, encBy_length] at this ⊢; omega)).mono ?_
  rintro _ w4 ⟨rfl, hW4⟩
  obtain ⟨L4, g4, S4⟩ := S3.then hW4
  have lv4 := (S4.var h hv).lt
  go_wp2
  refine wp_region_ord [1, 2, 3, 4, 5, 6] [0] [7, 8] (by kernel_rfl) (by kernel_rfl) (fun _ _ d _ _ h => by cases d <;> exact h) ?_
  simp only [sel, List.filterMap_cons, List.filterMap_nil, List.getElem?_cons_zero, List.getElem?_cons_succ]
  repeat (quiet_step (fail))
  refine wpQuiet_nil ?_
  refine wpIdle_step (fun K hK => ?_)
  go_simp
  refine hK _ ?_
  clear hK
  refine wpIdle_nil ?_
  rintro _ ⟨nr, rfl⟩
  have T4 := S4.dN nr
  generalize w4.drewN nr = y4 at T4 ⊢
  go_wp2_with fail
  have U4 := T4.alloc (Obj.cells #[Value.pointer (some ⟨p, o + 5, none⟩), Value.pointer (some ⟨p, o + 6, none⟩)] 141)
  have r4 := (own_alloc y4 [Value.pointer (some ⟨p, o + 5, none⟩), Value.pointer (some ⟨p, o + 6, none⟩)] 141 2 rfl (by decide)).reads
  generalize y4.alloc (Obj.cells #[Value.pointer (some ⟨p, o + 5, none⟩), Value.pointer (some ⟨p, o + 6, none⟩)] 141) = z4 at U4 r4 ⊢
  have hq4 : ∀ q ∈ ([⟨p, o + 5, x.client⟩, ⟨p, o + 6, x.number⟩] : List Place), Var z4 q.p q.o [.int .i64 q.n] ∧ in64 q.n := by
    intro q hq
    simp only [List.mem_cons, List.not_mem_nil, or_false] at hq
    rcases hq with rfl | rfl
    · exact ⟨(U4.var h hv).sub (i := 5) (by intro f hf; simp at hf; subst hf; simp), i3⟩
    · exact ⟨(U4.var h hv).sub (i := 6) (by intro f hf; simp at hf; subst hf; simp), i4⟩
  have hyc4 : y4.heap.size ≠ c ∧ g4 ≠ some y4.heap.size := by
    obtain ⟨vo, h1, h2⟩ := T4.writes.ex
    exact ⟨Nat.ne_of_gt (lt_in h1), fun e => absurd (h2.lt _ e) (by omega)⟩
  refine (numsWrite_c (ps := [⟨p, o + 5, x.client⟩, ⟨p, o + 6, x.number⟩]) U4.writes (gp := some y4.heap.size) r4 (fun k hk => by cases hk; exact hyc4) hq4 (by simp) (by have := U4.len; simp only [List.length_append, List.length_nil, encI_length, bB_length, leB_length, encT_length, encBy_length] at this; omega)).mono ?_
  rintro _ w5 ⟨rfl, hW5⟩
  obtain ⟨L5, g5, Q5⟩ := U4.then hW5
  have S5 := Q5.cast (more' := [] ++ x.version.enc ++ bB x.remove ++ encI x.errno ++ encT x.name ++ encI x.client ++ encI x.number) (by simp [Place.enc])
  clear Q5
  go_wp2
  exact bodyPost_end (v := .tuple #[]) (by simp [results, Tryz.results72]) rfl ⟨rfl, S5.done⟩
theorem listEntryWrite_c {w : World} {c p o : Nat} {out : List UInt8} {g : Option Nat} (h : Writes w c out g) {S : Nat → Prop} (hS : ∀ k, S k → k < w.heap.size ∧ k ≠ c ∧ g ≠ some k) {v : Value} (xs : List EntryT) (hl : ListIs 7 EntryT.Is w S v xs) (hv : Var w p o [v]) (hm : out.length + (leB 4 xs.length ++ xs.flatMap EntryT.enc).length ≤ 140737488352000) :
    Calls Tryz.prog 118 #[.pointer (some ⟨c, 0, none⟩), .pointer (some ⟨p, o, none⟩), .func (.func 72) #[.pointer (some ⟨c, 0, none⟩)] #[]] w fun e w' => e = .returned (.tuple #[]) ∧ Wrote w w' c out g (leB 4 xs.length ++ xs.flatMap EntryT.enc) := by
  obtain ⟨a, cp, rfl, hc⟩ := hl.shape
  have hnl := hl.small
  have p0 : w.cell? ⟨p, o, none⟩ = some (.slice a xs.length cp) := hv.cell (f := 0) (by simp)
  have hlp := hv.lt
  simp only [List.length_append, leB_length] at hm
  go_enter Tryz.func118, Tryz.ntmps118
  go_wp2_with fail
  refine (countWrite_c h xs.length (by omega) (by omega)).mono ?_
  rintro e w1 ⟨rfl, hW1⟩
  obtain ⟨L1, g1, S1⟩ := (Cod.start h).then hW1
  have c2 : w1.cell? ⟨c, 2, none⟩ = some (.bool false) := by
    obtain ⟨vo, h1, -⟩ := S1.writes.ex
    exact cell_in h1
  have hl1 : c < w1.heap.size := by
    obtain ⟨vo, h1, -⟩ := S1.writes.ex
    exact lt_in h1
  clear p0
  go_wp2
  go_loopw [22] (fun i w' => ∃ (k : Nat) (L : List UInt8) (gL : Option Nat), k ≤ xs.length ∧ i = .int .i64 k ∧ Cod w w' c out g (leB 4 xs.length ++ (xs.take k).flatMap EntryT.enc) L gL) (fun i _ => xs.length - (intOf i).toNat)
  case atStart => exact ⟨0, L1, g1, by omega, rfl, S1.cast (by simp)⟩
  case round =>
    obtain ⟨k, L, gL, hk, rfl, SL⟩ := hrel
    by_cases hk2 : k < xs.length
    · have hki : (k : Int) < (xs.length : Int) := by omega
      have hd := SL.data hS
      obtain ⟨b, off, cs, rfl, hb, hcl, hcell, hr⟩ := (hl.heap (fun _ _ h => EntryT.Is.heap h) (fun _ h => h) hd).at hk2
      have hfl := flatMap_le EntryT.enc xs (k + 1)
      have hft := flatMap_take EntryT.enc xs k hk2
      rw [hft, List.length_append] at hfl
      obtain ⟨e, he⟩ : ∃ e, e = xs[k] := ⟨_, rfl⟩
      rw [← he] at hr hft hfl
      have HFT := Lib.hid hft
      clear hft he hcl
      have hvr := SL.var h hv
      have p0 : wr.cell? ⟨p, o, none⟩ = some (.slice (some ⟨b, off, none⟩) xs.length cp) := hvr.cell (f := 0) (by simp)
      have l2 := hvr.lt
      have hr0 := hr
      obtain ⟨rfl, j0, j1, j2, j3, j4⟩ := hr
      have y0 : wr.cell? ⟨b, off + k * 7, none⟩ = some (Value.int IntKind.i64 e.version.epoch) := hcell 0 (by omega)
      have y1 : wr.cell? ⟨b, off + k * 7 + 1, none⟩ = some (Value.int IntKind.i64 e.version.n) := hcell 1 (by omega)
      have y2 : wr.cell? ⟨b, off + k * 7 + 2, none⟩ = some (Value.bool e.remove) := hcell 2 (by omega)
      have y3 : wr.cell? ⟨b, off + k * 7 + 3, none⟩ = some (Value.int IntKind.i64 e.errno) := hcell 3 (by omega)
      have y4 : wr.cell? ⟨b, off + k * 7 + 4, none⟩ = some (Value.string e.name) := hcell 4 (by omega)
      have y5 : wr.cell? ⟨b, off + k * 7 + 5, none⟩ = some (Value.int IntKind.i64 e.client) := hcell 5 (by omega)
      have y6 : wr.cell? ⟨b, off + k * 7 + 6, none⟩ = some (Value.int IntKind.i64 e.number) := hcell 6 (by omega)
      go_wp2_with fail
      have SA := SL.alloc (Obj.cells #[Value.int IntKind.i64 e.version.epoch, Value.int IntKind.i64 e.version.n, Value.bool e.remove, Value.int IntKind.i64 e.errno, Value.string e.name, Value.int IntKind.i64 e.client, Value.int IntKind.i64 e.number] 41)
      have vA := var_new wr #[Value.int IntKind.i64 e.version.epoch, Value.int IntKind.i64 e.version.n, Value.bool e.remove, Value.int IntKind.i64 e.errno, Value.string e.name, Value.int IntKind.i64 e.client, Value.int IntKind.i64 e.number] 41 (by decide) (by decide)
      generalize wr.alloc (Obj.cells #[Value.int IntKind.i64 e.version.epoch, Value.int IntKind.i64 e.version.n, Value.bool e.remove, Value.int IntKind.i64 e.errno, Value.string e.name, Value.int IntKind.i64 e.client, Value.int IntKind.i64 e.number] 41) = wa at SA vA ⊢
      have hbnd := SA.len
      simp only [List.length_append, leB_length] at hbnd
      refine (entryWrite_c SA.writes e ⟨j0, j1, j2, j3, j4⟩ vA (by omega)).mono ?_
      rintro _ w9 ⟨rfl, hG⟩
      obtain ⟨L9, g9, S9⟩ := SA.then hG
      have HS9 := Lib.hid (S9.cast (more' := leB 4 xs.length ++ (xs.take (k + 1)).flatMap EntryT.enc) (by rw [HFT.out, List.append_assoc]))
      clear S9 hG
      go_wp2
      exact ⟨⟨k + 1, L9, g9, by omega, by simp, HS9.out⟩, by simp [intOf]; omega⟩
    · obtain rfl : k = xs.length := by omega
      go_wp2
      rw [List.take_length] at SL
      exact bodyPost_ret (v := .tuple #[]) (by simp [results, Tryz.results118]) rfl ⟨rfl, SL.done⟩
theorem lastWrite_c {w : World} {c p o : Nat} {out : List UInt8} {g : Option Nat} (h : Writes w c out g) (x : LastT) (hi : in64 x.client ∧ in64 x.number ∧ in64 x.errno ∧ in64 x.version.epoch ∧ in64 x.version.n) (hv : Var w p o [Value.int IntKind.i64 x.client, Value.int IntKind.i64 x.number, Value.int IntKind.i64 x.errno, Value.int IntKind.i64 x.version.epoch, Value.int IntKind.i64 x.version.n]) (hm : out.length + x.enc.length ≤ 140737488352000) :
    Calls Tryz.prog 120 #[.pointer (some ⟨c, 0, none⟩), .pointer (some ⟨p, o, none⟩)] w fun e w' => e = .returned (.tuple #[]) ∧ Wrote w w' c out g x.enc := by
  have hmf : ∀ (fn : Fn) (first cap : Array Value) (w : World), (Instr.makeFunc fn first cap).run Tryz.prog w = .ok (.func fn first cap) w := fun _ _ _ _ => rfl
  obtain ⟨i0, i1, i2, i3, i4⟩ := hi
  simp only [LastT.enc, List.length_append, List.length_nil, encI_length, bB_length, leB_length, encT_length, encBy_length] at hm
  simp only [LastT.enc]
  have hlp := hv.lt
  have S0 := Cod.start h
  go_enter Tryz.func120, Tryz.ntmps120
  have lv0 := (S0.var h hv).lt
  go_wp2
  refine wp_region_ord [1, 2, 3, 4, 5, 6] [0] [7, 8] (by kernel_rfl) (by kernel_rfl) (fun _ _ d _ _ h => by cases d <;> exact h) ?_
  simp only [sel, List.filterMap_cons, List.filterMap_nil, List.getElem?_cons_zero, List.getElem?_cons_succ]
  repeat (quiet_step (fail))
  refine wpQuiet_nil ?_
  refine wpIdle_step (fun K hK => ?_)
  go_simp
  refine hK _ ?_
  clear hK
  refine wpIdle_nil ?_
  rintro _ ⟨nr, rfl⟩
  have T0 := S0.dN nr
  generalize w.drewN nr = y0 at T0 ⊢
  go_wp2_with fail
  have U0 := T0.alloc (Obj.cells #[Value.pointer (some ⟨p, o, none⟩), Value.pointer (some ⟨p, o + 1, none⟩)] 141)
  have r0 := (own_alloc y0 [Value.pointer (some ⟨p, o, none⟩), Value.pointer (some ⟨p, o + 1, none⟩)] 141 2 rfl (by decide)).reads
  generalize y0.alloc (Obj.cells #[Value.pointer (some ⟨p, o, none⟩), Value.pointer (some ⟨p, o + 1, none⟩)] 141) = z0 at U0 r0 ⊢
  have hq0 : ∀ q ∈ ([⟨p, o, x.client⟩, ⟨p, o + 1, x.number⟩] : List Place), Var z0 q.p q.o [.int .i64 q.n] ∧ in64 q.n := by
    intro q hq
    simp only [List.mem_cons, List.not_mem_nil, or_false] at hq
    rcases hq with rfl | rfl
    · exact ⟨(U0.var h hv).sub (i := 0) (by intro f hf; simp at hf; subst hf; simp), i0⟩
    · exact ⟨(U0.var h hv).sub (i := 1) (by intro f hf; simp at hf; subst hf; simp), i1⟩
  have hyc0 : y0.heap.size ≠ c ∧ g ≠ some y0.heap.size := by
    obtain ⟨vo, h1, h2⟩ := T0.writes.ex
    exact ⟨Nat.ne_of_gt (lt_in h1), fun e => absurd (h2.lt _ e) (by omega)⟩
  refine (numsWrite_c (ps := [⟨p, o, x.client⟩, ⟨p, o + 1, x.number⟩]) U0.writes (gp := some y0.heap.size) r0 (fun k hk => by cases hk; exact hyc0) hq0 (by simp) (by have := U0.len; simp only [List.length_append, List.length_nil, encI_length, bB_length, leB_length, encT_length, encBy_length] at this; omega)).mono ?_
  rintro _ w1 ⟨rfl, hW1⟩
  obtain ⟨L1, g1, Q1⟩ := U0.then hW1
  have S1 := Q1.cast (more' := [] ++ encI x.client ++ encI x.number) (by simp [Place.enc])
  clear Q1
  have hv1 : Var w1 p (o + 2) [Value.int IntKind.i64 x.errno] := (S1.var h hv).sub (i := 2) (by intro f hf; simp at hf; subst hf; simp)
  have lv1 := hv1.lt
  go_wp2_with fail
  refine (errnoW_c S1.writes x.errno i2 hv1 (by have := S1.len; simp only [List.length_append, List.length_nil, encI_length, bB_length, leB_length, encT_length, encBy_length] at this; omega)).mono ?_
  rintro _ w2 ⟨rfl, hW2⟩
  obtain ⟨L2, g2, S2⟩ := S1.then hW2
  have hv2 : Var w2 p (o + 3) [Value.int IntKind.i64 x.version.epoch, Value.int IntKind.i64 x.version.n] := (S2.var h hv).sub (i := 3) (by
    intro f hf
    simp only [List.length_cons, List.length_nil] at hf
    have : f = 0 ∨ f = 1 := by omega
    rcases this with rfl | rfl <;> simp)
  have lv2 := hv2.lt
  go_wp2_with fail
  refine (versionWrite_c S2.writes x.version ⟨i3, i4⟩ hv2 (by have := S2.len; simp only [List.length_append, List.length_nil, encI_length, bB_length, leB_length, encT_length, encBy_length] at this; omega)).mono ?_
  rintro _ w3 ⟨rfl, hW3⟩
  obtain ⟨L3, g3, S3⟩ := S2.then hW3
  go_wp2
  exact bodyPost_end (v := .tuple #[]) (by simp [results, Tryz.results120]) rfl ⟨rfl, S3.done⟩
theorem listLastWrite_c {w : World} {c p o : Nat} {out : List UInt8} {g : Option Nat} (h : Writes w c out g) {S : Nat → Prop} (hS : ∀ k, S k → k < w.heap.size ∧ k ≠ c ∧ g ≠ some k) {v : Value} (xs : List LastT) (hl : ListIs 5 LastT.Is w S v xs) (hv : Var w p o [v]) (hm : out.length + (leB 4 xs.length ++ xs.flatMap LastT.enc).length ≤ 140737488352000) :
    Calls Tryz.prog 119 #[.pointer (some ⟨c, 0, none⟩), .pointer (some ⟨p, o, none⟩), .func (.func 120) #[.pointer (some ⟨c, 0, none⟩)] #[]] w fun e w' => e = .returned (.tuple #[]) ∧ Wrote w w' c out g (leB 4 xs.length ++ xs.flatMap LastT.enc) := by
  obtain ⟨a, cp, rfl, hc⟩ := hl.shape
  have hnl := hl.small
  have p0 : w.cell? ⟨p, o, none⟩ = some (.slice a xs.length cp) := hv.cell (f := 0) (by simp)
  have hlp := hv.lt
  simp only [List.length_append, leB_length] at hm
  go_enter Tryz.func119, Tryz.ntmps119
  go_wp2_with fail
  refine (countWrite_c h xs.length (by omega) (by omega)).mono ?_
  rintro e w1 ⟨rfl, hW1⟩
  obtain ⟨L1, g1, S1⟩ := (Cod.start h).then hW1
  have c2 : w1.cell? ⟨c, 2, none⟩ = some (.bool false) := by
    obtain ⟨vo, h1, -⟩ := S1.writes.ex
    exact cell_in h1
  have hl1 : c < w1.heap.size := by
    obtain ⟨vo, h1, -⟩ := S1.writes.ex
    exact lt_in h1
  clear p0
  go_wp2
  go_loopw [22] (fun i w' => ∃ (k : Nat) (L : List UInt8) (gL : Option Nat), k ≤ xs.length ∧ i = .int .i64 k ∧ Cod w w' c out g (leB 4 xs.length ++ (xs.take k).flatMap LastT.enc) L gL) (fun i _ => xs.length - (intOf i).toNat)
  case atStart => exact ⟨0, L1, g1, by omega, rfl, S1.cast (by simp)⟩
  case round =>
    obtain ⟨k, L, gL, hk, rfl, SL⟩ := hrel
    by_cases hk2 : k < xs.length
    · have hki : (k : Int) < (xs.length : Int) := by omega
      have hd := SL.data hS
      obtain ⟨b, off, cs, rfl, hb, hcl, hcell, hr⟩ := (hl.heap (fun _ _ h => LastT.Is.heap h) (fun _ h => h) hd).at hk2
      have hfl := flatMap_le LastT.enc xs (k + 1)
      have hft := flatMap_take LastT.enc xs k hk2
      rw [hft, List.length_append] at hfl
      obtain ⟨e, he⟩ : ∃ e, e = xs[k] := ⟨_, rfl⟩
      rw [← he] at hr hft hfl
      have HFT := Lib.hid hft
      clear hft he hcl
      have hvr := SL.var h hv
      have p0 : wr.cell? ⟨p, o, none⟩ = some (.slice (some ⟨b, off, none⟩) xs.length cp) := hvr.cell (f := 0) (by simp)
      have l2 := hvr.lt
      have hr0 := hr
      obtain ⟨rfl, j0, j1, j2, j3, j4⟩ := hr
      have y0 : wr.cell? ⟨b, off + k * 5, none⟩ = some (Value.int IntKind.i64 e.client) := hcell 0 (by omega)
      have y1 : wr.cell? ⟨b, off + k * 5 + 1, none⟩ = some (Value.int IntKind.i64 e.number) := hcell 1 (by omega)
      have y2 : wr.cell? ⟨b, off + k * 5 + 2, none⟩ = some (Value.int IntKind.i64 e.errno) := hcell 2 (by omega)
      have y3 : wr.cell? ⟨b, off + k * 5 + 3, none⟩ = some (Value.int IntKind.i64 e.version.epoch) := hcell 3 (by omega)
      have y4 : wr.cell? ⟨b, off + k * 5 + 4, none⟩ = some (Value.int IntKind.i64 e.version.n) := hcell 4 (by omega)
      go_wp2_with fail
      have SA := SL.alloc (Obj.cells #[Value.int IntKind.i64 e.client, Value.int IntKind.i64 e.number, Value.int IntKind.i64 e.errno, Value.int IntKind.i64 e.version.epoch, Value.int IntKind.i64 e.version.n] 229)
      have vA := var_new wr #[Value.int IntKind.i64 e.client, Value.int IntKind.i64 e.number, Value.int IntKind.i64 e.errno, Value.int IntKind.i64 e.version.epoch, Value.int IntKind.i64 e.version.n] 229 (by decide) (by decide)
      generalize wr.alloc (Obj.cells #[Value.int IntKind.i64 e.client, Value.int IntKind.i64 e.number, Value.int IntKind.i64 e.errno, Value.int IntKind.i64 e.version.epoch, Value.int IntKind.i64 e.version.n] 229) = wa at SA vA ⊢
      have hbnd := SA.len
      simp only [List.length_append, leB_length] at hbnd
      refine (lastWrite_c SA.writes e ⟨j0, j1, j2, j3, j4⟩ vA (by omega)).mono ?_
      rintro _ w9 ⟨rfl, hG⟩
      obtain ⟨L9, g9, S9⟩ := SA.then hG
      have HS9 := Lib.hid (S9.cast (more' := leB 4 xs.length ++ (xs.take (k + 1)).flatMap LastT.enc) (by rw [HFT.out, List.append_assoc]))
      clear S9 hG
      go_wp2
      exact ⟨⟨k + 1, L9, g9, by omega, by simp, HS9.out⟩, by simp [intOf]; omega⟩
    · obtain rfl : k = xs.length := by omega
      go_wp2
      rw [List.take_length] at SL
      exact bodyPost_ret (v := .tuple #[]) (by simp [results, Tryz.results119]) rfl ⟨rfl, SL.done⟩
theorem itemWrite_c {w : World} {c p o : Nat} {out : List UInt8} {g : Option Nat} (h : Writes w c out g) (x : ItemT) (hi : in64 x.version.epoch ∧ in64 x.version.n ∧ x.crc < 4294967296) (hv : Var w p o [Value.string x.name, Value.int IntKind.i64 x.version.epoch, Value.int IntKind.i64 x.version.n, Value.int IntKind.u32 (x.crc : Nat)]) (hm : out.length + x.enc.length ≤ 140737488352000) :
    Calls Tryz.prog 76 #[.pointer (some ⟨c, 0, none⟩), .pointer (some ⟨p, o, none⟩)] w fun e w' => e = .returned (.tuple #[]) ∧ Wrote w w' c out g x.enc := by
  have hmf : ∀ (fn : Fn) (first cap : Array Value) (w : World), (Instr.makeFunc fn first cap).run Tryz.prog w = .ok (.func fn first cap) w := fun _ _ _ _ => rfl
  obtain ⟨i0, i1, i2⟩ := hi
  simp only [ItemT.enc, List.length_append, List.length_nil, encI_length, bB_length, leB_length, encT_length, encBy_length] at hm
  simp only [ItemT.enc]
  have hlp := hv.lt
  have S0 := Cod.start h
  go_enter Tryz.func76, Tryz.ntmps76
  have hv0 : Var w p (o) [Value.string x.name] := (S0.var h hv).sub (i := 0) (by intro f hf; simp at hf; subst hf; simp)
  have lv0 := hv0.lt
  go_wp2_with fail
  refine (textW_c S0.writes x.name hv0 (by have := S0.len; simp only [List.length_append, List.length_nil, encI_length, bB_length, leB_length, encT_length, encBy_length] at this ⊢; omega)).mono ?_
  rintro _ w1 ⟨rfl, hW1⟩
  obtain ⟨L1, g1, S1⟩ := S0.then hW1
  have hv1 : Var w1 p (o + 1) [Value.int IntKind.i64 x.version.epoch, Value.int IntKind.i64 x.version.n] := (S1.var h hv).sub (i := 1) (by
    intro f hf
    simp only [List.length_cons, List.length_nil] at hf
    have : f = 0 ∨ f = 1 := by omega
    rcases this with rfl | rfl <;> simp)
  have lv1 := hv1.lt
  go_wp2_with fail
  refine (versionWrite_c S1.writes x.version ⟨i0, i1⟩ hv1 (by have := S1.len; simp only [List.length_append, List.length_nil, encI_length, bB_length, leB_length, encT_length, encBy_length] at this; omega)).mono ?_
  rintro _ w2 ⟨rfl, hW2⟩
  obtain ⟨L2, g2, S2⟩ := S1.then hW2
  have hv2 : Var w2 p (o + 3) [Value.int IntKind.u32 (x.crc : Nat)] := (S2.var h hv).sub (i := 3) (by intro f hf; simp at hf; subst hf; simp)
  have lv2 := hv2.lt
  go_wp2_with fail
  refine (crcW_c S2.writes x.crc i2 hv2 (by have := S2.len; simp only [List.length_append, List.length_nil, encI_length, bB_length, leB_length, encT_length, encBy_length] at this; omega)).mono ?_
  rintro _ w3 ⟨rfl, hW3⟩
  obtain ⟨L3, g3, S3⟩ := S2.then hW3
  go_wp2
  exact bodyPost_end (v := .tuple #[]) (by simp [results, Tryz.results76]) rfl ⟨rfl, S3.done⟩
theorem listItemWrite_c {w : World} {c p o : Nat} {out : List UInt8} {g : Option Nat} (h : Writes w c out g) {S : Nat → Prop} (hS : ∀ k, S k → k < w.heap.size ∧ k ≠ c ∧ g ≠ some k) {v : Value} (xs : List ItemT) (hl : ListIs 4 ItemT.Is w S v xs) (hv : Var w p o [v]) (hm : out.length + (leB 4 xs.length ++ xs.flatMap ItemT.enc).length ≤ 140737488352000) :
    Calls Tryz.prog 75 #[.pointer (some ⟨c, 0, none⟩), .pointer (some ⟨p, o, none⟩), .func (.func 76) #[.pointer (some ⟨c, 0, none⟩)] #[]] w fun e w' => e = .returned (.tuple #[]) ∧ Wrote w w' c out g (leB 4 xs.length ++ xs.flatMap ItemT.enc) := by
  obtain ⟨a, cp, rfl, hc⟩ := hl.shape
  have hnl := hl.small
  have p0 : w.cell? ⟨p, o, none⟩ = some (.slice a xs.length cp) := hv.cell (f := 0) (by simp)
  have hlp := hv.lt
  simp only [List.length_append, leB_length] at hm
  go_enter Tryz.func75, Tryz.ntmps75
  go_wp2_with fail
  refine (countWrite_c h xs.length (by omega) (by omega)).mono ?_
  rintro e w1 ⟨rfl, hW1⟩
  obtain ⟨L1, g1, S1⟩ := (Cod.start h).then hW1
  have c2 : w1.cell? ⟨c, 2, none⟩ = some (.bool false) := by
    obtain ⟨vo, h1, -⟩ := S1.writes.ex
    exact cell_in h1
  have hl1 : c < w1.heap.size := by
    obtain ⟨vo, h1, -⟩ := S1.writes.ex
    exact lt_in h1
  clear p0
  go_wp2
  go_loopw [22] (fun i w' => ∃ (k : Nat) (L : List UInt8) (gL : Option Nat), k ≤ xs.length ∧ i = .int .i64 k ∧ Cod w w' c out g (leB 4 xs.length ++ (xs.take k).flatMap ItemT.enc) L gL) (fun i _ => xs.length - (intOf i).toNat)
  case atStart => exact ⟨0, L1, g1, by omega, rfl, S1.cast (by simp)⟩
  case round =>
    obtain ⟨k, L, gL, hk, rfl, SL⟩ := hrel
    by_cases hk2 : k < xs.length
    · have hki : (k : Int) < (xs.length : Int) := by omega
      have hd := SL.data hS
      obtain ⟨b, off, cs, rfl, hb, hcl, hcell, hr⟩ := (hl.heap (fun _ _ h => ItemT.Is.heap h) (fun _ h => h) hd).at hk2
      have hfl := flatMap_le ItemT.enc xs (k + 1)
      have hft := flatMap_take ItemT.enc xs k hk2
      rw [hft, List.length_append] at hfl
      obtain ⟨e, he⟩ : ∃ e, e = xs[k] := ⟨_, rfl⟩
      rw [← he] at hr hft hfl
      have HFT := Lib.hid hft
      clear hft he hcl
      have hvr := SL.var h hv
      have p0 : wr.cell? ⟨p, o, none⟩ = some (.slice (some ⟨b, off, none⟩) xs.length cp) := hvr.cell (f := 0) (by simp)
      have l2 := hvr.lt
      have hr0 := hr
      obtain ⟨rfl, j0, j1, j2⟩ := hr
      have y0 : wr.cell? ⟨b, off + k * 4, none⟩ = some (Value.string e.name) := hcell 0 (by omega)
      have y1 : wr.cell? ⟨b, off + k * 4 + 1, none⟩ = some (Value.int IntKind.i64 e.version.epoch) := hcell 1 (by omega)
      have y2 : wr.cell? ⟨b, off + k * 4 + 2, none⟩ = some (Value.int IntKind.i64 e.version.n) := hcell 2 (by omega)
      have y3 : wr.cell? ⟨b, off + k * 4 + 3, none⟩ = some (Value.int IntKind.u32 (e.crc : Nat)) := hcell 3 (by omega)
      go_wp2_with fail
      have SA := SL.alloc (Obj.cells #[Value.string e.name, Value.int IntKind.i64 e.version.epoch, Value.int IntKind.i64 e.version.n, Value.int IntKind.u32 (e.crc : Nat)] 176)
      have vA := var_new wr #[Value.string e.name, Value.int IntKind.i64 e.version.epoch, Value.int IntKind.i64 e.version.n, Value.int IntKind.u32 (e.crc : Nat)] 176 (by decide) (by decide)
      generalize wr.alloc (Obj.cells #[Value.string e.name, Value.int IntKind.i64 e.version.epoch, Value.int IntKind.i64 e.version.n, Value.int IntKind.u32 (e.crc : Nat)] 176) = wa at SA vA ⊢
      have hbnd := SA.len
      simp only [List.length_append, leB_length] at hbnd
      refine (itemWrite_c SA.writes e ⟨j0, j1, j2⟩ vA (by omega)).mono ?_
      rintro _ w9 ⟨rfl, hG⟩
      obtain ⟨L9, g9, S9⟩ := SA.then hG
      have HS9 := Lib.hid (S9.cast (more' := leB 4 xs.length ++ (xs.take (k + 1)).flatMap ItemT.enc) (by rw [HFT.out, List.append_assoc]))
      clear S9 hG
      go_wp2
      exact ⟨⟨k + 1, L9, g9, by omega, by simp, HS9.out⟩, by simp [intOf]; omega⟩
    · obtain rfl : k = xs.length := by omega
      go_wp2
      rw [List.take_length] at SL
      exact bodyPost_ret (v := .tuple #[]) (by simp [results, Tryz.results75]) rfl ⟨rfl, SL.done⟩
theorem stateWrite_c {w : World} {c p o : Nat} {out : List UInt8} {g : Option Nat} (h : Writes w c out g) {S : Nat → Prop} (hS : ∀ k, S k → k < w.heap.size ∧ k ≠ c ∧ g ≠ some k) (x : StateT) {cs : List Value} (hx : StateT.Is w S cs x) (hv : Var w p o cs) (hm : out.length + x.enc.length ≤ 140737488352000) :
    Calls Tryz.prog 46 #[.pointer (some ⟨c, 0, none⟩), .pointer (some ⟨p, o, none⟩)] w fun e w' => e = .returned (.tuple #[]) ∧ Wrote w w' c out g x.enc := by
  have hmf : ∀ (fn : Fn) (first cap : Array Value) (w : World), (Instr.makeFunc fn first cap).run Tryz.prog w = .ok (.func fn first cap) w := fun _ _ _ _ => rfl
  obtain ⟨v_log, v_lasts, v_items, rfl, i0, i1, i2, l0, l1, l2⟩ := hx
  simp only [StateT.enc, List.length_append, List.length_nil, encI_length, bB_length, leB_length, encT_length, encBy_length] at hm
  simp only [StateT.enc]
  have hlp := hv.lt
  have S0 := Cod.start h
  go_enter Tryz.func46, Tryz.ntmps46
  have hv0 : Var w p (o) [Value.int IntKind.i64 x.les] := (S0.var h hv).sub (i := 0) (by intro f hf; simp at hf; subst hf; simp)
  have lv0 := hv0.lt
  go_wp2_with fail
  refine (numWrite_c S0.writes x.les i0 hv0 (by have := S0.len; simp only [List.length_append, List.length_nil, encI_length, bB_length, leB_length, encT_length, encBy_length] at this; omega)).mono ?_
  rintro _ w1 ⟨rfl, hW1⟩
  obtain ⟨L1, g1, S1⟩ := S0.then hW1
  have hv1 : Var w1 p (o + 1) [Value.int IntKind.i64 x.tail.epoch, Value.int IntKind.i64 x.tail.n] := (S1.var h hv).sub (i := 1) (by
    intro f hf
    simp only [List.length_cons, List.length_nil] at hf
    have : f = 0 ∨ f = 1 := by omega
    rcases this with rfl | rfl <;> simp)
  have lv1 := hv1.lt
  go_wp2_with fail
  refine (versionWrite_c S1.writes x.tail ⟨i1, i2⟩ hv1 (by have := S1.len; simp only [List.length_append, List.length_nil, encI_length, bB_length, leB_length, encT_length, encBy_length] at this; omega)).mono ?_
  rintro _ w2 ⟨rfl, hW2⟩
  obtain ⟨L2, g2, S2⟩ := S1.then hW2
  have hv2 : Var w2 p (o + 3) [v_log] := (S2.var h hv).sub (i := 3) (by intro f hf; simp at hf; subst hf; simp)
  have lv2 := hv2.lt
  have hd2 := S2.data hS
  go_wp2_with fail
  refine (listEntryWrite_c S2.writes (S2.sets hS) x.log (l0.heap (fun _ _ h => EntryT.Is.heap h) (fun _ h => h) hd2) hv2 (by have := S2.len; simp only [List.length_append, List.length_nil, encI_length, bB_length, leB_length, encT_length, encBy_length] at this ⊢; omega)).mono ?_
  rintro _ w3 ⟨rfl, hW3⟩
  obtain ⟨L3, g3, Q3⟩ := S2.then hW3
  have S3 := Q3.cast (more' := [] ++ encI x.les ++ x.tail.enc ++ leB 4 x.log.length ++ x.log.flatMap EntryT.enc) (by simp only [List.append_assoc])
  clear Q3
  have hv3 : Var w3 p (o + 4) [v_lasts] := (S3.var h hv).sub (i := 4) (by intro f hf; simp at hf; subst hf; simp)
  have lv3 := hv3.lt
  have hd3 := S3.data hS
  go_wp2_with fail
  refine (listLastWrite_c S3.writes (S3.sets hS) x.lasts (l1.heap (fun _ _ h => LastT.Is.heap h) (fun _ h => h) hd3) hv3 (by have := S3.len; simp only [List.length_append, List.length_nil, encI_length, bB_length, leB_length, encT_length, encBy_length] at this ⊢; omega)).mono ?_
  rintro _ w4 ⟨rfl, hW4⟩
  obtain ⟨L4, g4, Q4⟩ := S3.then hW4
  have S4 := Q4.cast (more' := [] ++ encI x.les ++ x.tail.enc ++ leB 4 x.log.length ++ x.log.flatMap EntryT.enc ++ leB 4 x.lasts.length ++ x.lasts.flatMap LastT.enc) (by simp only [List.append_assoc])
  clear Q4
  have hv4 : Var w4 p (o + 5) [v_items] := (S4.var h hv).sub (i := 5) (by intro f hf; simp at hf; subst hf; simp)
  have lv4 := hv4.lt
  have hd4 := S4.data hS
  go_wp2_with fail
  refine (listItemWrite_c S4.writes (S4.sets hS) x.items (l2.heap (fun _ _ h => ItemT.Is.heap h) (fun _ h => h) hd4) hv4 (by have := S4.len; simp only [List.length_append, List.length_nil, encI_length, bB_length, leB_length, encT_length, encBy_length] at this ⊢; omega)).mono ?_
  rintro _ w5 ⟨rfl, hW5⟩
  obtain ⟨L5, g5, Q5⟩ := S4.then hW5
  have S5 := Q5.cast (more' := [] ++ encI x.les ++ x.tail.enc ++ leB 4 x.log.length ++ x.log.flatMap EntryT.enc ++ leB 4 x.lasts.length ++ x.lasts.flatMap LastT.enc ++ leB 4 x.items.length ++ x.items.flatMap ItemT.enc) (by simp only [List.append_assoc])
  clear Q5
  go_wp2
  exact bodyPost_end (v := .tuple #[]) (by simp [results, Tryz.results46]) rfl ⟨rfl, S5.done⟩
theorem stepWrite_c {w : World} {c p o : Nat} {out : List UInt8} {g : Option Nat} (h : Writes w c out g) {S : Nat → Prop} (hS : ∀ k, S k → k < w.heap.size ∧ k ≠ c ∧ g ≠ some k) (x : StepT) {cs : List Value} (hx : StepT.Is w S cs x) (hv : Var w p o cs) (hm : out.length + x.enc.length ≤ 140737488352000) :
    Calls Tryz.prog 127 #[.pointer (some ⟨c, 0, none⟩), .pointer (some ⟨p, o, none⟩)] w fun e w' => e = .returned (.tuple #[]) ∧ Wrote w w' c out g x.enc := by
  have hmf : ∀ (fn : Fn) (first cap : Array Value) (w : World), (Instr.makeFunc fn first cap).run Tryz.prog w = .ok (.func fn first cap) w := fun _ _ _ _ => rfl
  obtain ⟨v_data, rfl, i0, i1, i2, i3, i4, l0⟩ := hx
  simp only [StepT.enc, List.length_append, List.length_nil, encI_length, bB_length, leB_length, encT_length, encBy_length] at hm
  simp only [StepT.enc]
  have hlp := hv.lt
  have S0 := Cod.start h
  go_enter Tryz.func127, Tryz.ntmps127
  have hv0 : Var w p (o) [Value.int IntKind.i64 x.kind] := (S0.var h hv).sub (i := 0) (by intro f hf; simp at hf; subst hf; simp)
  have lv0 := hv0.lt
  go_wp2_with fail
  refine (numWrite_c S0.writes x.kind i0 hv0 (by have := S0.len; simp only [List.length_append, List.length_nil, encI_length, bB_length, leB_length, encT_length, encBy_length] at this; omega)).mono ?_
  rintro _ w1 ⟨rfl, hW1⟩
  obtain ⟨L1, g1, S1⟩ := S0.then hW1
  have hv1 : Var w1 p (o + 1) [Value.int IntKind.i64 x.pg.pool, Value.int IntKind.i64 x.pg.seed] := (S1.var h hv).sub (i := 1) (by
    intro f hf
    simp only [List.length_cons, List.length_nil] at hf
    have : f = 0 ∨ f = 1 := by omega
    rcases this with rfl | rfl <;> simp)
  have lv1 := hv1.lt
  go_wp2_with fail
  refine (pgWrite_c S1.writes x.pg ⟨i1, i2⟩ hv1 (by have := S1.len; simp only [List.length_append, List.length_nil, encI_length, bB_length, leB_length, encT_length, encBy_length] at this; omega)).mono ?_
  rintro _ w2 ⟨rfl, hW2⟩
  obtain ⟨L2, g2, S2⟩ := S1.then hW2
  have hv2 : Var w2 p (o + 3) [Value.string x.name] := (S2.var h hv).sub (i := 3) (by intro f hf; simp at hf; subst hf; simp)
  have lv2 := hv2.lt
  go_wp2_with fail
  refine (textW_c S2.writes x.name hv2 (by have := S2.len; simp only [List.length_append, List.length_nil, encI_length, bB_length, leB_length, encT_length, encBy_length] at this ⊢; omega)).mono ?_
  rintro _ w3 ⟨rfl, hW3⟩
  obtain ⟨L3, g3, S3⟩ := S2.then hW3
  have lv3 := (S3.var h hv).lt
  go_wp2
  refine wp_region_ord [1, 2, 3, 4, 5, 6] [0] [7, 8] (by kernel_rfl) (by kernel_rfl) (fun _ _ d _ _ h => by cases d <;> exact h) ?_
  simp only [sel, List.filterMap_cons, List.filterMap_nil, List.getElem?_cons_zero, List.getElem?_cons_succ]
  repeat (quiet_step (fail))
  refine wpQuiet_nil ?_
  refine wpIdle_step (fun K hK => ?_)
  go_simp
  refine hK _ ?_
  clear hK
  refine wpIdle_nil ?_
  rintro _ ⟨nr, rfl⟩
  have T3 := S3.dN nr
  generalize w3.drewN nr = y3 at T3 ⊢
  go_wp2_with fail
  have U3 := T3.alloc (Obj.cells #[Value.pointer (some ⟨p, o + 4, none⟩), Value.pointer (some ⟨p, o + 5, none⟩)] 141)
  have r3 := (own_alloc y3 [Value.pointer (some ⟨p, o + 4, none⟩), Value.pointer (some ⟨p, o + 5, none⟩)] 141 2 rfl (by decide)).reads
  generalize y3.alloc (Obj.cells #[Value.pointer (some ⟨p, o + 4, none⟩), Value.pointer (some ⟨p, o + 5, none⟩)] 141) = z3 at U3 r3 ⊢
  have hq3 : ∀ q ∈ ([⟨p, o + 4, x.pos⟩, ⟨p, o + 5, x.n⟩] : List Place), Var z3 q.p q.o [.int .i64 q.n] ∧ in64 q.n := by
    intro q hq
    simp only [List.mem_cons, List.not_mem_nil, or_false] at hq
    rcases hq with rfl | rfl
    · exact ⟨(U3.var h hv).sub (i := 4) (by intro f hf; simp at hf; subst hf; simp), i3⟩
    · exact ⟨(U3.var h hv).sub (i := 5) (by intro f hf; simp at hf; subst hf; simp), i4⟩
  have hyc3 : y3.heap.size ≠ c ∧ g3 ≠ some y3.heap.size := by
    obtain ⟨vo, h1, h2⟩ := T3.writes.ex
    exact ⟨Nat.ne_of_gt (lt_in h1), fun e => absurd (h2.lt _ e) (by omega)⟩
  refine (numsWrite_c (ps := [⟨p, o + 4, x.pos⟩, ⟨p, o + 5, x.n⟩]) U3.writes (gp := some y3.heap.size) r3 (fun k hk => by cases hk; exact hyc3) hq3 (by simp) (by have := U3.len; simp only [List.length_append, List.length_nil, encI_length, bB_length, leB_length, encT_length, encBy_length] at this; omega)).mono ?_
  rintro _ w4 ⟨rfl, hW4⟩
  obtain ⟨L4, g4, Q4⟩ := U3.then hW4
  have S4 := Q4.cast (more' := [] ++ encI x.kind ++ x.pg.enc ++ encT x.name ++ encI x.pos ++ encI x.n) (by simp [Place.enc])
  clear Q4
  have hv4 : Var w4 p (o + 6) [Value.string x.key] := (S4.var h hv).sub (i := 6) (by intro f hf; simp at hf; subst hf; simp)
  have lv4 := hv4.lt
  go_wp2_with fail
  refine (textW_c S4.writes x.key hv4 (by have := S4.len; simp only [List.length_append, List.length_nil, encI_length, bB_length, leB_length, encT_length, encBy_length] at this ⊢; omega)).mono ?_
  rintro _ w5 ⟨rfl, hW5⟩
  obtain ⟨L5, g5, S5⟩ := S4.then hW5
  have hv5 : Var w5 p (o + 7) [v_data] := (S5.var h hv).sub (i := 7) (by intro f hf; simp at hf; subst hf; simp)
  have lv5 := hv5.lt
  have hd5 := S5.data hS
  go_wp2_with fail
  refine (bytesW_c S5.writes (S5.sets hS) x.data (l0.heap (fun _ _ h => byteIs_stable _ _ _ _ _ _ h (fun _ h => h) hd5) (fun _ h => h) hd5) hv5 (by have := S5.len; simp only [List.length_append, List.length_nil, encI_length, bB_length, leB_length, encT_length, encBy_length] at this ⊢; omega)).mono ?_
  rintro _ w6 ⟨rfl, hW6⟩
  obtain ⟨L6, g6, Q6⟩ := S5.then hW6
  have S6 := Q6.cast (more' := [] ++ encI x.kind ++ x.pg.enc ++ encT x.name ++ encI x.pos ++ encI x.n ++ encT x.key ++ encBy x.data) (by simp only [List.append_assoc])
  clear Q6
  go_wp2
  exact bodyPost_end (v := .tuple #[]) (by simp [results, Tryz.results127]) rfl ⟨rfl, S6.done⟩
theorem listStepWrite_c {w : World} {c p o : Nat} {out : List UInt8} {g : Option Nat} (h : Writes w c out g) {S : Nat → Prop} (hS : ∀ k, S k → k < w.heap.size ∧ k ≠ c ∧ g ≠ some k) {v : Value} (xs : List StepT) (hl : ListIs 8 StepT.Is w S v xs) (hv : Var w p o [v]) (hm : out.length + (leB 4 xs.length ++ xs.flatMap StepT.enc).length ≤ 140737488352000) :
    Calls Tryz.prog 126 #[.pointer (some ⟨c, 0, none⟩), .pointer (some ⟨p, o, none⟩), .func (.func 127) #[.pointer (some ⟨c, 0, none⟩)] #[]] w fun e w' => e = .returned (.tuple #[]) ∧ Wrote w w' c out g (leB 4 xs.length ++ xs.flatMap StepT.enc) := by
  obtain ⟨a, cp, rfl, hc⟩ := hl.shape
  have hnl := hl.small
  have p0 : w.cell? ⟨p, o, none⟩ = some (.slice a xs.length cp) := hv.cell (f := 0) (by simp)
  have hlp := hv.lt
  simp only [List.length_append, leB_length] at hm
  go_enter Tryz.func126, Tryz.ntmps126
  go_wp2_with fail
  refine (countWrite_c h xs.length (by omega) (by omega)).mono ?_
  rintro e w1 ⟨rfl, hW1⟩
  obtain ⟨L1, g1, S1⟩ := (Cod.start h).then hW1
  have c2 : w1.cell? ⟨c, 2, none⟩ = some (.bool false) := by
    obtain ⟨vo, h1, -⟩ := S1.writes.ex
    exact cell_in h1
  have hl1 : c < w1.heap.size := by
    obtain ⟨vo, h1, -⟩ := S1.writes.ex
    exact lt_in h1
  clear p0
  go_wp2
  go_loopw [22] (fun i w' => ∃ (k : Nat) (L : List UInt8) (gL : Option Nat), k ≤ xs.length ∧ i = .int .i64 k ∧ Cod w w' c out g (leB 4 xs.length ++ (xs.take k).flatMap StepT.enc) L gL) (fun i _ => xs.length - (intOf i).toNat)
  case atStart => exact ⟨0, L1, g1, by omega, rfl, S1.cast (by simp)⟩
  case round =>
    obtain ⟨k, L, gL, hk, rfl, SL⟩ := hrel
    by_cases hk2 : k < xs.length
    · have hki : (k : Int) < (xs.length : Int) := by omega
      have hd := SL.data hS
      obtain ⟨b, off, cs, rfl, hb, hcl, hcell, hr⟩ := (hl.heap (fun _ _ h => StepT.Is.heap h (fun _ h => h) hd) (fun _ h => h) hd).at hk2
      have hfl := flatMap_le StepT.enc xs (k + 1)
      have hft := flatMap_take StepT.enc xs k hk2
      rw [hft, List.length_append] at hfl
      obtain ⟨e, he⟩ : ∃ e, e = xs[k] := ⟨_, rfl⟩
      rw [← he] at hr hft hfl
      have HFT := Lib.hid hft
      clear hft he hcl
      have hvr := SL.var h hv
      have p0 : wr.cell? ⟨p, o, none⟩ = some (.slice (some ⟨b, off, none⟩) xs.length cp) := hvr.cell (f := 0) (by simp)
      have l2 := hvr.lt
      have hr0 := hr
      obtain ⟨uv_data, rfl, j0, j1, j2, j3, j4, m0⟩ := hr
      obtain ⟨au0, cu0, rfl, -⟩ := m0.shape
      have y0 : wr.cell? ⟨b, off + k * 8, none⟩ = some (Value.int IntKind.i64 e.kind) := hcell 0 (by omega)
      have y1 : wr.cell? ⟨b, off + k * 8 + 1, none⟩ = some (Value.int IntKind.i64 e.pg.pool) := hcell 1 (by omega)
      have y2 : wr.cell? ⟨b, off + k * 8 + 2, none⟩ = some (Value.int IntKind.i64 e.pg.seed) := hcell 2 (by omega)
      have y3 : wr.cell? ⟨b, off + k * 8 + 3, none⟩ = some (Value.string e.name) := hcell 3 (by omega)
      have y4 : wr.cell? ⟨b, off + k * 8 + 4, none⟩ = some (Value.int IntKind.i64 e.pos) := hcell 4 (by omega)
      have y5 : wr.cell? ⟨b, off + k * 8 + 5, none⟩ = some (Value.int IntKind.i64 e.n) := hcell 5 (by omega)
      have y6 : wr.cell? ⟨b, off + k * 8 + 6, none⟩ = some (Value.string e.key) := hcell 6 (by omega)
      have y7 : wr.cell? ⟨b, off + k * 8 + 7, none⟩ = some (Value.slice au0 e.data.length cu0) := hcell 7 (by omega)
      go_wp2_with fail
      have SA := SL.alloc (Obj.cells #[Value.int IntKind.i64 e.kind, Value.int IntKind.i64 e.pg.pool, Value.int IntKind.i64 e.pg.seed, Value.string e.name, Value.int IntKind.i64 e.pos, Value.int IntKind.i64 e.n, Value.string e.key, Value.slice au0 e.data.length cu0] 239)
      have vA := var_new wr #[Value.int IntKind.i64 e.kind, Value.int IntKind.i64 e.pg.pool, Value.int IntKind.i64 e.pg.seed, Value.string e.name, Value.int IntKind.i64 e.pos, Value.int IntKind.i64 e.n, Value.string e.key, Value.slice au0 e.data.length cu0] 239 (by decide) (by decide)
      have hrA : StepT.Is (wr.alloc (Obj.cells #[Value.int IntKind.i64 e.kind, Value.int IntKind.i64 e.pg.pool, Value.int IntKind.i64 e.pg.seed, Value.string e.name, Value.int IntKind.i64 e.pos, Value.int IntKind.i64 e.n, Value.string e.key, Value.slice au0 e.data.length cu0] 239)) S _ e := StepT.Is.heap hr0 (fun _ h => h) (fun k hk => Below.heap_alloc _ _ _ (SL.sets hS k hk).1)
      generalize wr.alloc (Obj.cells #[Value.int IntKind.i64 e.kind, Value.int IntKind.i64 e.pg.pool, Value.int IntKind.i64 e.pg.seed, Value.string e.name, Value.int IntKind.i64 e.pos, Value.int IntKind.i64 e.n, Value.string e.key, Value.slice au0 e.data.length cu0] 239) = wa at SA hrA vA ⊢
      have hbnd := SA.len
      simp only [List.length_append, leB_length] at hbnd
      refine (stepWrite_c SA.writes (SA.sets hS) e hrA vA (by omega)).mono ?_
      rintro _ w9 ⟨rfl, hG⟩
      obtain ⟨L9, g9, S9⟩ := SA.then hG
      have HS9 := Lib.hid (S9.cast (more' := leB 4 xs.length ++ (xs.take (k + 1)).flatMap StepT.enc) (by rw [HFT.out, List.append_assoc]))
      clear S9 hG
      go_wp2
      exact ⟨⟨k + 1, L9, g9, by omega, by simp, HS9.out⟩, by simp [intOf]; omega⟩
    · obtain rfl : k = xs.length := by omega
      go_wp2
      rw [List.take_length] at SL
      exact bodyPost_ret (v := .tuple #[]) (by simp [results, Tryz.results126]) rfl ⟨rfl, SL.done⟩
theorem txWrite_c {w : World} {c p o : Nat} {out : List UInt8} {g : Option Nat} (h : Writes w c out g) {S : Nat → Prop} (hS : ∀ k, S k → k < w.heap.size ∧ k ≠ c ∧ g ≠ some k) (x : TxT) {cs : List Value} (hx : TxT.Is w S cs x) (hv : Var w p o cs) (hm : out.length + x.enc.length ≤ 140737488352000) :
    Calls Tryz.prog 51 #[.pointer (some ⟨c, 0, none⟩), .pointer (some ⟨p, o, none⟩)] w fun e w' => e = .returned (.tuple #[]) ∧ Wrote w w' c out g x.enc := by
  have hmf : ∀ (fn : Fn) (first cap : Array Value) (w : World), (Instr.makeFunc fn first cap).run Tryz.prog w = .ok (.func fn first cap) w := fun _ _ _ _ => rfl
  obtain ⟨v_steps, rfl, l0⟩ := hx
  simp only [TxT.enc, List.length_append, List.length_nil, encI_length, bB_length, leB_length, encT_length, encBy_length] at hm
  simp only [TxT.enc]
  have hlp := hv.lt
  have S0 := Cod.start h
  go_enter Tryz.func51, Tryz.ntmps51
  have hv0 : Var w p (o) [v_steps] := (S0.var h hv).sub (i := 0) (by intro f hf; simp at hf; subst hf; simp)
  have lv0 := hv0.lt
  skip
  go_wp2_with fail
  refine (listStepWrite_c S0.writes (S0.sets hS) x.steps l0 hv0 (by have := S0.len; simp only [List.length_append, List.length_nil, encI_length, bB_length, leB_length, encT_length, encBy_length] at this ⊢; omega)).mono ?_
  rintro _ w1 ⟨rfl, hW1⟩
  obtain ⟨L1, g1, Q1⟩ := S0.then hW1
  have S1 := Q1.cast (more' := [] ++ leB 4 x.steps.length ++ x.steps.flatMap StepT.enc) (by simp only [List.append_assoc])
  clear Q1
  go_wp2
  exact bodyPost_end (v := .tuple #[]) (by simp [results, Tryz.results51]) rfl ⟨rfl, S1.done⟩
end Go.Proofs.YtmbjealliinpdaaGreat
end

section

namespace Go.Proofs.YtmbjealliinpdaaGreat
open Go.RowKit
theorem writtenMap_c {w : World} {S : Nat → Prop} (hS : ∀ k, S k → k < w.heap.size) (x : MapT) {cs : List Value} (hx : MapT.Is w S cs x) (hm : x.enc.length ≤ 140737488352000) :
    Calls Tryz.prog 43 #[.agg cs.toArray, .func (.func 41) #[] #[]] w fun e w' => (∃ vc, e = .returned vc ∧ Fresh w w' vc x.enc) ∧ Kept (fun _ => False) w w' := by
  have hx0 := hx
  obtain ⟨v0, v1, v2, rfl, -, -, l0, l1, l2⟩ := hx
  obtain ⟨a0, c0, rfl, -⟩ := l0.shape
  obtain ⟨a1, c1, rfl, -⟩ := l1.shape
  obtain ⟨a2, c2, rfl, -⟩ := l2.shape
  obtain ⟨E, hE⟩ : ∃ E, E = x.enc := ⟨_, rfl⟩
  have hm' := hm
  rw [← hE] at hm ⊢
  have HE := Lib.hid hE
  clear hE
  go_enter Tryz.func43, Tryz.ntmps43
  go_wp2_with fail
  obtain ⟨K0, x1, x2⟩ := two_new w (Obj.cells #[Value.int IntKind.i64 x.epoch, Value.slice a0 x.osds.length c0, Value.slice a1 x.pools.length c1, Value.slice a2 x.buckets.length c2, Value.int IntKind.i64 x.leaf] 67) (Obj.cells #[Value.slice none 0 0, Value.slice none 0 0, Value.bool false] 138)
  generalize (w.alloc (Obj.cells #[Value.int IntKind.i64 x.epoch, Value.slice a0 x.osds.length c0, Value.slice a1 x.pools.length c1, Value.slice a2 x.buckets.length c2, Value.int IntKind.i64 x.leaf] 67)).alloc (Obj.cells #[Value.slice none 0 0, Value.slice none 0 0, Value.bool false] 138) = w0 at K0 x1 x2 ⊢
  have hw0 : Writes w0 (w.heap.size + 1) [] none := ⟨_, x2, Own.nil _ _ _⟩
  have hv0 : Var w0 w.heap.size 0 [Value.int IntKind.i64 x.epoch, Value.slice a0 x.osds.length c0, Value.slice a1 x.pools.length c1, Value.slice a2 x.buckets.length c2, Value.int IntKind.i64 x.leaf] := ⟨_, _, x1, by decide, by decide, fun f hf => by simp⟩
  have hxw := hx0.heap (w' := w0) (S' := S) (fun _ h => h) (fun k hk => K0.block k (hS k hk) (fun h => h))
  refine (clusterWrite_c hw0 (S := S) (fun k hk => ⟨Nat.lt_of_lt_of_le (hS k hk) K0.size, by have := hS k hk; omega, by simp⟩) x hxw hv0 (by simpa using hm')).mono ?_
  rintro e w1 ⟨rfl, g1, hw1, k1, hg1⟩
  obtain ⟨vo, q1, o1⟩ := hw1.ex
  rw [List.nil_append, ← HE.out] at o1
  have z0 : w1.cell? ⟨w.heap.size + 1, 0, none⟩ = some vo := cell_in q1
  have hl := lt_in q1
  have hs := lt_in x2
  obtain ⟨ao, co, rfl, -, -⟩ := o1.shape
  have HO := Lib.hid o1
  clear q1 x1 x2 o1
  go_wp2
  go_ret
  refine ⟨⟨_, rfl, g1, HO.out, fun k hk => ?_⟩, K0.thn k1 (fun i hi => ?_)⟩
  · rcases hg1 k hk with h | h
    · cases h
    · omega
  · rcases hi with h | h
    · exact .inr (by omega)
    · cases h
theorem Fresh.from' {w w0 w' : World} {v : Value} {bs : List UInt8} (h : Fresh w0 w' v bs) (hs : w.heap.size ≤ w0.heap.size) : Fresh w w' v bs := by
  obtain ⟨g, o, hg⟩ := h
  exact ⟨g, o, fun k hk => Nat.le_trans hs (hg k hk)⟩
theorem encMap_c {w : World} {S : Nat → Prop} (hS : ∀ k, S k → k < w.heap.size) (x : MapT) {cs : List Value} (hx : MapT.Is w S cs x) (hm : x.enc.length ≤ 140737488352000) :
    Calls Tryz.prog 16 #[.agg cs.toArray] w fun e w' => (∃ vc, e = .returned vc ∧ Fresh w w' vc x.enc) ∧ Kept (fun _ => False) w w' := by
  have hx0 := hx
  obtain ⟨v0, v1, v2, rfl, -, -, l0, l1, l2⟩ := hx
  obtain ⟨a0, c0, rfl, -⟩ := l0.shape
  obtain ⟨a1, c1, rfl, -⟩ := l1.shape
  obtain ⟨a2, c2, rfl, -⟩ := l2.shape
  obtain ⟨E, hE⟩ : ∃ E, E = x.enc := ⟨_, rfl⟩
  have hm' := hm
  rw [← hE] at hm ⊢
  have HE := Lib.hid hE
  clear hE
  go_enter Tryz.func16, Tryz.ntmps16
  go_wp2_with fail
  have K0 := Kept.alloc (fun _ => False) w (Obj.cells #[Value.int IntKind.i64 x.epoch, Value.slice a0 x.osds.length c0, Value.slice a1 x.pools.length c1, Value.slice a2 x.buckets.length c2, Value.int IntKind.i64 x.leaf] 67)
  have hxw := hx0.heap (w' := w.alloc (Obj.cells #[Value.int IntKind.i64 x.epoch, Value.slice a0 x.osds.length c0, Value.slice a1 x.pools.length c1, Value.slice a2 x.buckets.length c2, Value.int IntKind.i64 x.leaf] 67)) (S' := S) (fun _ h => h) (fun k hk => K0.block k (hS k hk) (fun h => h))
  generalize w.alloc (Obj.cells #[Value.int IntKind.i64 x.epoch, Value.slice a0 x.osds.length c0, Value.slice a1 x.pools.length c1, Value.slice a2 x.buckets.length c2, Value.int IntKind.i64 x.leaf] 67) = w0 at K0 hxw ⊢
  refine (writtenMap_c (S := S) (fun k hk => Nat.lt_of_lt_of_le (hS k hk) K0.size) x hxw hm').mono ?_
  rintro e w1 ⟨⟨vc, rfl, hf⟩, hk⟩
  rw [← HE.out] at hf
  have hf' := hf.from' K0.size
  obtain ⟨ao, co, rfl, -, -⟩ := (hf.choose_spec.1).shape
  go_wp2
  go_ret
  exact ⟨⟨_, rfl, hf'⟩, K0.trans hk⟩
theorem encRefMap_c {w : World} {S : Nat → Prop} (hS : ∀ k, S k → k < w.heap.size) (x : MapT) {cs : List Value} (hx : MapT.Is w S cs x) (hm : x.enc.length ≤ 140737488352000) :
    Calls Tryz.prog 17 #[.agg cs.toArray] w fun e w' => (∃ vc, e = .returned vc ∧ Fresh w w' vc x.enc) ∧ Kept (fun _ => False) w w' := by
  have hx0 := hx
  obtain ⟨v0, v1, v2, rfl, -, -, l0, l1, l2⟩ := hx
  obtain ⟨a0, c0, rfl, -⟩ := l0.shape
  obtain ⟨a1, c1, rfl, -⟩ := l1.shape
  obtain ⟨a2, c2, rfl, -⟩ := l2.shape
  obtain ⟨E, hE⟩ : ∃ E, E = x.enc := ⟨_, rfl⟩
  have hm' := hm
  rw [← hE] at hm ⊢
  have HE := Lib.hid hE
  clear hE
  go_enter Tryz.func17, Tryz.ntmps17
  go_wp2_with fail
  have K0 := Kept.alloc (fun _ => False) w (Obj.cells #[Value.int IntKind.i64 x.epoch, Value.slice a0 x.osds.length c0, Value.slice a1 x.pools.length c1, Value.slice a2 x.buckets.length c2, Value.int IntKind.i64 x.leaf] 67)
  have hxw := hx0.heap (w' := w.alloc (Obj.cells #[Value.int IntKind.i64 x.epoch, Value.slice a0 x.osds.length c0, Value.slice a1 x.pools.length c1, Value.slice a2 x.buckets.length c2, Value.int IntKind.i64 x.leaf] 67)) (S' := S) (fun _ h => h) (fun k hk => K0.block k (hS k hk) (fun h => h))
  generalize w.alloc (Obj.cells #[Value.int IntKind.i64 x.epoch, Value.slice a0 x.osds.length c0, Value.slice a1 x.pools.length c1, Value.slice a2 x.buckets.length c2, Value.int IntKind.i64 x.leaf] 67) = w0 at K0 hxw ⊢
  refine (putMap_c (out := []) (Own.nil w0 _ _) (S := S) (fun k hk => ⟨Nat.lt_of_lt_of_le (hS k hk) K0.size, by simp⟩) x hxw (by simp only [List.length_nil]; omega)).mono ?_
  rintro e w1 ⟨vc, rfl, g1, o1, k1, hg1⟩
  rw [List.nil_append, ← HE.out] at o1
  obtain ⟨ao, co, rfl, -, -⟩ := o1.shape
  have hs := K0.size
  go_wp2
  go_ret
  exact ⟨⟨_, rfl, g1, o1, fun k hk => (hg1 k hk).elim (fun h => by cases h) (fun h => Nat.le_trans hs h)⟩, K0.trans (k1.mono (fun _ _ h => by cases h))⟩
theorem writtenInc_c {w : World} {S : Nat → Prop} (hS : ∀ k, S k → k < w.heap.size) (x : IncT) {cs : List Value} (hx : IncT.Is w S cs x) (hm : x.enc.length ≤ 140737488352000) :
    Calls Tryz.prog 38 #[.agg cs.toArray, .func (.func 36) #[] #[]] w fun e w' => (∃ vc, e = .returned vc ∧ Fresh w w' vc x.enc) ∧ Kept (fun _ => False) w w' := by
  have hx0 := hx
  obtain ⟨v0, rfl, -, l0⟩ := hx
  obtain ⟨a0, c0, rfl, -⟩ := l0.shape
  obtain ⟨E, hE⟩ : ∃ E, E = x.enc := ⟨_, rfl⟩
  have hm' := hm
  rw [← hE] at hm ⊢
  have HE := Lib.hid hE
  clear hE
  go_enter Tryz.func38, Tryz.ntmps38
  go_wp2_with fail
  obtain ⟨K0, x1, x2⟩ := two_new w (Obj.cells #[Value.int IntKind.i64 x.epoch, Value.slice a0 x.changes.length c0] 57) (Obj.cells #[Value.slice none 0 0, Value.slice none 0 0, Value.bool false] 138)
  generalize (w.alloc (Obj.cells #[Value.int IntKind.i64 x.epoch, Value.slice a0 x.changes.length c0] 57)).alloc (Obj.cells #[Value.slice none 0 0, Value.slice none 0 0, Value.bool false] 138) = w0 at K0 x1 x2 ⊢
  have hw0 : Writes w0 (w.heap.size + 1) [] none := ⟨_, x2, Own.nil _ _ _⟩
  have hv0 : Var w0 w.heap.size 0 [Value.int IntKind.i64 x.epoch, Value.slice a0 x.changes.length c0] := ⟨_, _, x1, by decide, by decide, fun f hf => by simp⟩
  have hxw := hx0.heap (w' := w0) (S' := S) (fun _ h => h) (fun k hk => K0.block k (hS k hk) (fun h => h))
  refine (incWrite_c hw0 (S := S) (fun k hk => ⟨Nat.lt_of_lt_of_le (hS k hk) K0.size, by have := hS k hk; omega, by simp⟩) x hxw hv0 (by simpa using hm')).mono ?_
  rintro e w1 ⟨rfl, g1, hw1, k1, hg1⟩
  obtain ⟨vo, q1, o1⟩ := hw1.ex
  rw [List.nil_append, ← HE.out] at o1
  have z0 : w1.cell? ⟨w.heap.size + 1, 0, none⟩ = some vo := cell_in q1
  have hl := lt_in q1
  have hs := lt_in x2
  obtain ⟨ao, co, rfl, -, -⟩ := o1.shape
  have HO := Lib.hid o1
  clear q1 x1 x2 o1
  go_wp2
  go_ret
  refine ⟨⟨_, rfl, g1, HO.out, fun k hk => ?_⟩, K0.thn k1 (fun i hi => ?_)⟩
  · rcases hg1 k hk with h | h
    · cases h
    · omega
  · rcases hi with h | h
    · exact .inr (by omega)
    · cases h
theorem encInc_c {w : World} {S : Nat → Prop} (hS : ∀ k, S k → k < w.heap.size) (x : IncT) {cs : List Value} (hx : IncT.Is w S cs x) (hm : x.enc.length ≤ 140737488352000) :
    Calls Tryz.prog 12 #[.agg cs.toArray] w fun e w' => (∃ vc, e = .returned vc ∧ Fresh w w' vc x.enc) ∧ Kept (fun _ => False) w w' := by
  have hx0 := hx
  obtain ⟨v0, rfl, -, l0⟩ := hx
  obtain ⟨a0, c0, rfl, -⟩ := l0.shape
  obtain ⟨E, hE⟩ : ∃ E, E = x.enc := ⟨_, rfl⟩
  have hm' := hm
  rw [← hE] at hm ⊢
  have HE := Lib.hid hE
  clear hE
  go_enter Tryz.func12, Tryz.ntmps12
  go_wp2_with fail
  have K0 := Kept.alloc (fun _ => False) w (Obj.cells #[Value.int IntKind.i64 x.epoch, Value.slice a0 x.changes.length c0] 57)
  have hxw := hx0.heap (w' := w.alloc (Obj.cells #[Value.int IntKind.i64 x.epoch, Value.slice a0 x.changes.length c0] 57)) (S' := S) (fun _ h => h) (fun k hk => K0.block k (hS k hk) (fun h => h))
  generalize w.alloc (Obj.cells #[Value.int IntKind.i64 x.epoch, Value.slice a0 x.changes.length c0] 57) = w0 at K0 hxw ⊢
  refine (writtenInc_c (S := S) (fun k hk => Nat.lt_of_lt_of_le (hS k hk) K0.size) x hxw hm').mono ?_
  rintro e w1 ⟨⟨vc, rfl, hf⟩, hk⟩
  rw [← HE.out] at hf
  have hf' := hf.from' K0.size
  obtain ⟨ao, co, rfl, -, -⟩ := (hf.choose_spec.1).shape
  go_wp2
  go_ret
  exact ⟨⟨_, rfl, hf'⟩, K0.trans hk⟩
theorem encRefInc_c {w : World} {S : Nat → Prop} (hS : ∀ k, S k → k < w.heap.size) (x : IncT) {cs : List Value} (hx : IncT.Is w S cs x) (hm : x.enc.length ≤ 140737488352000) :
    Calls Tryz.prog 13 #[.agg cs.toArray] w fun e w' => (∃ vc, e = .returned vc ∧ Fresh w w' vc x.enc) ∧ Kept (fun _ => False) w w' := by
  have hx0 := hx
  obtain ⟨v0, rfl, -, l0⟩ := hx
  obtain ⟨a0, c0, rfl, -⟩ := l0.shape
  obtain ⟨E, hE⟩ : ∃ E, E = x.enc := ⟨_, rfl⟩
  have hm' := hm
  rw [← hE] at hm ⊢
  have HE := Lib.hid hE
  clear hE
  go_enter Tryz.func13, Tryz.ntmps13
  go_wp2_with fail
  have K0 := Kept.alloc (fun _ => False) w (Obj.cells #[Value.int IntKind.i64 x.epoch, Value.slice a0 x.changes.length c0] 57)
  have hxw := hx0.heap (w' := w.alloc (Obj.cells #[Value.int IntKind.i64 x.epoch, Value.slice a0 x.changes.length c0] 57)) (S' := S) (fun _ h => h) (fun k hk => K0.block k (hS k hk) (fun h => h))
  generalize w.alloc (Obj.cells #[Value.int IntKind.i64 x.epoch, Value.slice a0 x.changes.length c0] 57) = w0 at K0 hxw ⊢
  refine (putInc_c (out := []) (Own.nil w0 _ _) (S := S) (fun k hk => ⟨Nat.lt_of_lt_of_le (hS k hk) K0.size, by simp⟩) x hxw (by simp only [List.length_nil]; omega)).mono ?_
  rintro e w1 ⟨vc, rfl, g1, o1, k1, hg1⟩
  rw [List.nil_append, ← HE.out] at o1
  obtain ⟨ao, co, rfl, -, -⟩ := o1.shape
  have hs := K0.size
  go_wp2
  go_ret
  exact ⟨⟨_, rfl, g1, o1, fun k hk => (hg1 k hk).elim (fun h => by cases h) (fun h => Nat.le_trans hs h)⟩, K0.trans (k1.mono (fun _ _ h => by cases h))⟩
end Go.Proofs.YtmbjealliinpdaaGreat
end

section

namespace Go.Proofs.YtmbjealliinpdaaGreat
open Go.RowKit
theorem writtenState_c {w : World} {S : Nat → Prop} (hS : ∀ k, S k → k < w.heap.size) (x : StateT) {cs : List Value} (hx : StateT.Is w S cs x) (hm : x.enc.length ≤ 140737488352000) :
    Calls Tryz.prog 48 #[.agg cs.toArray, .func (.func 46) #[] #[]] w fun e w' => (∃ vc, e = .returned vc ∧ Fresh w w' vc x.enc) ∧ Kept (fun _ => False) w w' := by
  have hx0 := hx
  obtain ⟨v0, v1, v2, rfl, -, -, -, l0, l1, l2⟩ := hx
  obtain ⟨a0, c0, rfl, -⟩ := l0.shape
  obtain ⟨a1, c1, rfl, -⟩ := l1.shape
  obtain ⟨a2, c2, rfl, -⟩ := l2.shape
  obtain ⟨E, hE⟩ : ∃ E, E = x.enc := ⟨_, rfl⟩
  have hm' := hm
  rw [← hE] at hm ⊢
  have HE := Lib.hid hE
  clear hE
  go_enter Tryz.func48, Tryz.ntmps48
  go_wp2_with fail
  obtain ⟨K0, x1, x2⟩ := two_new w (Obj.cells #[Value.int IntKind.i64 x.les, Value.int IntKind.i64 x.tail.epoch, Value.int IntKind.i64 x.tail.n, Value.slice a0 x.log.length c0, Value.slice a1 x.lasts.length c1, Value.slice a2 x.items.length c2] 38) (Obj.cells #[Value.slice none 0 0, Value.slice none 0 0, Value.bool false] 138)
  generalize (w.alloc (Obj.cells #[Value.int IntKind.i64 x.les, Value.int IntKind.i64 x.tail.epoch, Value.int IntKind.i64 x.tail.n, Value.slice a0 x.log.length c0, Value.slice a1 x.lasts.length c1, Value.slice a2 x.items.length c2] 38)).alloc (Obj.cells #[Value.slice none 0 0, Value.slice none 0 0, Value.bool false] 138) = w0 at K0 x1 x2 ⊢
  have hw0 : Writes w0 (w.heap.size + 1) [] none := ⟨_, x2, Own.nil _ _ _⟩
  have hv0 : Var w0 w.heap.size 0 [Value.int IntKind.i64 x.les, Value.int IntKind.i64 x.tail.epoch, Value.int IntKind.i64 x.tail.n, Value.slice a0 x.log.length c0, Value.slice a1 x.lasts.length c1, Value.slice a2 x.items.length c2] := ⟨_, _, x1, by decide, by decide, fun f hf => by simp⟩
  have hxw := hx0.heap (w' := w0) (S' := S) (fun _ h => h) (fun k hk => K0.block k (hS k hk) (fun h => h))
  refine (stateWrite_c hw0 (S := S) (fun k hk => ⟨Nat.lt_of_lt_of_le (hS k hk) K0.size, by have := hS k hk; omega, by simp⟩) x hxw hv0 (by simpa using hm')).mono ?_
  rintro e w1 ⟨rfl, g1, hw1, k1, hg1⟩
  obtain ⟨vo, q1, o1⟩ := hw1.ex
  rw [List.nil_append, ← HE.out] at o1
  have z0 : w1.cell? ⟨w.heap.size + 1, 0, none⟩ = some vo := cell_in q1
  have hl := lt_in q1
  have hs := lt_in x2
  obtain ⟨ao, co, rfl, -, -⟩ := o1.shape
  have HO := Lib.hid o1
  clear q1 x1 x2 o1
  go_wp2
  go_ret
  refine ⟨⟨_, rfl, g1, HO.out, fun k hk => ?_⟩, K0.thn k1 (fun i hi => ?_)⟩
  · rcases hg1 k hk with h | h
    · cases h
    · omega
  · rcases hi with h | h
    · exact .inr (by omega)
    · cases h
theorem encState_c {w : World} {S : Nat → Prop} (hS : ∀ k, S k → k < w.heap.size) (x : StateT) {cs : List Value} (hx : StateT.Is w S cs x) (hm : x.enc.length ≤ 140737488352000) :
    Calls Tryz.prog 20 #[.agg cs.toArray] w fun e w' => (∃ vc, e = .returned vc ∧ Fresh w w' vc x.enc) ∧ Kept (fun _ => False) w w' := by
  have hx0 := hx
  obtain ⟨v0, v1, v2, rfl, -, -, -, l0, l1, l2⟩ := hx
  obtain ⟨a0, c0, rfl, -⟩ := l0.shape
  obtain ⟨a1, c1, rfl, -⟩ := l1.shape
  obtain ⟨a2, c2, rfl, -⟩ := l2.shape
  obtain ⟨E, hE⟩ : ∃ E, E = x.enc := ⟨_, rfl⟩
  have hm' := hm
  rw [← hE] at hm ⊢
  have HE := Lib.hid hE
  clear hE
  go_enter Tryz.func20, Tryz.ntmps20
  go_wp2_with fail
  have K0 := Kept.alloc (fun _ => False) w (Obj.cells #[Value.int IntKind.i64 x.les, Value.int IntKind.i64 x.tail.epoch, Value.int IntKind.i64 x.tail.n, Value.slice a0 x.log.length c0, Value.slice a1 x.lasts.length c1, Value.slice a2 x.items.length c2] 38)
  have hxw := hx0.heap (w' := w.alloc (Obj.cells #[Value.int IntKind.i64 x.les, Value.int IntKind.i64 x.tail.epoch, Value.int IntKind.i64 x.tail.n, Value.slice a0 x.log.length c0, Value.slice a1 x.lasts.length c1, Value.slice a2 x.items.length c2] 38)) (S' := S) (fun _ h => h) (fun k hk => K0.block k (hS k hk) (fun h => h))
  generalize w.alloc (Obj.cells #[Value.int IntKind.i64 x.les, Value.int IntKind.i64 x.tail.epoch, Value.int IntKind.i64 x.tail.n, Value.slice a0 x.log.length c0, Value.slice a1 x.lasts.length c1, Value.slice a2 x.items.length c2] 38) = w0 at K0 hxw ⊢
  refine (writtenState_c (S := S) (fun k hk => Nat.lt_of_lt_of_le (hS k hk) K0.size) x hxw hm').mono ?_
  rintro e w1 ⟨⟨vc, rfl, hf⟩, hk⟩
  rw [← HE.out] at hf
  have hf' := hf.from' K0.size
  obtain ⟨ao, co, rfl, -, -⟩ := (hf.choose_spec.1).shape
  go_wp2
  go_ret
  exact ⟨⟨_, rfl, hf'⟩, K0.trans hk⟩
theorem encRefState_c {w : World} {S : Nat → Prop} (hS : ∀ k, S k → k < w.heap.size) (x : StateT) {cs : List Value} (hx : StateT.Is w S cs x) (hm : x.enc.length ≤ 140737488352000) :
    Calls Tryz.prog 21 #[.agg cs.toArray] w fun e w' => (∃ vc, e = .returned vc ∧ Fresh w w' vc x.enc) ∧ Kept (fun _ => False) w w' := by
  have hx0 := hx
  obtain ⟨v0, v1, v2, rfl, -, -, -, l0, l1, l2⟩ := hx
  obtain ⟨a0, c0, rfl, -⟩ := l0.shape
  obtain ⟨a1, c1, rfl, -⟩ := l1.shape
  obtain ⟨a2, c2, rfl, -⟩ := l2.shape
  obtain ⟨E, hE⟩ : ∃ E, E = x.enc := ⟨_, rfl⟩
  have hm' := hm
  rw [← hE] at hm ⊢
  have HE := Lib.hid hE
  clear hE
  go_enter Tryz.func21, Tryz.ntmps21
  go_wp2_with fail
  have K0 := Kept.alloc (fun _ => False) w (Obj.cells #[Value.int IntKind.i64 x.les, Value.int IntKind.i64 x.tail.epoch, Value.int IntKind.i64 x.tail.n, Value.slice a0 x.log.length c0, Value.slice a1 x.lasts.length c1, Value.slice a2 x.items.length c2] 38)
  have hxw := hx0.heap (w' := w.alloc (Obj.cells #[Value.int IntKind.i64 x.les, Value.int IntKind.i64 x.tail.epoch, Value.int IntKind.i64 x.tail.n, Value.slice a0 x.log.length c0, Value.slice a1 x.lasts.length c1, Value.slice a2 x.items.length c2] 38)) (S' := S) (fun _ h => h) (fun k hk => K0.block k (hS k hk) (fun h => h))
  generalize w.alloc (Obj.cells #[Value.int IntKind.i64 x.les, Value.int IntKind.i64 x.tail.epoch, Value.int IntKind.i64 x.tail.n, Value.slice a0 x.log.length c0, Value.slice a1 x.lasts.length c1, Value.slice a2 x.items.length c2] 38) = w0 at K0 hxw ⊢
  refine (putState_c (out := []) (Own.nil w0 _ _) (S := S) (fun k hk => ⟨Nat.lt_of_lt_of_le (hS k hk) K0.size, by simp⟩) x hxw (by simp only [List.length_nil]; omega)).mono ?_
  rintro e w1 ⟨vc, rfl, g1, o1, k1, hg1⟩
  rw [List.nil_append, ← HE.out] at o1
  obtain ⟨ao, co, rfl, -, -⟩ := o1.shape
  have hs := K0.size
  go_wp2
  go_ret
  exact ⟨⟨_, rfl, g1, o1, fun k hk => (hg1 k hk).elim (fun h => by cases h) (fun h => Nat.le_trans hs h)⟩, K0.trans (k1.mono (fun _ _ h => by cases h))⟩
theorem writtenTx_c {w : World} {S : Nat → Prop} (hS : ∀ k, S k → k < w.heap.size) (x : TxT) {cs : List Value} (hx : TxT.Is w S cs x) (hm : x.enc.length ≤ 140737488352000) :
    Calls Tryz.prog 53 #[.agg cs.toArray, .func (.func 51) #[] #[]] w fun e w' => (∃ vc, e = .returned vc ∧ Fresh w w' vc x.enc) ∧ Kept (fun _ => False) w w' := by
  have hx0 := hx
  obtain ⟨v0, rfl, l0⟩ := hx
  obtain ⟨a0, c0, rfl, -⟩ := l0.shape
  obtain ⟨E, hE⟩ : ∃ E, E = x.enc := ⟨_, rfl⟩
  have hm' := hm
  rw [← hE] at hm ⊢
  have HE := Lib.hid hE
  clear hE
  go_enter Tryz.func53, Tryz.ntmps53
  go_wp2_with fail
  obtain ⟨K0, x1, x2⟩ := two_new w (Obj.cells #[Value.slice a0 x.steps.length c0] 80) (Obj.cells #[Value.slice none 0 0, Value.slice none 0 0, Value.bool false] 138)
  generalize (w.alloc (Obj.cells #[Value.slice a0 x.steps.length c0] 80)).alloc (Obj.cells #[Value.slice none 0 0, Value.slice none 0 0, Value.bool false] 138) = w0 at K0 x1 x2 ⊢
  have hw0 : Writes w0 (w.heap.size + 1) [] none := ⟨_, x2, Own.nil _ _ _⟩
  have hv0 : Var w0 w.heap.size 0 [Value.slice a0 x.steps.length c0] := ⟨_, _, x1, by decide, by decide, fun f hf => by simp⟩
  have hxw := hx0.heap (w' := w0) (S' := S) (fun _ h => h) (fun k hk => K0.block k (hS k hk) (fun h => h))
  refine (txWrite_c hw0 (S := S) (fun k hk => ⟨Nat.lt_of_lt_of_le (hS k hk) K0.size, by have := hS k hk; omega, by simp⟩) x hxw hv0 (by simpa using hm')).mono ?_
  rintro e w1 ⟨rfl, g1, hw1, k1, hg1⟩
  obtain ⟨vo, q1, o1⟩ := hw1.ex
  rw [List.nil_append, ← HE.out] at o1
  have z0 : w1.cell? ⟨w.heap.size + 1, 0, none⟩ = some vo := cell_in q1
  have hl := lt_in q1
  have hs := lt_in x2
  obtain ⟨ao, co, rfl, -, -⟩ := o1.shape
  have HO := Lib.hid o1
  clear q1 x1 x2 o1
  go_wp2
  go_ret
  refine ⟨⟨_, rfl, g1, HO.out, fun k hk => ?_⟩, K0.thn k1 (fun i hi => ?_)⟩
  · rcases hg1 k hk with h | h
    · cases h
    · omega
  · rcases hi with h | h
    · exact .inr (by omega)
    · cases h
theorem encTx_c {w : World} {S : Nat → Prop} (hS : ∀ k, S k → k < w.heap.size) (x : TxT) {cs : List Value} (hx : TxT.Is w S cs x) (hm : x.enc.length ≤ 140737488352000) :
    Calls Tryz.prog 24 #[.agg cs.toArray] w fun e w' => (∃ vc, e = .returned vc ∧ Fresh w w' vc x.enc) ∧ Kept (fun _ => False) w w' := by
  have hx0 := hx
  obtain ⟨v0, rfl, l0⟩ := hx
  obtain ⟨a0, c0, rfl, -⟩ := l0.shape
  obtain ⟨E, hE⟩ : ∃ E, E = x.enc := ⟨_, rfl⟩
  have hm' := hm
  rw [← hE] at hm ⊢
  have HE := Lib.hid hE
  clear hE
  go_enter Tryz.func24, Tryz.ntmps24
  go_wp2_with fail
  have K0 := Kept.alloc (fun _ => False) w (Obj.cells #[Value.slice a0 x.steps.length c0] 80)
  have hxw := hx0.heap (w' := w.alloc (Obj.cells #[Value.slice a0 x.steps.length c0] 80)) (S' := S) (fun _ h => h) (fun k hk => K0.block k (hS k hk) (fun h => h))
  generalize w.alloc (Obj.cells #[Value.slice a0 x.steps.length c0] 80) = w0 at K0 hxw ⊢
  refine (writtenTx_c (S := S) (fun k hk => Nat.lt_of_lt_of_le (hS k hk) K0.size) x hxw hm').mono ?_
  rintro e w1 ⟨⟨vc, rfl, hf⟩, hk⟩
  rw [← HE.out] at hf
  have hf' := hf.from' K0.size
  obtain ⟨ao, co, rfl, -, -⟩ := (hf.choose_spec.1).shape
  go_wp2
  go_ret
  exact ⟨⟨_, rfl, hf'⟩, K0.trans hk⟩
theorem encRefTx_c {w : World} {S : Nat → Prop} (hS : ∀ k, S k → k < w.heap.size) (x : TxT) {cs : List Value} (hx : TxT.Is w S cs x) (hm : x.enc.length ≤ 140737488352000) :
    Calls Tryz.prog 25 #[.agg cs.toArray] w fun e w' => (∃ vc, e = .returned vc ∧ Fresh w w' vc x.enc) ∧ Kept (fun _ => False) w w' := by
  have hx0 := hx
  obtain ⟨v0, rfl, l0⟩ := hx
  obtain ⟨a0, c0, rfl, -⟩ := l0.shape
  obtain ⟨E, hE⟩ : ∃ E, E = x.enc := ⟨_, rfl⟩
  have hm' := hm
  rw [← hE] at hm ⊢
  have HE := Lib.hid hE
  clear hE
  go_enter Tryz.func25, Tryz.ntmps25
  go_wp2_with fail
  have K0 := Kept.alloc (fun _ => False) w (Obj.cells #[Value.slice a0 x.steps.length c0] 80)
  have hxw := hx0.heap (w' := w.alloc (Obj.cells #[Value.slice a0 x.steps.length c0] 80)) (S' := S) (fun _ h => h) (fun k hk => K0.block k (hS k hk) (fun h => h))
  generalize w.alloc (Obj.cells #[Value.slice a0 x.steps.length c0] 80) = w0 at K0 hxw ⊢
  refine (putTx_c (out := []) (Own.nil w0 _ _) (S := S) (fun k hk => ⟨Nat.lt_of_lt_of_le (hS k hk) K0.size, by simp⟩) x hxw (by simp only [List.length_nil]; omega)).mono ?_
  rintro e w1 ⟨vc, rfl, g1, o1, k1, hg1⟩
  rw [List.nil_append, ← HE.out] at o1
  obtain ⟨ao, co, rfl, -, -⟩ := o1.shape
  have hs := K0.size
  go_wp2
  go_ret
  exact ⟨⟨_, rfl, g1, o1, fun k hk => (hg1 k hk).elim (fun h => by cases h) (fun h => Nat.le_trans hs h)⟩, K0.trans (k1.mono (fun _ _ h => by cases h))⟩
end Go.Proofs.YtmbjealliinpdaaGreat
end

section

namespace Go.Proofs.YtmbjealliinpdaaGreat
open Go.RowKit
/-- What a reader of all the bytes comes to: texts. -/
def TookL (bs : List UInt8) (w : World) (e : Ending) (w' : World) : Prop :=
  Kept (fun _ => False) w w' ∧ ((∃ x v, pL pT bs = some (x, []) ∧ e = .returned (.tuple #[v, .int .i64 0]) ∧ ListIs 1 textIs w' (New w w') v x) ∨ ((∀ x, pL pT bs ≠ some (x, [])) ∧ e = .returned (.tuple #[.slice none 0 0, .int .i64 74])))
theorem textsG_c {w : World} {c p o : Nat} {bs : List UInt8} {g : Option Nat} {cur : Array Value} {t : TypeId} (h : Rd w c bs g) (hgl : ∀ k, g = some k → k < w.heap.size) (hb : Blk w p cur t c g) (hz : cur[o]? = some (.slice none 0 0)) :
    Calls Tryz.prog 56 #[.pointer (some ⟨c, 0, none⟩), .pointer (some ⟨p, o, none⟩)] w (Got (sliceIs 1 textIs) (pL pT) bs w c p o g cur t) := by
  have hmf : ∀ (fn : Fn) (first cap : Array Value) (w : World), (Instr.makeFunc fn first cap).run Tryz.prog w = .ok (.func fn first cap) w := fun _ _ _ _ => rfl
  go_enter Tryz.func56, Tryz.ntmps56
  go_wp2_with fail
  refine (listtextG_c h hgl hb hz).mono ?_
  rintro e w1 ⟨k1, ⟨hp, rfl, hw⟩ | ⟨x, r, cur1, cs, hp, rfl, h1, h2, h3, h4⟩⟩
  · exact ⟨rfl, k1, .inl ⟨hp, rfl, hw⟩⟩
  have H := Lib.hid (show Got (sliceIs 1 textIs) (pL pT) bs w c p o g cur t (.returned (.tuple #[])) w1 from ⟨k1, .inr ⟨x, r, cur1, cs, hp, rfl, h1, h2, h3, h4⟩⟩)
  clear hp h1 h2 h3 h4
  go_wp2
  exact bodyPost_end (v := .tuple #[]) (by simp [results, Tryz.results56]) rfl H.out
theorem catchTs_bad {w : World} (p q : Nat) {cur : Array Value} {n : Int} (hp : w.heap[p]? = some (.cells cur 46)) (hcs : cur.size = 1) (hq : w.heap[q]? = some (.cells #[.int .i64 n] 39)) :
    CallsD Tryz.prog 130 #[.pointer (some ⟨p, 0, none⟩), .pointer (some ⟨q, 0, none⟩)] (.panicking wrongP) w fun e u' w' =>
      e = .returned (.tuple #[]) ∧ u' = .panicking [{ v := .iface 135 (.agg #[]), recovered := true }] ∧ w'.heap[p]? = some (.cells #[.slice none 0 0] 46) ∧ w'.heap[q]? = some (.cells #[.int .i64 74] 39) ∧ Kept (fun k => k = p ∨ k = q) w w' := by
  obtain ⟨lc⟩ := cur
  match lc, hcs with
  | [v], _ => exact catch_bad p q hp hq
/-- The deferred closure, in a frame that returns. -/
theorem catchTs_ok {w : World} (p q : Nat) :
    CallsD Tryz.prog 130 #[.pointer (some ⟨p, 0, none⟩), .pointer (some ⟨q, 0, none⟩)] .returning w fun e u' w' => e = .returned (.tuple #[]) ∧ u' = .returning ∧ w = w' := by
  refine callsD_of_wpS Tryz.func130 rfl fun c₀ cs hu => ?_
  apply wpS_seq
  apply wpS_region
  simp [wpOpsS, go_sem, recoverD, hu, Tryz.ntmps130, Exit.thenS]
  have hT : (#[Value.pointer (some ⟨p, 0, none⟩), Value.pointer (some ⟨q, 0, none⟩)] ++ ((Array.replicate 16 undef).setIfInBounds 4 Value.nilIface).setIfInBounds 0 Value.nilIface : Array Value) = #[Value.pointer (some ⟨p, 0, none⟩), Value.pointer (some ⟨q, 0, none⟩), Value.nilIface, undef, undef, undef, Value.nilIface, undef, undef, undef, undef, undef, undef, undef, undef, undef, undef, undef] := rfl
  rw [hT]
  refine wpS_of_wp ?_
  go_wp2
  simp only [bodyPostS, results, Tryz.results130]
  simp [hu]
  rw [← hu]
theorem readTs_c {w : World} {v : Value} {bs : List UInt8} {g : Option Nat} (hr : Reads w 1 v bs.length (bs.map bv) g) (hgl : ∀ k, g = some k → k < w.heap.size) (hm : bs.length ≤ 140737488351232) :
    Calls Tryz.prog 55 #[v, .func (.func 56) #[] #[]] w (TookL bs w) := by
  obtain ⟨a, cp, rfl, hc⟩ := hr.shape
  have hmf : ∀ (fn : Fn) (first cap : Array Value) (w : World), (Instr.makeFunc fn first cap).run Tryz.prog w = .ok (.func fn first cap) w := fun _ _ _ _ => rfl
  go_enter_defers Tryz.func55, Tryz.ntmps55
  go_wp2_with fail
  obtain ⟨K0, x1, x2⟩ := two_new w (Obj.cells #[Value.slice none 0 0] 46) (Obj.cells #[Value.int IntKind.i64 0] 39)
  have hs0 : ((w.alloc (Obj.cells #[Value.slice none 0 0] 46)).alloc (Obj.cells #[Value.int IntKind.i64 0] 39)).heap.size = w.heap.size + 1 + 1 := by simp
  generalize (w.alloc (Obj.cells #[Value.slice none 0 0] 46)).alloc (Obj.cells #[Value.int IntKind.i64 0] 39) = wz at K0 x1 x2 hs0 ⊢
  have x3 : (wz.alloc (Obj.cells #[Value.slice none 0 0, Value.slice a bs.length cp, Value.bool true] 138)).heap[wz.heap.size]? = some (Obj.cells #[Value.slice none 0 0, Value.slice a bs.length cp, Value.bool true] 138) := heap_alloc_new' _ _
  rw [hs0] at x3
  have y1 : (wz.alloc (Obj.cells #[Value.slice none 0 0, Value.slice a bs.length cp, Value.bool true] 138)).heap[w.heap.size]? = _ := (Below.heap_alloc _ _ _ (lt_in x1)).trans x1
  have y2 : (wz.alloc (Obj.cells #[Value.slice none 0 0, Value.slice a bs.length cp, Value.bool true] 138)).heap[w.heap.size + 1]? = _ := (Below.heap_alloc _ _ _ (lt_in x2)).trans x2
  have K1 := K0.al (Obj.cells #[Value.slice none 0 0, Value.slice a bs.length cp, Value.bool true] 138)
  generalize wz.alloc (Obj.cells #[Value.slice none 0 0, Value.slice a bs.length cp, Value.bool true] 138) = w0 at x3 y1 y2 K1 ⊢
  clear x1 x2 hs0
  have r0 := hr.kept K1 (fun _ _ h => h)
  have sK := K1.size
  have RD : Rd w0 (w.heap.size + 1 + 1) bs g := ⟨⟨_, x3, r0⟩, fun k hk => by have := hgl k hk; omega, hm⟩
  have BK : Blk w0 w.heap.size #[Value.slice none 0 0] 46 (w.heap.size + 1 + 1) g := ⟨y1, by omega, fun e => by have := hgl _ e; omega⟩
  refine (textsG_c RD (fun k hk => by have := hgl k hk; omega) BK (o := 0) rfl).mono ?_
  rintro e w1 ⟨k1, ⟨hp, rfl, hwas⟩ | ⟨x, r1, cur1, cs, hp, rfl, H1, B1, P1, hx⟩⟩
  · obtain ⟨cur1, z1, hcs⟩ := hwas
    have z2 : w1.heap[w.heap.size + 1]? = _ := (k1.block _ (lt_in y2) (fun h => by omega)).trans y2
    have K2 := K1.thn k1 (fun i hi => .inr (by omega))
    clear x3 y1 y2 r0 RD BK
    refine leaves_cons (f := 130) (args := #[.pointer (some ⟨w.heap.size, 0, none⟩), .pointer (some ⟨w.heap.size + 1, 0, none⟩)]) (by simp) (by simp [go_sem]) ?_
    refine (catchTs_bad w.heap.size (w.heap.size + 1) z1 hcs z2).mono ?_
    rintro e u' w2 ⟨rfl, rfl, q1, q2, k2⟩
    have c0 : w2.cell? ⟨w.heap.size, 0, none⟩ = some (Value.slice none 0 0) := cell_in q1
    have cE : w2.cell? ⟨w.heap.size + 1, 0, none⟩ = some (.int .i64 74) := cell_in q2
    have K3 : Kept (fun _ => False) w w2 := K2.thn k2 (fun i hi => .inr (by omega))
    clear q1 q2
    simp [Leaves, settle, results, Tryz.results55, go_sem, c0, cE]
    exact ⟨K3, .inr ⟨fun x h => (by rw [hp] at h; cases h), rfl⟩⟩
  have hx0 := hx
  obtain ⟨u0, rfl, l0⟩ := hx
  obtain ⟨au0, cu0, rfl, -⟩ := l0.shape
  obtain rfl : cur1 = #[Value.slice au0 x.length cu0] := P1.full rfl
  obtain ⟨vi, h2, h3⟩ := H1.ex
  obtain ⟨ai, ci, rfl, -⟩ := h3.shape
  have z2 : w1.heap[w.heap.size + 1]? = _ := (k1.block _ (lt_in y2) (fun h => by omega)).trans y2
  have K2 := K1.thn k1 (fun i hi => .inr (by omega))
  have s1 := k1.size
  have d1 : w1.cell? ⟨w.heap.size + 1 + 1, 1, none⟩ = some (.slice ai r1.length ci) := cell_in h2
  have l1 := lt_in h2
  have z1 := B1.heap
  have xn : (sliceIs 1 textIs) w1 (New w w1) [Value.slice au0 x.length cu0] x := by
    obtain ⟨v, hv, hl⟩ := hx0
    exact ⟨v, hv, hl.stable textIs_stable (fun k hk => ⟨by have := hk.1; omega, hk.2⟩) (fun _ _ => rfl)⟩
  have HX := Lib.hid xn
  have HP := Lib.hid hp
  clear x3 y1 y2 r0 RD BK hx0 xn h2 h3 H1 hp P1
  by_cases hr1 : r1 = []
  · subst hr1
    have c0 : w1.cell? ⟨w.heap.size, 0, none⟩ = some (Value.slice au0 x.length cu0) := cell_in z1
    have g0 : w1.frozen? ⟨w.heap.size, 0, none⟩ = false := frozen_in z1
    have e0 := setCell_same' c0
    have cE : w1.cell? ⟨w.heap.size + 1, 0, none⟩ = some (.int .i64 0) := cell_in z2
    have gE : w1.frozen? ⟨w.heap.size + 1, 0, none⟩ = false := frozen_in z2
    have eE := setCell_same' cE
    have lz1 := lt_in z1
    have lz2 := lt_in z2
    simp only [List.length_nil] at d1
    clear z1 z2 B1
    go_wp2
    refine leaves_cons (f := 130) (args := #[.pointer (some ⟨w.heap.size, 0, none⟩), .pointer (some ⟨w.heap.size + 1, 0, none⟩)]) (by simp) (by simp [go_sem]) ?_
    refine (catchTs_ok w.heap.size (w.heap.size + 1)).mono ?_
    rintro e u' w2 ⟨rfl, rfl, rfl⟩
    simp [Leaves, settle, results, Tryz.results55, go_sem, c0, cE]
    obtain ⟨v, hv, hl⟩ := HX.out
    simp only [List.cons.injEq, and_true] at hv
    exact ⟨K2, .inl ⟨x, _, HP.out, rfl, by rw [hv]; exact hl⟩⟩
  · have hpos : (0 : Int) < (r1.length : Int) := by
      have := List.length_pos_iff.2 hr1
      omega
    go_wp2
    refine leaves_cons (f := 130) (args := #[.pointer (some ⟨w.heap.size, 0, none⟩), .pointer (some ⟨w.heap.size + 1, 0, none⟩)]) (by simp) (by simp [go_sem]) ?_
    refine (catchTs_bad w.heap.size (w.heap.size + 1) z1 rfl z2).mono ?_
    rintro e u' w2 ⟨rfl, rfl, q1, q2, k2⟩
    have c0 : w2.cell? ⟨w.heap.size, 0, none⟩ = some (Value.slice none 0 0) := cell_in q1
    have cE : w2.cell? ⟨w.heap.size + 1, 0, none⟩ = some (.int .i64 74) := cell_in q2
    have K3 : Kept (fun _ => False) w w2 := K2.thn k2 (fun i hi => .inr (by omega))
    clear q1 q2
    simp [Leaves, settle, results, Tryz.results55, go_sem, c0, cE]
    exact ⟨K3, .inr ⟨fun x h => hr1 (by rw [HP.out] at h; simp at h; exact h.2), rfl⟩⟩
theorem decStrings_c {w : World} {v : Value} {bs : List UInt8} {g : Option Nat} (hr : Reads w 1 v bs.length (bs.map bv) g) (hgl : ∀ k, g = some k → k < w.heap.size) (hm : bs.length ≤ 140737488351232) :
    Calls Tryz.prog 26 #[v] w (TookL bs w) := by
  go_enter Tryz.func26, Tryz.ntmps26
  go_wp2_with fail
  refine (readTs_c hr hgl hm).mono ?_
  rintro e w1 ⟨k1, ⟨x, u, hp, rfl, l⟩ | ⟨hp, rfl⟩⟩
  · have H := Lib.hid (show TookL bs w (.returned (.tuple #[u, .int .i64 0])) w1 from ⟨k1, .inl ⟨x, u, hp, rfl, l⟩⟩)
    obtain ⟨a, c, rfl, -⟩ := l.shape
    clear hp l
    go_wp2
    go_ret2
    exact H.out
  · have H := Lib.hid (show TookL bs w (.returned (.tuple #[.slice none 0 0, .int .i64 74])) w1 from ⟨k1, .inr ⟨hp, rfl⟩⟩)
    clear hp
    go_wp2
    go_ret2
    exact H.out
/-- A list of texts as a slice. -/
theorem ListIs.readsT {w : World} {S : Nat → Prop} {v : Value} {ss : List ByteArray} (h : ListIs 1 textIs w S v ss) : ∃ g, Reads w 1 v ss.length (ss.map Value.string) g ∧ ∀ k, g = some k → S k := by
  obtain ⟨a, c, rfl, h1, h2, h3⟩ := h
  by_cases h0 : ss = []
  · subst h0
    exact ⟨none, ⟨by simp, .inl ⟨_, _, rfl, rfl⟩⟩, fun k hk => by cases hk⟩
  · have hp : 0 < ss.length := List.length_pos_iff.2 h0
    obtain ⟨b, off, cs, rfl, hb, -, -, -⟩ := h3 0 ss[0] (List.getElem?_eq_getElem hp)
    refine ⟨some b, ⟨by simp, .inr ⟨b, off, c, rfl, rfl, h1, h2, fun j hj => ?_⟩⟩, fun k hk => by cases hk; exact hb⟩
    rw [List.length_map] at hj
    obtain ⟨b', off', cs, he, -, hl, hc, hr⟩ := h3 j ss[j] (List.getElem?_eq_getElem hj)
    simp only [Option.some.injEq, Addr.mk.injEq, and_true] at he
    obtain ⟨rfl, rfl⟩ := he
    have := hc 0 (by omega)
    rw [Nat.mul_one, Nat.add_zero] at this
    rw [this, hr, List.getElem?_map, List.getElem?_eq_getElem hj]
    rfl
theorem drewN_add (w : World) (n m : Nat) : (w.drewN n).drewN m = w.drewN (n + m) := by
  simp only [World.drewN]
  congr 1
  omega
/-- The very same texts. -/
theorem textsSame_c {w : World} {v u : Value} {ss : List ByteArray} {gv gu : Option Nat} (h1 : Reads w 1 v ss.length (ss.map Value.string) gv) (h2 : Reads w 1 u ss.length (ss.map Value.string) gu) (hs : ss.length ≤ 9223372036854775807) :
    Calls Tryz.prog 28 #[v, u] w fun e w' => e = .returned (.bool true) ∧ ∃ n, w' = w.drewN n := by
  obtain ⟨a, c, rfl, hc⟩ := h1.shape
  obtain ⟨a', c', rfl, hc'⟩ := h2.shape
  go_enter Tryz.func28, Tryz.ntmps28
  go_wp2
  go_loopw [13] (fun i w' => ∃ k : Nat, k ≤ ss.length ∧ i = .int .i64 k ∧ ∃ n, w' = w.drewN n) (fun i _ => ss.length - (intOf i).toNat)
  case atStart => exact ⟨0, by omega, rfl, 0, rfl⟩
  case round =>
    obtain ⟨k, hk, rfl, n, rfl⟩ := hrel
    by_cases hk2 : k < ss.length
    · have hki : (k : Int) < (ss.length : Int) := by omega
      have hk0 : (0 : Int) ≤ (k : Int) := by omega
      obtain ⟨b, off, rfl, rfl, hcell⟩ := h1.one hk2
      obtain ⟨b', off', rfl, rfl, hcell'⟩ := h2.one hk2
      have y1 : (w.drewN n).cell? ⟨b, off + k, none⟩ = some (.string ss[k]) := hcell
      have y2 : (w.drewN n).cell? ⟨b', off' + k, none⟩ = some (.string ss[k]) := hcell'
      generalize hW : w.drewN n = W at y1 y2 ⊢
      go_wp2
      go_quiet (fail)
      go_wp2
      refine ⟨⟨k + 1, by omega, by simp, n + nq, ?_⟩, by simp [intOf]; omega⟩
      rw [← hW]
      exact drewN_add w n nq
    · obtain rfl : k = ss.length := by omega
      go_wp2
      go_ret
      exact ⟨rfl, n, rfl⟩
end Go.Proofs.YtmbjealliinpdaaGreat
end
