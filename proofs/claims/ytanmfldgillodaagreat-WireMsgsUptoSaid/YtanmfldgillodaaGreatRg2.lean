/- The codec's readers of the structs, at any bytes. -/
import Derived.Test.YtanmfldgillodaaGreatPr2
set_option linter.unusedSimpArgs false
set_option linter.unusedVariables false
namespace Go.Proofs.YtanmfldgillodaaGreat
open Go.RowKit

theorem info_text : (Tryz.prog.info? 9).map (fun i => (i.zero, i.size, i.bytes)) = some (some (Value.string ⟨#[]⟩), 1, 16) := by kernel_rfl

set_option maxRecDepth 100000 in
set_option maxHeartbeats 1600000 in
theorem listtextG_c {w : World} {c p o : Nat} {bs : List UInt8} {g : Option Nat} {cur : Array Value} {t : TypeId} (h : Rd w c bs g) (hgl : ∀ k, g = some k → k < w.heap.size) (hb : Blk w p cur t c g) (hz : cur[o]? = some (.slice none 0 0)) :
    Calls Tryz.prog 78 #[.pointer (some ⟨c, 0, none⟩), .pointer (some ⟨p, o, none⟩), .func (.func 79) #[.pointer (some ⟨c, 0, none⟩)] #[]] w (Got (sliceIs 1 textIs) (pL pT) bs w c p o g cur t) := by
  obtain ⟨i0, hi0, hz0, hz1, hz2⟩ := info_all info_text
  have p0 : w.cell? ⟨p, o, none⟩ = some (.slice none 0 0) := (cell_in hb.heap).trans hz
  have hlp := lt_in hb.heap
  have hlc := h.lt
  go_enter Tryz.func78, Tryz.ntmps78
  go_wp2_with fail
  refine (countG_c h).mono ?_
  rintro e w1 ⟨k1, ⟨n, r1, hp1, rfl, h1⟩ | ⟨hp1, rfl⟩⟩
  rotate_left
  · exact ⟨rfl, k1.mono (fun _ _ h => .inl h), .inl ⟨by unfold pL; rw [hp1]; rfl, rfl, (hb.kept k1 hb.ne).was⟩⟩
  have hb1 := hb.kept k1 hb.ne
  have p1 : w1.cell? ⟨p, o, none⟩ = some (.slice none 0 0) := (cell_in hb1.heap).trans hz
  have f1 : w1.frozen? ⟨p, o, none⟩ = false := frozen_in hb1.heap
  have lp1 := lt_in hb1.heap
  have c2 : w1.cell? ⟨c, 2, none⟩ = some (.bool true) := by
    obtain ⟨vi, h2, -⟩ := h1.ex
    exact cell_in h2
  have lc1 := h1.lt
  have e1 := setCell_same' p1
  have L0 := Lst.start textIs 1 9 hb1 hz k1
  have hn32 := (pC_some hp1).2.1
  have HP1 : Hid (pL pT bs = pN pT n r1) := Lib.hid (by unfold pL; rw [hp1]; rfl)
  clear p0 hb1 hp1
  go_wp2
  go_loopw [37] (fun i w' => ∃ (k : Nat) (v : Value) (xs : List ByteArray) (Ls : List (List Value)) (r : List UInt8) (g' : Option Nat), k ≤ n ∧ i = .int .i64 k ∧ xs.length = k ∧ Hid (pN pT n r1 = (pN pT (n - k) r).bind (fun z => some (xs ++ z.1, z.2))) ∧ Rd w' c r g ∧ Lst textIs 1 9 w w' c p o g cur t v xs Ls g') (fun i _ => n - (intOf i).toNat)
  case atStart => exact ⟨0, _, [], [], r1, none, by omega, rfl, rfl, Lib.hid (by rw [Nat.sub_zero]; exact (bind_eta _).symm), h1, L0⟩
  case round =>
    obtain ⟨k, v, xs, Ls, r, g', hk, rfl, rfl, HP, hr, L⟩ := hrel
    by_cases hk2 : xs.length < n
    · have hki : (xs.length : Int) < (n : Int) := by omega
      obtain ⟨a, cp, rfl, hcp, -⟩ := L.own.shape
      obtain ⟨curp, hbp, hvp⟩ := L.cell
      have pr : wr.cell? ⟨p, o, none⟩ = some (.slice a xs.length cp) := (cell_in hbp).trans hvp
      have lpr := lt_in hbp
      have hsw := L.kept.size
      go_wp2_with fail
      have ka := Kept.alloc (fun _ => False) wr (Obj.cells #[Value.string ⟨#[]⟩] 9)
      have hq : (wr.alloc (Obj.cells #[Value.string ⟨#[]⟩] 9)).heap[wr.heap.size]? = some (Obj.cells #[Value.string ⟨#[]⟩] 9) := heap_alloc_new' _ _
      have ra : Rd (wr.alloc (Obj.cells #[Value.string ⟨#[]⟩] 9)) c r g := hr.kept ka
      have sa : (wr.alloc (Obj.cells #[Value.string ⟨#[]⟩] 9)).heap.size = wr.heap.size + 1 := by simp
      generalize wr.alloc (Obj.cells #[Value.string ⟨#[]⟩] 9) = wa at ka hq ra sa ⊢
      have bq : Blk wa wr.heap.size #[Value.string ⟨#[]⟩] 9 c g := ⟨hq, by omega, fun e => by have := hgl _ e; omega⟩
      refine (textG_c ra (fun k hk => by have := hgl k hk; omega) bq rfl).mono ?_
      rintro e w2 ⟨k2, ⟨hp2, rfl, -⟩ | ⟨x, r2, cur2, cs, hp2, rfl, h2, b2, put2, hx⟩⟩
      · exact ⟨rfl, (L.kept.trans (ka.mono (fun _ _ h => h.elim))).thn k2 (fun i hi => by rcases hi with rfl | rfl; exact .inl (.inl rfl); exact .inr hsw), .inl ⟨by rw [HP1.out]; exact pN_stop hk2 HP.out hp2, rfl, L.was.kept ka k2 (fun h => h) (fun h => by rcases h with h | h; exact hb.ne h; omega)⟩⟩
      have k02 : Kept (· = c) wr w2 := (ka.mono (fun _ _ h => h.elim)).thn k2 (fun i hi => by rcases hi with rfl | rfl; exact .inl rfl; exact .inr (Nat.le_refl _))
      have hxn : textIs w2 (New wr w2) cs x := textIs_stable _ _ _ _ _ _ hx (fun k hk => ⟨by have := hk.1; omega, hk.2⟩) (fun _ _ => rfl)
      obtain rfl := hx
      have y0 : w2.cell? ⟨wr.heap.size, 0, none⟩ = some (Value.string x) := (cell_in b2.heap).trans (by have := put2.at_ 0 (by simp); simpa using this)
      have lq2 := lt_in b2.heap
      have HP2 := Lib.hid (pN_next hk2 HP.out hp2)
      have bp2 : w2.heap[p]? = some (.cells curp t) := (k02.block _ lpr hb.ne).trans hbp
      have HBP := Lib.hid bp2
      have lp2 := lt_in bp2
      have hpq : p ≠ wr.heap.size := by omega
      have own2 := L.own.kept k02 (fun k hk e => by have := L.new k hk; omega)
      clear ka hq ra bq hbp pr HP hp2 bp2
      go_wp2
      refine wp_region_ordJ (fun w' => w'.heap[p]? = some (.cells curp t)) [4] [0, 1, 2, 3] [5, 6] [7, 8] (by kernel_rfl) (by kernel_rfl) (fun _ _ d _ _ h => by cases d <;> exact h) (fun k => HBP.out) ?_
      simp only [sel, List.filterMap_cons, List.filterMap_nil, List.getElem?_cons_zero, List.getElem?_cons_succ]
      repeat (quiet_step (fail))
      refine wpQuiet_nil ?_
      refine wpHeld_step (fun K hK => ?_)
      go_simp
      refine ⟨_, fun _ _ => rfl, hK _ ?_⟩
      refine wpHeld_step (fun K hK => ?_)
      go_simp
      refine ⟨_, fun _ _ => rfl, hK _ ?_⟩
      refine wpHeld_step (fun K hK => ?_)
      go_simp
      refine ⟨_, fun _ _ => rfl, hK _ ?_⟩
      refine wpHeld_step (fun K hK => ?_)
      go_simp
      refine ⟨.slice a xs.length cp, fun w' h => (by
        have h1 := (cell_in (k := o) h).trans hvp
        have h2 := lt_in h
        clear h
        go_simp), hK _ ?_⟩
      refine wpHeld_nil ?_
      rintro _ ⟨nr, rfl⟩
      have kd := Kept.drewN (fun _ => False) w2 nr
      have Q3 : Hid ((w2.drewN nr).heap[p]? = some (.cells curp t)) := Lib.hid HBP.out
      generalize w2.drewN nr = w3 at kd Q3 ⊢
      refine wpListS_step (fun K hK => ?_)
      go_simp
      have hA : (w3.alloc (Obj.cells #[Value.string x] 9)).heap[p]? = some (.cells curp t) := (Below.heap_alloc _ _ _ (lt_in Q3.out)).trans Q3.out
      refine hK _ _ hA ?_
      clear hK
      have k34 := kd.al (Obj.cells #[Value.string x] 9)
      have r4 := reads_allocN w3 [Value.string x] 9 1 rfl
      generalize w3.alloc (Obj.cells #[Value.string x] 9) = w4 at hA k34 r4 ⊢
      have own4 := own2.kept k34 (fun _ _ h => h)
      refine wpListS_append_Own rfl _ _ 46 46 rfl 9 i0 (Value.string ⟨#[]⟩) 1 16 Tryz.underlying46 hi0 hz0 hz1 hz2 rfl rfl own4 rfl (r4.src Tryz.underlying46 (by intro u hu; simp only [List.mem_cons, List.not_mem_nil, or_false] at hu; rcases hu with rfl <;> rfl)) (by unfold maxLen; omega) (by omega) ?_
      intro a5 k5 w5 g5 hown5 hk5 hg5
      have hgp : g' ≠ some p := fun e => by have := L.new p e; omega
      have hA5 : w5.heap[p]? = _ := (hk5.block _ (lt_in hA) (fun h => hgp h)).trans hA
      refine ⟨hA5, ?_⟩
      refine wpListS_nil ?_
      have k04 : Kept (· = c) wr w4 := k02.trans (k34.mono (fun _ _ h => h.elim))
      have s4 := k34.size
      have hx4 : textIs w4 (New wr w4) _ x := textIs_stable _ _ _ _ _ _ hxn (fun k hk => ⟨hk.1, by have := hk.2; omega⟩) (fun k hk => k34.block k hk.2 (fun h => h))
      have LN := Lib.hid (L.grow textIs_stable (o := o) hlp hlc k04 hx4 rfl hown5 hk5 hg5)
      have RN := Lib.hid (Lst.rd L (w2 := w2) (o := o) (v4 := .slice a5 (xs.length + 1) k5) hlc hgl (h2.kept k34) hk5)
      have f0 : w5.frozen? ⟨p, o, none⟩ = false := frozen_in hA5
      have z5 := (cell_in (k := o) hA5).trans hvp
      have hl5 := lt_in hA5
      have HX2 : Hid ((xs ++ [x]).length = xs.length + 1) := Lib.hid (by rw [List.length_append]; rfl)
      clear hA5 hA hown5 own4 own2 r4 hk5 hg5 hx4 hxn
      go_wp2
      exact ⟨⟨xs.length + 1, _, xs ++ [x], _, r2, g5, by omega, by simp, HX2.out, HP2, RN.out, LN.out⟩, by simp [intOf]; omega⟩
    · obtain rfl : n = xs.length := by omega
      go_wp2
      obtain ⟨cur', hbl, hpu⟩ := L.blk
      exact bodyPost_end (v := .tuple #[]) (by simp [results, Tryz.results78]) rfl ⟨L.kept, .inr ⟨xs, r, cur', [v], by rw [HP1.out]; exact pN_end HP.out, rfl, hr, hbl, hpu, v, rfl, L.done textIs_stable (by omega)⟩⟩

set_option maxRecDepth 100000 in
set_option maxHeartbeats 1600000 in
theorem versionG_c {w : World} {c p o : Nat} {bs : List UInt8} {g : Option Nat} {cur : Array Value} {t : TypeId} (h : Rd w c bs g) (hgl : ∀ k, g = some k → k < w.heap.size) (hb : Blk w p cur t c g) (hz : ∀ f, f < 2 → cur[o + f]? = ([Value.int IntKind.i64 0, Value.int IntKind.i64 0] : List Value)[f]?) :
    Calls Tryz.prog 123 #[.pointer (some ⟨c, 0, none⟩), .pointer (some ⟨p, o, none⟩)] w (Got VersionT.Is pVersion bs w c p o g cur t) := by
  have hmf : ∀ (fn : Fn) (first cap : Array Value) (w : World), (Instr.makeFunc fn first cap).run Tryz.prog w = .ok (.func fn first cap) w := fun _ _ _ _ => rfl
  have hlp := lt_in hb.heap
  have hlc := h.lt
  go_enter Tryz.func123, Tryz.ntmps123
  have B0 := hb
  have H0 := h
  have P0 := Put.nil cur o
  have K0 := Kept.refl (fun k => k = c ∨ k = p) w
  have z0 := hz
  clear h hb
  have lp0 := lt_in B0.heap
  go_wp2
  refine wp_region_ord [1, 2, 3, 4, 5, 6] [0] [7, 8] (by kernel_rfl) (by kernel_rfl) (fun _ _ d _ _ h => by cases d <;> exact h) ?_
  simp only [sel, List.filterMap_cons, List.filterMap_nil, List.getElem?_cons_zero, List.getElem?_cons_succ]
  repeat (quiet_step (fail))
  refine wpQuiet_nil ?_
  refine wpIdle_step (fun K hK => ?_)
  go_simp
  refine hK _ ?_
  clear hK
  refine wpIdle_nil ?_
  rintro _ ⟨nr, rfl⟩
  go_wp2_with fail
  have j0 : Kept (fun _ => False) w ((w.drewN nr).alloc (Obj.cells #[Value.pointer (some ⟨p, o, none⟩), Value.pointer (some ⟨p, o + 1, none⟩)] 140)) := (Kept.drewN _ _ _).al _
  have rr0 := (own_alloc (w.drewN nr) [Value.pointer (some ⟨p, o, none⟩), Value.pointer (some ⟨p, o + 1, none⟩)] 140 2 rfl (by decide)).reads
  have hs0 : (w.drewN nr).heap.size = w.heap.size := rfl
  rw [hs0] at rr0
  generalize (w.drewN nr).alloc (Obj.cells #[Value.pointer (some ⟨p, o, none⟩), Value.pointer (some ⟨p, o + 1, none⟩)] 140) = y0 at j0 rr0 ⊢
  have HH0 : Rd y0 c _ g := H0.kept j0
  have BB0 := B0.kept j0 (fun h => h)
  have hc0 : c < w.heap.size := H0.lt
  have lb0 := lt_in B0.heap
  refine (numsI_c (m := 2) (o := o) HH0 BB0 (gp := some w.heap.size) rr0 (fun k hk => by cases hk; exact ⟨Nat.ne_of_gt hc0, Nat.ne_of_gt lb0⟩) (by
    intro f hf
    obtain rfl | rfl : f = 0 ∨ f = 1 := by omega
    · exact ⟨0, by rw [P0.other _ (by simp)]; exact hz 0 (by omega)⟩
    · exact ⟨0, by rw [P0.other _ (by simp)]; exact hz 1 (by omega)⟩
    ) (by omega)).mono ?_
  rintro _ w1 ⟨k1, ⟨hp, rfl, hwas⟩ | ⟨ns0, r1, cur1, cs0, hp, rfl, H1, B1, q1, hx0⟩⟩
  · exact ⟨rfl, K0.trans (kept_alloc2 j0 k1), .inl ⟨by simp only [pVersion, Option.bind_some]; exact pN2_none hp _, rfl, hwas.cast P0.size⟩⟩
  have K1 := K0.trans (kept_alloc2 j0 k1)
  replace k1 := kept_alloc2 j0 k1
  obtain rfl := hx0
  obtain ⟨n0_0, s0_0, n0_1, hp0_0, hp0_1, rfl⟩ := pN2_some hp
  simp only [List.map_cons, List.map_nil] at q1
  have P1 := P0.append q1
  go_wp2
  exact bodyPost_end (v := .tuple #[]) (by simp [results, Tryz.results123]) rfl ⟨K1, .inr ⟨⟨n0_0, n0_1⟩, r1, cur1, _, by simp only [pVersion, hp0_0, hp0_1, Option.bind_some], rfl, H1, B1, P1, ⟨rfl, (lawI.dec _ _ _ hp0_0).2, (lawI.dec _ _ _ hp0_1).2⟩⟩⟩

set_option maxRecDepth 100000 in
set_option maxHeartbeats 1600000 in
theorem pgG_c {w : World} {c p o : Nat} {bs : List UInt8} {g : Option Nat} {cur : Array Value} {t : TypeId} (h : Rd w c bs g) (hgl : ∀ k, g = some k → k < w.heap.size) (hb : Blk w p cur t c g) (hz : ∀ f, f < 2 → cur[o + f]? = ([Value.int IntKind.i64 0, Value.int IntKind.i64 0] : List Value)[f]?) :
    Calls Tryz.prog 66 #[.pointer (some ⟨c, 0, none⟩), .pointer (some ⟨p, o, none⟩)] w (Got PgT.Is pPg bs w c p o g cur t) := by
  have hmf : ∀ (fn : Fn) (first cap : Array Value) (w : World), (Instr.makeFunc fn first cap).run Tryz.prog w = .ok (.func fn first cap) w := fun _ _ _ _ => rfl
  have hlp := lt_in hb.heap
  have hlc := h.lt
  go_enter Tryz.func66, Tryz.ntmps66
  have B0 := hb
  have H0 := h
  have P0 := Put.nil cur o
  have K0 := Kept.refl (fun k => k = c ∨ k = p) w
  have z0 := hz
  clear h hb
  have lp0 := lt_in B0.heap
  go_wp2
  refine wp_region_ord [1, 2, 3, 4, 5, 6] [0] [7, 8] (by kernel_rfl) (by kernel_rfl) (fun _ _ d _ _ h => by cases d <;> exact h) ?_
  simp only [sel, List.filterMap_cons, List.filterMap_nil, List.getElem?_cons_zero, List.getElem?_cons_succ]
  repeat (quiet_step (fail))
  refine wpQuiet_nil ?_
  refine wpIdle_step (fun K hK => ?_)
  go_simp
  refine hK _ ?_
  clear hK
  refine wpIdle_nil ?_
  rintro _ ⟨nr, rfl⟩
  go_wp2_with fail
  have j0 : Kept (fun _ => False) w ((w.drewN nr).alloc (Obj.cells #[Value.pointer (some ⟨p, o, none⟩), Value.pointer (some ⟨p, o + 1, none⟩)] 140)) := (Kept.drewN _ _ _).al _
  have rr0 := (own_alloc (w.drewN nr) [Value.pointer (some ⟨p, o, none⟩), Value.pointer (some ⟨p, o + 1, none⟩)] 140 2 rfl (by decide)).reads
  have hs0 : (w.drewN nr).heap.size = w.heap.size := rfl
  rw [hs0] at rr0
  generalize (w.drewN nr).alloc (Obj.cells #[Value.pointer (some ⟨p, o, none⟩), Value.pointer (some ⟨p, o + 1, none⟩)] 140) = y0 at j0 rr0 ⊢
  have HH0 : Rd y0 c _ g := H0.kept j0
  have BB0 := B0.kept j0 (fun h => h)
  have hc0 : c < w.heap.size := H0.lt
  have lb0 := lt_in B0.heap
  refine (numsI_c (m := 2) (o := o) HH0 BB0 (gp := some w.heap.size) rr0 (fun k hk => by cases hk; exact ⟨Nat.ne_of_gt hc0, Nat.ne_of_gt lb0⟩) (by
    intro f hf
    obtain rfl | rfl : f = 0 ∨ f = 1 := by omega
    · exact ⟨0, by rw [P0.other _ (by simp)]; exact hz 0 (by omega)⟩
    · exact ⟨0, by rw [P0.other _ (by simp)]; exact hz 1 (by omega)⟩
    ) (by omega)).mono ?_
  rintro _ w1 ⟨k1, ⟨hp, rfl, hwas⟩ | ⟨ns0, r1, cur1, cs0, hp, rfl, H1, B1, q1, hx0⟩⟩
  · exact ⟨rfl, K0.trans (kept_alloc2 j0 k1), .inl ⟨by simp only [pPg, Option.bind_some]; exact pN2_none hp _, rfl, hwas.cast P0.size⟩⟩
  have K1 := K0.trans (kept_alloc2 j0 k1)
  replace k1 := kept_alloc2 j0 k1
  obtain rfl := hx0
  obtain ⟨n0_0, s0_0, n0_1, hp0_0, hp0_1, rfl⟩ := pN2_some hp
  simp only [List.map_cons, List.map_nil] at q1
  have P1 := P0.append q1
  go_wp2
  exact bodyPost_end (v := .tuple #[]) (by simp [results, Tryz.results66]) rfl ⟨K1, .inr ⟨⟨n0_0, n0_1⟩, r1, cur1, _, by simp only [pPg, hp0_0, hp0_1, Option.bind_some], rfl, H1, B1, P1, ⟨rfl, (lawI.dec _ _ _ hp0_0).2, (lawI.dec _ _ _ hp0_1).2⟩⟩⟩

set_option maxRecDepth 100000 in
set_option maxHeartbeats 1600000 in
theorem entryG_c {w : World} {c p o : Nat} {bs : List UInt8} {g : Option Nat} {cur : Array Value} {t : TypeId} (h : Rd w c bs g) (hgl : ∀ k, g = some k → k < w.heap.size) (hb : Blk w p cur t c g) (hz : ∀ f, f < 7 → cur[o + f]? = ([Value.int IntKind.i64 0, Value.int IntKind.i64 0, Value.bool false, Value.int IntKind.i64 0, Value.string ⟨#[]⟩, Value.int IntKind.i64 0, Value.int IntKind.i64 0] : List Value)[f]?) :
    Calls Tryz.prog 73 #[.pointer (some ⟨c, 0, none⟩), .pointer (some ⟨p, o, none⟩)] w (Got EntryT.Is pEntry bs w c p o g cur t) := by
  have hmf : ∀ (fn : Fn) (first cap : Array Value) (w : World), (Instr.makeFunc fn first cap).run Tryz.prog w = .ok (.func fn first cap) w := fun _ _ _ _ => rfl
  have hlp := lt_in hb.heap
  have hlc := h.lt
  go_enter Tryz.func73, Tryz.ntmps73
  have B0 := hb
  have H0 := h
  have P0 := Put.nil cur o
  have K0 := Kept.refl (fun k => k = c ∨ k = p) w
  have z0 := hz
  clear h hb
  have lp0 := lt_in B0.heap
  go_wp2_with fail
  refine (versionG_c H0 (fun k hk => by have := hgl k hk; have := K0.size; omega) B0 (o := o) (by
    intro f hf
    obtain rfl | rfl : f = 0 ∨ f = 1 := by omega
    · rw [P0.other _ (by simp)]; exact hz 0 (by omega)
    · rw [P0.other _ (by simp)]; exact hz 1 (by omega)
    )).mono ?_
  rintro _ w1 ⟨k1, ⟨hp, rfl, hwas⟩ | ⟨x0, r1, cur1, cs0, hp0, rfl, H1, B1, q1, hx0⟩⟩
  · exact ⟨rfl, K0.trans k1, .inl ⟨by simp only [pEntry, Option.bind_some]; rw [hp]; rfl, rfl, hwas.cast P0.size⟩⟩
  have K1 := K0.trans k1
  have P1 := P0.append q1
  obtain ⟨rfl, j0_0, j0_1⟩ := hx0
  go_wp2_with fail
  refine (flagI_c H1 B1 (by rw [P1.other (o + 2) (by simp)]; exact hz 2 (by omega))).mono ?_
  rintro _ w2 ⟨k2, ⟨hp, rfl, hwas⟩ | ⟨x1, r2, cur2, cs1, hp1, rfl, H2, B2, q2, hx1⟩⟩
  · exact ⟨rfl, K1.trans k2, .inl ⟨by simp only [pEntry, hp0, Option.bind_some]; rw [hp]; rfl, rfl, hwas.cast P1.size⟩⟩
  have K2 := K1.trans k2
  have P2 := P1.append q2
  obtain rfl := hx1
  go_wp2_with fail
  refine (errnoG_c H2 (fun k hk => by have := hgl k hk; have := K2.size; omega) B2 (by rw [P2.other (o + 3) (by simp)]; exact hz 3 (by omega))).mono ?_
  rintro _ w3 ⟨k3, ⟨hp, rfl, hwas⟩ | ⟨x2, r3, cur3, cs2, hp2, rfl, H3, B3, q3, hx2⟩⟩
  · exact ⟨rfl, K2.trans k3, .inl ⟨by simp only [pEntry, hp0, hp1, Option.bind_some]; rw [hp]; rfl, rfl, hwas.cast P2.size⟩⟩
  have K3 := K2.trans k3
  have P3 := P2.append q3
  obtain ⟨rfl, j2⟩ := hx2
  go_wp2_with fail
  refine (textG_c H3 (fun k hk => by have := hgl k hk; have := K3.size; omega) B3 (by rw [P3.other (o + 4) (by simp)]; exact hz 4 (by omega))).mono ?_
  rintro _ w4 ⟨k4, ⟨hp, rfl, hwas⟩ | ⟨x3, r4, cur4, cs3, hp3, rfl, H4, B4, q4, hx3⟩⟩
  · exact ⟨rfl, K3.trans k4, .inl ⟨by simp only [pEntry, hp0, hp1, hp2, Option.bind_some]; rw [hp]; rfl, rfl, hwas.cast P3.size⟩⟩
  have K4 := K3.trans k4
  have P4 := P3.append q4
  obtain rfl := hx3
  have lp4 := lt_in B4.heap
  go_wp2
  refine wp_region_ord [1, 2, 3, 4, 5, 6] [0] [7, 8] (by kernel_rfl) (by kernel_rfl) (fun _ _ d _ _ h => by cases d <;> exact h) ?_
  simp only [sel, List.filterMap_cons, List.filterMap_nil, List.getElem?_cons_zero, List.getElem?_cons_succ]
  repeat (quiet_step (fail))
  refine wpQuiet_nil ?_
  refine wpIdle_step (fun K hK => ?_)
  go_simp
  refine hK _ ?_
  clear hK
  refine wpIdle_nil ?_
  rintro _ ⟨nr, rfl⟩
  go_wp2_with fail
  have j4 : Kept (fun _ => False) w4 ((w4.drewN nr).alloc (Obj.cells #[Value.pointer (some ⟨p, o + 5, none⟩), Value.pointer (some ⟨p, o + 6, none⟩)] 140)) := (Kept.drewN _ _ _).al _
  have rr4 := (own_alloc (w4.drewN nr) [Value.pointer (some ⟨p, o + 5, none⟩), Value.pointer (some ⟨p, o + 6, none⟩)] 140 2 rfl (by decide)).reads
  have hs4 : (w4.drewN nr).heap.size = w4.heap.size := rfl
  rw [hs4] at rr4
  generalize (w4.drewN nr).alloc (Obj.cells #[Value.pointer (some ⟨p, o + 5, none⟩), Value.pointer (some ⟨p, o + 6, none⟩)] 140) = y4 at j4 rr4 ⊢
  have HH4 : Rd y4 c _ g := H4.kept j4
  have BB4 := B4.kept j4 (fun h => h)
  have hc4 : c < w4.heap.size := H4.lt
  have lb4 := lt_in B4.heap
  refine (numsI_c (m := 2) (o := o + 5) HH4 BB4 (gp := some w4.heap.size) rr4 (fun k hk => by cases hk; exact ⟨Nat.ne_of_gt hc4, Nat.ne_of_gt lb4⟩) (by
    intro f hf
    obtain rfl | rfl : f = 0 ∨ f = 1 := by omega
    · exact ⟨0, by rw [P4.other _ (by simp)]; exact hz 5 (by omega)⟩
    · exact ⟨0, by rw [P4.other _ (by simp)]; exact hz 6 (by omega)⟩
    ) (by omega)).mono ?_
  rintro _ w5 ⟨k5, ⟨hp, rfl, hwas⟩ | ⟨ns4, r5, cur5, cs4, hp, rfl, H5, B5, q5, hx4⟩⟩
  · exact ⟨rfl, K4.trans (kept_alloc2 j4 k5), .inl ⟨by simp only [pEntry, hp0, hp1, hp2, hp3, Option.bind_some]; exact pN2_none hp _, rfl, hwas.cast P4.size⟩⟩
  have K5 := K4.trans (kept_alloc2 j4 k5)
  replace k5 := kept_alloc2 j4 k5
  obtain rfl := hx4
  obtain ⟨n4_0, s4_0, n4_1, hp4_0, hp4_1, rfl⟩ := pN2_some hp
  simp only [List.map_cons, List.map_nil] at q5
  have P5 := P4.append q5
  go_wp2
  exact bodyPost_end (v := .tuple #[]) (by simp [results, Tryz.results73]) rfl ⟨K5, .inr ⟨⟨x0, x1, x2, x3, n4_0, n4_1⟩, r5, cur5, _, by simp only [pEntry, hp0, hp1, hp2, hp3, hp4_0, hp4_1, Option.bind_some], rfl, H5, B5, P5, ⟨rfl, j0_0, j0_1, j2, (lawI.dec _ _ _ hp4_0).2, (lawI.dec _ _ _ hp4_1).2⟩⟩⟩

theorem info_Entry : (Tryz.prog.info? 40).map (fun i => (i.zero, i.size, i.bytes)) = some (some (Value.agg #[Value.int IntKind.i64 0, Value.int IntKind.i64 0, Value.bool false, Value.int IntKind.i64 0, Value.string ⟨#[]⟩, Value.int IntKind.i64 0, Value.int IntKind.i64 0]), 7, 64) := by kernel_rfl

set_option maxRecDepth 100000 in
set_option maxHeartbeats 1600000 in
theorem listEntryG_c {w : World} {c p o : Nat} {bs : List UInt8} {g : Option Nat} {cur : Array Value} {t : TypeId} (h : Rd w c bs g) (hgl : ∀ k, g = some k → k < w.heap.size) (hb : Blk w p cur t c g) (hz : cur[o]? = some (.slice none 0 0)) :
    Calls Tryz.prog 124 #[.pointer (some ⟨c, 0, none⟩), .pointer (some ⟨p, o, none⟩), .func (.func 73) #[.pointer (some ⟨c, 0, none⟩)] #[]] w (Got (sliceIs 7 EntryT.Is) (pL pEntry) bs w c p o g cur t) := by
  obtain ⟨i0, hi0, hz0, hz1, hz2⟩ := info_all info_Entry
  have p0 : w.cell? ⟨p, o, none⟩ = some (.slice none 0 0) := (cell_in hb.heap).trans hz
  have hlp := lt_in hb.heap
  have hlc := h.lt
  go_enter Tryz.func124, Tryz.ntmps124
  go_wp2_with fail
  refine (countG_c h).mono ?_
  rintro e w1 ⟨k1, ⟨n, r1, hp1, rfl, h1⟩ | ⟨hp1, rfl⟩⟩
  rotate_left
  · exact ⟨rfl, k1.mono (fun _ _ h => .inl h), .inl ⟨by unfold pL; rw [hp1]; rfl, rfl, (hb.kept k1 hb.ne).was⟩⟩
  have hb1 := hb.kept k1 hb.ne
  have p1 : w1.cell? ⟨p, o, none⟩ = some (.slice none 0 0) := (cell_in hb1.heap).trans hz
  have f1 : w1.frozen? ⟨p, o, none⟩ = false := frozen_in hb1.heap
  have lp1 := lt_in hb1.heap
  have c2 : w1.cell? ⟨c, 2, none⟩ = some (.bool true) := by
    obtain ⟨vi, h2, -⟩ := h1.ex
    exact cell_in h2
  have lc1 := h1.lt
  have e1 := setCell_same' p1
  have L0 := Lst.start EntryT.Is 7 40 hb1 hz k1
  have hn32 := (pC_some hp1).2.1
  have HP1 : Hid (pL pEntry bs = pN pEntry n r1) := Lib.hid (by unfold pL; rw [hp1]; rfl)
  clear p0 hb1 hp1
  go_wp2
  go_loopw [37] (fun i w' => ∃ (k : Nat) (v : Value) (xs : List EntryT) (Ls : List (List Value)) (r : List UInt8) (g' : Option Nat), k ≤ n ∧ i = .int .i64 k ∧ xs.length = k ∧ Hid (pN pEntry n r1 = (pN pEntry (n - k) r).bind (fun z => some (xs ++ z.1, z.2))) ∧ Rd w' c r g ∧ Lst EntryT.Is 7 40 w w' c p o g cur t v xs Ls g') (fun i _ => n - (intOf i).toNat)
  case atStart => exact ⟨0, _, [], [], r1, none, by omega, rfl, rfl, Lib.hid (by rw [Nat.sub_zero]; exact (bind_eta _).symm), h1, L0⟩
  case round =>
    obtain ⟨k, v, xs, Ls, r, g', hk, rfl, rfl, HP, hr, L⟩ := hrel
    by_cases hk2 : xs.length < n
    · have hki : (xs.length : Int) < (n : Int) := by omega
      obtain ⟨a, cp, rfl, hcp, -⟩ := L.own.shape
      obtain ⟨curp, hbp, hvp⟩ := L.cell
      have pr : wr.cell? ⟨p, o, none⟩ = some (.slice a xs.length cp) := (cell_in hbp).trans hvp
      have lpr := lt_in hbp
      have hsw := L.kept.size
      go_wp2_with fail
      have ka := Kept.alloc (fun _ => False) wr (Obj.cells #[Value.int IntKind.i64 0, Value.int IntKind.i64 0, Value.bool false, Value.int IntKind.i64 0, Value.string ⟨#[]⟩, Value.int IntKind.i64 0, Value.int IntKind.i64 0] 40)
      have hq : (wr.alloc (Obj.cells #[Value.int IntKind.i64 0, Value.int IntKind.i64 0, Value.bool false, Value.int IntKind.i64 0, Value.string ⟨#[]⟩, Value.int IntKind.i64 0, Value.int IntKind.i64 0] 40)).heap[wr.heap.size]? = some (Obj.cells #[Value.int IntKind.i64 0, Value.int IntKind.i64 0, Value.bool false, Value.int IntKind.i64 0, Value.string ⟨#[]⟩, Value.int IntKind.i64 0, Value.int IntKind.i64 0] 40) := heap_alloc_new' _ _
      have ra : Rd (wr.alloc (Obj.cells #[Value.int IntKind.i64 0, Value.int IntKind.i64 0, Value.bool false, Value.int IntKind.i64 0, Value.string ⟨#[]⟩, Value.int IntKind.i64 0, Value.int IntKind.i64 0] 40)) c r g := hr.kept ka
      have sa : (wr.alloc (Obj.cells #[Value.int IntKind.i64 0, Value.int IntKind.i64 0, Value.bool false, Value.int IntKind.i64 0, Value.string ⟨#[]⟩, Value.int IntKind.i64 0, Value.int IntKind.i64 0] 40)).heap.size = wr.heap.size + 1 := by simp
      generalize wr.alloc (Obj.cells #[Value.int IntKind.i64 0, Value.int IntKind.i64 0, Value.bool false, Value.int IntKind.i64 0, Value.string ⟨#[]⟩, Value.int IntKind.i64 0, Value.int IntKind.i64 0] 40) = wa at ka hq ra sa ⊢
      have bq : Blk wa wr.heap.size #[Value.int IntKind.i64 0, Value.int IntKind.i64 0, Value.bool false, Value.int IntKind.i64 0, Value.string ⟨#[]⟩, Value.int IntKind.i64 0, Value.int IntKind.i64 0] 40 c g := ⟨hq, by omega, fun e => by have := hgl _ e; omega⟩
      refine (entryG_c ra (fun k hk => by have := hgl k hk; omega) bq (by intro f hf; simp)).mono ?_
      rintro e w2 ⟨k2, ⟨hp2, rfl, -⟩ | ⟨x, r2, cur2, cs, hp2, rfl, h2, b2, put2, hx⟩⟩
      · exact ⟨rfl, (L.kept.trans (ka.mono (fun _ _ h => h.elim))).thn k2 (fun i hi => by rcases hi with rfl | rfl; exact .inl (.inl rfl); exact .inr hsw), .inl ⟨by rw [HP1.out]; exact pN_stop hk2 HP.out hp2, rfl, L.was.kept ka k2 (fun h => h) (fun h => by rcases h with h | h; exact hb.ne h; omega)⟩⟩
      have k02 : Kept (· = c) wr w2 := (ka.mono (fun _ _ h => h.elim)).thn k2 (fun i hi => by rcases hi with rfl | rfl; exact .inl rfl; exact .inr (Nat.le_refl _))
      have hxn : EntryT.Is w2 (New wr w2) cs x := EntryT.stable _ _ _ _ _ _ hx (fun k hk => ⟨by have := hk.1; omega, hk.2⟩) (fun _ _ => rfl)
      obtain ⟨rfl, -, -, -, -, -⟩ := hx
      have y0 : w2.cell? ⟨wr.heap.size, 0, none⟩ = some (Value.int IntKind.i64 x.version.epoch) := (cell_in b2.heap).trans (by have := put2.at_ 0 (by simp); simpa using this)
      have y1 : w2.cell? ⟨wr.heap.size, 1, none⟩ = some (Value.int IntKind.i64 x.version.n) := (cell_in b2.heap).trans (by have := put2.at_ 1 (by simp); simpa using this)
      have y2 : w2.cell? ⟨wr.heap.size, 2, none⟩ = some (Value.bool x.remove) := (cell_in b2.heap).trans (by have := put2.at_ 2 (by simp); simpa using this)
      have y3 : w2.cell? ⟨wr.heap.size, 3, none⟩ = some (Value.int IntKind.i64 x.errno) := (cell_in b2.heap).trans (by have := put2.at_ 3 (by simp); simpa using this)
      have y4 : w2.cell? ⟨wr.heap.size, 4, none⟩ = some (Value.string x.name) := (cell_in b2.heap).trans (by have := put2.at_ 4 (by simp); simpa using this)
      have y5 : w2.cell? ⟨wr.heap.size, 5, none⟩ = some (Value.int IntKind.i64 x.client) := (cell_in b2.heap).trans (by have := put2.at_ 5 (by simp); simpa using this)
      have y6 : w2.cell? ⟨wr.heap.size, 6, none⟩ = some (Value.int IntKind.i64 x.number) := (cell_in b2.heap).trans (by have := put2.at_ 6 (by simp); simpa using this)
      have lq2 := lt_in b2.heap
      have HP2 := Lib.hid (pN_next hk2 HP.out hp2)
      have bp2 : w2.heap[p]? = some (.cells curp t) := (k02.block _ lpr hb.ne).trans hbp
      have HBP := Lib.hid bp2
      have lp2 := lt_in bp2
      have hpq : p ≠ wr.heap.size := by omega
      have own2 := L.own.kept k02 (fun k hk e => by have := L.new k hk; omega)
      clear ka hq ra bq hbp pr HP hp2 bp2
      go_wp2
      refine wp_region_ordJ (fun w' => w'.heap[p]? = some (.cells curp t)) [4] [0, 1, 2, 3] [5, 6] [7, 8] (by kernel_rfl) (by kernel_rfl) (fun _ _ d _ _ h => by cases d <;> exact h) (fun k => HBP.out) ?_
      simp only [sel, List.filterMap_cons, List.filterMap_nil, List.getElem?_cons_zero, List.getElem?_cons_succ]
      repeat (quiet_step (fail))
      refine wpQuiet_nil ?_
      refine wpHeld_step (fun K hK => ?_)
      go_simp
      refine ⟨_, fun _ _ => rfl, hK _ ?_⟩
      refine wpHeld_step (fun K hK => ?_)
      go_simp
      refine ⟨_, fun _ _ => rfl, hK _ ?_⟩
      refine wpHeld_step (fun K hK => ?_)
      go_simp
      refine ⟨_, fun _ _ => rfl, hK _ ?_⟩
      refine wpHeld_step (fun K hK => ?_)
      go_simp
      refine ⟨.slice a xs.length cp, fun w' h => (by
        have h1 := (cell_in (k := o) h).trans hvp
        have h2 := lt_in h
        clear h
        go_simp), hK _ ?_⟩
      refine wpHeld_nil ?_
      rintro _ ⟨nr, rfl⟩
      have kd := Kept.drewN (fun _ => False) w2 nr
      have Q3 : Hid ((w2.drewN nr).heap[p]? = some (.cells curp t)) := Lib.hid HBP.out
      generalize w2.drewN nr = w3 at kd Q3 ⊢
      refine wpListS_step (fun K hK => ?_)
      go_simp
      have hA : (w3.alloc (Obj.cells #[Value.int IntKind.i64 x.version.epoch, Value.int IntKind.i64 x.version.n, Value.bool x.remove, Value.int IntKind.i64 x.errno, Value.string x.name, Value.int IntKind.i64 x.client, Value.int IntKind.i64 x.number] 40)).heap[p]? = some (.cells curp t) := (Below.heap_alloc _ _ _ (lt_in Q3.out)).trans Q3.out
      refine hK _ _ hA ?_
      clear hK
      have k34 := kd.al (Obj.cells #[Value.int IntKind.i64 x.version.epoch, Value.int IntKind.i64 x.version.n, Value.bool x.remove, Value.int IntKind.i64 x.errno, Value.string x.name, Value.int IntKind.i64 x.client, Value.int IntKind.i64 x.number] 40)
      have r4 := reads_allocN w3 [Value.int IntKind.i64 x.version.epoch, Value.int IntKind.i64 x.version.n, Value.bool x.remove, Value.int IntKind.i64 x.errno, Value.string x.name, Value.int IntKind.i64 x.client, Value.int IntKind.i64 x.number] 40 7 rfl
      generalize w3.alloc (Obj.cells #[Value.int IntKind.i64 x.version.epoch, Value.int IntKind.i64 x.version.n, Value.bool x.remove, Value.int IntKind.i64 x.errno, Value.string x.name, Value.int IntKind.i64 x.client, Value.int IntKind.i64 x.number] 40) = w4 at hA k34 r4 ⊢
      have own4 := own2.kept k34 (fun _ _ h => h)
      refine wpListS_append_Own rfl _ _ 33 33 rfl 40 i0 (Value.agg #[Value.int IntKind.i64 0, Value.int IntKind.i64 0, Value.bool false, Value.int IntKind.i64 0, Value.string ⟨#[]⟩, Value.int IntKind.i64 0, Value.int IntKind.i64 0]) 7 64 Tryz.underlying33 hi0 hz0 hz1 hz2 rfl rfl own4 rfl (r4.src Tryz.underlying33 (by intro u hu; simp only [List.mem_cons, List.not_mem_nil, or_false] at hu; rcases hu with rfl | rfl | rfl | rfl | rfl | rfl | rfl <;> rfl)) (by unfold maxLen; omega) (by omega) ?_
      intro a5 k5 w5 g5 hown5 hk5 hg5
      have hgp : g' ≠ some p := fun e => by have := L.new p e; omega
      have hA5 : w5.heap[p]? = _ := (hk5.block _ (lt_in hA) (fun h => hgp h)).trans hA
      refine ⟨hA5, ?_⟩
      refine wpListS_nil ?_
      have k04 : Kept (· = c) wr w4 := k02.trans (k34.mono (fun _ _ h => h.elim))
      have s4 := k34.size
      have hx4 : EntryT.Is w4 (New wr w4) _ x := EntryT.stable _ _ _ _ _ _ hxn (fun k hk => ⟨hk.1, by have := hk.2; omega⟩) (fun k hk => k34.block k hk.2 (fun h => h))
      have LN := Lib.hid (L.grow EntryT.stable (o := o) hlp hlc k04 hx4 rfl hown5 hk5 hg5)
      have RN := Lib.hid (Lst.rd L (w2 := w2) (o := o) (v4 := .slice a5 (xs.length + 1) k5) hlc hgl (h2.kept k34) hk5)
      have f0 : w5.frozen? ⟨p, o, none⟩ = false := frozen_in hA5
      have z5 := (cell_in (k := o) hA5).trans hvp
      have hl5 := lt_in hA5
      have HX2 : Hid ((xs ++ [x]).length = xs.length + 1) := Lib.hid (by rw [List.length_append]; rfl)
      clear hA5 hA hown5 own4 own2 r4 hk5 hg5 hx4 hxn
      go_wp2
      exact ⟨⟨xs.length + 1, _, xs ++ [x], _, r2, g5, by omega, by simp, HX2.out, HP2, RN.out, LN.out⟩, by simp [intOf]; omega⟩
    · obtain rfl : n = xs.length := by omega
      go_wp2
      obtain ⟨cur', hbl, hpu⟩ := L.blk
      exact bodyPost_end (v := .tuple #[]) (by simp [results, Tryz.results124]) rfl ⟨L.kept, .inr ⟨xs, r, cur', [v], by rw [HP1.out]; exact pN_end HP.out, rfl, hr, hbl, hpu, v, rfl, L.done EntryT.stable (by omega)⟩⟩

set_option maxRecDepth 100000 in
set_option maxHeartbeats 1600000 in
theorem lastG_c {w : World} {c p o : Nat} {bs : List UInt8} {g : Option Nat} {cur : Array Value} {t : TypeId} (h : Rd w c bs g) (hgl : ∀ k, g = some k → k < w.heap.size) (hb : Blk w p cur t c g) (hz : ∀ f, f < 5 → cur[o + f]? = ([Value.int IntKind.i64 0, Value.int IntKind.i64 0, Value.int IntKind.i64 0, Value.int IntKind.i64 0, Value.int IntKind.i64 0] : List Value)[f]?) :
    Calls Tryz.prog 126 #[.pointer (some ⟨c, 0, none⟩), .pointer (some ⟨p, o, none⟩)] w (Got LastT.Is pLast bs w c p o g cur t) := by
  have hmf : ∀ (fn : Fn) (first cap : Array Value) (w : World), (Instr.makeFunc fn first cap).run Tryz.prog w = .ok (.func fn first cap) w := fun _ _ _ _ => rfl
  have hlp := lt_in hb.heap
  have hlc := h.lt
  go_enter Tryz.func126, Tryz.ntmps126
  have B0 := hb
  have H0 := h
  have P0 := Put.nil cur o
  have K0 := Kept.refl (fun k => k = c ∨ k = p) w
  have z0 := hz
  clear h hb
  have lp0 := lt_in B0.heap
  go_wp2
  refine wp_region_ord [1, 2, 3, 4, 5, 6] [0] [7, 8] (by kernel_rfl) (by kernel_rfl) (fun _ _ d _ _ h => by cases d <;> exact h) ?_
  simp only [sel, List.filterMap_cons, List.filterMap_nil, List.getElem?_cons_zero, List.getElem?_cons_succ]
  repeat (quiet_step (fail))
  refine wpQuiet_nil ?_
  refine wpIdle_step (fun K hK => ?_)
  go_simp
  refine hK _ ?_
  clear hK
  refine wpIdle_nil ?_
  rintro _ ⟨nr, rfl⟩
  go_wp2_with fail
  have j0 : Kept (fun _ => False) w ((w.drewN nr).alloc (Obj.cells #[Value.pointer (some ⟨p, o, none⟩), Value.pointer (some ⟨p, o + 1, none⟩)] 140)) := (Kept.drewN _ _ _).al _
  have rr0 := (own_alloc (w.drewN nr) [Value.pointer (some ⟨p, o, none⟩), Value.pointer (some ⟨p, o + 1, none⟩)] 140 2 rfl (by decide)).reads
  have hs0 : (w.drewN nr).heap.size = w.heap.size := rfl
  rw [hs0] at rr0
  generalize (w.drewN nr).alloc (Obj.cells #[Value.pointer (some ⟨p, o, none⟩), Value.pointer (some ⟨p, o + 1, none⟩)] 140) = y0 at j0 rr0 ⊢
  have HH0 : Rd y0 c _ g := H0.kept j0
  have BB0 := B0.kept j0 (fun h => h)
  have hc0 : c < w.heap.size := H0.lt
  have lb0 := lt_in B0.heap
  refine (numsI_c (m := 2) (o := o) HH0 BB0 (gp := some w.heap.size) rr0 (fun k hk => by cases hk; exact ⟨Nat.ne_of_gt hc0, Nat.ne_of_gt lb0⟩) (by
    intro f hf
    obtain rfl | rfl : f = 0 ∨ f = 1 := by omega
    · exact ⟨0, by rw [P0.other _ (by simp)]; exact hz 0 (by omega)⟩
    · exact ⟨0, by rw [P0.other _ (by simp)]; exact hz 1 (by omega)⟩
    ) (by omega)).mono ?_
  rintro _ w1 ⟨k1, ⟨hp, rfl, hwas⟩ | ⟨ns0, r1, cur1, cs0, hp, rfl, H1, B1, q1, hx0⟩⟩
  · exact ⟨rfl, K0.trans (kept_alloc2 j0 k1), .inl ⟨by simp only [pLast, Option.bind_some]; exact pN2_none hp _, rfl, hwas.cast P0.size⟩⟩
  have K1 := K0.trans (kept_alloc2 j0 k1)
  replace k1 := kept_alloc2 j0 k1
  obtain rfl := hx0
  obtain ⟨n0_0, s0_0, n0_1, hp0_0, hp0_1, rfl⟩ := pN2_some hp
  simp only [List.map_cons, List.map_nil] at q1
  have P1 := P0.append q1
  go_wp2_with fail
  refine (errnoG_c H1 (fun k hk => by have := hgl k hk; have := K1.size; omega) B1 (by rw [P1.other (o + 2) (by simp)]; exact hz 2 (by omega))).mono ?_
  rintro _ w2 ⟨k2, ⟨hp, rfl, hwas⟩ | ⟨x1, r2, cur2, cs1, hp1, rfl, H2, B2, q2, hx1⟩⟩
  · exact ⟨rfl, K1.trans k2, .inl ⟨by simp only [pLast, hp0_0, hp0_1, Option.bind_some]; rw [hp]; rfl, rfl, hwas.cast P1.size⟩⟩
  have K2 := K1.trans k2
  have P2 := P1.append q2
  obtain ⟨rfl, j1⟩ := hx1
  have lp2 := lt_in B2.heap
  go_wp2_with fail
  refine (versionG_c H2 (fun k hk => by have := hgl k hk; have := K2.size; omega) B2 (o := o + 3) (by
    intro f hf
    obtain rfl | rfl : f = 0 ∨ f = 1 := by omega
    · rw [P2.other _ (by simp)]; exact hz 3 (by omega)
    · rw [P2.other _ (by simp)]; exact hz 4 (by omega)
    )).mono ?_
  rintro _ w3 ⟨k3, ⟨hp, rfl, hwas⟩ | ⟨x2, r3, cur3, cs2, hp2, rfl, H3, B3, q3, hx2⟩⟩
  · exact ⟨rfl, K2.trans k3, .inl ⟨by simp only [pLast, hp0_0, hp0_1, hp1, Option.bind_some]; rw [hp]; rfl, rfl, hwas.cast P2.size⟩⟩
  have K3 := K2.trans k3
  have P3 := P2.append q3
  obtain ⟨rfl, j2_0, j2_1⟩ := hx2
  go_wp2
  exact bodyPost_end (v := .tuple #[]) (by simp [results, Tryz.results126]) rfl ⟨K3, .inr ⟨⟨n0_0, n0_1, x1, x2⟩, r3, cur3, _, by simp only [pLast, hp0_0, hp0_1, hp1, hp2, Option.bind_some], rfl, H3, B3, P3, ⟨rfl, (lawI.dec _ _ _ hp0_0).2, (lawI.dec _ _ _ hp0_1).2, j1, j2_0, j2_1⟩⟩⟩

theorem info_Last : (Tryz.prog.info? 236).map (fun i => (i.zero, i.size, i.bytes)) = some (some (Value.agg #[Value.int IntKind.i64 0, Value.int IntKind.i64 0, Value.int IntKind.i64 0, Value.int IntKind.i64 0, Value.int IntKind.i64 0]), 5, 40) := by kernel_rfl

set_option maxRecDepth 100000 in
set_option maxHeartbeats 1600000 in
theorem listLastG_c {w : World} {c p o : Nat} {bs : List UInt8} {g : Option Nat} {cur : Array Value} {t : TypeId} (h : Rd w c bs g) (hgl : ∀ k, g = some k → k < w.heap.size) (hb : Blk w p cur t c g) (hz : cur[o]? = some (.slice none 0 0)) :
    Calls Tryz.prog 125 #[.pointer (some ⟨c, 0, none⟩), .pointer (some ⟨p, o, none⟩), .func (.func 126) #[.pointer (some ⟨c, 0, none⟩)] #[]] w (Got (sliceIs 5 LastT.Is) (pL pLast) bs w c p o g cur t) := by
  obtain ⟨i0, hi0, hz0, hz1, hz2⟩ := info_all info_Last
  have p0 : w.cell? ⟨p, o, none⟩ = some (.slice none 0 0) := (cell_in hb.heap).trans hz
  have hlp := lt_in hb.heap
  have hlc := h.lt
  go_enter Tryz.func125, Tryz.ntmps125
  go_wp2_with fail
  refine (countG_c h).mono ?_
  rintro e w1 ⟨k1, ⟨n, r1, hp1, rfl, h1⟩ | ⟨hp1, rfl⟩⟩
  rotate_left
  · exact ⟨rfl, k1.mono (fun _ _ h => .inl h), .inl ⟨by unfold pL; rw [hp1]; rfl, rfl, (hb.kept k1 hb.ne).was⟩⟩
  have hb1 := hb.kept k1 hb.ne
  have p1 : w1.cell? ⟨p, o, none⟩ = some (.slice none 0 0) := (cell_in hb1.heap).trans hz
  have f1 : w1.frozen? ⟨p, o, none⟩ = false := frozen_in hb1.heap
  have lp1 := lt_in hb1.heap
  have c2 : w1.cell? ⟨c, 2, none⟩ = some (.bool true) := by
    obtain ⟨vi, h2, -⟩ := h1.ex
    exact cell_in h2
  have lc1 := h1.lt
  have e1 := setCell_same' p1
  have L0 := Lst.start LastT.Is 5 236 hb1 hz k1
  have hn32 := (pC_some hp1).2.1
  have HP1 : Hid (pL pLast bs = pN pLast n r1) := Lib.hid (by unfold pL; rw [hp1]; rfl)
  clear p0 hb1 hp1
  go_wp2
  go_loopw [37] (fun i w' => ∃ (k : Nat) (v : Value) (xs : List LastT) (Ls : List (List Value)) (r : List UInt8) (g' : Option Nat), k ≤ n ∧ i = .int .i64 k ∧ xs.length = k ∧ Hid (pN pLast n r1 = (pN pLast (n - k) r).bind (fun z => some (xs ++ z.1, z.2))) ∧ Rd w' c r g ∧ Lst LastT.Is 5 236 w w' c p o g cur t v xs Ls g') (fun i _ => n - (intOf i).toNat)
  case atStart => exact ⟨0, _, [], [], r1, none, by omega, rfl, rfl, Lib.hid (by rw [Nat.sub_zero]; exact (bind_eta _).symm), h1, L0⟩
  case round =>
    obtain ⟨k, v, xs, Ls, r, g', hk, rfl, rfl, HP, hr, L⟩ := hrel
    by_cases hk2 : xs.length < n
    · have hki : (xs.length : Int) < (n : Int) := by omega
      obtain ⟨a, cp, rfl, hcp, -⟩ := L.own.shape
      obtain ⟨curp, hbp, hvp⟩ := L.cell
      have pr : wr.cell? ⟨p, o, none⟩ = some (.slice a xs.length cp) := (cell_in hbp).trans hvp
      have lpr := lt_in hbp
      have hsw := L.kept.size
      go_wp2_with fail
      have ka := Kept.alloc (fun _ => False) wr (Obj.cells #[Value.int IntKind.i64 0, Value.int IntKind.i64 0, Value.int IntKind.i64 0, Value.int IntKind.i64 0, Value.int IntKind.i64 0] 236)
      have hq : (wr.alloc (Obj.cells #[Value.int IntKind.i64 0, Value.int IntKind.i64 0, Value.int IntKind.i64 0, Value.int IntKind.i64 0, Value.int IntKind.i64 0] 236)).heap[wr.heap.size]? = some (Obj.cells #[Value.int IntKind.i64 0, Value.int IntKind.i64 0, Value.int IntKind.i64 0, Value.int IntKind.i64 0, Value.int IntKind.i64 0] 236) := heap_alloc_new' _ _
      have ra : Rd (wr.alloc (Obj.cells #[Value.int IntKind.i64 0, Value.int IntKind.i64 0, Value.int IntKind.i64 0, Value.int IntKind.i64 0, Value.int IntKind.i64 0] 236)) c r g := hr.kept ka
      have sa : (wr.alloc (Obj.cells #[Value.int IntKind.i64 0, Value.int IntKind.i64 0, Value.int IntKind.i64 0, Value.int IntKind.i64 0, Value.int IntKind.i64 0] 236)).heap.size = wr.heap.size + 1 := by simp
      generalize wr.alloc (Obj.cells #[Value.int IntKind.i64 0, Value.int IntKind.i64 0, Value.int IntKind.i64 0, Value.int IntKind.i64 0, Value.int IntKind.i64 0] 236) = wa at ka hq ra sa ⊢
      have bq : Blk wa wr.heap.size #[Value.int IntKind.i64 0, Value.int IntKind.i64 0, Value.int IntKind.i64 0, Value.int IntKind.i64 0, Value.int IntKind.i64 0] 236 c g := ⟨hq, by omega, fun e => by have := hgl _ e; omega⟩
      refine (lastG_c ra (fun k hk => by have := hgl k hk; omega) bq (by intro f hf; simp)).mono ?_
      rintro e w2 ⟨k2, ⟨hp2, rfl, -⟩ | ⟨x, r2, cur2, cs, hp2, rfl, h2, b2, put2, hx⟩⟩
      · exact ⟨rfl, (L.kept.trans (ka.mono (fun _ _ h => h.elim))).thn k2 (fun i hi => by rcases hi with rfl | rfl; exact .inl (.inl rfl); exact .inr hsw), .inl ⟨by rw [HP1.out]; exact pN_stop hk2 HP.out hp2, rfl, L.was.kept ka k2 (fun h => h) (fun h => by rcases h with h | h; exact hb.ne h; omega)⟩⟩
      have k02 : Kept (· = c) wr w2 := (ka.mono (fun _ _ h => h.elim)).thn k2 (fun i hi => by rcases hi with rfl | rfl; exact .inl rfl; exact .inr (Nat.le_refl _))
      have hxn : LastT.Is w2 (New wr w2) cs x := LastT.stable _ _ _ _ _ _ hx (fun k hk => ⟨by have := hk.1; omega, hk.2⟩) (fun _ _ => rfl)
      obtain ⟨rfl, -, -, -, -, -⟩ := hx
      have y0 : w2.cell? ⟨wr.heap.size, 0, none⟩ = some (Value.int IntKind.i64 x.client) := (cell_in b2.heap).trans (by have := put2.at_ 0 (by simp); simpa using this)
      have y1 : w2.cell? ⟨wr.heap.size, 1, none⟩ = some (Value.int IntKind.i64 x.number) := (cell_in b2.heap).trans (by have := put2.at_ 1 (by simp); simpa using this)
      have y2 : w2.cell? ⟨wr.heap.size, 2, none⟩ = some (Value.int IntKind.i64 x.errno) := (cell_in b2.heap).trans (by have := put2.at_ 2 (by simp); simpa using this)
      have y3 : w2.cell? ⟨wr.heap.size, 3, none⟩ = some (Value.int IntKind.i64 x.version.epoch) := (cell_in b2.heap).trans (by have := put2.at_ 3 (by simp); simpa using this)
      have y4 : w2.cell? ⟨wr.heap.size, 4, none⟩ = some (Value.int IntKind.i64 x.version.n) := (cell_in b2.heap).trans (by have := put2.at_ 4 (by simp); simpa using this)
      have lq2 := lt_in b2.heap
      have HP2 := Lib.hid (pN_next hk2 HP.out hp2)
      have bp2 : w2.heap[p]? = some (.cells curp t) := (k02.block _ lpr hb.ne).trans hbp
      have HBP := Lib.hid bp2
      have lp2 := lt_in bp2
      have hpq : p ≠ wr.heap.size := by omega
      have own2 := L.own.kept k02 (fun k hk e => by have := L.new k hk; omega)
      clear ka hq ra bq hbp pr HP hp2 bp2
      go_wp2
      refine wp_region_ordJ (fun w' => w'.heap[p]? = some (.cells curp t)) [4] [0, 1, 2, 3] [5, 6] [7, 8] (by kernel_rfl) (by kernel_rfl) (fun _ _ d _ _ h => by cases d <;> exact h) (fun k => HBP.out) ?_
      simp only [sel, List.filterMap_cons, List.filterMap_nil, List.getElem?_cons_zero, List.getElem?_cons_succ]
      repeat (quiet_step (fail))
      refine wpQuiet_nil ?_
      refine wpHeld_step (fun K hK => ?_)
      go_simp
      refine ⟨_, fun _ _ => rfl, hK _ ?_⟩
      refine wpHeld_step (fun K hK => ?_)
      go_simp
      refine ⟨_, fun _ _ => rfl, hK _ ?_⟩
      refine wpHeld_step (fun K hK => ?_)
      go_simp
      refine ⟨_, fun _ _ => rfl, hK _ ?_⟩
      refine wpHeld_step (fun K hK => ?_)
      go_simp
      refine ⟨.slice a xs.length cp, fun w' h => (by
        have h1 := (cell_in (k := o) h).trans hvp
        have h2 := lt_in h
        clear h
        go_simp), hK _ ?_⟩
      refine wpHeld_nil ?_
      rintro _ ⟨nr, rfl⟩
      have kd := Kept.drewN (fun _ => False) w2 nr
      have Q3 : Hid ((w2.drewN nr).heap[p]? = some (.cells curp t)) := Lib.hid HBP.out
      generalize w2.drewN nr = w3 at kd Q3 ⊢
      refine wpListS_step (fun K hK => ?_)
      go_simp
      have hA : (w3.alloc (Obj.cells #[Value.int IntKind.i64 x.client, Value.int IntKind.i64 x.number, Value.int IntKind.i64 x.errno, Value.int IntKind.i64 x.version.epoch, Value.int IntKind.i64 x.version.n] 236)).heap[p]? = some (.cells curp t) := (Below.heap_alloc _ _ _ (lt_in Q3.out)).trans Q3.out
      refine hK _ _ hA ?_
      clear hK
      have k34 := kd.al (Obj.cells #[Value.int IntKind.i64 x.client, Value.int IntKind.i64 x.number, Value.int IntKind.i64 x.errno, Value.int IntKind.i64 x.version.epoch, Value.int IntKind.i64 x.version.n] 236)
      have r4 := reads_allocN w3 [Value.int IntKind.i64 x.client, Value.int IntKind.i64 x.number, Value.int IntKind.i64 x.errno, Value.int IntKind.i64 x.version.epoch, Value.int IntKind.i64 x.version.n] 236 5 rfl
      generalize w3.alloc (Obj.cells #[Value.int IntKind.i64 x.client, Value.int IntKind.i64 x.number, Value.int IntKind.i64 x.errno, Value.int IntKind.i64 x.version.epoch, Value.int IntKind.i64 x.version.n] 236) = w4 at hA k34 r4 ⊢
      have own4 := own2.kept k34 (fun _ _ h => h)
      refine wpListS_append_Own rfl _ _ 34 34 rfl 236 i0 (Value.agg #[Value.int IntKind.i64 0, Value.int IntKind.i64 0, Value.int IntKind.i64 0, Value.int IntKind.i64 0, Value.int IntKind.i64 0]) 5 40 Tryz.underlying34 hi0 hz0 hz1 hz2 rfl rfl own4 rfl (r4.src Tryz.underlying34 (by intro u hu; simp only [List.mem_cons, List.not_mem_nil, or_false] at hu; rcases hu with rfl | rfl | rfl | rfl | rfl <;> rfl)) (by unfold maxLen; omega) (by omega) ?_
      intro a5 k5 w5 g5 hown5 hk5 hg5
      have hgp : g' ≠ some p := fun e => by have := L.new p e; omega
      have hA5 : w5.heap[p]? = _ := (hk5.block _ (lt_in hA) (fun h => hgp h)).trans hA
      refine ⟨hA5, ?_⟩
      refine wpListS_nil ?_
      have k04 : Kept (· = c) wr w4 := k02.trans (k34.mono (fun _ _ h => h.elim))
      have s4 := k34.size
      have hx4 : LastT.Is w4 (New wr w4) _ x := LastT.stable _ _ _ _ _ _ hxn (fun k hk => ⟨hk.1, by have := hk.2; omega⟩) (fun k hk => k34.block k hk.2 (fun h => h))
      have LN := Lib.hid (L.grow LastT.stable (o := o) hlp hlc k04 hx4 rfl hown5 hk5 hg5)
      have RN := Lib.hid (Lst.rd L (w2 := w2) (o := o) (v4 := .slice a5 (xs.length + 1) k5) hlc hgl (h2.kept k34) hk5)
      have f0 : w5.frozen? ⟨p, o, none⟩ = false := frozen_in hA5
      have z5 := (cell_in (k := o) hA5).trans hvp
      have hl5 := lt_in hA5
      have HX2 : Hid ((xs ++ [x]).length = xs.length + 1) := Lib.hid (by rw [List.length_append]; rfl)
      clear hA5 hA hown5 own4 own2 r4 hk5 hg5 hx4 hxn
      go_wp2
      exact ⟨⟨xs.length + 1, _, xs ++ [x], _, r2, g5, by omega, by simp, HX2.out, HP2, RN.out, LN.out⟩, by simp [intOf]; omega⟩
    · obtain rfl : n = xs.length := by omega
      go_wp2
      obtain ⟨cur', hbl, hpu⟩ := L.blk
      exact bodyPost_end (v := .tuple #[]) (by simp [results, Tryz.results125]) rfl ⟨L.kept, .inr ⟨xs, r, cur', [v], by rw [HP1.out]; exact pN_end HP.out, rfl, hr, hbl, hpu, v, rfl, L.done LastT.stable (by omega)⟩⟩

set_option maxRecDepth 100000 in
set_option maxHeartbeats 1600000 in
theorem itemG_c {w : World} {c p o : Nat} {bs : List UInt8} {g : Option Nat} {cur : Array Value} {t : TypeId} (h : Rd w c bs g) (hgl : ∀ k, g = some k → k < w.heap.size) (hb : Blk w p cur t c g) (hz : ∀ f, f < 4 → cur[o + f]? = ([Value.string ⟨#[]⟩, Value.int IntKind.i64 0, Value.int IntKind.i64 0, Value.int IntKind.u32 0] : List Value)[f]?) :
    Calls Tryz.prog 77 #[.pointer (some ⟨c, 0, none⟩), .pointer (some ⟨p, o, none⟩)] w (Got ItemT.Is pItem bs w c p o g cur t) := by
  have hmf : ∀ (fn : Fn) (first cap : Array Value) (w : World), (Instr.makeFunc fn first cap).run Tryz.prog w = .ok (.func fn first cap) w := fun _ _ _ _ => rfl
  have hlp := lt_in hb.heap
  have hlc := h.lt
  go_enter Tryz.func77, Tryz.ntmps77
  have B0 := hb
  have H0 := h
  have P0 := Put.nil cur o
  have K0 := Kept.refl (fun k => k = c ∨ k = p) w
  have z0 := hz
  clear h hb
  go_wp2_with fail
  refine (textG_c H0 (fun k hk => by have := hgl k hk; have := K0.size; omega) B0 (by rw [P0.other (o) (by simp)]; exact hz 0 (by omega))).mono ?_
  rintro _ w1 ⟨k1, ⟨hp, rfl, hwas⟩ | ⟨x0, r1, cur1, cs0, hp0, rfl, H1, B1, q1, hx0⟩⟩
  · exact ⟨rfl, K0.trans k1, .inl ⟨by simp only [pItem, Option.bind_some]; rw [hp]; rfl, rfl, hwas.cast P0.size⟩⟩
  have K1 := K0.trans k1
  have P1 := P0.append q1
  obtain rfl := hx0
  have lp1 := lt_in B1.heap
  go_wp2_with fail
  refine (versionG_c H1 (fun k hk => by have := hgl k hk; have := K1.size; omega) B1 (o := o + 1) (by
    intro f hf
    obtain rfl | rfl : f = 0 ∨ f = 1 := by omega
    · rw [P1.other _ (by simp)]; exact hz 1 (by omega)
    · rw [P1.other _ (by simp)]; exact hz 2 (by omega)
    )).mono ?_
  rintro _ w2 ⟨k2, ⟨hp, rfl, hwas⟩ | ⟨x1, r2, cur2, cs1, hp1, rfl, H2, B2, q2, hx1⟩⟩
  · exact ⟨rfl, K1.trans k2, .inl ⟨by simp only [pItem, hp0, Option.bind_some]; rw [hp]; rfl, rfl, hwas.cast P1.size⟩⟩
  have K2 := K1.trans k2
  have P2 := P1.append q2
  obtain ⟨rfl, j1_0, j1_1⟩ := hx1
  go_wp2_with fail
  refine (crcG_c H2 B2 (by rw [P2.other (o + 3) (by simp)]; exact hz 3 (by omega))).mono ?_
  rintro _ w3 ⟨k3, ⟨hp, rfl, hwas⟩ | ⟨x2, r3, cur3, cs2, hp2, rfl, H3, B3, q3, hx2⟩⟩
  · exact ⟨rfl, K2.trans k3, .inl ⟨by simp only [pItem, hp0, hp1, Option.bind_some]; rw [hp]; rfl, rfl, hwas.cast P2.size⟩⟩
  have K3 := K2.trans k3
  have P3 := P2.append q3
  obtain ⟨rfl, j2⟩ := hx2
  go_wp2
  exact bodyPost_end (v := .tuple #[]) (by simp [results, Tryz.results77]) rfl ⟨K3, .inr ⟨⟨x0, x1, x2⟩, r3, cur3, _, by simp only [pItem, hp0, hp1, hp2, Option.bind_some], rfl, H3, B3, P3, ⟨rfl, j1_0, j1_1, j2⟩⟩⟩

theorem info_Item : (Tryz.prog.info? 175).map (fun i => (i.zero, i.size, i.bytes)) = some (some (Value.agg #[Value.string ⟨#[]⟩, Value.int IntKind.i64 0, Value.int IntKind.i64 0, Value.int IntKind.u32 0]), 4, 40) := by kernel_rfl

set_option maxRecDepth 100000 in
set_option maxHeartbeats 1600000 in
theorem listItemG_c {w : World} {c p o : Nat} {bs : List UInt8} {g : Option Nat} {cur : Array Value} {t : TypeId} (h : Rd w c bs g) (hgl : ∀ k, g = some k → k < w.heap.size) (hb : Blk w p cur t c g) (hz : cur[o]? = some (.slice none 0 0)) :
    Calls Tryz.prog 76 #[.pointer (some ⟨c, 0, none⟩), .pointer (some ⟨p, o, none⟩), .func (.func 77) #[.pointer (some ⟨c, 0, none⟩)] #[]] w (Got (sliceIs 4 ItemT.Is) (pL pItem) bs w c p o g cur t) := by
  obtain ⟨i0, hi0, hz0, hz1, hz2⟩ := info_all info_Item
  have p0 : w.cell? ⟨p, o, none⟩ = some (.slice none 0 0) := (cell_in hb.heap).trans hz
  have hlp := lt_in hb.heap
  have hlc := h.lt
  go_enter Tryz.func76, Tryz.ntmps76
  go_wp2_with fail
  refine (countG_c h).mono ?_
  rintro e w1 ⟨k1, ⟨n, r1, hp1, rfl, h1⟩ | ⟨hp1, rfl⟩⟩
  rotate_left
  · exact ⟨rfl, k1.mono (fun _ _ h => .inl h), .inl ⟨by unfold pL; rw [hp1]; rfl, rfl, (hb.kept k1 hb.ne).was⟩⟩
  have hb1 := hb.kept k1 hb.ne
  have p1 : w1.cell? ⟨p, o, none⟩ = some (.slice none 0 0) := (cell_in hb1.heap).trans hz
  have f1 : w1.frozen? ⟨p, o, none⟩ = false := frozen_in hb1.heap
  have lp1 := lt_in hb1.heap
  have c2 : w1.cell? ⟨c, 2, none⟩ = some (.bool true) := by
    obtain ⟨vi, h2, -⟩ := h1.ex
    exact cell_in h2
  have lc1 := h1.lt
  have e1 := setCell_same' p1
  have L0 := Lst.start ItemT.Is 4 175 hb1 hz k1
  have hn32 := (pC_some hp1).2.1
  have HP1 : Hid (pL pItem bs = pN pItem n r1) := Lib.hid (by unfold pL; rw [hp1]; rfl)
  clear p0 hb1 hp1
  go_wp2
  go_loopw [37] (fun i w' => ∃ (k : Nat) (v : Value) (xs : List ItemT) (Ls : List (List Value)) (r : List UInt8) (g' : Option Nat), k ≤ n ∧ i = .int .i64 k ∧ xs.length = k ∧ Hid (pN pItem n r1 = (pN pItem (n - k) r).bind (fun z => some (xs ++ z.1, z.2))) ∧ Rd w' c r g ∧ Lst ItemT.Is 4 175 w w' c p o g cur t v xs Ls g') (fun i _ => n - (intOf i).toNat)
  case atStart => exact ⟨0, _, [], [], r1, none, by omega, rfl, rfl, Lib.hid (by rw [Nat.sub_zero]; exact (bind_eta _).symm), h1, L0⟩
  case round =>
    obtain ⟨k, v, xs, Ls, r, g', hk, rfl, rfl, HP, hr, L⟩ := hrel
    by_cases hk2 : xs.length < n
    · have hki : (xs.length : Int) < (n : Int) := by omega
      obtain ⟨a, cp, rfl, hcp, -⟩ := L.own.shape
      obtain ⟨curp, hbp, hvp⟩ := L.cell
      have pr : wr.cell? ⟨p, o, none⟩ = some (.slice a xs.length cp) := (cell_in hbp).trans hvp
      have lpr := lt_in hbp
      have hsw := L.kept.size
      go_wp2_with fail
      have ka := Kept.alloc (fun _ => False) wr (Obj.cells #[Value.string ⟨#[]⟩, Value.int IntKind.i64 0, Value.int IntKind.i64 0, Value.int IntKind.u32 0] 175)
      have hq : (wr.alloc (Obj.cells #[Value.string ⟨#[]⟩, Value.int IntKind.i64 0, Value.int IntKind.i64 0, Value.int IntKind.u32 0] 175)).heap[wr.heap.size]? = some (Obj.cells #[Value.string ⟨#[]⟩, Value.int IntKind.i64 0, Value.int IntKind.i64 0, Value.int IntKind.u32 0] 175) := heap_alloc_new' _ _
      have ra : Rd (wr.alloc (Obj.cells #[Value.string ⟨#[]⟩, Value.int IntKind.i64 0, Value.int IntKind.i64 0, Value.int IntKind.u32 0] 175)) c r g := hr.kept ka
      have sa : (wr.alloc (Obj.cells #[Value.string ⟨#[]⟩, Value.int IntKind.i64 0, Value.int IntKind.i64 0, Value.int IntKind.u32 0] 175)).heap.size = wr.heap.size + 1 := by simp
      generalize wr.alloc (Obj.cells #[Value.string ⟨#[]⟩, Value.int IntKind.i64 0, Value.int IntKind.i64 0, Value.int IntKind.u32 0] 175) = wa at ka hq ra sa ⊢
      have bq : Blk wa wr.heap.size #[Value.string ⟨#[]⟩, Value.int IntKind.i64 0, Value.int IntKind.i64 0, Value.int IntKind.u32 0] 175 c g := ⟨hq, by omega, fun e => by have := hgl _ e; omega⟩
      refine (itemG_c ra (fun k hk => by have := hgl k hk; omega) bq (by intro f hf; simp)).mono ?_
      rintro e w2 ⟨k2, ⟨hp2, rfl, -⟩ | ⟨x, r2, cur2, cs, hp2, rfl, h2, b2, put2, hx⟩⟩
      · exact ⟨rfl, (L.kept.trans (ka.mono (fun _ _ h => h.elim))).thn k2 (fun i hi => by rcases hi with rfl | rfl; exact .inl (.inl rfl); exact .inr hsw), .inl ⟨by rw [HP1.out]; exact pN_stop hk2 HP.out hp2, rfl, L.was.kept ka k2 (fun h => h) (fun h => by rcases h with h | h; exact hb.ne h; omega)⟩⟩
      have k02 : Kept (· = c) wr w2 := (ka.mono (fun _ _ h => h.elim)).thn k2 (fun i hi => by rcases hi with rfl | rfl; exact .inl rfl; exact .inr (Nat.le_refl _))
      have hxn : ItemT.Is w2 (New wr w2) cs x := ItemT.stable _ _ _ _ _ _ hx (fun k hk => ⟨by have := hk.1; omega, hk.2⟩) (fun _ _ => rfl)
      obtain ⟨rfl, -, -, -⟩ := hx
      have y0 : w2.cell? ⟨wr.heap.size, 0, none⟩ = some (Value.string x.name) := (cell_in b2.heap).trans (by have := put2.at_ 0 (by simp); simpa using this)
      have y1 : w2.cell? ⟨wr.heap.size, 1, none⟩ = some (Value.int IntKind.i64 x.version.epoch) := (cell_in b2.heap).trans (by have := put2.at_ 1 (by simp); simpa using this)
      have y2 : w2.cell? ⟨wr.heap.size, 2, none⟩ = some (Value.int IntKind.i64 x.version.n) := (cell_in b2.heap).trans (by have := put2.at_ 2 (by simp); simpa using this)
      have y3 : w2.cell? ⟨wr.heap.size, 3, none⟩ = some (Value.int IntKind.u32 (x.crc : Nat)) := (cell_in b2.heap).trans (by have := put2.at_ 3 (by simp); simpa using this)
      have lq2 := lt_in b2.heap
      have HP2 := Lib.hid (pN_next hk2 HP.out hp2)
      have bp2 : w2.heap[p]? = some (.cells curp t) := (k02.block _ lpr hb.ne).trans hbp
      have HBP := Lib.hid bp2
      have lp2 := lt_in bp2
      have hpq : p ≠ wr.heap.size := by omega
      have own2 := L.own.kept k02 (fun k hk e => by have := L.new k hk; omega)
      clear ka hq ra bq hbp pr HP hp2 bp2
      go_wp2
      refine wp_region_ordJ (fun w' => w'.heap[p]? = some (.cells curp t)) [4] [0, 1, 2, 3] [5, 6] [7, 8] (by kernel_rfl) (by kernel_rfl) (fun _ _ d _ _ h => by cases d <;> exact h) (fun k => HBP.out) ?_
      simp only [sel, List.filterMap_cons, List.filterMap_nil, List.getElem?_cons_zero, List.getElem?_cons_succ]
      repeat (quiet_step (fail))
      refine wpQuiet_nil ?_
      refine wpHeld_step (fun K hK => ?_)
      go_simp
      refine ⟨_, fun _ _ => rfl, hK _ ?_⟩
      refine wpHeld_step (fun K hK => ?_)
      go_simp
      refine ⟨_, fun _ _ => rfl, hK _ ?_⟩
      refine wpHeld_step (fun K hK => ?_)
      go_simp
      refine ⟨_, fun _ _ => rfl, hK _ ?_⟩
      refine wpHeld_step (fun K hK => ?_)
      go_simp
      refine ⟨.slice a xs.length cp, fun w' h => (by
        have h1 := (cell_in (k := o) h).trans hvp
        have h2 := lt_in h
        clear h
        go_simp), hK _ ?_⟩
      refine wpHeld_nil ?_
      rintro _ ⟨nr, rfl⟩
      have kd := Kept.drewN (fun _ => False) w2 nr
      have Q3 : Hid ((w2.drewN nr).heap[p]? = some (.cells curp t)) := Lib.hid HBP.out
      generalize w2.drewN nr = w3 at kd Q3 ⊢
      refine wpListS_step (fun K hK => ?_)
      go_simp
      have hA : (w3.alloc (Obj.cells #[Value.string x.name, Value.int IntKind.i64 x.version.epoch, Value.int IntKind.i64 x.version.n, Value.int IntKind.u32 (x.crc : Nat)] 175)).heap[p]? = some (.cells curp t) := (Below.heap_alloc _ _ _ (lt_in Q3.out)).trans Q3.out
      refine hK _ _ hA ?_
      clear hK
      have k34 := kd.al (Obj.cells #[Value.string x.name, Value.int IntKind.i64 x.version.epoch, Value.int IntKind.i64 x.version.n, Value.int IntKind.u32 (x.crc : Nat)] 175)
      have r4 := reads_allocN w3 [Value.string x.name, Value.int IntKind.i64 x.version.epoch, Value.int IntKind.i64 x.version.n, Value.int IntKind.u32 (x.crc : Nat)] 175 4 rfl
      generalize w3.alloc (Obj.cells #[Value.string x.name, Value.int IntKind.i64 x.version.epoch, Value.int IntKind.i64 x.version.n, Value.int IntKind.u32 (x.crc : Nat)] 175) = w4 at hA k34 r4 ⊢
      have own4 := own2.kept k34 (fun _ _ h => h)
      refine wpListS_append_Own rfl _ _ 35 35 rfl 175 i0 (Value.agg #[Value.string ⟨#[]⟩, Value.int IntKind.i64 0, Value.int IntKind.i64 0, Value.int IntKind.u32 0]) 4 40 Tryz.underlying35 hi0 hz0 hz1 hz2 rfl rfl own4 rfl (r4.src Tryz.underlying35 (by intro u hu; simp only [List.mem_cons, List.not_mem_nil, or_false] at hu; rcases hu with rfl | rfl | rfl | rfl <;> rfl)) (by unfold maxLen; omega) (by omega) ?_
      intro a5 k5 w5 g5 hown5 hk5 hg5
      have hgp : g' ≠ some p := fun e => by have := L.new p e; omega
      have hA5 : w5.heap[p]? = _ := (hk5.block _ (lt_in hA) (fun h => hgp h)).trans hA
      refine ⟨hA5, ?_⟩
      refine wpListS_nil ?_
      have k04 : Kept (· = c) wr w4 := k02.trans (k34.mono (fun _ _ h => h.elim))
      have s4 := k34.size
      have hx4 : ItemT.Is w4 (New wr w4) _ x := ItemT.stable _ _ _ _ _ _ hxn (fun k hk => ⟨hk.1, by have := hk.2; omega⟩) (fun k hk => k34.block k hk.2 (fun h => h))
      have LN := Lib.hid (L.grow ItemT.stable (o := o) hlp hlc k04 hx4 rfl hown5 hk5 hg5)
      have RN := Lib.hid (Lst.rd L (w2 := w2) (o := o) (v4 := .slice a5 (xs.length + 1) k5) hlc hgl (h2.kept k34) hk5)
      have f0 : w5.frozen? ⟨p, o, none⟩ = false := frozen_in hA5
      have z5 := (cell_in (k := o) hA5).trans hvp
      have hl5 := lt_in hA5
      have HX2 : Hid ((xs ++ [x]).length = xs.length + 1) := Lib.hid (by rw [List.length_append]; rfl)
      clear hA5 hA hown5 own4 own2 r4 hk5 hg5 hx4 hxn
      go_wp2
      exact ⟨⟨xs.length + 1, _, xs ++ [x], _, r2, g5, by omega, by simp, HX2.out, HP2, RN.out, LN.out⟩, by simp [intOf]; omega⟩
    · obtain rfl : n = xs.length := by omega
      go_wp2
      obtain ⟨cur', hbl, hpu⟩ := L.blk
      exact bodyPost_end (v := .tuple #[]) (by simp [results, Tryz.results76]) rfl ⟨L.kept, .inr ⟨xs, r, cur', [v], by rw [HP1.out]; exact pN_end HP.out, rfl, hr, hbl, hpu, v, rfl, L.done ItemT.stable (by omega)⟩⟩

set_option maxRecDepth 100000 in
set_option maxHeartbeats 1600000 in
theorem stateG_c {w : World} {c p o : Nat} {bs : List UInt8} {g : Option Nat} {cur : Array Value} {t : TypeId} (h : Rd w c bs g) (hgl : ∀ k, g = some k → k < w.heap.size) (hb : Blk w p cur t c g) (hz : ∀ f, f < 6 → cur[o + f]? = ([Value.int IntKind.i64 0, Value.int IntKind.i64 0, Value.int IntKind.i64 0, Value.slice none 0 0, Value.slice none 0 0, Value.slice none 0 0] : List Value)[f]?) :
    Calls Tryz.prog 50 #[.pointer (some ⟨c, 0, none⟩), .pointer (some ⟨p, o, none⟩)] w (Got StateT.Is pState bs w c p o g cur t) := by
  have hmf : ∀ (fn : Fn) (first cap : Array Value) (w : World), (Instr.makeFunc fn first cap).run Tryz.prog w = .ok (.func fn first cap) w := fun _ _ _ _ => rfl
  have hlp := lt_in hb.heap
  have hlc := h.lt
  go_enter Tryz.func50, Tryz.ntmps50
  have B0 := hb
  have H0 := h
  have P0 := Put.nil cur o
  have K0 := Kept.refl (fun k => k = c ∨ k = p) w
  have z0 := hz
  clear h hb
  go_wp2_with fail
  refine (numI_c H0 B0 (m := 0) (by rw [P0.other (o) (by simp)]; exact hz 0 (by omega))).mono ?_
  rintro _ w1 ⟨k1, ⟨hp, rfl, hwas⟩ | ⟨x0, r1, cur1, cs0, hp0, rfl, H1, B1, q1, hx0⟩⟩
  · exact ⟨rfl, K0.trans k1, .inl ⟨by simp only [pState, Option.bind_some]; rw [hp]; rfl, rfl, hwas.cast P0.size⟩⟩
  have K1 := K0.trans k1
  have P1 := P0.append q1
  obtain ⟨rfl, j0⟩ := hx0
  have lp1 := lt_in B1.heap
  go_wp2_with fail
  refine (versionG_c H1 (fun k hk => by have := hgl k hk; have := K1.size; omega) B1 (o := o + 1) (by
    intro f hf
    obtain rfl | rfl : f = 0 ∨ f = 1 := by omega
    · rw [P1.other _ (by simp)]; exact hz 1 (by omega)
    · rw [P1.other _ (by simp)]; exact hz 2 (by omega)
    )).mono ?_
  rintro _ w2 ⟨k2, ⟨hp, rfl, hwas⟩ | ⟨x1, r2, cur2, cs1, hp1, rfl, H2, B2, q2, hx1⟩⟩
  · exact ⟨rfl, K1.trans k2, .inl ⟨by simp only [pState, hp0, Option.bind_some]; rw [hp]; rfl, rfl, hwas.cast P1.size⟩⟩
  have K2 := K1.trans k2
  have P2 := P1.append q2
  obtain ⟨rfl, j1_0, j1_1⟩ := hx1
  have lp2 := lt_in B2.heap
  go_wp2_with fail
  refine (listEntryG_c H2 (fun k hk => by have := hgl k hk; have := K2.size; omega) B2 (by rw [P2.other (o + 3) (by simp)]; exact hz 3 (by omega))).mono ?_
  rintro _ w3 ⟨k3, ⟨hp, rfl, hwas⟩ | ⟨x2, r3, cur3, cs2, hp2, rfl, H3, B3, q3, hx2⟩⟩
  · exact ⟨rfl, K2.trans k3, .inl ⟨by simp only [pState, hp0, hp1, Option.bind_some]; rw [hp]; rfl, rfl, hwas.cast P2.size⟩⟩
  have K3 := K2.trans k3
  have P3 := P2.append q3
  obtain ⟨v2, rfl, l2⟩ := hx2
  have lp3 := lt_in B3.heap
  go_wp2_with fail
  refine (listLastG_c H3 (fun k hk => by have := hgl k hk; have := K3.size; omega) B3 (by rw [P3.other (o + 4) (by simp)]; exact hz 4 (by omega))).mono ?_
  rintro _ w4 ⟨k4, ⟨hp, rfl, hwas⟩ | ⟨x3, r4, cur4, cs3, hp3, rfl, H4, B4, q4, hx3⟩⟩
  · exact ⟨rfl, K3.trans k4, .inl ⟨by simp only [pState, hp0, hp1, hp2, Option.bind_some]; rw [hp]; rfl, rfl, hwas.cast P3.size⟩⟩
  have K4 := K3.trans k4
  have P4 := P3.append q4
  obtain ⟨v3, rfl, l3⟩ := hx3
  have lp4 := lt_in B4.heap
  go_wp2_with fail
  refine (listItemG_c H4 (fun k hk => by have := hgl k hk; have := K4.size; omega) B4 (by rw [P4.other (o + 5) (by simp)]; exact hz 5 (by omega))).mono ?_
  rintro _ w5 ⟨k5, ⟨hp, rfl, hwas⟩ | ⟨x4, r5, cur5, cs4, hp4, rfl, H5, B5, q5, hx4⟩⟩
  · exact ⟨rfl, K4.trans k5, .inl ⟨by simp only [pState, hp0, hp1, hp2, hp3, Option.bind_some]; rw [hp]; rfl, rfl, hwas.cast P4.size⟩⟩
  have K5 := K4.trans k5
  have P5 := P4.append q5
  obtain ⟨v4, rfl, l4⟩ := hx4
  go_wp2
  have T5 := Kept.refl (fun k => k = c ∨ k = p) w5
  have T4 := k5.trans T5
  have T3 := k4.trans T4
  have T2 := k3.trans T3
  have T1 := k2.trans T2
  exact bodyPost_end (v := .tuple #[]) (by simp [results, Tryz.results50]) rfl ⟨K5, .inr ⟨⟨x0, x1, x2, x3, x4⟩, r5, cur5, _, by simp only [pState, hp0, hp1, hp2, hp3, hp4, Option.bind_some], rfl, H5, B5, P5, ⟨v2, v3, v4, rfl, j0, j1_0, j1_1, l2.late EntryT.stable K2.size T3 hlc hlp, l3.late LastT.stable K3.size T4 hlc hlp, l4.late ItemT.stable K4.size T5 hlc hlp⟩⟩⟩

set_option maxRecDepth 100000 in
set_option maxHeartbeats 1600000 in
theorem stepG_c {w : World} {c p o : Nat} {bs : List UInt8} {g : Option Nat} {cur : Array Value} {t : TypeId} (h : Rd w c bs g) (hgl : ∀ k, g = some k → k < w.heap.size) (hb : Blk w p cur t c g) (hz : ∀ f, f < 8 → cur[o + f]? = ([Value.int IntKind.i64 0, Value.int IntKind.i64 0, Value.int IntKind.i64 0, Value.string ⟨#[]⟩, Value.int IntKind.i64 0, Value.int IntKind.i64 0, Value.string ⟨#[]⟩, Value.slice none 0 0] : List Value)[f]?) :
    Calls Tryz.prog 133 #[.pointer (some ⟨c, 0, none⟩), .pointer (some ⟨p, o, none⟩)] w (Got StepT.Is pStep bs w c p o g cur t) := by
  have hmf : ∀ (fn : Fn) (first cap : Array Value) (w : World), (Instr.makeFunc fn first cap).run Tryz.prog w = .ok (.func fn first cap) w := fun _ _ _ _ => rfl
  have hlp := lt_in hb.heap
  have hlc := h.lt
  go_enter Tryz.func133, Tryz.ntmps133
  have B0 := hb
  have H0 := h
  have P0 := Put.nil cur o
  have K0 := Kept.refl (fun k => k = c ∨ k = p) w
  have z0 := hz
  clear h hb
  go_wp2_with fail
  refine (numI_c H0 B0 (m := 0) (by rw [P0.other (o) (by simp)]; exact hz 0 (by omega))).mono ?_
  rintro _ w1 ⟨k1, ⟨hp, rfl, hwas⟩ | ⟨x0, r1, cur1, cs0, hp0, rfl, H1, B1, q1, hx0⟩⟩
  · exact ⟨rfl, K0.trans k1, .inl ⟨by simp only [pStep, Option.bind_some]; rw [hp]; rfl, rfl, hwas.cast P0.size⟩⟩
  have K1 := K0.trans k1
  have P1 := P0.append q1
  obtain ⟨rfl, j0⟩ := hx0
  have lp1 := lt_in B1.heap
  go_wp2_with fail
  refine (pgG_c H1 (fun k hk => by have := hgl k hk; have := K1.size; omega) B1 (o := o + 1) (by
    intro f hf
    obtain rfl | rfl : f = 0 ∨ f = 1 := by omega
    · rw [P1.other _ (by simp)]; exact hz 1 (by omega)
    · rw [P1.other _ (by simp)]; exact hz 2 (by omega)
    )).mono ?_
  rintro _ w2 ⟨k2, ⟨hp, rfl, hwas⟩ | ⟨x1, r2, cur2, cs1, hp1, rfl, H2, B2, q2, hx1⟩⟩
  · exact ⟨rfl, K1.trans k2, .inl ⟨by simp only [pStep, hp0, Option.bind_some]; rw [hp]; rfl, rfl, hwas.cast P1.size⟩⟩
  have K2 := K1.trans k2
  have P2 := P1.append q2
  obtain ⟨rfl, j1_0, j1_1⟩ := hx1
  go_wp2_with fail
  refine (textG_c H2 (fun k hk => by have := hgl k hk; have := K2.size; omega) B2 (by rw [P2.other (o + 3) (by simp)]; exact hz 3 (by omega))).mono ?_
  rintro _ w3 ⟨k3, ⟨hp, rfl, hwas⟩ | ⟨x2, r3, cur3, cs2, hp2, rfl, H3, B3, q3, hx2⟩⟩
  · exact ⟨rfl, K2.trans k3, .inl ⟨by simp only [pStep, hp0, hp1, Option.bind_some]; rw [hp]; rfl, rfl, hwas.cast P2.size⟩⟩
  have K3 := K2.trans k3
  have P3 := P2.append q3
  obtain rfl := hx2
  have lp3 := lt_in B3.heap
  go_wp2
  refine wp_region_ord [1, 2, 3, 4, 5, 6] [0] [7, 8] (by kernel_rfl) (by kernel_rfl) (fun _ _ d _ _ h => by cases d <;> exact h) ?_
  simp only [sel, List.filterMap_cons, List.filterMap_nil, List.getElem?_cons_zero, List.getElem?_cons_succ]
  repeat (quiet_step (fail))
  refine wpQuiet_nil ?_
  refine wpIdle_step (fun K hK => ?_)
  go_simp
  refine hK _ ?_
  clear hK
  refine wpIdle_nil ?_
  rintro _ ⟨nr, rfl⟩
  go_wp2_with fail
  have j3 : Kept (fun _ => False) w3 ((w3.drewN nr).alloc (Obj.cells #[Value.pointer (some ⟨p, o + 4, none⟩), Value.pointer (some ⟨p, o + 5, none⟩)] 140)) := (Kept.drewN _ _ _).al _
  have rr3 := (own_alloc (w3.drewN nr) [Value.pointer (some ⟨p, o + 4, none⟩), Value.pointer (some ⟨p, o + 5, none⟩)] 140 2 rfl (by decide)).reads
  have hs3 : (w3.drewN nr).heap.size = w3.heap.size := rfl
  rw [hs3] at rr3
  generalize (w3.drewN nr).alloc (Obj.cells #[Value.pointer (some ⟨p, o + 4, none⟩), Value.pointer (some ⟨p, o + 5, none⟩)] 140) = y3 at j3 rr3 ⊢
  have HH3 : Rd y3 c _ g := H3.kept j3
  have BB3 := B3.kept j3 (fun h => h)
  have hc3 : c < w3.heap.size := H3.lt
  have lb3 := lt_in B3.heap
  refine (numsI_c (m := 2) (o := o + 4) HH3 BB3 (gp := some w3.heap.size) rr3 (fun k hk => by cases hk; exact ⟨Nat.ne_of_gt hc3, Nat.ne_of_gt lb3⟩) (by
    intro f hf
    obtain rfl | rfl : f = 0 ∨ f = 1 := by omega
    · exact ⟨0, by rw [P3.other _ (by simp)]; exact hz 4 (by omega)⟩
    · exact ⟨0, by rw [P3.other _ (by simp)]; exact hz 5 (by omega)⟩
    ) (by omega)).mono ?_
  rintro _ w4 ⟨k4, ⟨hp, rfl, hwas⟩ | ⟨ns3, r4, cur4, cs3, hp, rfl, H4, B4, q4, hx3⟩⟩
  · exact ⟨rfl, K3.trans (kept_alloc2 j3 k4), .inl ⟨by simp only [pStep, hp0, hp1, hp2, Option.bind_some]; exact pN2_none hp _, rfl, hwas.cast P3.size⟩⟩
  have K4 := K3.trans (kept_alloc2 j3 k4)
  replace k4 := kept_alloc2 j3 k4
  obtain rfl := hx3
  obtain ⟨n3_0, s3_0, n3_1, hp3_0, hp3_1, rfl⟩ := pN2_some hp
  simp only [List.map_cons, List.map_nil] at q4
  have P4 := P3.append q4
  go_wp2_with fail
  refine (textG_c H4 (fun k hk => by have := hgl k hk; have := K4.size; omega) B4 (by rw [P4.other (o + 6) (by simp)]; exact hz 6 (by omega))).mono ?_
  rintro _ w5 ⟨k5, ⟨hp, rfl, hwas⟩ | ⟨x4, r5, cur5, cs4, hp4, rfl, H5, B5, q5, hx4⟩⟩
  · exact ⟨rfl, K4.trans k5, .inl ⟨by simp only [pStep, hp0, hp1, hp2, hp3_0, hp3_1, Option.bind_some]; rw [hp]; rfl, rfl, hwas.cast P4.size⟩⟩
  have K5 := K4.trans k5
  have P5 := P4.append q5
  obtain rfl := hx4
  go_wp2_with fail
  refine (bytesG_c H5 (fun k hk => by have := hgl k hk; have := K5.size; omega) B5 (by rw [P5.other (o + 7) (by simp)]; exact hz 7 (by omega))).mono ?_
  rintro _ w6 ⟨k6, ⟨hp, rfl, hwas⟩ | ⟨x5, r6, cur6, cs5, hp5, rfl, H6, B6, q6, hx5⟩⟩
  · exact ⟨rfl, K5.trans k6, .inl ⟨by simp only [pStep, hp0, hp1, hp2, hp3_0, hp3_1, hp4, Option.bind_some]; rw [hp]; rfl, rfl, hwas.cast P5.size⟩⟩
  have K6 := K5.trans k6
  have P6 := P5.append q6
  obtain ⟨v5, rfl, l5⟩ := hx5
  go_wp2
  have T6 := Kept.refl (fun k => k = c ∨ k = p) w6
  have T5 := k6.trans T6
  have T4 := k5.trans T5
  have T3 := k4.trans T4
  have T2 := k3.trans T3
  have T1 := k2.trans T2
  exact bodyPost_end (v := .tuple #[]) (by simp [results, Tryz.results133]) rfl ⟨K6, .inr ⟨⟨x0, x1, x2, n3_0, n3_1, x4, x5⟩, r6, cur6, _, by simp only [pStep, hp0, hp1, hp2, hp3_0, hp3_1, hp4, hp5, Option.bind_some], rfl, H6, B6, P6, ⟨v5, rfl, j0, j1_0, j1_1, (lawI.dec _ _ _ hp3_0).2, (lawI.dec _ _ _ hp3_1).2, l5.late byteIs_stable K5.size T6 hlc hlp⟩⟩⟩

theorem info_Step : (Tryz.prog.info? 246).map (fun i => (i.zero, i.size, i.bytes)) = some (some (Value.agg #[Value.int IntKind.i64 0, Value.int IntKind.i64 0, Value.int IntKind.i64 0, Value.string ⟨#[]⟩, Value.int IntKind.i64 0, Value.int IntKind.i64 0, Value.string ⟨#[]⟩, Value.slice none 0 0]), 8, 96) := by kernel_rfl

set_option maxRecDepth 100000 in
set_option maxHeartbeats 1600000 in
theorem listStepG_c {w : World} {c p o : Nat} {bs : List UInt8} {g : Option Nat} {cur : Array Value} {t : TypeId} (h : Rd w c bs g) (hgl : ∀ k, g = some k → k < w.heap.size) (hb : Blk w p cur t c g) (hz : cur[o]? = some (.slice none 0 0)) :
    Calls Tryz.prog 132 #[.pointer (some ⟨c, 0, none⟩), .pointer (some ⟨p, o, none⟩), .func (.func 133) #[.pointer (some ⟨c, 0, none⟩)] #[]] w (Got (sliceIs 8 StepT.Is) (pL pStep) bs w c p o g cur t) := by
  obtain ⟨i0, hi0, hz0, hz1, hz2⟩ := info_all info_Step
  have p0 : w.cell? ⟨p, o, none⟩ = some (.slice none 0 0) := (cell_in hb.heap).trans hz
  have hlp := lt_in hb.heap
  have hlc := h.lt
  go_enter Tryz.func132, Tryz.ntmps132
  go_wp2_with fail
  refine (countG_c h).mono ?_
  rintro e w1 ⟨k1, ⟨n, r1, hp1, rfl, h1⟩ | ⟨hp1, rfl⟩⟩
  rotate_left
  · exact ⟨rfl, k1.mono (fun _ _ h => .inl h), .inl ⟨by unfold pL; rw [hp1]; rfl, rfl, (hb.kept k1 hb.ne).was⟩⟩
  have hb1 := hb.kept k1 hb.ne
  have p1 : w1.cell? ⟨p, o, none⟩ = some (.slice none 0 0) := (cell_in hb1.heap).trans hz
  have f1 : w1.frozen? ⟨p, o, none⟩ = false := frozen_in hb1.heap
  have lp1 := lt_in hb1.heap
  have c2 : w1.cell? ⟨c, 2, none⟩ = some (.bool true) := by
    obtain ⟨vi, h2, -⟩ := h1.ex
    exact cell_in h2
  have lc1 := h1.lt
  have e1 := setCell_same' p1
  have L0 := Lst.start StepT.Is 8 246 hb1 hz k1
  have hn32 := (pC_some hp1).2.1
  have HP1 : Hid (pL pStep bs = pN pStep n r1) := Lib.hid (by unfold pL; rw [hp1]; rfl)
  clear p0 hb1 hp1
  go_wp2
  go_loopw [37] (fun i w' => ∃ (k : Nat) (v : Value) (xs : List StepT) (Ls : List (List Value)) (r : List UInt8) (g' : Option Nat), k ≤ n ∧ i = .int .i64 k ∧ xs.length = k ∧ Hid (pN pStep n r1 = (pN pStep (n - k) r).bind (fun z => some (xs ++ z.1, z.2))) ∧ Rd w' c r g ∧ Lst StepT.Is 8 246 w w' c p o g cur t v xs Ls g') (fun i _ => n - (intOf i).toNat)
  case atStart => exact ⟨0, _, [], [], r1, none, by omega, rfl, rfl, Lib.hid (by rw [Nat.sub_zero]; exact (bind_eta _).symm), h1, L0⟩
  case round =>
    obtain ⟨k, v, xs, Ls, r, g', hk, rfl, rfl, HP, hr, L⟩ := hrel
    by_cases hk2 : xs.length < n
    · have hki : (xs.length : Int) < (n : Int) := by omega
      obtain ⟨a, cp, rfl, hcp, -⟩ := L.own.shape
      obtain ⟨curp, hbp, hvp⟩ := L.cell
      have pr : wr.cell? ⟨p, o, none⟩ = some (.slice a xs.length cp) := (cell_in hbp).trans hvp
      have lpr := lt_in hbp
      have hsw := L.kept.size
      go_wp2_with fail
      have ka := Kept.alloc (fun _ => False) wr (Obj.cells #[Value.int IntKind.i64 0, Value.int IntKind.i64 0, Value.int IntKind.i64 0, Value.string ⟨#[]⟩, Value.int IntKind.i64 0, Value.int IntKind.i64 0, Value.string ⟨#[]⟩, Value.slice none 0 0] 246)
      have hq : (wr.alloc (Obj.cells #[Value.int IntKind.i64 0, Value.int IntKind.i64 0, Value.int IntKind.i64 0, Value.string ⟨#[]⟩, Value.int IntKind.i64 0, Value.int IntKind.i64 0, Value.string ⟨#[]⟩, Value.slice none 0 0] 246)).heap[wr.heap.size]? = some (Obj.cells #[Value.int IntKind.i64 0, Value.int IntKind.i64 0, Value.int IntKind.i64 0, Value.string ⟨#[]⟩, Value.int IntKind.i64 0, Value.int IntKind.i64 0, Value.string ⟨#[]⟩, Value.slice none 0 0] 246) := heap_alloc_new' _ _
      have ra : Rd (wr.alloc (Obj.cells #[Value.int IntKind.i64 0, Value.int IntKind.i64 0, Value.int IntKind.i64 0, Value.string ⟨#[]⟩, Value.int IntKind.i64 0, Value.int IntKind.i64 0, Value.string ⟨#[]⟩, Value.slice none 0 0] 246)) c r g := hr.kept ka
      have sa : (wr.alloc (Obj.cells #[Value.int IntKind.i64 0, Value.int IntKind.i64 0, Value.int IntKind.i64 0, Value.string ⟨#[]⟩, Value.int IntKind.i64 0, Value.int IntKind.i64 0, Value.string ⟨#[]⟩, Value.slice none 0 0] 246)).heap.size = wr.heap.size + 1 := by simp
      generalize wr.alloc (Obj.cells #[Value.int IntKind.i64 0, Value.int IntKind.i64 0, Value.int IntKind.i64 0, Value.string ⟨#[]⟩, Value.int IntKind.i64 0, Value.int IntKind.i64 0, Value.string ⟨#[]⟩, Value.slice none 0 0] 246) = wa at ka hq ra sa ⊢
      have bq : Blk wa wr.heap.size #[Value.int IntKind.i64 0, Value.int IntKind.i64 0, Value.int IntKind.i64 0, Value.string ⟨#[]⟩, Value.int IntKind.i64 0, Value.int IntKind.i64 0, Value.string ⟨#[]⟩, Value.slice none 0 0] 246 c g := ⟨hq, by omega, fun e => by have := hgl _ e; omega⟩
      refine (stepG_c ra (fun k hk => by have := hgl k hk; omega) bq (by intro f hf; simp)).mono ?_
      rintro e w2 ⟨k2, ⟨hp2, rfl, -⟩ | ⟨x, r2, cur2, cs, hp2, rfl, h2, b2, put2, hx⟩⟩
      · exact ⟨rfl, (L.kept.trans (ka.mono (fun _ _ h => h.elim))).thn k2 (fun i hi => by rcases hi with rfl | rfl; exact .inl (.inl rfl); exact .inr hsw), .inl ⟨by rw [HP1.out]; exact pN_stop hk2 HP.out hp2, rfl, L.was.kept ka k2 (fun h => h) (fun h => by rcases h with h | h; exact hb.ne h; omega)⟩⟩
      have k02 : Kept (· = c) wr w2 := (ka.mono (fun _ _ h => h.elim)).thn k2 (fun i hi => by rcases hi with rfl | rfl; exact .inl rfl; exact .inr (Nat.le_refl _))
      have hxn : StepT.Is w2 (New wr w2) cs x := StepT.stable _ _ _ _ _ _ hx (fun k hk => ⟨by have := hk.1; omega, hk.2⟩) (fun _ _ => rfl)
      obtain ⟨uv_data, rfl, -, -, -, -, -, m0⟩ := hx
      obtain ⟨au0, cu0, rfl, -⟩ := m0.shape
      have y0 : w2.cell? ⟨wr.heap.size, 0, none⟩ = some (Value.int IntKind.i64 x.kind) := (cell_in b2.heap).trans (by have := put2.at_ 0 (by simp); simpa using this)
      have y1 : w2.cell? ⟨wr.heap.size, 1, none⟩ = some (Value.int IntKind.i64 x.pg.pool) := (cell_in b2.heap).trans (by have := put2.at_ 1 (by simp); simpa using this)
      have y2 : w2.cell? ⟨wr.heap.size, 2, none⟩ = some (Value.int IntKind.i64 x.pg.seed) := (cell_in b2.heap).trans (by have := put2.at_ 2 (by simp); simpa using this)
      have y3 : w2.cell? ⟨wr.heap.size, 3, none⟩ = some (Value.string x.name) := (cell_in b2.heap).trans (by have := put2.at_ 3 (by simp); simpa using this)
      have y4 : w2.cell? ⟨wr.heap.size, 4, none⟩ = some (Value.int IntKind.i64 x.pos) := (cell_in b2.heap).trans (by have := put2.at_ 4 (by simp); simpa using this)
      have y5 : w2.cell? ⟨wr.heap.size, 5, none⟩ = some (Value.int IntKind.i64 x.n) := (cell_in b2.heap).trans (by have := put2.at_ 5 (by simp); simpa using this)
      have y6 : w2.cell? ⟨wr.heap.size, 6, none⟩ = some (Value.string x.key) := (cell_in b2.heap).trans (by have := put2.at_ 6 (by simp); simpa using this)
      have y7 : w2.cell? ⟨wr.heap.size, 7, none⟩ = some (Value.slice au0 x.data.length cu0) := (cell_in b2.heap).trans (by have := put2.at_ 7 (by simp); simpa using this)
      have lq2 := lt_in b2.heap
      have HP2 := Lib.hid (pN_next hk2 HP.out hp2)
      have bp2 : w2.heap[p]? = some (.cells curp t) := (k02.block _ lpr hb.ne).trans hbp
      have HBP := Lib.hid bp2
      have lp2 := lt_in bp2
      have hpq : p ≠ wr.heap.size := by omega
      have own2 := L.own.kept k02 (fun k hk e => by have := L.new k hk; omega)
      clear ka hq ra bq hbp pr HP hp2 bp2
      go_wp2
      refine wp_region_ordJ (fun w' => w'.heap[p]? = some (.cells curp t)) [4] [0, 1, 2, 3] [5, 6] [7, 8] (by kernel_rfl) (by kernel_rfl) (fun _ _ d _ _ h => by cases d <;> exact h) (fun k => HBP.out) ?_
      simp only [sel, List.filterMap_cons, List.filterMap_nil, List.getElem?_cons_zero, List.getElem?_cons_succ]
      repeat (quiet_step (fail))
      refine wpQuiet_nil ?_
      refine wpHeld_step (fun K hK => ?_)
      go_simp
      refine ⟨_, fun _ _ => rfl, hK _ ?_⟩
      refine wpHeld_step (fun K hK => ?_)
      go_simp
      refine ⟨_, fun _ _ => rfl, hK _ ?_⟩
      refine wpHeld_step (fun K hK => ?_)
      go_simp
      refine ⟨_, fun _ _ => rfl, hK _ ?_⟩
      refine wpHeld_step (fun K hK => ?_)
      go_simp
      refine ⟨.slice a xs.length cp, fun w' h => (by
        have h1 := (cell_in (k := o) h).trans hvp
        have h2 := lt_in h
        clear h
        go_simp), hK _ ?_⟩
      refine wpHeld_nil ?_
      rintro _ ⟨nr, rfl⟩
      have kd := Kept.drewN (fun _ => False) w2 nr
      have Q3 : Hid ((w2.drewN nr).heap[p]? = some (.cells curp t)) := Lib.hid HBP.out
      generalize w2.drewN nr = w3 at kd Q3 ⊢
      refine wpListS_step (fun K hK => ?_)
      go_simp
      have hA : (w3.alloc (Obj.cells #[Value.int IntKind.i64 x.kind, Value.int IntKind.i64 x.pg.pool, Value.int IntKind.i64 x.pg.seed, Value.string x.name, Value.int IntKind.i64 x.pos, Value.int IntKind.i64 x.n, Value.string x.key, Value.slice au0 x.data.length cu0] 246)).heap[p]? = some (.cells curp t) := (Below.heap_alloc _ _ _ (lt_in Q3.out)).trans Q3.out
      refine hK _ _ hA ?_
      clear hK
      have k34 := kd.al (Obj.cells #[Value.int IntKind.i64 x.kind, Value.int IntKind.i64 x.pg.pool, Value.int IntKind.i64 x.pg.seed, Value.string x.name, Value.int IntKind.i64 x.pos, Value.int IntKind.i64 x.n, Value.string x.key, Value.slice au0 x.data.length cu0] 246)
      have r4 := reads_allocN w3 [Value.int IntKind.i64 x.kind, Value.int IntKind.i64 x.pg.pool, Value.int IntKind.i64 x.pg.seed, Value.string x.name, Value.int IntKind.i64 x.pos, Value.int IntKind.i64 x.n, Value.string x.key, Value.slice au0 x.data.length cu0] 246 8 rfl
      generalize w3.alloc (Obj.cells #[Value.int IntKind.i64 x.kind, Value.int IntKind.i64 x.pg.pool, Value.int IntKind.i64 x.pg.seed, Value.string x.name, Value.int IntKind.i64 x.pos, Value.int IntKind.i64 x.n, Value.string x.key, Value.slice au0 x.data.length cu0] 246) = w4 at hA k34 r4 ⊢
      have own4 := own2.kept k34 (fun _ _ h => h)
      refine wpListS_append_Own rfl _ _ 81 81 rfl 246 i0 (Value.agg #[Value.int IntKind.i64 0, Value.int IntKind.i64 0, Value.int IntKind.i64 0, Value.string ⟨#[]⟩, Value.int IntKind.i64 0, Value.int IntKind.i64 0, Value.string ⟨#[]⟩, Value.slice none 0 0]) 8 96 Tryz.underlying81 hi0 hz0 hz1 hz2 rfl rfl own4 rfl (r4.src Tryz.underlying81 (by intro u hu; simp only [List.mem_cons, List.not_mem_nil, or_false] at hu; rcases hu with rfl | rfl | rfl | rfl | rfl | rfl | rfl | rfl <;> rfl)) (by unfold maxLen; omega) (by omega) ?_
      intro a5 k5 w5 g5 hown5 hk5 hg5
      have hgp : g' ≠ some p := fun e => by have := L.new p e; omega
      have hA5 : w5.heap[p]? = _ := (hk5.block _ (lt_in hA) (fun h => hgp h)).trans hA
      refine ⟨hA5, ?_⟩
      refine wpListS_nil ?_
      have k04 : Kept (· = c) wr w4 := k02.trans (k34.mono (fun _ _ h => h.elim))
      have s4 := k34.size
      have hx4 : StepT.Is w4 (New wr w4) _ x := StepT.stable _ _ _ _ _ _ hxn (fun k hk => ⟨hk.1, by have := hk.2; omega⟩) (fun k hk => k34.block k hk.2 (fun h => h))
      have LN := Lib.hid (L.grow StepT.stable (o := o) hlp hlc k04 hx4 rfl hown5 hk5 hg5)
      have RN := Lib.hid (Lst.rd L (w2 := w2) (o := o) (v4 := .slice a5 (xs.length + 1) k5) hlc hgl (h2.kept k34) hk5)
      have f0 : w5.frozen? ⟨p, o, none⟩ = false := frozen_in hA5
      have z5 := (cell_in (k := o) hA5).trans hvp
      have hl5 := lt_in hA5
      have HX2 : Hid ((xs ++ [x]).length = xs.length + 1) := Lib.hid (by rw [List.length_append]; rfl)
      clear hA5 hA hown5 own4 own2 r4 hk5 hg5 hx4 hxn
      go_wp2
      exact ⟨⟨xs.length + 1, _, xs ++ [x], _, r2, g5, by omega, by simp, HX2.out, HP2, RN.out, LN.out⟩, by simp [intOf]; omega⟩
    · obtain rfl : n = xs.length := by omega
      go_wp2
      obtain ⟨cur', hbl, hpu⟩ := L.blk
      exact bodyPost_end (v := .tuple #[]) (by simp [results, Tryz.results132]) rfl ⟨L.kept, .inr ⟨xs, r, cur', [v], by rw [HP1.out]; exact pN_end HP.out, rfl, hr, hbl, hpu, v, rfl, L.done StepT.stable (by omega)⟩⟩

set_option maxRecDepth 100000 in
set_option maxHeartbeats 1600000 in
theorem txG_c {w : World} {c p o : Nat} {bs : List UInt8} {g : Option Nat} {cur : Array Value} {t : TypeId} (h : Rd w c bs g) (hgl : ∀ k, g = some k → k < w.heap.size) (hb : Blk w p cur t c g) (hz : ∀ f, f < 1 → cur[o + f]? = ([Value.slice none 0 0] : List Value)[f]?) :
    Calls Tryz.prog 55 #[.pointer (some ⟨c, 0, none⟩), .pointer (some ⟨p, o, none⟩)] w (Got TxT.Is pTx bs w c p o g cur t) := by
  have hmf : ∀ (fn : Fn) (first cap : Array Value) (w : World), (Instr.makeFunc fn first cap).run Tryz.prog w = .ok (.func fn first cap) w := fun _ _ _ _ => rfl
  have hlp := lt_in hb.heap
  have hlc := h.lt
  go_enter Tryz.func55, Tryz.ntmps55
  have B0 := hb
  have H0 := h
  have P0 := Put.nil cur o
  have K0 := Kept.refl (fun k => k = c ∨ k = p) w
  have z0 := hz
  clear h hb
  have lp0 := lt_in B0.heap
  go_wp2_with fail
  refine (listStepG_c H0 (fun k hk => by have := hgl k hk; have := K0.size; omega) B0 (by rw [P0.other (o) (by simp)]; exact hz 0 (by omega))).mono ?_
  rintro _ w1 ⟨k1, ⟨hp, rfl, hwas⟩ | ⟨x0, r1, cur1, cs0, hp0, rfl, H1, B1, q1, hx0⟩⟩
  · exact ⟨rfl, K0.trans k1, .inl ⟨by simp only [pTx, Option.bind_some]; rw [hp]; rfl, rfl, hwas.cast P0.size⟩⟩
  have K1 := K0.trans k1
  have P1 := P0.append q1
  obtain ⟨v0, rfl, l0⟩ := hx0
  go_wp2
  have T1 := Kept.refl (fun k => k = c ∨ k = p) w1
  exact bodyPost_end (v := .tuple #[]) (by simp [results, Tryz.results55]) rfl ⟨K1, .inr ⟨⟨x0⟩, r1, cur1, _, by simp only [pTx, hp0, Option.bind_some], rfl, H1, B1, P1, ⟨v0, rfl, l0.late StepT.stable K0.size T1 hlc hlp⟩⟩⟩

end Go.Proofs.YtanmfldgillodaaGreat
