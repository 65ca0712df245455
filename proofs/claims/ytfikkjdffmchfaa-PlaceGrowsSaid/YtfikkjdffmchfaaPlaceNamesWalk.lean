/- The walk of the law PlaceNames. -/
import Derived.Test.YtfikkjdffmchfaaPg
import Derived.Test.YtfikkjdffmchfaaFlat
set_option linter.unusedSimpArgs false
set_option linter.unusedVariables false
namespace Go.Proofs.Ytfikkjdffmchfaa
open Go.RowKit Go.ChangeShapes Go.WideShapes Go.ChangeAt
open Go.ChangeMaps (open_string shut_string)

/-- A pool out of its cells. -/
def numV : Value → Int
  | .int _ n => n
  | _ => 0
def PoolT.ofCells (l : List Value) : PoolT := ⟨numV (l.getD 0 undef), numV (l.getD 1 undef), numV (l.getD 2 undef), numV (l.getD 3 undef)⟩

theorem PoolT.cells_of {l : List Value} (h : Fits [.int .i64, .int .i64, .int .i64, .int .i64] l) : (PoolT.ofCells l).cells = l ∧ -9223372036854775808 ≤ (PoolT.ofCells l).pgs ∧ (PoolT.ofCells l).pgs ≤ 9223372036854775807 := by
  obtain ⟨hl, hk⟩ := h
  obtain ⟨a, ha, n0, rfl, w0⟩ := hk 0 _ rfl
  obtain ⟨b, hb, n1, rfl, w1⟩ := hk 1 _ rfl
  obtain ⟨c, hc, n2, rfl, w2⟩ := hk 2 _ rfl
  obtain ⟨d, hd, n3, rfl, w3⟩ := hk 3 _ rfl
  match l, hl with
  | [x0, x1, x2, x3], _ =>
    simp at ha hb hc hd
    subst ha hb hc hd
    simp only [Lit.wf, IntKind.min, IntKind.max, IntKind.signed, IntKind.bits] at w3
    simp at w3
    exact ⟨rfl, w3.1, w3.2⟩

theorem pool_flat : IsFlat Try.prog 35 [.int .i64, .int .i64, .int .i64, .int .i64] := ⟨by kernel_rfl, _, Try.underlying35, by kernel_rfl⟩

theorem slice_shape {H : Type} {enc : TypeId × Value → H} {P : Program} {W : World} {base fuel : Nat} {spare : Nat → Bool} {held : Bool} {t e : TypeId} {cs : List Value} {x : DataW H × List MemPlace} (ht : P.underlying t = some (.slice e)) (h : DataW.trod enc P W base spare held fuel t cs = some x) : ∃ a n c, cs = [.slice a n c] := by
  rcases DataW.trod_slice ht h with ⟨h1, -⟩ | ⟨a, len, cap, elems, rest, m, -, h1, -⟩
  · exact ⟨_, _, _, h1⟩
  · exact ⟨_, _, _, h1⟩

theorem open_map {H : Type} {enc : TypeId × Value → H} {W : World} {base : Nat} {v0 : Value} {d0 : DataW H} {p0 : List MemPlace} {fs : Array Field} (hu : Try.prog.underlying 26 = some (.struct fs))
    (k0 : Value.okWide Try.prog W .any base 26 v0) (h0 : DataW.Trod enc Try.prog W 0 (fun _ => true) true 26 v0 d0 p0) (hw : ∀ n ∈ d0.weights Try.prog 26, n ≤ reachBytes) :
    ∃ (ep : Int) (vo vp vb : Value) (lf : Int) (ao : Option Addr) (no co : Nat) (ab : Option Addr) (nb cb : Nat) (pl : List PoolT) (g : Option Nat), v0 = .agg #[.int .i64 ep, vo, vp, vb, .int .i64 lf] ∧ vo = .slice ao no co ∧ vb = .slice ab nb cb ∧
      Reads W 4 vp pl.length (pl.flatMap PoolT.cells) g ∧ (∀ k, g = some k → k < W.heap.size) ∧ pl.length ≤ 140737488351232 ∧ ∀ p ∈ pl, -9223372036854775808 ≤ p.pgs ∧ p.pgs ≤ 9223372036854775807 := by
  obtain ⟨cs, rfl, hsz⟩ := okWide_struct hu k0
  obtain ⟨fuel, hf⟩ := h0
  obtain ⟨xs, m, rfl, hx, hl, hxl, hel⟩ := DataW.trod_struct hu hf
  obtain rfl : fs = _ := by
    have := hu.symm.trans Try.underlying26
    simpa using this
  have hc5 : Try.prog.cellsOf 26 = 5 := by kernel_rfl
  rw [hc5] at hsz
  obtain ⟨l⟩ := cs
  match l, hsz with
  | [c0, c1, c2, c3, c4], _ =>
  have e0 : DataW.trod enc Try.prog W 0 (fun _ => true) true m 3 (([c0, c1, c2, c3, c4].drop 0).take (Try.prog.cellsOf 3)) = xs[0]? := hel 0 _ rfl
  have e1 : DataW.trod enc Try.prog W 0 (fun _ => true) true m 22 (([c0, c1, c2, c3, c4].drop 1).take (Try.prog.cellsOf 22)) = xs[1]? := hel 1 _ rfl
  have e2 : DataW.trod enc Try.prog W 0 (fun _ => true) true m 23 (([c0, c1, c2, c3, c4].drop 2).take (Try.prog.cellsOf 23)) = xs[2]? := hel 2 _ rfl
  have e3 : DataW.trod enc Try.prog W 0 (fun _ => true) true m 24 (([c0, c1, c2, c3, c4].drop 3).take (Try.prog.cellsOf 24)) = xs[3]? := hel 3 _ rfl
  have e4 : DataW.trod enc Try.prog W 0 (fun _ => true) true m 3 (([c0, c1, c2, c3, c4].drop 4).take (Try.prog.cellsOf 3)) = xs[4]? := hel 4 _ rfl
  simp only [List.size_toArray, List.length_cons, List.length_nil] at hxl
  rw [List.getElem?_eq_getElem (by omega)] at e0 e1 e2 e3 e4
  rw [show Try.prog.cellsOf 3 = 1 by kernel_rfl] at e0 e4
  rw [show Try.prog.cellsOf 22 = 1 by kernel_rfl] at e1
  rw [show Try.prog.cellsOf 23 = 1 by kernel_rfl] at e2
  rw [show Try.prog.cellsOf 24 = 1 by kernel_rfl] at e3
  simp only [Value.cells, List.drop_zero, List.drop_succ_cons, List.take_succ_cons, List.take_zero] at e0 e1 e2 e3 e4
  obtain ⟨ep, q0, -, -⟩ := DataW.trod_int Try.underlying3 e0
  obtain ⟨lf, q4, -, -⟩ := DataW.trod_int Try.underlying3 e4
  obtain ⟨ao, no, co, q1⟩ := slice_shape Try.underlying22 e1
  obtain ⟨ab, nb, cb, q3⟩ := slice_shape Try.underlying24 e3
  obtain ⟨vp, L, g, q2, hr, hg, hfit, hbig⟩ := flats_of_trod (B := 32) Try.underlying23 pool_flat (by decide) (by kernel_rfl) e2 (fun n hn => hw n (by
    have e : d0 = .agg (xs.map (·.1)) := (Prod.mk.inj hx).1
    rw [e]
    simp only [DataW.weights, hu]
    exact DataW.weights_mem_each (j := 2) rfl (by rw [List.getElem?_map, List.getElem?_eq_getElem (by omega)]; rfl) n hn))
  simp at q0 q1 q2 q3 q4
  subst q0 q1 q2 q3 q4
  have hLm : ∀ l ∈ L, (PoolT.ofCells l).cells = l := fun l h => (PoolT.cells_of (hfit l h)).1
  have hflat : (L.map PoolT.ofCells).flatMap PoolT.cells = L.flatten := by
    rw [List.flatMap_map]
    clear hr hg hfit hbig
    induction L with
    | nil => rfl
    | cons a r ih => rw [List.flatMap_cons, List.flatten_cons, hLm a (by simp), ih (fun l h => hLm l (by simp [h]))]
  refine ⟨ep, _, _, _, lf, ao, no, co, ab, nb, cb, L.map PoolT.ofCells, g, rfl, rfl, rfl, ?_, hg, ?_, ?_⟩
  · rw [hflat, List.length_map]; exact hr
  · rw [List.length_map]; simp only [reachBytes] at hbig; omega
  · intro p hp
    obtain ⟨l, hl', rfl⟩ := List.mem_map.1 hp
    exact (PoolT.cells_of (hfit l hl')).2

/-- What Pg answers. -/
def pgAns (f : Option PoolT) (id : Int) (s : ByteArray) : Int × Int × Int :=
  match f with
  | none => (0, 0, 2)
  | some r => if goodB s.data.toList then (id, smod (nameU s.data.toList) r.pgs.toNat, 0) else (0, 0, 36)

def pgVal (a : Int × Int × Int) : Value := .tuple #[.agg #[.int .i64 a.1, .int .i64 a.2.1], .int .i64 a.2.2]

theorem pg_c {w : World} {vp : Value} {pl : List PoolT} {g : Option Nat} (hr : Reads w 4 vp pl.length (pl.flatMap PoolT.cells) g) (hm : pl.length ≤ 140737488351232) (ep lf : Int) (vo vb : Value) (ao : Option Addr) (no co : Nat) (ho : vo = .slice ao no co) (ab : Option Addr) (nb cb : Nat) (hb : vb = .slice ab nb cb) (id : Int) (s : ByteArray) (hs : s.size ≤ 140737488351232) (hin : ∀ p ∈ pl, -9223372036854775808 ≤ p.pgs ∧ p.pgs ≤ 9223372036854775807) :
    Calls Try.prog 6 #[.agg #[.int .i64 ep, vo, vp, vb, .int .i64 lf], .int .i64 id, .string s] w fun e w' => e = .returned (pgVal (pgAns (pl.find? (fun q => q.id == id)) id s)) ∧ Kept (fun _ => False) w w' := by
  cases hf : pl.find? (fun q => q.id == id) with
  | none => exact pg_none hr hm ep lf vo vb ao no co ho ab nb cb hb id s hf
  | some r =>
    have hr1 := hin r (List.mem_of_find?_eq_some hf)
    cases hg : goodB s.data.toList with
    | false => simp only [pgAns, hg]; exact pg_bad hr hm ep lf vo vb ao no co ho ab nb cb hb id s hs r hf hg
    | true => simp only [pgAns, hg]; exact pg_ok hr hm ep lf vo vb ao no co ho ab nb cb hb id s hs r hr1.1 hr1.2 hf hg

theorem pgRef_c {w : World} {vp : Value} {pl : List PoolT} {g : Option Nat} (hr : Reads w 4 vp pl.length (pl.flatMap PoolT.cells) g) (hm : pl.length ≤ 140737488351232) (ep lf : Int) (vo vb : Value) (ao : Option Addr) (no co : Nat) (ho : vo = .slice ao no co) (ab : Option Addr) (nb cb : Nat) (hb : vb = .slice ab nb cb) (id : Int) (s : ByteArray) (hs : s.size ≤ 140737488351232) (hin : ∀ p ∈ pl, -9223372036854775808 ≤ p.pgs ∧ p.pgs ≤ 9223372036854775807) :
    Calls Try.prog 7 #[.agg #[.int .i64 ep, vo, vp, vb, .int .i64 lf], .int .i64 id, .string s] w fun e w' => e = .returned (pgVal (pgAns (pl.find? (fun q => q.id == id)) id s)) ∧ Kept (fun _ => False) w w' := by
  cases hf : pl.find? (fun q => q.id == id) with
  | none => exact pgRef_none hr hm ep lf vo vb ao no co ho ab nb cb hb id s hf
  | some r =>
    have hr1 := hin r (List.mem_of_find?_eq_some hf)
    cases hg : goodB s.data.toList with
    | false => simp only [pgAns, hg]; exact pgRef_bad hr hm ep lf vo vb ao no co ho ab nb cb hb id s hs r hf hg
    | true => simp only [pgAns, hg]; exact pgRef_ok hr hm ep lf vo vb ao no co ho ab nb cb hb id s hs r hr1.1 hr1.2 hf hg

set_option maxRecDepth 100000 in
set_option maxHeartbeats 1000000 in
theorem names_core {w : World} {vp : Value} {pl : List PoolT} {g : Option Nat} (hr : Reads w 4 vp pl.length (pl.flatMap PoolT.cells) g) (hm : pl.length ≤ 140737488351232) (ep lf : Int) (vo vb : Value) (ao : Option Addr) (no co : Nat) (ho : vo = .slice ao no co) (ab : Option Addr) (nb cb : Nat) (hb : vb = .slice ab nb cb) (id : Int) (s : ByteArray) (hs : s.size ≤ 140737488351232) (hin : ∀ p ∈ pl, -9223372036854775808 ≤ p.pgs ∧ p.pgs ≤ 9223372036854775807) :
    Calls Try.prog 3 #[.agg #[.int .i64 ep, vo, vp, vb, .int .i64 lf], .int .i64 id, .string s] w fun e w' => e = .returned (.bool true) ∧ Kept (fun _ => False) w w' := by
  obtain ⟨a, ha⟩ : ∃ a, a = pgAns (pl.find? (fun q => q.id == id)) id s := ⟨_, rfl⟩
  obtain ⟨r, ok, hf, hz⟩ : ∃ (r : PoolT) (ok : Bool), (pl.find? (fun q => q.id == id)) = (if ok then some r else none) ∧ (ok = false → r = PoolT.zero) := by
    cases pl.find? (fun q => q.id == id) with
    | none => exact ⟨PoolT.zero, false, rfl, fun _ => rfl⟩
    | some r => exact ⟨r, true, rfl, fun h => by cases h⟩
  have HA := Lib.hid ha
  have HF := Lib.hid hf
  have HZ := Lib.hid hz
  clear ha hf hz
  subst ho hb
  obtain ⟨ap, cp, rfl, hc⟩ := hr.shape
  go_enter Try.func3, Try.ntmps3
  go_wp2_with fail
  have K0 := Kept.alloc (fun _ => False) w (Obj.cells #[Value.int IntKind.i64 ep, Value.slice ao no co, Value.slice ap pl.length cp, Value.slice ab nb cb, Value.int IntKind.i64 lf] 26)
  have x0 : (w.alloc (Obj.cells #[Value.int IntKind.i64 ep, Value.slice ao no co, Value.slice ap pl.length cp, Value.slice ab nb cb, Value.int IntKind.i64 lf] 26)).heap[w.heap.size]? = _ := heap_alloc_new' _ _
  generalize w.alloc (Obj.cells #[Value.int IntKind.i64 ep, Value.slice ao no co, Value.slice ap pl.length cp, Value.slice ab nb cb, Value.int IntKind.i64 lf] 26) = w0 at K0 x0 ⊢
  have r0 := hr.kept K0 (fun _ _ h => h)
  refine (pg_c r0 hm ep lf _ _ _ _ _ rfl _ _ _ rfl id s hs hin).mono ?_
  rintro e w1 ⟨rfl, k1⟩
  rw [← HA.out]
  have K1 := K0.trans k1
  have x1 : w1.heap[w.heap.size]? = _ := (k1.block _ (lt_in x0) (fun h => h)).trans x0
  clear x0
  have r1 := hr.kept K1 (fun _ _ h => h)
  simp only [pgVal]
  have z0 : w1.cell? ⟨w.heap.size, 0, none⟩ = some (.int .i64 ep) := cell_in x1
  have z1 : w1.cell? ⟨w.heap.size, 1, none⟩ = some (.slice ao no co) := cell_in x1
  have z2 : w1.cell? ⟨w.heap.size, 2, none⟩ = some (.slice ap pl.length cp) := cell_in x1
  have z3 : w1.cell? ⟨w.heap.size, 3, none⟩ = some (.slice ab nb cb) := cell_in x1
  have z4 : w1.cell? ⟨w.heap.size, 4, none⟩ = some (.int .i64 lf) := cell_in x1
  have hlm := lt_in x1
  have Hx1 := Lib.hid x1
  clear x1
  go_wp2_with fail
  have x1a : (w1.alloc (Obj.cells #[Value.int IntKind.i64 a.1, Value.int IntKind.i64 a.2.1] 28)).heap[_]? = _ := (Below.heap_alloc _ _ _ (lt_in Hx1.out)).trans Hx1.out
  have y1 : (w1.alloc (Obj.cells #[Value.int IntKind.i64 a.1, Value.int IntKind.i64 a.2.1] 28)).heap[w1.heap.size]? = _ := heap_alloc_new' _ _
  have K1a := K1.al (Obj.cells #[Value.int IntKind.i64 a.1, Value.int IntKind.i64 a.2.1] 28)
  clear z0 z1 z2 z3 z4 hlm
  generalize w1.alloc (Obj.cells #[Value.int IntKind.i64 a.1, Value.int IntKind.i64 a.2.1] 28) = u1 at x1a y1 K1a ⊢
  have r1a := hr.kept K1a (fun _ _ h => h)
  refine (pgRef_c r1a hm ep lf _ _ _ _ _ rfl _ _ _ rfl id s hs hin).mono ?_
  rintro e w2 ⟨rfl, k2⟩
  rw [← HA.out]
  simp only [pgVal]
  have K2 := K1a.trans k2
  have x1ab : w2.heap[_]? = _ := (k2.block _ (lt_in x1a) (fun h => h)).trans x1a
  have y1b : w2.heap[_]? = _ := (k2.block _ (lt_in y1) (fun h => h)).trans y1
  clear x1a y1 Hx1
  have z0 : w2.cell? ⟨w.heap.size, 0, none⟩ = some (.int .i64 ep) := cell_in x1ab
  have z1 : w2.cell? ⟨w.heap.size, 1, none⟩ = some (.slice ao no co) := cell_in x1ab
  have z2 : w2.cell? ⟨w.heap.size, 2, none⟩ = some (.slice ap pl.length cp) := cell_in x1ab
  have z3 : w2.cell? ⟨w.heap.size, 3, none⟩ = some (.slice ab nb cb) := cell_in x1ab
  have z4 : w2.cell? ⟨w.heap.size, 4, none⟩ = some (.int .i64 lf) := cell_in x1ab
  have hlm := lt_in x1ab
  have Hx1ab := Lib.hid x1ab
  have Hy1b := Lib.hid y1b
  clear x1ab y1b
  go_wp2_with fail
  have x1aba : (w2.alloc (Obj.cells #[Value.int IntKind.i64 a.1, Value.int IntKind.i64 a.2.1] 28)).heap[_]? = _ := (Below.heap_alloc _ _ _ (lt_in Hx1ab.out)).trans Hx1ab.out
  have y1ba : (w2.alloc (Obj.cells #[Value.int IntKind.i64 a.1, Value.int IntKind.i64 a.2.1] 28)).heap[_]? = _ := (Below.heap_alloc _ _ _ (lt_in Hy1b.out)).trans Hy1b.out
  have y2 : (w2.alloc (Obj.cells #[Value.int IntKind.i64 a.1, Value.int IntKind.i64 a.2.1] 28)).heap[w2.heap.size]? = _ := heap_alloc_new' _ _
  have K2a := K2.al (Obj.cells #[Value.int IntKind.i64 a.1, Value.int IntKind.i64 a.2.1] 28)
  clear z0 z1 z2 z3 z4 hlm
  generalize w2.alloc (Obj.cells #[Value.int IntKind.i64 a.1, Value.int IntKind.i64 a.2.1] 28) = u2 at x1aba y1ba y2 K2a ⊢
  have r2a := hr.kept K2a (fun _ _ h => h)
  refine (pool_c r2a hm ep lf _ _ _ _ _ rfl _ _ _ rfl id r ok HF.out HZ.out).mono ?_
  rintro e w3 ⟨rfl, k3⟩
  simp only [PoolT.val]
  have K3 := K2a.trans k3
  have x1abab : w3.heap[_]? = _ := (k3.block _ (lt_in x1aba) (fun h => h)).trans x1aba
  have y1bab : w3.heap[_]? = _ := (k3.block _ (lt_in y1ba) (fun h => h)).trans y1ba
  have y2b : w3.heap[_]? = _ := (k3.block _ (lt_in y2) (fun h => h)).trans y2
  clear x1aba y1ba y2 Hx1ab Hy1b
  have z0 : w3.cell? ⟨w.heap.size, 0, none⟩ = some (.int .i64 ep) := cell_in x1abab
  have z1 : w3.cell? ⟨w.heap.size, 1, none⟩ = some (.slice ao no co) := cell_in x1abab
  have z2 : w3.cell? ⟨w.heap.size, 2, none⟩ = some (.slice ap pl.length cp) := cell_in x1abab
  have z3 : w3.cell? ⟨w.heap.size, 3, none⟩ = some (.slice ab nb cb) := cell_in x1abab
  have z4 : w3.cell? ⟨w.heap.size, 4, none⟩ = some (.int .i64 lf) := cell_in x1abab
  have hlm := lt_in x1abab
  have Hx1abab := Lib.hid x1abab
  have Hy1bab := Lib.hid y1bab
  have Hy2b := Lib.hid y2b
  clear x1abab y1bab y2b
  go_wp2_with fail
  have x1ababa : (w3.alloc (Obj.cells #[Value.int IntKind.i64 r.id, Value.int IntKind.i64 r.size, Value.int IntKind.i64 r.min, Value.int IntKind.i64 r.pgs] 35)).heap[_]? = _ := (Below.heap_alloc _ _ _ (lt_in Hx1abab.out)).trans Hx1abab.out
  have y1baba : (w3.alloc (Obj.cells #[Value.int IntKind.i64 r.id, Value.int IntKind.i64 r.size, Value.int IntKind.i64 r.min, Value.int IntKind.i64 r.pgs] 35)).heap[_]? = _ := (Below.heap_alloc _ _ _ (lt_in Hy1bab.out)).trans Hy1bab.out
  have y2ba : (w3.alloc (Obj.cells #[Value.int IntKind.i64 r.id, Value.int IntKind.i64 r.size, Value.int IntKind.i64 r.min, Value.int IntKind.i64 r.pgs] 35)).heap[_]? = _ := (Below.heap_alloc _ _ _ (lt_in Hy2b.out)).trans Hy2b.out
  have y3 : (w3.alloc (Obj.cells #[Value.int IntKind.i64 r.id, Value.int IntKind.i64 r.size, Value.int IntKind.i64 r.min, Value.int IntKind.i64 r.pgs] 35)).heap[w3.heap.size]? = _ := heap_alloc_new' _ _
  have K3a := K3.al (Obj.cells #[Value.int IntKind.i64 r.id, Value.int IntKind.i64 r.size, Value.int IntKind.i64 r.min, Value.int IntKind.i64 r.pgs] 35)
  clear z0 z1 z2 z3 z4 hlm
  generalize w3.alloc (Obj.cells #[Value.int IntKind.i64 r.id, Value.int IntKind.i64 r.size, Value.int IntKind.i64 r.min, Value.int IntKind.i64 r.pgs] 35) = u3 at x1ababa y1baba y2ba y3 K3a ⊢
  have r3a := hr.kept K3a (fun _ _ h => h)
  refine (poolRef_c r3a hm ep lf _ _ _ _ _ rfl _ _ _ rfl id r ok HF.out HZ.out).mono ?_
  rintro e w4 ⟨rfl, k4⟩
  simp only [PoolT.val]
  have K4 := K3a.trans k4
  have x1ababab : w4.heap[_]? = _ := (k4.block _ (lt_in x1ababa) (fun h => h)).trans x1ababa
  have y1babab : w4.heap[_]? = _ := (k4.block _ (lt_in y1baba) (fun h => h)).trans y1baba
  have y2bab : w4.heap[_]? = _ := (k4.block _ (lt_in y2ba) (fun h => h)).trans y2ba
  have y3b : w4.heap[_]? = _ := (k4.block _ (lt_in y3) (fun h => h)).trans y3
  clear x1ababa y1baba y2ba y3 Hx1abab Hy1bab Hy2b
  have p0 : w4.cell? ⟨w1.heap.size, 0, none⟩ = some (.int .i64 a.1) := cell_in y1babab
  have p1 : w4.cell? ⟨w1.heap.size, 1, none⟩ = some (.int .i64 a.2.1) := cell_in y1babab
  have pl1 := lt_in y1babab
  have q0 : w4.cell? ⟨w2.heap.size, 0, none⟩ = some (.int .i64 a.1) := cell_in y2bab
  have q1 : w4.cell? ⟨w2.heap.size, 1, none⟩ = some (.int .i64 a.2.1) := cell_in y2bab
  have ql1 := lt_in y2bab
  have t0 : w4.cell? ⟨w3.heap.size, 0, none⟩ = some (.int .i64 r.id) := cell_in y3b
  have t1 : w4.cell? ⟨w3.heap.size, 1, none⟩ = some (.int .i64 r.size) := cell_in y3b
  have t2 : w4.cell? ⟨w3.heap.size, 2, none⟩ = some (.int .i64 r.min) := cell_in y3b
  have t3 : w4.cell? ⟨w3.heap.size, 3, none⟩ = some (.int .i64 r.pgs) := cell_in y3b
  have tl1 := lt_in y3b
  have z0 : w4.cell? ⟨w.heap.size, 0, none⟩ = some (.int .i64 ep) := cell_in x1ababab
  have z1 : w4.cell? ⟨w.heap.size, 1, none⟩ = some (.slice ao no co) := cell_in x1ababab
  have z2 : w4.cell? ⟨w.heap.size, 2, none⟩ = some (.slice ap pl.length cp) := cell_in x1ababab
  have z3 : w4.cell? ⟨w.heap.size, 3, none⟩ = some (.slice ab nb cb) := cell_in x1ababab
  have z4 : w4.cell? ⟨w.heap.size, 4, none⟩ = some (.int .i64 lf) := cell_in x1ababab
  have hlm := lt_in x1ababab
  clear y1babab y2bab y3b x1ababab
  go_wp2_with fail
  refine (good_c s _ hs _ rfl).mono ?_
  rintro e _ ⟨rfl, rfl⟩
  go_wp2_with fail
  refine (goodRef_c s _ hs _ rfl).mono ?_
  rintro e _ ⟨rfl, rfl⟩
  go_wp2_with fail
  refine lives09_c.mono ?_
  rintro e w9 ⟨rfl, hk9⟩
  go_wp2_with fail
  go_ret
  exact ⟨rfl, (K4.al _).trans hk9⟩

theorem placeNames_walk {H : Type} {enc : TypeId × Value → H} {W : World} {base : Nat} {v0 v1 v2 : Value} {d0 d1 d2 : DataW H} {p0 p1 p2 : List MemPlace}
    (k0 : Value.okWide Try.prog W .any base 26 v0) (h0 : DataW.Trod enc Try.prog W 0 (fun _ => true) true 26 v0 d0 p0)
    (k1 : Value.okWide Try.prog W .any base 3 v1) (h1 : DataW.Trod enc Try.prog W 0 (fun _ => true) true 3 v1 d1 p1)
    (k2 : Value.okWide Try.prog W .any base 9 v2) (h2 : DataW.Trod enc Try.prog W 0 (fun _ => true) true 9 v2 d2 p2)
    {ts : List TypeId} {ds : List (DataW H)} (hsz : (DataW.weightsEach Try.prog ([26, 3, 9] ++ ts) ([d0, d1, d2] ++ ds)).all (· ≤ reachBytes) = true) :
    Calls Try.prog 3 #[v0, v1, v2] W fun e w' => e = .returned (.bool true) ∧ Below W.heap.size W w' := by
  obtain ⟨n, rfl, rfl, rfl, wf1⟩ := open_int Try.underlying3 k1 h1
  obtain ⟨s, rfl, rfl, rfl, ws⟩ := open_string Try.underlying9 k2 h2
  have hws := weights_le hsz (j := 2) rfl rfl s.size (by simp [DataW.weights])
  have hwm := weights_le hsz (j := 0) rfl rfl
  obtain ⟨ep, vo, vp, vb, lf, ao, no, co, ab, nb, cb, pl, g, rfl, rfl, rfl, hr, hlt, hn, hin⟩ := open_map Try.underlying26 k0 h0 hwm
  simp only [reachBytes] at hws
  exact (names_core hr hn ep lf _ _ _ _ _ rfl _ _ _ rfl n s (by omega) hin).mono fun e w' ⟨he, hk⟩ => ⟨he, hk.below (Nat.le_refl _) (fun _ h => h.elim)⟩

end Go.Proofs.Ytfikkjdffmchfaa
