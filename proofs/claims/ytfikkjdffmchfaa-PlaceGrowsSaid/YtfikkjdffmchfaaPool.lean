/- Contracts of Pool, in the program and in the reference. -/
import Derived.Test.YtfikkjdffmchfaaRows
import Derived.Test.YtfikkjdffmchfaaLib
set_option linter.unusedSimpArgs false
set_option linter.unusedVariables false
namespace Go.Proofs.Ytfikkjdffmchfaa
open Go.RowKit

/-- A pool. -/
structure PoolT where
  id : Int
  size : Int
  min : Int
  pgs : Int

/-- Its cells. -/
def PoolT.cells (p : PoolT) : List Value := [.int .i64 p.id, .int .i64 p.size, .int .i64 p.min, .int .i64 p.pgs]
def PoolT.val (p : PoolT) : Value := .agg #[.int .i64 p.id, .int .i64 p.size, .int .i64 p.min, .int .i64 p.pgs]
def PoolT.zero : PoolT := ⟨0, 0, 0, 0⟩

theorem pools_getElem {pl : List PoolT} {k : Nat} {p : PoolT} (h : pl[k]? = some p) : ∀ f, f < 4 → (pl.flatMap PoolT.cells)[k * 4 + f]? = p.cells[f]? := by
  intro f hf
  induction pl generalizing k with
  | nil => simp at h
  | cons q r ih =>
    cases k with
    | zero =>
      simp at h
      subst h
      rw [List.flatMap_cons, List.getElem?_append_left (by simp [PoolT.cells]; omega)]
      simp
    | succ k =>
      simp only [List.getElem?_cons_succ] at h
      rw [List.flatMap_cons, List.getElem?_append_right (by simp [PoolT.cells]; omega)]
      rw [show (k + 1) * 4 + f - q.cells.length = k * 4 + f by simp [PoolT.cells]; omega]
      exact ih h

theorem pools_length (pl : List PoolT) : (pl.flatMap PoolT.cells).length = pl.length * 4 := by
  induction pl with
  | nil => rfl
  | cons q r ih => rw [List.flatMap_cons, List.length_append, ih]; simp [PoolT.cells]; omega

/-- Where pool k lies. -/
theorem Reads.pool {w : World} {v : Value} {pl : List PoolT} {g : Option Nat} (h : Reads w 4 v pl.length (pl.flatMap PoolT.cells) g) {k : Nat} {p : PoolT} (hk : pl[k]? = some p) :
    ∃ b off c, g = some b ∧ v = .slice (some ⟨b, off, none⟩) pl.length c ∧ pl.length ≤ c ∧ w.cell? ⟨b, off + k * 4, none⟩ = some (.int .i64 p.id) ∧ w.cell? ⟨b, off + k * 4 + 1, none⟩ = some (.int .i64 p.size) ∧ w.cell? ⟨b, off + k * 4 + 2, none⟩ = some (.int .i64 p.min) ∧ w.cell? ⟨b, off + k * 4 + 3, none⟩ = some (.int .i64 p.pgs) := by
  have hkl : k < pl.length := (List.getElem?_eq_some_iff.1 hk).1
  obtain ⟨h0, ⟨a, c, rfl, hx⟩ | ⟨b, off, c, rfl, rfl, h1, h2, h3⟩⟩ := h
  · omega
  · rw [pools_length] at h3
    have q := fun f hf => pools_getElem hk f hf
    refine ⟨b, off, c, rfl, rfl, h1, ?_, ?_, ?_, ?_⟩
    · exact (h3 (k * 4) (by omega)).trans (q 0 (by omega))
    · rw [Nat.add_assoc]; exact (h3 (k * 4 + 1) (by omega)).trans (q 1 (by omega))
    · rw [Nat.add_assoc]; exact (h3 (k * 4 + 2) (by omega)).trans (q 2 (by omega))
    · rw [Nat.add_assoc]; exact (h3 (k * 4 + 3) (by omega)).trans (q 3 (by omega))

/-- None of the first k has that number. -/
def NoneOf (pl : List PoolT) (id : Int) (k : Nat) : Prop := ∀ j p, j < k → pl[j]? = some p → p.id ≠ id

theorem find_at {pl : List PoolT} {id : Int} {k : Nat} {p : PoolT} (h : NoneOf pl id k) (hk : pl[k]? = some p) (hp : p.id = id) : pl.find? (fun q => q.id == id) = some p := by
  rw [List.find?_eq_some_iff_getElem]
  have hkl : k < pl.length := (List.getElem?_eq_some_iff.1 hk).1
  refine ⟨by simp [hp], k, hkl, ?_, fun j hj => ?_⟩
  · rw [List.getElem?_eq_getElem hkl] at hk; simpa using hk
  · have := h j pl[j] hj (List.getElem?_eq_getElem (by omega))
    simpa using this

theorem find_no {pl : List PoolT} {id : Int} (h : NoneOf pl id pl.length) : pl.find? (fun q => q.id == id) = none := by
  rw [List.find?_eq_none]
  intro p hp
  obtain ⟨j, hj, rfl⟩ := List.getElem_of_mem hp
  have := h j pl[j] hj (List.getElem?_eq_getElem hj)
  simpa using this

def PoolRel (pl : List PoolT) (id : Int) (i : Value) : Prop := ∃ k : Nat, k ≤ pl.length ∧ i = .int .i64 k ∧ NoneOf pl id k

set_option maxRecDepth 100000 in
set_option maxHeartbeats 1000000 in
theorem pool_c {w : World} {vp : Value} {pl : List PoolT} {g : Option Nat} (hr : Reads w 4 vp pl.length (pl.flatMap PoolT.cells) g) (hm : pl.length ≤ 140737488351232) (ep lf : Int) (vo vb : Value) (ao : Option Addr) (no co : Nat) (ho : vo = .slice ao no co) (ab : Option Addr) (nb cb : Nat) (hb : vb = .slice ab nb cb) (id : Int)
    (r : PoolT) (ok : Bool) (hf : (pl.find? (fun q => q.id == id)) = if ok then some r else none) (hz : ok = false → r = PoolT.zero) :
    Calls Try.prog 8 #[.agg #[.int .i64 ep, vo, vp, vb, .int .i64 lf], .int .i64 id] w fun e w' => e = .returned (.tuple #[r.val, .bool ok]) ∧ Kept (fun _ => False) w w' := by
  subst ho hb
  obtain ⟨ap, cp, rfl, hc⟩ := hr.shape
  have HF := Lib.hid hf
  have HZ := Lib.hid hz
  clear hf hz
  go_enter Try.func8, Try.ntmps8
  go_wp2
  obtain ⟨K0, x1, x2⟩ := two_new w (Obj.cells #[Value.int IntKind.i64 ep, Value.slice ao no co, Value.slice ap pl.length cp, Value.slice ab nb cb, Value.int IntKind.i64 lf] 26) (Obj.cells #[Value.int IntKind.i64 0, Value.int IntKind.i64 0, Value.int IntKind.i64 0, Value.int IntKind.i64 0] 35)
  generalize (w.alloc (Obj.cells #[Value.int IntKind.i64 ep, Value.slice ao no co, Value.slice ap pl.length cp, Value.slice ab nb cb, Value.int IntKind.i64 lf] 26)).alloc (Obj.cells #[Value.int IntKind.i64 0, Value.int IntKind.i64 0, Value.int IntKind.i64 0, Value.int IntKind.i64 0] 35) = w0 at K0 x1 x2 ⊢
  have y2 : w0.cell? ⟨w.heap.size, 2, none⟩ = some (.slice ap pl.length cp) := cell_in x1
  have z0 : w0.cell? ⟨w.heap.size + 1, 0, none⟩ = some (.int .i64 0) := cell_in x2
  have z1 : w0.cell? ⟨w.heap.size + 1, 1, none⟩ = some (.int .i64 0) := cell_in x2
  have z2 : w0.cell? ⟨w.heap.size + 1, 2, none⟩ = some (.int .i64 0) := cell_in x2
  have z3 : w0.cell? ⟨w.heap.size + 1, 3, none⟩ = some (.int .i64 0) := cell_in x2
  have f0 : w0.frozen? ⟨w.heap.size + 1, 0, none⟩ = false := frozen_in x2
  have f1 : w0.frozen? ⟨w.heap.size + 1, 1, none⟩ = false := frozen_in x2
  have f2 : w0.frozen? ⟨w.heap.size + 1, 2, none⟩ = false := frozen_in x2
  have f3 : w0.frozen? ⟨w.heap.size + 1, 3, none⟩ = false := frozen_in x2
  have hr0 := hr.kept K0 (fun _ _ h => h)
  have X2 := Lib.hid x2
  clear x1 x2
  go_loop [10] (fun i => PoolRel pl id i) (fun i => pl.length - (intOf i).toNat)
  case atStart => exact ⟨0, Nat.zero_le _, rfl, fun j p hj => by omega⟩
  case round =>
    obtain ⟨k, hk, rfl, hno⟩ := hrel
    have HN := Lib.hid hno
    clear hno
    by_cases hlt : k < pl.length
    · obtain ⟨p, hp⟩ : ∃ p, pl[k]? = some p := ⟨_, List.getElem?_eq_getElem hlt⟩
      obtain ⟨b, off, c, rfl, hv, -, c0, c1, c2, c3⟩ := hr0.pool hp
      simp only [Value.slice.injEq, true_and] at hv
      obtain ⟨rfl, rfl⟩ := hv
      have HP := Lib.hid hp
      clear hp
      by_cases he : p.id = id
      · have he' : (p.id == id) = true := by simpa using he
        have HE := Lib.hid he
        clear he
        go_wp2
        have h4 := heap_setCell_same (o := 3) (heap_setCell_same (o := 2) (heap_setCell_same (o := 1) (heap_setCell_same (o := 0) X2.out (.int .i64 p.id)) (.int .i64 p.size)) (.int .i64 p.min)) (.int .i64 p.pgs)
        have K4 : Kept (fun _ => False) w ((((w0.setCell ⟨w.heap.size + 1, 0, none⟩ (.int .i64 p.id)).setCell ⟨w.heap.size + 1, 1, none⟩ (.int .i64 p.size)).setCell ⟨w.heap.size + 1, 2, none⟩ (.int .i64 p.min)).setCell ⟨w.heap.size + 1, 3, none⟩ (.int .i64 p.pgs)) := (((K0.st _ (.inr (by simp))).st _ (.inr (by simp))).st _ (.inr (by simp))).st _ (.inr (by simp))
        generalize (((w0.setCell ⟨w.heap.size + 1, 0, none⟩ (.int .i64 p.id)).setCell ⟨w.heap.size + 1, 1, none⟩ (.int .i64 p.size)).setCell ⟨w.heap.size + 1, 2, none⟩ (.int .i64 p.min)).setCell ⟨w.heap.size + 1, 3, none⟩ (.int .i64 p.pgs) = w4 at h4 K4 ⊢
        have e0 : w4.cell? ⟨w.heap.size + 1, 0, none⟩ = some (.int .i64 p.id) := cell_in h4
        have e1 : w4.cell? ⟨w.heap.size + 1, 1, none⟩ = some (.int .i64 p.size) := cell_in h4
        have e2 : w4.cell? ⟨w.heap.size + 1, 2, none⟩ = some (.int .i64 p.min) := cell_in h4
        have e3 : w4.cell? ⟨w.heap.size + 1, 3, none⟩ = some (.int .i64 p.pgs) := cell_in h4
        refine bodyPost_ret (v := .tuple #[.agg #[.int .i64 p.id, .int .i64 p.size, .int .i64 p.min, .int .i64 p.pgs], .bool true]) (by simp [results, Try.results8, go_sem, e0, e1, e2, e3]) rfl ⟨?_, K4⟩
        have hff := HF.out
        rw [find_at HN.out HP.out HE.out] at hff
        cases ok with
        | true => simp at hff; subst hff; rfl
        | false => simp at hff
      · have he' : (p.id == id) = false := by simpa using he
        have HE := Lib.hid he
        clear he
        go_wp2
        go_round
        case rel =>
          refine ⟨k + 1, by omega, by go_num, fun j q hj hq => ?_⟩
          by_cases hjk : j = k
          · subst hjk; rw [HP.out] at hq; cases hq; exact HE.out
          · exact HN.out j q (by omega) hq
        case measure => simp [intOf]; omega
    · go_wp2
      have h4 := heap_setCell_same (o := 3) (heap_setCell_same (o := 2) (heap_setCell_same (o := 1) (heap_setCell_same (o := 0) X2.out (.int .i64 0)) (.int .i64 0)) (.int .i64 0)) (.int .i64 0)
      have K4 : Kept (fun _ => False) w ((((w0.setCell ⟨w.heap.size + 1, 0, none⟩ (.int .i64 0)).setCell ⟨w.heap.size + 1, 1, none⟩ (.int .i64 0)).setCell ⟨w.heap.size + 1, 2, none⟩ (.int .i64 0)).setCell ⟨w.heap.size + 1, 3, none⟩ (.int .i64 0)) := (((K0.st _ (.inr (by simp))).st _ (.inr (by simp))).st _ (.inr (by simp))).st _ (.inr (by simp))
      generalize (((w0.setCell ⟨w.heap.size + 1, 0, none⟩ (.int .i64 0)).setCell ⟨w.heap.size + 1, 1, none⟩ (.int .i64 0)).setCell ⟨w.heap.size + 1, 2, none⟩ (.int .i64 0)).setCell ⟨w.heap.size + 1, 3, none⟩ (.int .i64 0) = w4 at h4 K4 ⊢
      have e0 : w4.cell? ⟨w.heap.size + 1, 0, none⟩ = some (.int .i64 0) := cell_in h4
      have e1 : w4.cell? ⟨w.heap.size + 1, 1, none⟩ = some (.int .i64 0) := cell_in h4
      have e2 : w4.cell? ⟨w.heap.size + 1, 2, none⟩ = some (.int .i64 0) := cell_in h4
      have e3 : w4.cell? ⟨w.heap.size + 1, 3, none⟩ = some (.int .i64 0) := cell_in h4
      refine bodyPost_ret (v := .tuple #[.agg #[.int .i64 0, .int .i64 0, .int .i64 0, .int .i64 0], .bool false]) (by simp [results, Try.results8, go_sem, e0, e1, e2, e3]) rfl ⟨?_, K4⟩
      have hff := HF.out
      obtain rfl : k = pl.length := by omega
      rw [find_no HN.out] at hff
      cases ok with
      | true => simp at hff
      | false => rw [HZ.out rfl]; rfl

set_option maxRecDepth 100000 in
set_option maxHeartbeats 1000000 in
theorem poolRef_c {w : World} {vp : Value} {pl : List PoolT} {g : Option Nat} (hr : Reads w 4 vp pl.length (pl.flatMap PoolT.cells) g) (hm : pl.length ≤ 140737488351232) (ep lf : Int) (vo vb : Value) (ao : Option Addr) (no co : Nat) (ho : vo = .slice ao no co) (ab : Option Addr) (nb cb : Nat) (hb : vb = .slice ab nb cb) (id : Int)
    (r : PoolT) (ok : Bool) (hf : (pl.find? (fun q => q.id == id)) = if ok then some r else none) (hz : ok = false → r = PoolT.zero) :
    Calls Try.prog 9 #[.agg #[.int .i64 ep, vo, vp, vb, .int .i64 lf], .int .i64 id] w fun e w' => e = .returned (.tuple #[r.val, .bool ok]) ∧ Kept (fun _ => False) w w' := by
  subst ho hb
  obtain ⟨ap, cp, rfl, hc⟩ := hr.shape
  have HF := Lib.hid hf
  have HZ := Lib.hid hz
  clear hf hz
  go_enter Try.func9, Try.ntmps9
  go_wp2
  obtain ⟨K0, x1, x2⟩ := two_new w (Obj.cells #[Value.int IntKind.i64 ep, Value.slice ao no co, Value.slice ap pl.length cp, Value.slice ab nb cb, Value.int IntKind.i64 lf] 26) (Obj.cells #[Value.int IntKind.i64 0, Value.int IntKind.i64 0, Value.int IntKind.i64 0, Value.int IntKind.i64 0] 35)
  generalize (w.alloc (Obj.cells #[Value.int IntKind.i64 ep, Value.slice ao no co, Value.slice ap pl.length cp, Value.slice ab nb cb, Value.int IntKind.i64 lf] 26)).alloc (Obj.cells #[Value.int IntKind.i64 0, Value.int IntKind.i64 0, Value.int IntKind.i64 0, Value.int IntKind.i64 0] 35) = w0 at K0 x1 x2 ⊢
  have hr0 := hr.kept K0 (fun _ _ h => h)
  have X2 := Lib.hid x2
  clear x1 x2
  go_loopw [11] (fun i wr => PoolRel pl id i ∧ Kept (fun _ => False) w0 wr) (fun i _ => pl.length - (intOf i).toNat)
  case atStart => exact ⟨⟨0, Nat.zero_le _, rfl, fun j p hj => by omega⟩, Kept.refl _ _⟩
  case round =>
    obtain ⟨⟨k, hk, rfl, hno⟩, hkr⟩ := hrel
    have X2' : wr.heap[w.heap.size + 1]? = _ := (hkr.block _ (lt_in X2.out) (fun h => h)).trans X2.out
    have hrr := hr0.kept hkr (fun _ _ h => h)
    have KR := K0.trans hkr
    have hlt1 := lt_in X2'
    have z0 : wr.cell? ⟨w.heap.size + 1, 0, none⟩ = some (.int .i64 0) := cell_in X2'
    have z1 : wr.cell? ⟨w.heap.size + 1, 1, none⟩ = some (.int .i64 0) := cell_in X2'
    have z2 : wr.cell? ⟨w.heap.size + 1, 2, none⟩ = some (.int .i64 0) := cell_in X2'
    have z3 : wr.cell? ⟨w.heap.size + 1, 3, none⟩ = some (.int .i64 0) := cell_in X2'
    have f0 : wr.frozen? ⟨w.heap.size + 1, 0, none⟩ = false := frozen_in X2'
    have f1 : wr.frozen? ⟨w.heap.size + 1, 1, none⟩ = false := frozen_in X2'
    have f2 : wr.frozen? ⟨w.heap.size + 1, 2, none⟩ = false := frozen_in X2'
    have f3 : wr.frozen? ⟨w.heap.size + 1, 3, none⟩ = false := frozen_in X2'
    have X3 := Lib.hid X2'
    clear X2'
    have HN := Lib.hid hno
    clear hno
    by_cases hlt : k < pl.length
    · obtain ⟨p, hp⟩ : ∃ p, pl[k]? = some p := ⟨_, List.getElem?_eq_getElem hlt⟩
      obtain ⟨b, off, c, rfl, hv, -, c0, c1, c2, c3⟩ := hrr.pool hp
      simp only [Value.slice.injEq, true_and] at hv
      obtain ⟨rfl, rfl⟩ := hv
      have HP := Lib.hid hp
      clear hp
      by_cases he : p.id = id
      · have he' : (p.id == id) = true := by simpa using he
        have HE := Lib.hid he
        clear he
        go_wp2
        have h3 := heap_setCell_same (o := 3) (heap_setCell_same (o := 2) (heap_setCell_same (o := 1) (heap_setCell_same (o := 0) X3.out (.int .i64 p.id)) (.int .i64 p.size)) (.int .i64 p.min)) (.int .i64 p.pgs)
        have h4 : (((((wr.setCell ⟨w.heap.size + 1, 0, none⟩ (.int .i64 p.id)).setCell ⟨w.heap.size + 1, 1, none⟩ (.int .i64 p.size)).setCell ⟨w.heap.size + 1, 2, none⟩ (.int .i64 p.min)).setCell ⟨w.heap.size + 1, 3, none⟩ (.int .i64 p.pgs)).alloc (Obj.cells #[Value.int IntKind.i64 p.id, Value.int IntKind.i64 p.size, Value.int IntKind.i64 p.min, Value.int IntKind.i64 p.pgs] 35)).heap[w.heap.size + 1]? = _ := (Below.heap_alloc _ _ _ (lt_in h3)).trans h3
        have K4 : Kept (fun _ => False) w (((((wr.setCell ⟨w.heap.size + 1, 0, none⟩ (.int .i64 p.id)).setCell ⟨w.heap.size + 1, 1, none⟩ (.int .i64 p.size)).setCell ⟨w.heap.size + 1, 2, none⟩ (.int .i64 p.min)).setCell ⟨w.heap.size + 1, 3, none⟩ (.int .i64 p.pgs)).alloc (Obj.cells #[Value.int IntKind.i64 p.id, Value.int IntKind.i64 p.size, Value.int IntKind.i64 p.min, Value.int IntKind.i64 p.pgs] 35)) := ((((KR.st _ (.inr (by simp))).st _ (.inr (by simp))).st _ (.inr (by simp))).st _ (.inr (by simp))).al _
        generalize ((((wr.setCell ⟨w.heap.size + 1, 0, none⟩ (.int .i64 p.id)).setCell ⟨w.heap.size + 1, 1, none⟩ (.int .i64 p.size)).setCell ⟨w.heap.size + 1, 2, none⟩ (.int .i64 p.min)).setCell ⟨w.heap.size + 1, 3, none⟩ (.int .i64 p.pgs)).alloc (Obj.cells #[Value.int IntKind.i64 p.id, Value.int IntKind.i64 p.size, Value.int IntKind.i64 p.min, Value.int IntKind.i64 p.pgs] 35) = w4 at h4 K4 ⊢
        have e0 : w4.cell? ⟨w.heap.size + 1, 0, none⟩ = some (.int .i64 p.id) := cell_in h4
        have e1 : w4.cell? ⟨w.heap.size + 1, 1, none⟩ = some (.int .i64 p.size) := cell_in h4
        have e2 : w4.cell? ⟨w.heap.size + 1, 2, none⟩ = some (.int .i64 p.min) := cell_in h4
        have e3 : w4.cell? ⟨w.heap.size + 1, 3, none⟩ = some (.int .i64 p.pgs) := cell_in h4
        refine bodyPost_ret (v := .tuple #[.agg #[.int .i64 p.id, .int .i64 p.size, .int .i64 p.min, .int .i64 p.pgs], .bool true]) (by simp [results, Try.results9, go_sem, e0, e1, e2, e3]) rfl ⟨?_, K4⟩
        have hff := HF.out
        rw [find_at HN.out HP.out HE.out] at hff
        cases ok with
        | true => simp at hff; subst hff; rfl
        | false => simp at hff
      · have he' : (p.id == id) = false := by simpa using he
        have HE := Lib.hid he
        clear he
        go_wp2
        go_roundw
        case rel =>
          refine ⟨⟨k + 1, by omega, by go_num, fun j q hj hq => ?_⟩, hkr.al _⟩
          by_cases hjk : j = k
          · subst hjk; rw [HP.out] at hq; cases hq; exact HE.out
          · exact HN.out j q (by omega) hq
        case measure => simp [intOf]; omega
    · go_wp2
      have h4 := heap_setCell_same (o := 3) (heap_setCell_same (o := 2) (heap_setCell_same (o := 1) (heap_setCell_same (o := 0) X3.out (.int .i64 0)) (.int .i64 0)) (.int .i64 0)) (.int .i64 0)
      have K4 : Kept (fun _ => False) w ((((wr.setCell ⟨w.heap.size + 1, 0, none⟩ (.int .i64 0)).setCell ⟨w.heap.size + 1, 1, none⟩ (.int .i64 0)).setCell ⟨w.heap.size + 1, 2, none⟩ (.int .i64 0)).setCell ⟨w.heap.size + 1, 3, none⟩ (.int .i64 0)) := (((KR.st _ (.inr (by simp))).st _ (.inr (by simp))).st _ (.inr (by simp))).st _ (.inr (by simp))
      generalize (((wr.setCell ⟨w.heap.size + 1, 0, none⟩ (.int .i64 0)).setCell ⟨w.heap.size + 1, 1, none⟩ (.int .i64 0)).setCell ⟨w.heap.size + 1, 2, none⟩ (.int .i64 0)).setCell ⟨w.heap.size + 1, 3, none⟩ (.int .i64 0) = w4 at h4 K4 ⊢
      have e0 : w4.cell? ⟨w.heap.size + 1, 0, none⟩ = some (.int .i64 0) := cell_in h4
      have e1 : w4.cell? ⟨w.heap.size + 1, 1, none⟩ = some (.int .i64 0) := cell_in h4
      have e2 : w4.cell? ⟨w.heap.size + 1, 2, none⟩ = some (.int .i64 0) := cell_in h4
      have e3 : w4.cell? ⟨w.heap.size + 1, 3, none⟩ = some (.int .i64 0) := cell_in h4
      refine bodyPost_ret (v := .tuple #[.agg #[.int .i64 0, .int .i64 0, .int .i64 0, .int .i64 0], .bool false]) (by simp [results, Try.results9, go_sem, e0, e1, e2, e3]) rfl ⟨?_, K4⟩
      have hff := HF.out
      obtain rfl : k = pl.length := by omega
      rw [find_no HN.out] at hff
      cases ok with
      | true => simp at hff
      | false => rw [HZ.out rfl]; rfl


end Go.Proofs.Ytfikkjdffmchfaa
