/- Part 1 of the proof: Region, Lib, Ex, Exr, Exh. -/
import Derived.WalkKit
import Derived.Deep.QuietTactic
import Derived.BigQuiet
import Derived.StillTailTactics
import Derived.WalkSpells
import Derived.WalkLawsBesides
import Derived.Handy
import Derived.Deep.AppendSrc
import Derived.Lib.Hide
import Derived.Lib.MinMax
section

set_option linter.unusedSimpArgs false
namespace Go.Proofs.YtkgbeihcepociaaDoor
open Go.RowKit
section
variable {P : Program} {ops : Array Oper} {md : Region.Mode} {C : World → Prop}
/-- What has come up is closed: all that it waits for has come up too. -/
def Closed (md : Region.Mode) (ops : Array Oper) (listed : Array Bool) : Prop :=
  ∀ j oj, ops[j]? = some oj → listed.getD j false = true → ∀ e ∈ oj.after, Region.binds md e = true → listed.getD e.on false = true
theorem Closed.set {listed : Array Bool} {i : Nat} (h : Closed md ops listed) (hi : i ∈ Region.ready md ops listed) : Closed md ops (listed.setIfInBounds i true) := by
  obtain ⟨_, oi, hoi, hall⟩ := mem_ready.1 hi
  intro j oj hj hl e he hb
  by_cases hij : i = j
  · subst hij
    have : oj = oi := Option.some.inj (hj.symm.trans hoi)
    subst this
    exact getD_set_true (hall e he hb)
  · rw [getD_set_ne false hij] at hl
    exact getD_set_true (h j oj hj hl e he hb)
end
end Go.Proofs.YtkgbeihcepociaaDoor
end

section

set_option linter.unusedSimpArgs false
set_option linter.unusedVariables false
namespace Go.Proofs.YtkgbeihcepociaaDoor
open Go.RowKit
/-- All blocks that were there, but for those in F, are as they were. -/
structure Kept (F : Nat → Prop) (w w' : World) : Prop where
  os : w'.os = w.os
  tape : w'.tape = w.tape
  output : w'.output = w.output
  size : w.heap.size ≤ w'.heap.size
  block : ∀ k, k < w.heap.size → ¬ F k → w'.heap[k]? = w.heap[k]?
theorem Kept.refl (F : Nat → Prop) (w : World) : Kept F w w := ⟨rfl, rfl, rfl, Nat.le_refl _, fun _ _ _ => rfl⟩
theorem Kept.trans {F : Nat → Prop} {a b c : World} (h : Kept F a b) (k : Kept F b c) : Kept F a c :=
  ⟨k.os.trans h.os, k.tape.trans h.tape, k.output.trans h.output, Nat.le_trans h.size k.size,
    fun i hi hf => (k.block i (Nat.lt_of_lt_of_le hi h.size) hf).trans (h.block i hi hf)⟩
theorem Kept.mono {F G : Nat → Prop} {w w' : World} (h : Kept F w w') (hg : ∀ i, i < w.heap.size → F i → G i) : Kept G w w' :=
  ⟨h.os, h.tape, h.output, h.size, fun k hk hn => h.block k hk (fun q => hn (hg k hk q))⟩
theorem Kept.drewN (F : Nat → Prop) (w : World) (n : Nat) : Kept F w (w.drewN n) := ⟨rfl, rfl, rfl, Nat.le_refl _, fun _ _ _ => rfl⟩
theorem Kept.drew (F : Nat → Prop) (w : World) : Kept F w w.drew := ⟨rfl, rfl, rfl, Nat.le_refl _, fun _ _ _ => rfl⟩
theorem Kept.alloc (F : Nat → Prop) (w : World) (o : Obj) : Kept F w (w.alloc o) := ⟨rfl, rfl, rfl, by simp, fun k hk _ => Below.heap_alloc w o k hk⟩
theorem Kept.setCell {F : Nat → Prop} (w : World) (a : Addr) (u : Value) (h : F a.block) : Kept F w (w.setCell a u) :=
  ⟨rfl, rfl, rfl, by simp [World.setCell], fun k _ hn => Below.heap_setCell _ _ _ _ (fun e => hn (e ▸ h))⟩
theorem Kept.al {F : Nat → Prop} {a w : World} (h : Kept F a w) (o : Obj) : Kept F a (w.alloc o) := h.trans (Kept.alloc _ _ _)
theorem Kept.below {F : Nat → Prop} {w w' : World} {B : Nat} (h : Kept F w w') (hb : B ≤ w.heap.size) (hf : ∀ k, F k → B ≤ k) : Below B w w' :=
  ⟨h.os, h.tape, h.output, h.size, fun k hk => h.block k (by omega) (fun q => by have := hf k q; omega)⟩
theorem Kept.cell {F : Nat → Prop} {w w' : World} (h : Kept F w w') {a : Addr} (hl : a.block < w.heap.size) (hn : ¬ F a.block) : w'.cell? a = w.cell? a :=
  World.cell?_of_block (h.block _ hl hn)
theorem heap_alloc_new' (w : World) (o : Obj) : (w.alloc o).heap[w.heap.size]? = some o := by
  show (w.heap.push o)[w.heap.size]? = _
  simp
/-- A byte's cell. -/
def bv (b : UInt8) : Value := .int .u8 (b.toNat : Int)
/-- A slice value whose elements, of 'size' cells each, read as the cells l; g: the block in which they lie. -/
def Reads (w : World) (size : Nat) (v : Value) (n : Nat) (l : List Value) (g : Option Nat) : Prop :=
  l.length = n * size ∧ ((∃ a c, v = .slice a 0 c ∧ n = 0) ∨
    ∃ b off c, g = some b ∧ v = .slice (some ⟨b, off, none⟩) n c ∧ n ≤ c ∧ c ≤ maxLen ∧ ∀ j, j < l.length → w.cell? ⟨b, off + j, none⟩ = l[j]?)
/-- A slice value that owns its row: block g, of cells of type e, all of which may be written. -/
def Own (w : World) (e : TypeId) (size : Nat) (v : Value) (n : Nat) (l : List Value) (g : Option Nat) : Prop :=
  l.length = n * size ∧ ((g = none ∧ v = .slice none 0 0 ∧ n = 0) ∨
    ∃ b off c cur, g = some b ∧ v = .slice (some ⟨b, off, none⟩) n c ∧ n ≤ c ∧ c ≤ maxLen ∧ w.heap[b]? = some (.cells cur e (0, 0)) ∧ off + c * size ≤ cur.size ∧ ∀ j, j < l.length → cur[off + j]? = l[j]?)
theorem cell_in {w : World} {g k : Nat} {cur : Array Value} {e : TypeId} {fz : Nat × Nat} (h : w.heap[g]? = some (.cells cur e fz)) : w.cell? ⟨g, k, none⟩ = cur[k]? := by
  simp [World.cell?, h]
theorem frozen_in {w : World} {g k : Nat} {cur : Array Value} {e : TypeId} (h : w.heap[g]? = some (.cells cur e (0, 0))) : w.frozen? ⟨g, k, none⟩ = false := by
  simp [World.frozen?, h]
theorem lt_in {w : World} {g : Nat} {o : Obj} (h : w.heap[g]? = some o) : g < w.heap.size := by simpa using (Array.getElem?_eq_some_iff.1 h).1
theorem Own.reads {w : World} {e size n : Nat} {g : Option Nat} {v : Value} {l : List Value} (h : Own w e size v n l g) : Reads w size v n l g := by
  obtain ⟨h0, ⟨rfl, rfl, rfl⟩ | ⟨b, off, c, cur, rfl, rfl, h1, h2, h3, h4, h5⟩⟩ := h
  · exact ⟨h0, .inl ⟨none, 0, rfl, rfl⟩⟩
  · exact ⟨h0, .inr ⟨b, off, c, rfl, rfl, h1, h2, fun j hj => by rw [cell_in h3]; exact h5 j hj⟩⟩
theorem Own.shape {w : World} {e size n : Nat} {g : Option Nat} {v : Value} {l : List Value} (h : Own w e size v n l g) : ∃ a c, v = .slice a n c ∧ n ≤ c ∧ c ≤ maxLen := by
  obtain ⟨h0, ⟨rfl, rfl, rfl⟩ | ⟨b, off, c, cur, rfl, rfl, h1, h2, h3, h4, h5⟩⟩ := h
  · exact ⟨_, _, rfl, Nat.le_refl _, Nat.zero_le _⟩
  · exact ⟨_, _, rfl, h1, h2⟩
/-- A row that is not empty. -/
theorem Own.pos {w : World} {e size n c : Nat} {a : Option Addr} {g : Option Nat} {l : List Value} (h : Own w e size (.slice a n c) n l g) (hn : 0 < n) :
    ∃ b off cur, g = some b ∧ a = some ⟨b, off, none⟩ ∧ n ≤ c ∧ c ≤ maxLen ∧ w.heap[b]? = some (.cells cur e (0, 0)) ∧ off + c * size ≤ cur.size ∧ l.length = n * size ∧ ∀ j, j < l.length → cur[off + j]? = l[j]? := by
  obtain ⟨h0, ⟨rfl, h1, rfl⟩ | ⟨b, off, c', cur, rfl, h1, h2, h3, h4, h5, h6⟩⟩ := h
  · omega
  · simp at h1
    obtain ⟨rfl, rfl⟩ := h1
    exact ⟨b, off, cur, rfl, rfl, h2, h3, h4, h5, h0, h6⟩
theorem Own.lt {w : World} {e size n : Nat} {g : Option Nat} {v : Value} {l : List Value} (h : Own w e size v n l g) : ∀ k, g = some k → k < w.heap.size := by
  obtain ⟨h0, ⟨rfl, rfl, rfl⟩ | ⟨b, off, c, cur, rfl, rfl, h1, h2, h3, h4, h5⟩⟩ := h
  · rintro k ⟨⟩
  · rintro k ⟨⟩; exact lt_in h3
theorem Reads.shape {w : World} {size n : Nat} {g : Option Nat} {v : Value} {l : List Value} (h : Reads w size v n l g) : ∃ a c, v = .slice a n c ∧ n ≤ c := by
  obtain ⟨-, ⟨a, c, rfl, hx⟩ | ⟨b, off, c, -, rfl, h1, -⟩⟩ := h
  · rw [hx]; exact ⟨_, _, rfl, Nat.zero_le _⟩
  · exact ⟨_, _, rfl, h1⟩
theorem Reads.heap {w w' : World} {size n : Nat} {g : Option Nat} {v : Value} {l : List Value} (h : Reads w size v n l g) (hg : ∀ k, g = some k → l ≠ [] → w'.heap[k]? = w.heap[k]?) : Reads w' size v n l g := by
  obtain ⟨h0, h1 | ⟨b, off, c, rfl, rfl, h1, h2, h3⟩⟩ := h
  · exact ⟨h0, .inl h1⟩
  · refine ⟨h0, .inr ⟨b, off, c, rfl, rfl, h1, h2, fun j hj => ?_⟩⟩
    rw [World.cell?_of_block (a := ⟨b, off + j, none⟩) (hg b rfl (by intro e; subst e; simp at hj))]
    exact h3 j hj
theorem Reads.lt {w : World} {size n : Nat} {g : Option Nat} {v : Value} {l : List Value} (h : Reads w size v n l g) (hl : l ≠ []) : ∀ k, g = some k → k < w.heap.size := by
  obtain ⟨h0, ⟨a, c, rfl, rfl⟩ | ⟨b, off, c, rfl, rfl, h1, h2, h3⟩⟩ := h
  · exact absurd (List.eq_nil_of_length_eq_zero (by simpa using h0)) hl
  · rintro k ⟨⟩
    have hp : 0 < l.length := List.length_pos_iff.2 hl
    have := h3 0 hp
    rw [List.getElem?_eq_getElem hp] at this
    exact World.block_lt_of_cell? _ _ this
theorem Reads.drewN {w : World} {size n : Nat} {g : Option Nat} {v : Value} {l : List Value} (h : Reads w size v n l g) (m : Nat) : Reads (w.drewN m) size v n l g := h.heap fun _ _ _ => rfl
theorem Reads.drew {w : World} {size n : Nat} {g : Option Nat} {v : Value} {l : List Value} (h : Reads w size v n l g) : Reads w.drew size v n l g := h.heap fun _ _ _ => rfl
theorem Own.heap {w w' : World} {e size n : Nat} {g : Option Nat} {v : Value} {l : List Value} (h : Own w e size v n l g) (hg : ∀ k, g = some k → w'.heap[k]? = w.heap[k]?) : Own w' e size v n l g := by
  obtain ⟨h0, h1 | ⟨b, off, c, cur, rfl, rfl, h1, h2, h3, h4, h5⟩⟩ := h
  · exact ⟨h0, .inl h1⟩
  · exact ⟨h0, .inr ⟨b, off, c, cur, rfl, rfl, h1, h2, (hg b rfl).trans h3, h4, h5⟩⟩
theorem Own.drewN {w : World} {e size n : Nat} {g : Option Nat} {v : Value} {l : List Value} (h : Own w e size v n l g) (m : Nat) : Own (w.drewN m) e size v n l g := h.heap fun _ _ => rfl
theorem Own.drew {w : World} {e size n : Nat} {g : Option Nat} {v : Value} {l : List Value} (h : Own w e size v n l g) : Own w.drew e size v n l g := h.heap fun _ _ => rfl
theorem Own.nil (w : World) (e size : Nat) : Own w e size (.slice none 0 0) 0 [] none := ⟨by simp, .inl ⟨rfl, rfl, rfl⟩⟩
theorem addr_add (b off k : Nat) : (⟨b, off, none⟩ : Addr).add k = ⟨b, off + k, none⟩ := by unfold Addr.add; split <;> simp_all
theorem heap_setCells {g : Nat} {e : TypeId} {fz : Nat × Nat} : ∀ (vs : List Value) (o : Nat) (w : World) (cur : Array Value), w.heap[g]? = some (.cells cur e fz) → o + vs.length ≤ cur.size →
    ∃ cur', (w.setCells g o vs).heap[g]? = some (.cells cur' e fz) ∧ cur'.size = cur.size ∧ ∀ k, cur'[k]? = if o ≤ k ∧ k < o + vs.length then vs[k - o]? else cur[k]?
  | [], o, w, cur, h, _ => ⟨cur, h, rfl, fun k => by rw [if_neg (by simp)]⟩
  | v :: r, o, w, cur, h, hl => by
    have h1 : (w.setCell ⟨g, o, none⟩ v).heap[g]? = some (.cells (cur.setIfInBounds o v) e fz) := by
      simp [World.setCell, Array.getElem?_modify, h]
    simp only [List.length_cons] at hl
    obtain ⟨cur', h2, h3, h4⟩ := heap_setCells r (o + 1) _ _ h1 (by simp; omega)
    refine ⟨cur', h2, by simpa using h3, fun k => ?_⟩
    rw [h4 k]
    simp only [List.length_cons]
    by_cases hk : k = o
    · subst hk
      rw [if_neg (by omega), if_pos (by omega)]
      simp [Array.getElem?_setIfInBounds]
      omega
    · by_cases hk2 : o + 1 ≤ k ∧ k < o + 1 + r.length
      · rw [if_pos hk2, if_pos (by omega), show k - o = (k - (o + 1)) + 1 by omega, List.getElem?_cons_succ]
      · rw [if_neg hk2, if_neg (by omega), Array.getElem?_setIfInBounds, if_neg (by omega)]
theorem size_setCells' (b : Nat) : ∀ (vs : List Value) (o : Nat) (w : World), (w.setCells b o vs).heap.size = w.heap.size
  | [], _, _ => rfl
  | v :: r, o, w => by rw [World.setCells, size_setCells' b r]; simp [World.setCell]
theorem tape_setCells' (b : Nat) : ∀ (vs : List Value) (o : Nat) (w : World), (w.setCells b o vs).tape = w.tape
  | [], _, _ => rfl
  | v :: r, o, w => by rw [World.setCells, tape_setCells' b r]; rfl
theorem other_setCells' (b : Nat) : ∀ (vs : List Value) (o : Nat) (w : World) (k : Nat), k ≠ b → (w.setCells b o vs).heap[k]? = w.heap[k]?
  | [], _, _, _, _ => rfl
  | v :: r, o, w, k, hk => by rw [World.setCells, other_setCells' b r _ _ _ hk]; exact Below.heap_setCell _ _ _ _ hk
theorem os_setCells' (b : Nat) : ∀ (vs : List Value) (o : Nat) (w : World), (w.setCells b o vs).os = w.os ∧ (w.setCells b o vs).output = w.output
  | [], _, _ => ⟨rfl, rfl⟩
  | v :: r, o, w => by rw [World.setCells]; exact os_setCells' b r _ _
theorem Kept.setCells {F : Nat → Prop} (w : World) (b o : Nat) (vs : List Value) (h : F b) : Kept F w (w.setCells b o vs) :=
  ⟨(os_setCells' b vs o w).1, tape_setCells' b vs o w, (os_setCells' b vs o w).2, by rw [size_setCells']; exact Nat.le_refl _,
    fun k _ hn => other_setCells' b vs o w k (fun e => hn (e ▸ h))⟩
section
variable {P : Program}
theorem Reads.src {w : World} {size n : Nat} {g : Option Nat} {v : Value} {l : List Value} (h : Reads w size v n l g) {tx e' : TypeId} (hk : P.underlying tx = some (.slice e')) (h1 : ∀ u ∈ l, u.oneCell' = true) : Src P size tx v n l w := by
  obtain ⟨h0, ⟨a, c, rfl, rfl⟩ | ⟨b, off, c, rfl, rfl, h2, h3, h4⟩⟩ := h
  · obtain rfl : l = [] := List.eq_nil_of_length_eq_zero (by simpa using h0)
    cases a with
    | none => exact Src.ofNil w hk c
    | some a => exact Src.ofSlice w hk a 0 c [] (by simp) (fun j u hu => by simp at hu) h1
  · refine Src.ofSlice w hk _ n c l h0 (fun j u hu => ?_) h1
    have hj : j < l.length := (List.getElem?_eq_some_iff.1 hu).1
    have hadd : (⟨b, off, none⟩ : Addr).add j = ⟨b, off + j, none⟩ := by unfold Addr.add; split <;> simp_all
    rw [hadd, h4 j hj, hu]
theorem foldl_push_bytes : ∀ (l : List UInt8) (s : ByteArray), (l.map fun b => (b.toNat : Int)).foldl (fun r n => r.push (UInt8.ofNat n.toNat)) s = ⟨s.data ++ l.toArray⟩
  | [], s => by simp
  | b :: r, s => by
    simp only [List.map_cons, List.foldl_cons]
    rw [foldl_push_bytes r]
    have : UInt8.ofNat ((b.toNat : Int)).toNat = b := by simp
    rw [this]
    congr 1
    simp [ByteArray.push]
/-- 'string(b)'. -/
theorem Reads.string_run {w : World} {src dst e n : Nat} {v : Value} {g : Option Nat} {bs : List UInt8} (h : Reads w 1 v n (bs.map bv) g) (hs : P.underlying src = some (.slice e)) (he : P.underlying e = some (.int .u8)) (hd : P.underlying dst = some .string) :
    (convert src dst v).run P w = .ok (.string ⟨bs.toArray⟩) w := by
  obtain ⟨h0, ⟨a, c, rfl, rfl⟩ | ⟨b, off, c, rfl, rfl, h2, h3, h4⟩⟩ := h
  · obtain rfl : bs = [] := List.eq_nil_of_length_eq_zero (by simpa using h0)
    rw [run_convert_bytes_string w src dst e a 0 c hs he hd]
    cases a with
    | none => simp [Conv.bytesToString, ByteArray.empty, ByteArray.emptyWithCapacity]; rfl
    | some a =>
      have hl := run_firstCells_some (P := P) w 1 0 a 0 c [] (by simp) (fun j u hu => by simp at hu)
      simp only [Builtin.firstCells, Nat.mul_one] at hl
      rw [run_bytesToString w _ _ _ [] (by simpa using hl)]
      rfl
  · have hn : n = bs.length := by simpa using h0.symm
    subst hn
    rw [run_convert_bytes_string w src dst e _ _ c hs he hd]
    have hm : bs.map bv = (bs.map fun b => (b.toNat : Int)).map (Value.int .u8) := by simp [bv, Function.comp_def]
    have hl := run_firstCells_some (P := P) w 1 bs.length ⟨b, off, none⟩ bs.length c (bs.map bv) (by simp) (fun j u hu => by
      have hj : j < (bs.map bv).length := (List.getElem?_eq_some_iff.1 hu).1
      rw [addr_add, h4 j hj, hu])
    simp only [Builtin.firstCells, Nat.mul_one] at hl
    rw [hm] at hl
    rw [run_bytesToString w _ _ _ _ hl, foldl_push_bytes]
    simp [ByteArray.empty, ByteArray.emptyWithCapacity]
    rfl
end
end Go.Proofs.YtkgbeihcepociaaDoor
end

section

set_option linter.unusedSimpArgs false
set_option linter.unusedVariables false
namespace Go.Proofs.YtkgbeihcepociaaDoor.Ex
open Go
/-! Rows that are found fast: trees of numbers. -/
inductive Tri (α : Type) where
  | e
  | n (l : Tri α) (v : α) (r : Tri α)
variable {α : Type}
def Tri.get (d : α) : Tri α → Nat → α
  | .e, _ => d
  | .n l v r, k => bif Nat.ble k 1 then v else bif Nat.beq (k % 2) 0 then l.get d (k / 2) else r.get d (k / 2)
def Tri.lt : Tri α → Tri α
  | .e => .e
  | .n l _ _ => l
def Tri.rt : Tri α → Tri α
  | .e => .e
  | .n _ _ r => r
def Tri.top (d : α) : Tri α → α
  | .e => d
  | .n _ v _ => v
def Tri.put (d : α) : Nat → Tri α → Nat → α → Tri α
  | 0, t, _, _ => t
  | f + 1, t, k, x => bif Nat.ble k 1 then .n t.lt x t.rt else bif Nat.beq (k % 2) 0 then .n (Tri.put d f t.lt (k / 2) x) (t.top d) t.rt else .n t.lt (t.top d) (Tri.put d f t.rt (k / 2) x)
structure Vec (α : Type) where
  t : Tri α
  n : Nat
def vAt (d : α) (h : Vec α) (b : Nat) : Option α := bif Nat.blt b h.n then some (h.t.get d (b + 1)) else none
def vPut (d : α) (h : Vec α) (b : Nat) (x : α) : Vec α := bif Nat.blt b h.n then ⟨h.t.put d (Nat.log2 (b + 1) + 1) (b + 1) x, h.n⟩ else h
def vPush (d : α) (h : Vec α) (x : α) : Vec α := ⟨h.t.put d (Nat.log2 (h.n + 1) + 1) (h.n + 1) x, h.n + 1⟩
def vL (d : α) (h : Vec α) : List α := (List.range h.n).map fun b => h.t.get d (b + 1)
theorem get_put (d : α) : ∀ (f : Nat) (t : Tri α) (k j : Nat) (x : α), 1 ≤ k → 1 ≤ j → k < 2 ^ f → (t.put d f k x).get d j = if j = k then x else t.get d j
  | 0, t, k, j, x, hk, _, hf => by simp at hf; omega
  | f + 1, t, k, j, x, hk, hj, hf => by
    have e1 : t.get d j = if j ≤ 1 then t.top d else if j % 2 = 0 then t.lt.get d (j / 2) else t.rt.get d (j / 2) := by
      cases t with
      | e => simp [Tri.get, Tri.lt, Tri.rt, Tri.top]
      | n l v r =>
        simp only [Tri.get, Tri.lt, Tri.rt, Tri.top]
        by_cases h1 : j ≤ 1
        · rw [if_pos h1, Nat.ble_eq.mpr h1]; rfl
        · rw [if_neg h1, Bool.eq_false_iff.mpr (fun h => h1 (Nat.ble_eq.mp h))]
          by_cases h2 : j % 2 = 0
          · rw [if_pos h2, h2]; rfl
          · rw [if_neg h2, show Nat.beq (j % 2) 0 = false from Bool.eq_false_iff.mpr (fun h => h2 (Nat.eq_of_beq_eq_true h))]; rfl
    have e2 : ∀ (l : Tri α) (v : α) (r : Tri α), (Tri.n l v r).get d j = if j ≤ 1 then v else if j % 2 = 0 then l.get d (j / 2) else r.get d (j / 2) := fun l v r => by
      simp only [Tri.get]
      by_cases h1 : j ≤ 1
      · rw [if_pos h1, Nat.ble_eq.mpr h1]; rfl
      · rw [if_neg h1, Bool.eq_false_iff.mpr (fun h => h1 (Nat.ble_eq.mp h))]
        by_cases h2 : j % 2 = 0
        · rw [if_pos h2, h2]; rfl
        · rw [if_neg h2, show Nat.beq (j % 2) 0 = false from Bool.eq_false_iff.mpr (fun h => h2 (Nat.eq_of_beq_eq_true h))]; rfl
    rw [e1]
    simp only [Tri.put]
    by_cases h1 : k ≤ 1
    · rw [Nat.ble_eq.mpr h1]
      simp only [cond_true]
      rw [e2]
      by_cases hj1 : j ≤ 1
      · rw [if_pos hj1, if_pos (by omega)]
      · have hjk : ¬ j = k := by omega
        simp only [if_neg hj1, if_neg hjk]
    · rw [Bool.eq_false_iff.mpr (fun h => h1 (Nat.ble_eq.mp h))]
      simp only [cond_false]
      have hf2 : k / 2 < 2 ^ f := by rw [Nat.pow_succ] at hf; omega
      by_cases h2 : k % 2 = 0
      · rw [h2]
        rw [show Nat.beq 0 0 = true from rfl, cond_true, e2]
        by_cases hj1 : j ≤ 1
        · have hjk : ¬ j = k := by omega
          simp only [if_pos hj1, if_neg hjk]
        · simp only [if_neg hj1]
          by_cases hj2 : j % 2 = 0
          · simp only [if_pos hj2]
            rw [get_put d f _ _ _ _ (by omega) (by omega) hf2]
            by_cases hjk : j = k
            · rw [if_pos (by omega), if_pos hjk]
            · rw [if_neg (by omega), if_neg hjk]
          · have hjk : ¬ j = k := by omega
            simp only [if_neg hj2, if_neg hjk]
      · rw [show Nat.beq (k % 2) 0 = false from Bool.eq_false_iff.mpr (fun h => h2 (Nat.eq_of_beq_eq_true h)), cond_false, e2]
        by_cases hj1 : j ≤ 1
        · have hjk : ¬ j = k := by omega
          simp only [if_pos hj1, if_neg hjk]
        · simp only [if_neg hj1]
          by_cases hj2 : j % 2 = 0
          · have hjk : ¬ j = k := by omega
            simp only [if_pos hj2, if_neg hjk]
          · simp only [if_neg hj2]
            rw [get_put d f _ _ _ _ (by omega) (by omega) hf2]
            by_cases hjk : j = k
            · rw [if_pos (by omega), if_pos hjk]
            · rw [if_neg (by omega), if_neg hjk]
theorem vL_n (d : α) (h : Vec α) : (vL d h).length = h.n := by simp [vL]
theorem vL_at (d : α) (h : Vec α) (b : Nat) : (vL d h)[b]? = vAt d h b := by
  unfold vL vAt
  rw [List.getElem?_map]
  by_cases hb : b < h.n
  · rw [List.getElem?_range hb, show Nat.blt b h.n = true from Nat.blt_eq.mpr hb]; rfl
  · rw [List.getElem?_eq_none (by simp; omega), show Nat.blt b h.n = false from Bool.eq_false_iff.mpr (fun hh => hb (Nat.blt_eq.mp hh))]; rfl
theorem log2_lt (k : Nat) (hk : 1 ≤ k) : k < 2 ^ (Nat.log2 k + 1) := Nat.lt_log2_self
theorem vL_put (d : α) (h : Vec α) (b : Nat) (x : α) : vL d (vPut d h b x) = (vL d h).set b x := by
  apply List.ext_getElem?
  intro j
  rw [vL_at, List.getElem?_set, vL_n, vL_at]
  unfold vPut
  by_cases hb : b < h.n
  · rw [show Nat.blt b h.n = true from Nat.blt_eq.mpr hb, cond_true]
    unfold vAt
    simp only
    by_cases hj : j < h.n
    · rw [show Nat.blt j h.n = true from Nat.blt_eq.mpr hj, cond_true, cond_true, get_put d _ _ _ _ _ (by omega) (by omega) (log2_lt _ (by omega))]
      by_cases hbj : b = j
      · rw [if_pos (by omega), if_pos hbj, if_pos hb]
      · rw [if_neg (by omega), if_neg hbj]
    · rw [show Nat.blt j h.n = false from Bool.eq_false_iff.mpr (fun hh => hj (Nat.blt_eq.mp hh)), cond_false, cond_false, if_neg (by omega)]
  · rw [show Nat.blt b h.n = false from Bool.eq_false_iff.mpr (fun hh => hb (Nat.blt_eq.mp hh)), cond_false]
    by_cases hbj : b = j
    · subst hbj
      rw [if_pos rfl, if_neg hb]
      unfold vAt
      rw [show Nat.blt b h.n = false from Bool.eq_false_iff.mpr (fun hh => hb (Nat.blt_eq.mp hh)), cond_false]
    · rw [if_neg hbj]
theorem vL_push (d : α) (h : Vec α) (x : α) : vL d (vPush d h x) = vL d h ++ [x] := by
  apply List.ext_getElem?
  intro j
  rw [vL_at]
  unfold vAt vPush
  simp only
  by_cases hj : j < h.n
  · rw [show Nat.blt j (h.n + 1) = true from Nat.blt_eq.mpr (by omega), cond_true, get_put d _ _ _ _ _ (by omega) (by omega) (log2_lt _ (by omega)), if_neg (by omega), List.getElem?_append_left (by rw [vL_n]; exact hj), vL_at]
    unfold vAt
    rw [show Nat.blt j h.n = true from Nat.blt_eq.mpr hj, cond_true]
  · rw [List.getElem?_append_right (by rw [vL_n]; omega), vL_n]
    by_cases hjn : j = h.n
    · subst hjn
      rw [show Nat.blt h.n (h.n + 1) = true from Nat.blt_eq.mpr (by omega), cond_true, get_put d _ _ _ _ _ (by omega) (by omega) (log2_lt _ (by omega)), if_pos rfl, Nat.sub_self]
      rfl
    · rw [show Nat.blt j (h.n + 1) = false from Bool.eq_false_iff.mpr (fun hh => by have := Nat.blt_eq.mp hh; omega), cond_false, List.getElem?_eq_none (by simp; omega)]
/-- A slice's capacity: known, or at least its length (z: cells of an element). -/
inductive Cap where
  | kn (k : Nat)
  | un (z : Nat)
  deriving Repr
inductive AV where
  | lit (v : Value)
  | ptr (b off : Nat)
  | sl (b off len : Nat) (cap : Cap)
  | mp (b : Nat)
  | agg (l : List AV)
  | tup (l : List AV)
  | ifc (t : TypeId) (v : AV)
  | fn (f : Fn) (first caps : List AV)
  | ext (i : Nat)
  | rng (i : Nat) (lo hi : Option Int)
  | any
instance : Inhabited AV := ⟨.lit (.bool false)⟩
/-- Temporaries. -/
abbrev TM := Vec AV
def TM.at (h : TM) (b : Nat) : Option AV := vAt (.tup []) h b
def TM.set (h : TM) (b : Nat) (x : AV) : TM := vPut (.tup []) h b x
def TM.fill : TM → Nat → List AV → TM
  | m, _, [] => m
  | m, k, x :: r => TM.fill (m.set k x) (k + 1) r
/-- The values, and then so many that are not known yet. -/
def TM.ofL (l : List AV) (n : Nat) : TM := TM.fill ⟨.e, l.length + n⟩ 0 l
def TM.L (h : TM) : List AV := vL (.tup []) h
theorem TL_n (h : TM) : h.L.length = h.n := vL_n _ _
theorem TL_at (h : TM) (b : Nat) : h.L[b]? = h.at b := vL_at _ _ _
theorem TL_set (h : TM) (b : Nat) (x : AV) : (h.set b x).L = h.L.set b x := vL_put _ _ _ _
theorem Tn_set (h : TM) (b : Nat) (x : AV) : (h.set b x).n = h.n := by rw [← TL_n, TL_set, List.length_set, TL_n]
theorem fill_get : ∀ (l : List AV) (m : TM) (k j : Nat), k + l.length ≤ m.n → (TM.fill m k l).L[j]? = if k ≤ j ∧ j < k + l.length then l[j - k]? else m.L[j]?
  | [], m, k, j, _ => by rw [if_neg (by simp)]; rfl
  | x :: r, m, k, j, hk => by
    simp only [List.length_cons] at hk ⊢
    rw [TM.fill, fill_get r _ (k + 1) j (by rw [Tn_set]; omega), TL_set]
    by_cases h1 : k + 1 ≤ j ∧ j < k + 1 + r.length
    · rw [if_pos h1, if_pos (by omega), show j - k = (j - (k + 1)) + 1 by omega, List.getElem?_cons_succ]
    · rw [if_neg h1]
      by_cases h2 : j = k
      · subst h2
        rw [if_pos (by omega), List.getElem?_set_self (by rw [TL_n]; omega), Nat.sub_self]
        rfl
      · rw [if_neg (by omega), List.getElem?_set_ne (by omega)]
theorem empty_L (m : Nat) : TM.L ⟨.e, m⟩ = List.replicate m (AV.tup []) := by
  unfold TM.L vL
  apply List.ext_getElem?
  intro j
  rw [List.getElem?_map, List.getElem?_replicate]
  simp only
  by_cases hj : j < m
  · rw [if_pos hj, List.getElem?_range hj]; rfl
  · rw [if_neg hj, List.getElem?_eq_none (by simp; omega)]; rfl
theorem ofL_L (l : List AV) (n : Nat) : (TM.ofL l n).L = l ++ List.replicate n (.tup []) := by
  apply List.ext_getElem?
  intro j
  unfold TM.ofL
  rw [fill_get l _ 0 j (by simp), empty_L]
  by_cases h1 : j < l.length
  · rw [if_pos (by omega), Nat.sub_zero, List.getElem?_append_left h1]
  · rw [if_neg (by omega), List.getElem?_append_right (by omega), List.getElem?_replicate, List.getElem?_replicate]
    by_cases h2 : j < l.length + n
    · rw [if_pos h2, if_pos (by omega)]
    · rw [if_neg h2, if_neg (by omega)]
/-- Temporaries of which the values are these. -/
def tmOf (l : List AV) : TM := TM.ofL l 0
theorem tmOf_L (l : List AV) : (tmOf l).L = l := by rw [tmOf, ofL_L]; simp
theorem tmOf_at (l : List AV) (k : Nat) : (tmOf l).at k = l[k]? := by rw [← TL_at, tmOf_L]
structure AE where
  key : Value
  val : AV
  born : Nat
structure ALoop where
  state : LoopState
  pending : Option Code
  fn : FuncId
  tmps : TM
  params : List Tmp
  assign : Code
  body : Code
inductive AB where
  | cells (l : List AV) (e : TypeId)
  | frz (l : List AV) (e : TypeId)
  | map (es : List AE) (clock : Nat)
  | loop (l : ALoop)
  | iter (m : Option Nat) (since : Nat) (seen : List Nat) (last : Nat)
  | defd
  | gone
abbrev AH := Vec AB
def AH.at (h : AH) (b : Nat) : Option AB := vAt .gone h b
def AH.put (h : AH) (b : Nat) (x : AB) : AH := vPut .gone h b x
def AH.push (h : AH) (x : AB) : AH := vPush .gone h x
def AH.nil : AH := ⟨.e, 0⟩
/-- A value without addresses and without parts. -/
def scal : Value → Bool
  | .bool _ | .int _ _ | .string _ | .pointer none | .slice none 0 0 | .map none | .nilFunc | .nilIface => true
  | _ => false
def ofScal (v : Value) : Option AV := if scal v then some (.lit v) else none
def ofScals : List Value → Option (List AV)
  | [] => some []
  | v :: r => match ofScal v, ofScals r with
    | some x, some y => some (x :: y)
    | _, _ => none
def ofVal1 : Value → Option AV
  | .agg cs => (ofScals cs.toList).map .agg
  | v => ofScal v
def ofVal1s : List Value → Option (List AV)
  | [] => some []
  | v :: r => match ofVal1 v, ofVal1s r with
    | some x, some y => some (x :: y)
    | _, _ => none
def ofVal : Value → Option AV
  | .tuple vs => (ofVal1s vs.toList).map .tup
  | .iface t v => (ofVal1 v).map (.ifc t)
  | v => ofVal1 v
def toScals : List AV → Option (List Value)
  | [] => some []
  | .lit v :: r => (toScals r).map (v :: ·)
  | _ :: _ => none
def toVal : AV → Option Value
  | .lit v => some v
  | .agg l => (toScals l).map fun l => .agg l.toArray
  | .ifc t (.lit v) => some (.iface t v)
  | .ifc t (.agg l) => (toScals l).map fun l => .iface t (.agg l.toArray)
  | _ => none
def AV.cells : AV → List AV
  | .agg l => l
  | v => [v]
inductive PR (α : Type) where
  | ok (a : α)
  | pan (v : Value)
def pur (P : Program) {α : Type} : Sem α → Option (PR α)
  | .pure a => some (.ok a)
  | .program k => pur P (k P)
  | .mark _ k => pur P k
  | .halt (.panic v) => some (.pan v)
  | _ => none
/-- What an operation comes to. -/
inductive AN where
  | val (v : AV)
  | enter (f : FuncId) (args : List AV)
  | round (l : Nat) (args : List AV)
  | defer (f : FuncId) (args : List AV)
  | recover
  | pan (v : AV)
def aundef : AV := .tup []
def evalA (tmps : TM) : Operand → Option AV
  | .tmp t => some ((tmps.at t).getD aundef)
  | .const v => ofVal v
  | .func f => some (.fn (.func f) [] [])
  | .global _ => none
def evals (tmps : TM) : List Operand → Option (List AV)
  | [] => some []
  | x :: r => match evalA tmps x, evals tmps r with
    | some v, some vs => some (v :: vs)
    | _, _ => none
/-- What is known of a type. -/
structure TI where
  desc : TypeDesc
  size : Nat
  bytes : Nat
  zero : AV
  /-- May a value be a map's key, and are two the same? -/
  ck : Value → Bool
  eq : Value → Value → Option Bool
abbrev TT := TypeId → Option TI
def und (T : TT) (t : TypeId) : Option TypeDesc := (T t).map (·.desc)
def isAggD : TypeDesc → Bool
  | .struct _ | .array _ _ => true
  | _ => false
def tiOf (P : Program) (t : TypeId) : TI :=
  { desc := (P.underlying t).getD .invalid
    size := ((P.info? t).map (·.size)).getD 0
    bytes := ((P.info? t).map (·.bytes)).getD 0
    zero := (((P.info? t).bind (·.zero)).bind ofVal1).getD (.tup [])
    ck := fun v => match pur P (Instr.checkKey true 10000 t v), pur P (Instr.checkKey false 10000 t v) with
      | some (.ok _), some (.ok _) => true
      | _, _ => false
    eq := fun a b => match pur P (Op.equal t a b) with
      | some (.ok r) => some r
      | _ => none }
/-- May a type stand in the table? -/
def okType (P : Program) (t : TypeId) : Bool := (P.underlying t).isSome && (((P.info? t).bind (·.zero)).bind ofVal1).isSome
/-- Numbers, to be found fast. -/
inductive NT where
  | leaf
  | node (l : NT) (k : Nat) (r : NT)
def NT.has (t : Nat) : NT → Bool
  | .leaf => false
  | .node l k r => bif Nat.beq t k then true else bif Nat.blt t k then l.has t else r.has t
def NT.all (p : Nat → Bool) : NT → Bool
  | .leaf => true
  | .node l k r => p k && l.all p && r.all p
def tabOf (P : Program) (N : NT) : TT := fun t => bif N.has t then some (tiOf P t) else none
def isAggT (T : TT) (t : TypeId) : Option Bool := (T t).map fun i => isAggD i.desc
def sizeT (T : TT) (t : TypeId) : Option Nat := (T t).map (·.size)
def zeroT (T : TT) (t : TypeId) : Option AV := (T t).map (·.zero)
/-- A row that may be written. -/
def getB (h : AH) (b : Nat) : Option (List AV × TypeId) := match (h.at b) with
  | some (.cells l e) => some (l, e)
  | _ => none
/-- A row that may be read. -/
def getR (h : AH) (b : Nat) : Option (List AV) := match (h.at b) with
  | some (.cells l _) | some (.frz l _) => some l
  | _ => none
/-- Cells of a row, n from i on. -/
def cut (l : List AV) (i n : Nat) : Option (List AV) := if i + n ≤ l.length then some ((l.drop i).take n) else none
def put (l : List AV) (i : Nat) (vs : List AV) : Option (List AV) := if i + vs.length ≤ l.length then some (l.take i ++ vs ++ l.drop (i + vs.length)) else none
/-- Is it the value of one cell? -/
def AV.one : AV → Bool
  | .agg _ | .tup _ => false
  | _ => true
def loadA (T : TT) (h : AH) (t : TypeId) (b off : Nat) : Option AV :=
  match getR h b, isAggT T t, sizeT T t with
  | some l, some true, some n => (cut l off n).map .agg
  | some l, some false, some _ => l[off]?
  | _, _, _ => none
def storeA (T : TT) (h : AH) (t : TypeId) (b off : Nat) (v : AV) : Option AH :=
  match getB h b, sizeT T t with
  | some (l, e), some n => if v.cells.length = n && v.cells.all AV.one then (put l off v.cells).map fun l' => h.put b (.cells l' e) else none
  | _, _ => none
def intA : AV → Option Int
  | .lit (.int _ n) => some n
  | _ => none
def natA (v : AV) : Option Nat := match intA v with
  | some n => if 0 ≤ n then some n.toNat else none
  | none => none
def fillA (place : Nat → Option (Nat × Nat)) : List AV → List (Nat × AV) → Option (List AV)
  | cells, [] => some cells
  | cells, (i, v) :: rest =>
    match place i with
    | some (off, size) => if v.cells.length = size then match put cells off v.cells with
      | some c => fillA place c rest
      | none => none else none
    | none => none
def evalParts (tmps : TM) : List (Nat × Operand) → Option (List (Nat × AV))
  | [] => some []
  | (i, x) :: r => match evalA tmps x, evalParts tmps r with
    | some v, some vs => some ((i, v) :: vs)
    | _, _ => none
def places (T : TT) : List Field → Option (List (Nat × Nat))
  | [] => some []
  | f :: r => match sizeT T f.type, places T r with
    | some n, some l => some ((f.offset, n) :: l)
    | _, _ => none
def buildA (T : TT) (t : TypeId) (parts : List (Nat × AV)) : Option AV :=
  match zeroT T t, und T t with
  | some (.agg z), some (.struct fs) => match places T fs.toList with
    | some pl => (fillA (fun i => pl[i]?) z parts).map .agg
    | none => none
  | some (.agg z), some (.array _ e) => match sizeT T e with
    | some n => (fillA (fun i => some (i * n, n)) z parts).map .agg
    | none => none
  | _, _ => none
def rep (z : List AV) : Nat → List AV
  | 0 => []
  | n + 1 => z ++ rep z n
def capGe (c : Cap) (len n : Nat) : Option Bool := match c with
  | .kn k => some (n ≤ k)
  | .un _ => if n ≤ len then some true else none
/-- The low and the high bound, and the new capacity, of a slice expression. -/
def boundsA (len : Nat) (cap : Cap) (lo hi mx : Option Nat) : Option (Nat × Nat × Cap) :=
  let l := lo.getD 0
  match mx with
  | some m => match hi with
    | some h => if l ≤ h && h ≤ m && capGe cap len m == some true then some (l, h, .kn (m - l)) else none
    | none => none
  | none =>
    let h := hi.getD len
    if l ≤ h && capGe cap len h == some true then some (l, h, match cap with | .kn k => .kn (k - l) | .un z => .un z) else none
def optNat (tmps : TM) : Option Operand → Option (Option Nat)
  | none => some none
  | some x => match evalA tmps x with
    | some v => (natA v).map some
    | none => none
/-- Bytes of cells. -/
def bytesA : List AV → Option (List UInt8)
  | [] => some []
  | .lit (.int .u8 (.ofNat k)) :: r => bif Nat.blt k 256 then (bytesA r).map (UInt8.ofNat k :: ·) else none
  | _ :: _ => none
def byteCells (s : ByteArray) : List AV := s.data.toList.map fun b => .lit (.int .u8 b.toNat)
/-- What is appended or copied: its elements' cells. -/
def srcA (h : AH) (z : Nat) : AV → Option (List AV)
  | .lit (.slice none 0 0) => some []
  | .lit (.string s) => bif Nat.beq z 1 then some (byteCells s) else none
  | .sl b off len _ => match getR h b with
    | some l => cut l off (len * z)
    | none => none
  | _ => none
def lenA : AV → Option Nat
  | .lit (.slice none 0 0) => some 0
  | .lit (.string s) => some s.size
  | .sl _ _ len _ => some len
  | _ => none
def isSrcD (z : Nat) : TypeDesc → Bool
  | .slice _ => true
  | .string => Nat.beq z 1
  | _ => false
/-- The appended cells laid: s is the slice, 'new' the cells, z their number in an element, m the number of elements. -/
def appendB (h : AH) (e : TypeId) (z m : Nat) (new : List AV) (s : AV) : Option (AV × AH) := match s with
  | .lit (.slice none 0 0) => bif Nat.beq m 0 then some (s, h) else some (.sl h.n 0 m (.un z), h.push (.cells new e))
  | .sl b off len cap => bif Nat.beq m 0 then some (s, h) else match cap with
    | .un z' => match getB h b with
      | some (l, e') => match cut l off (len * z) with
        | some old => bif Nat.beq z z' && Nat.beq e e' then some (.sl h.n 0 (len + m) (.un z), (h.put b .gone).push (.cells (old ++ new) e)) else none
        | none => none
      | none => none
    | .kn k => bif Nat.ble (len + m) k then match getB h b with
        | some (l, e') => (put l (off + len * z) new).map fun l' => (.sl b off (len + m) cap, h.put b (.cells l' e'))
        | none => none
      else match getR h b with
        | some l => match cut l off (len * z) with
          | some old => some (.sl h.n 0 (len + m) (.un z), h.push (.cells (old ++ new) e))
          | none => none
        | none => none
  | _ => none
def appendA (T : TT) (h : AH) (t tx : TypeId) (s x : AV) : Option (AV × AH) := match und T t, und T tx with
  | some (.slice e), some dx => match T e, lenA x, lenA s with
    | some i, some m, some n => bif isSrcD i.size dx && Nat.blt 0 i.size && Nat.ble i.size 200 && Nat.beq i.zero.cells.length i.size && Nat.ble (n + m) 4611686018427387904 && Nat.ble ((n + m) * i.bytes) 140737488355328 then match srcA h i.size x with
      | some new => bif Nat.beq new.length (m * i.size) && new.all AV.one then appendB h e i.size m new s else none
      | none => none else none
    | _, _, _ => none
  | _, _ => none
/-- Is a slice empty, with no room? -/
def isNul (len : Nat) : Cap → Bool
  | .kn k => Nat.beq len 0 && Nat.beq k 0
  | .un _ => false
def copyB (h : AH) (z k : Nat) (cs : List AV) : AV → Option (AV × AH)
  | .sl b off len cap => bif isNul len cap then some (.lit (.int .i64 0), h) else match getB h b with
    | some (l, e') => (put l off (cs.take (k * z))).map fun l' => (.lit (.int .i64 (k : Nat)), h.put b (.cells l' e'))
    | none => none
  | .lit (.slice none 0 0) => some (.lit (.int .i64 0), h)
  | _ => none
def copyA (T : TT) (h : AH) (t : TypeId) (d x : AV) : Option (AV × AH) := match und T t with
  | some (.slice e) => match sizeT T e, lenA d, lenA x with
    | some z, some n, some m => match srcA h z x with
      | some cs => bif Nat.beq cs.length (m * z) && cs.all AV.one then copyB h z (Nat.min m n) cs d else none
      | none => none
    | _, _, _ => none
  | _ => none
def keyKind : TypeDesc → Bool
  | .int _ | .string => true
  | _ => false
def findA (kind : TypeDesc) (k : Value) : List AE → Nat → Option (Option (Nat × AV))
  | [], _ => some none
  | e :: es, i => match Instr.sameNow kind k e.key with
    | some true => some (some (i, e.val))
    | some false => findA kind k es (i + 1)
    | none => none
def findE (eq : Value → Value → Option Bool) (k : Value) : List AE → Nat → Option (Option (Nat × AV))
  | [], _ => some none
  | e :: es, i => match eq k e.key with
    | some true => bif Instr.sameBits 10000 e.key k then some (some (i, e.val)) else none
    | some false => findE eq k es (i + 1)
    | none => none
def isStructD : TypeDesc → Bool
  | .struct _ => true
  | _ => false
/-- A key: a plain value, or some of them. -/
def keyV : Value → Bool
  | .agg cs => cs.toList.all scal
  | v => scal v
def keyOf : AV → Option Value
  | .lit v => some v
  | .agg l => (toScals l).map fun l => .agg l.toArray
  | _ => none
def avKey : Value → AV
  | .agg cs => .agg (cs.toList.map .lit)
  | v => .lit v
/-- Where a key stands in a map. -/
def findT (T : TT) (t : TypeId) (k : Value) (es : List AE) : Option (Option (Nat × AV)) := match und T t with
  | some (.map kt _) => match T kt with
    | some i => bif keyKind i.desc then findA i.desc k es 0 else bif isStructD i.desc && i.ck k then findE i.eq k es 0 else none
    | none => none
  | _ => none
def elemT (T : TT) (t : TypeId) : Option TypeId := match und T t with
  | some (.map _ e) => some e
  | _ => none
def entsA (h : AH) : AV → Option (List AE)
  | .lit (.map none) => some []
  | .mp b => match (h.at b) with
    | some (.map es _) => some es
    | _ => none
  | _ => none
def lookupA (T : TT) (h : AH) (t : TypeId) (m k : AV) (ok : Bool) : Option AV :=
  match keyOf k, entsA h m, elemT T t with
  | some key, some es, some e => match findT T t key es, zeroT T e with
      | some (some (_, v)), _ => some (bif ok then .tup [v, .lit (.bool true)] else v)
      | some none, some z => some (bif ok then .tup [z, .lit (.bool false)] else z)
      | _, _ => none
  | _, _, _ => none
def updateA (T : TT) (h : AH) (t : TypeId) (m k v : AV) : Option AH :=
  match m, keyOf k with
  | .mp b, some key => match (h.at b) with
    | some (.map es clock) => match findT T t key es with
      | some (some (i, _)) => some (h.put b (.map (es.modify i fun e => { e with key := key, val := v }) clock))
      | some none => some (h.put b (.map (es ++ [{ key, val := v, born := clock }]) (clock + 1)))
      | none => none
    | _ => none
  | _, _ => none
def deleteA (T : TT) (h : AH) (t : TypeId) (m k : AV) : Option AH :=
  match m, keyOf k with
  | .lit (.map none), some key => match findT T t key [] with
    | some _ => some h
    | none => none
  | .mp b, some key => match (h.at b) with
    | some (.map es clock) => match findT T t key es with
      | some (some (i, _)) => some (h.put b (.map (es.eraseIdx i) clock))
      | some none => some h
      | none => none
    | _ => none
  | _, _ => none
/-- A method of a type with the method's own function. -/
def methodA (P : Program) (t : TypeId) (name : String) : Option FuncId := match P.info? t with
  | some i => match i.methods.find? (·.name == name) with
    | some m => bif m.path.isEmpty then (match m.func, P.underlying t with
        | some (f, true), some (.pointer _) => some f
        | some (_, false), some (.pointer _) => none
        | some (f, false), some _ => some f
        | _, _ => none) else none
    | none => none
  | none => none
/-- A function's value, or a method's, called. -/
def callA (P : Program) (f : AV) (args : List AV) : Option AN :=
  match f with
  | .fn (.func g) first caps => some (.enter g (first ++ args ++ caps))
  | .fn (.yield l) [] [] => some (.round l args)
  | .fn (.method name) [.ifc t v] [] => (methodA P t name).map fun g => .enter g (v :: args)
  | _ => none
/-- Are two values, not both plain, the same? -/
def sameA (T : TT) (d : TypeDesc) (x y : AV) : Option Bool := match d, x, y with
  | .pointer _, .ptr _ _, .lit (.pointer none) | .pointer _, .lit (.pointer none), .ptr _ _ => some false
  | .slice _, .sl .., .lit (.slice none 0 0) | .slice _, .lit (.slice none 0 0), .sl .. => some false
  | .map _ _, .mp _, .lit (.map none) | .map _ _, .lit (.map none), .mp _ => some false
  | .func .., .fn .., .lit .nilFunc | .func .., .lit .nilFunc, .fn .. => some false
  | .interface _, .ifc .., .lit .nilIface | .interface _, .lit .nilIface, .ifc .. => some false
  | .pointer e, .ptr b i, .ptr c j => match sizeT T e with
    | some (_ + 1) => bif Nat.beq b c then some (Nat.beq i j) else none
    | _ => none
  | _, _, _ => none
def litAll (tmps : TM) : List Operand → Bool
  | [] => true
  | x :: r => match evalA tmps x with
    | some v => (toVal v).isSome && litAll tmps r
    | none => false
def litEnv (tmps : TM) (x : Operand) : Value := match evalA tmps x with
  | some v => (toVal v).getD undef
  | none => undef
def ofPR : Option (PR Next) → Option AN
  | some (.ok (.value v)) => (ofVal v).map .val
  | some (.pan v) => (ofVal v).map .pan
  | _ => none
def notSelect : Op → Bool
  | .select .. => false
  | _ => true
/-- An operation whose operands are all plain, by the model's own text. -/
def litOp (P : Program) (o : Oper) (tmps : TM) : Option AN :=
  if notSelect o.op && litAll tmps o.op.operands.toList then ofPR (pur P (execOp (litEnv tmps) o)) else none
abbrev AR := Option (AN × AH)
def val (h : AH) (x : Option AV) : AR := x.map fun x => (.val x, h)
def orLit (P : Program) (o : Oper) (tmps : TM) (h : AH) (r : Unit → AR) : AR := match litOp P o tmps with
  | some n => some (n, h)
  | none => r ()
def aPick (tmps : TM) (h : AH) (c a b : Operand) : AR := match evalA tmps c with
  | some (.lit (.bool t)) => val h (bif t then evalA tmps a else evalA tmps b)
  | _ => none
def aAlloc (T : TT) (h : AH) (t : TypeId) : AR := (zeroT T t).map fun z => (.val (.ptr h.n 0), h.push (.cells z.cells t))
def aBox (tmps : TM) (h : AH) (t : TypeId) (x : Operand) : AR := match evalA tmps x with
  | some z => if z.cells.all AV.one then some (.val (.ptr h.n 0), h.push (.cells z.cells t)) else none
  | none => none
def aBuild (T : TT) (tmps : TM) (h : AH) (t : TypeId) (ps : Array (Nat × Operand)) : AR := match evalParts tmps ps.toList with
  | some ps => val h (buildA T t ps)
  | none => none
def aBuildSlice (T : TT) (tmps : TM) (h : AH) (t : TypeId) (n : Nat) (ps : Array (Nat × Operand)) : AR := match und T t, evalParts tmps ps.toList with
  | some (.slice e), some ps => match T e with
    | some i => if i.zero.cells.length = i.size && n ≤ 65536 && n * i.size ≤ 65536 then (fillA (fun k => some (k * i.size, i.size)) (rep i.zero.cells n) ps).map fun l => (.val (.sl h.n 0 n (.kn n)), h.push (.cells l e)) else none
    | none => none
  | _, _ => none
def aLoad (T : TT) (tmps : TM) (h : AH) (t : TypeId) (a : Operand) : AR := match evalA tmps a with
  | some (.ptr b off) => val h (loadA T h t b off)
  | _ => none
def aStore (T : TT) (tmps : TM) (h : AH) (t : TypeId) (a x : Operand) : AR := match evalA tmps a, evalA tmps x with
  | some (.ptr b off), some x => (storeA T h t b off x).map fun h' => (.val aundef, h')
  | _, _ => none
def aNilCheck (P : Program) (o : Oper) (tmps : TM) (h : AH) (x : Operand) : AR := match evalA tmps x with
  | some (.ptr b off) => some (.val (.ptr b off), h)
  | some (.fn (.func g) a b) => some (.val (.fn (.func g) a b), h)
  | some (.ifc t x) => some (.val (.ifc t x), h)
  | _ => orLit P o tmps h fun _ => none
def aSame (T : TT) (tmps : TM) (h : AH) (op : BinOp) (t : TypeId) (x y : Operand) : AR := match und T t, evalA tmps x, evalA tmps y with
  | some d, some a, some b => match sameA T d a b, op with
    | some r, .eql => some (.val (.lit (.bool r)), h)
    | some r, .neq => some (.val (.lit (.bool !r)), h)
    | _, _ => none
  | _, _, _ => none
def bytesAt (h : AH) (b off len : Nat) : Option (List UInt8) := match getR h b with
  | some l => match cut l off len with
    | some cs => bytesA cs
    | none => none
  | none => none
def aConv1 (T : TT) (h : AH) (src dst : TypeId) (x : AV) : AR := match und T src, und T dst, x with
  | some (.slice e), some .string, .sl b off len _ => match und T e with
    | some (.int .u8) => val h ((bytesAt h b off len).map fun bs => .lit (.string ⟨bs.toArray⟩))
    | _ => none
  | some (.slice _), some (.slice e), .sl b off len cap => if src == dst then match und T e, getB h b with
      | some (.int .u8), some (l, e') => bif isNul len cap then none else some (.val (.sl b off len cap), h.put b (.frz l e'))
      | _, _ => none else none
  | some .string, some (.slice e), .lit (.string s) => match und T e with
    | some (.int .u8) => bif Nat.ble s.size 16777216 then some (.val (.sl h.n 0 s.size (.un 1)), h.push (.frz (byteCells s) e)) else none
    | _ => none
  | _, _, _ => none
def aConvert (P : Program) (T : TT) (o : Oper) (tmps : TM) (h : AH) (src dst : TypeId) (x : Operand) : AR := match evalA tmps x with
  | some (.lit (.int k n)) => match und T src, und T dst with
    | some _, some (.int k') => some (.val (.lit (.int k' (k'.wrap n))), h)
    | _, _ => orLit P o tmps h fun _ => none
  | some v => orLit P o tmps h fun _ => aConv1 T h src dst v
  | none => none
def aMakeInterface (T : TT) (tmps : TM) (h : AH) (t : TypeId) (x : Operand) : AR := match und T t, evalA tmps x with
  | some (.interface _), _ => none
  | some _, some x => some (.val (.ifc t x), h)
  | _, _ => none
def notYield : Fn → Bool
  | .yield _ => false
  | _ => true
def aMakeFunc (tmps : TM) (h : AH) (f : Fn) (first caps : Array Operand) : AR := match evals tmps first.toList, evals tmps caps.toList with
  | some a, some b => bif notYield f then some (.val (.fn f a b), h) else none
  | _, _ => none
def aMakeSlice (T : TT) (tmps : TM) (h : AH) (t : TypeId) (l c : Operand) : AR := match und T t, (evalA tmps l).bind natA, (evalA tmps c).bind natA with
  | some (.slice e), some n, some m => match T e with
    | some i => if n ≤ m && m ≤ 65536 && i.bytes * m ≤ 281474976710656 && i.zero.cells.length = i.size then some (.val (.sl h.n 0 n (.kn m)), h.push (.cells (rep i.zero.cells m) e)) else none
    | none => none
  | _, _, _ => none
def capFits (z : Nat) : Cap → Bool
  | .kn _ => true
  | .un z' => Nat.beq z z'
def aSlice1 (T : TT) (h : AH) (t : TypeId) (x : AV) (lo hi mx : Option Nat) : AR := match und T t, x with
  | some (.slice e), .sl b off len cap => match sizeT T e, boundsA len cap lo hi mx with
    | some z, some (l, r, c) => bif capFits z c then some (.val (.sl b (off + l * z) (r - l) c), h) else none
    | _, _ => none
  | some (.array n e), .ptr b off => match sizeT T e, boundsA n (.kn n) lo hi mx with
    | some z, some (l, r, c) => bif Nat.ble n 16777216 then some (.val (.sl b (off + l * z) (r - l) c), h) else none
    | _, _ => none
  | _, _ => none
def aSlice (P : Program) (T : TT) (o : Oper) (tmps : TM) (h : AH) (t : TypeId) (x : Operand) (lo hi mx : Option Operand) : AR :=
  orLit P o tmps h fun _ => match evalA tmps x, optNat tmps lo, optNat tmps hi, optNat tmps mx with
    | some x, some lo, some hi, some mx => aSlice1 T h t x lo hi mx
    | _, _, _, _ => none
def aFieldAddr (T : TT) (tmps : TM) (h : AH) (t : TypeId) (x : Operand) (i : Nat) : AR := match und T t, evalA tmps x with
  | some (.struct fs), some (.ptr b off) => match fs[i]? with
    | some f => match sizeT T f.type with
      | some (_ + 1) => some (.val (.ptr b (off + f.offset)), h)
      | _ => none
    | none => none
  | _, _ => none
def partA (T : TT) (t : TypeId) (l : List AV) (off : Nat) : Option AV := match T t with
  | some i => bif isAggD i.desc then (cut l off i.size).map .agg else l[off]?
  | none => none
def aField (T : TT) (tmps : TM) (h : AH) (t : TypeId) (x : Operand) (i : Nat) : AR := match und T t, evalA tmps x with
  | some (.struct fs), some (.agg l) => match fs[i]? with
    | some f => val h (partA T f.type l f.offset)
    | none => none
  | _, _ => none
def aIndexAddr (T : TT) (tmps : TM) (h : AH) (t : TypeId) (x ix : Operand) : AR := match und T t, evalA tmps x, (evalA tmps ix).bind natA with
  | some (.slice e), some (.sl b off len _), some i => match sizeT T e with
    | some z => if i < len then some (.val (.ptr b (off + i * z)), h) else none
    | none => none
  | some (.array n e), some (.ptr b off), some i => match sizeT T e with
    | some z => if i < n then some (.val (.ptr b (off + i * z)), h) else none
    | none => none
  | _, _, _ => none
def aIndex (P : Program) (T : TT) (o : Oper) (tmps : TM) (h : AH) (t : TypeId) (x ix : Operand) : AR :=
  orLit P o tmps h fun _ => match und T t, evalA tmps x, (evalA tmps ix).bind natA with
    | some (.array n e), some (.agg l), some i => match sizeT T e with
      | some z => if i < n then val h (partA T e l (i * z)) else none
      | none => none
    | _, _, _ => none
def aLookup (T : TT) (tmps : TM) (h : AH) (t : TypeId) (m k : Operand) (ok : Bool) : AR := match evalA tmps m, evalA tmps k with
  | some m, some k => val h (lookupA T h t m k ok)
  | _, _ => none
def aUpdate (T : TT) (tmps : TM) (h : AH) (t : TypeId) (m k x : Operand) : AR := match evalA tmps m, evalA tmps k, evalA tmps x with
  | some m, some k, some x => (updateA T h t m k x).map fun h' => (.val aundef, h')
  | _, _, _ => none
def aRange (T : TT) (tmps : TM) (h : AH) (t : TypeId) (x : Operand) : AR := match und T t, evalA tmps x with
  | some (.map _ _), some (.lit (.map none)) => some (.val (.ptr h.n 0), h.push (.iter none 0 [] 0))
  | some (.map _ _), some (.mp b) => match h.at b with
    | some (.map _ clock) => some (.val (.ptr h.n 0), h.push (.iter (some b) clock [] clock))
    | _ => none
  | _, _ => none
/-- A map's iterator goes on, where there is one way alone: no entry is left, or one that was there from the beginning. -/
def aNext (tmps : TM) (h : AH) (x : Operand) (isS : Bool) : AR := match evalA tmps x, isS with
  | some (.ptr b 0), false => match h.at b with
    | some (.iter none _ _ _) => some (.val (.tup [.lit (.bool false)]), h)
    | some (.iter (some m) since seen last) => match h.at m with
      | some (.map es clock) => bif !seen.isEmpty && !es.isEmpty && es.all (fun e => decide (e.born ≥ last)) then none else match es.filter (fun e => !seen.contains e.born) with
        | [] => some (.val (.tup [.lit (.bool false)]), h)
        | [e] => bif Nat.blt e.born since then some (.val (.tup [.lit (.bool true), avKey e.key, e.val]), h.put b (.iter (some m) since (seen ++ [e.born]) clock)) else none
        | _ => none
      | _ => none
    | _ => none
  | _, _ => none
/-- The entry of a map's iterator. -/
def aEntry (tmps : TM) (h : AH) (x : Operand) : AR := match evalA tmps x with
  | some (.ptr b 0) => match h.at b with
    | some (.iter (some m) _ seen stepped) => match h.at m, seen.getLast? with
      | some (.map es clock), some stamp => bif Nat.beq clock stepped then match es.find? (fun e => Nat.beq e.born stamp) with
        | some e => some (.val (.tup [avKey e.key, e.val]), h)
        | none => none else none
      | _, _ => none
    | _ => none
  | _ => none
def aExtract (tmps : TM) (h : AH) (x : Operand) (i : Nat) : AR := match evalA tmps x with
  | some (.tup l) => val h l[i]?
  | _ => none
def okPair (ok : Bool) (v : AV) (b : Bool) : AV := bif ok then .tup [v, .lit (.bool b)] else v
def aAssert (P : Program) (T : TT) (tmps : TM) (h : AH) (x : Operand) (t : TypeId) (ok : Bool) : AR := match evalA tmps x, T t with
  | some (.ifc d y), some i => match i.desc with
    | .interface want => match P.info? d with
      | some j => if (Instr.missingMethod want j.methods).isNone then some (.val (okPair ok (.ifc d y) true), h) else none
      | none => none
    | _ => bif Nat.beq d t then some (.val (okPair ok y true), h) else bif ok then some (.val (.tup [i.zero, .lit (.bool false)]), h) else none
  | some (.lit .nilIface), some i => bif ok then some (.val (.tup [i.zero, .lit (.bool false)]), h) else none
  | _, _ => none
def aPanic (tmps : TM) (h : AH) (x : Operand) : AR := match evalA tmps x with
  | some (.ifc t x) => some (.pan (.ifc t x), h)
  | _ => none
def aBuiltin (P : Program) (T : TT) (o : Oper) (tmps : TM) (h : AH) (b : Builtin) (c : Call) : AR := match b, evals tmps c.args.toList, c.argTypes.toList with
  | .append, some [s, x], [t, tx] => (appendA T h t tx s x).map fun r => (.val r.1, r.2)
  | .copy, some [s, x], t :: _ => (copyA T h t s x).map fun r => (.val r.1, r.2)
  | .delete, some [m, k], t :: _ => (deleteA T h t m k).map fun h' => (.val (.tup []), h')
  | .len, some [.sl _ _ n _], t :: _ => match und T t with
    | some (.slice _) => some (.val (.lit (.int .i64 n)), h)
    | _ => none
  | .len, some [.mp b], t :: _ => match und T t, (h.at b) with
    | some (.map _ _), some (.map es _) => some (.val (.lit (.int .i64 es.length)), h)
    | _, _ => none
  | .recover, _, _ => some (.recover, h)
  | _, _, _ => orLit P o tmps h fun _ => none
def aCall (P : Program) (T : TT) (o : Oper) (tmps : TM) (h : AH) (c : Call) : AR := match c.callee with
  | .builtin b => aBuiltin P T o tmps h b c
  | .value f => match evalA tmps f, evals tmps c.args.toList with
    | some f, some args => (callA P f args).map (·, h)
    | _, _ => none
  | .invoke r name => match evalA tmps r, evals tmps c.args.toList with
    | some r, some args => (callA P (.fn (.method name) [r] []) args).map (·, h)
    | _, _ => none
def aDefer (P : Program) (tmps : TM) (h : AH) (c : Call) : AR := match c.callee with
  | .value f => match evalA tmps f, evals tmps c.args.toList with
    | some f, some args => match callA P f args with
      | some (.enter g a) => some (.defer g a, h)
      | _ => none
    | _, _ => none
  | _ => none
def ofPV (h : AH) : Option (PR Value) → AR
  | some (.ok v) => (ofScal v).map fun a => (.val a, h)
  | some (.pan v) => (ofVal v).map fun a => (.pan a, h)
  | none => none
def cmpB (op : BinOp) (below above upto from' : Bool) : Option Bool := match op with
  | .lss => bif below then some true else bif from' then some false else none
  | .geq => bif below then some false else bif from' then some true else none
  | .leq => bif upto then some true else bif above then some false else none
  | .gtr => bif upto then some false else bif above then some true else none
  | .eql => bif below || above then some false else none
  | .neq => bif below || above then some true else none
  | _ => none
def ltO (x : Option Int) (c : Int) : Bool := match x with
  | some b => decide (b < c)
  | none => false
def gtO (x : Option Int) (c : Int) : Bool := match x with
  | some b => decide (c < b)
  | none => false
/-- A number of which bounds are known, compared with a known one. -/
def cmpR (op : BinOp) (lo hi : Option Int) (c : Int) : Option Bool := cmpB op (ltO hi c) (gtO lo c) (ltO hi (c + 1)) (gtO lo (c - 1))
def aBin (P : Program) (T : TT) (o : Oper) (tmps : TM) (h : AH) (op : BinOp) (t : TypeId) (x y : Operand) : AR := match evalA tmps x, evalA tmps y with
  | some (.lit .nilIface), _ => orLit P o tmps h fun _ => aSame T tmps h op t x y
  | some (.lit a), some (.lit b) => ofPV h (pur P (binOp op t a b))
  | some (.rng _ lo hi), some (.lit (.int .i64 c)) => val h ((cmpR op lo hi c).map fun r => .lit (.bool r))
  | _, _ => orLit P o tmps h fun _ => aSame T tmps h op t x y
def aUn (P : Program) (tmps : TM) (h : AH) (op : UnOp) (x : Operand) : AR := match evalA tmps x with
  | some (.lit a) => ofPV h (pur P (Op.unary op a))
  | _ => none
def aop (P : Program) (T : TT) (o : Oper) (tmps : TM) (h : AH) : AR :=
  match o.op with
  | .move x | .assign x => val h (evalA tmps x)
  | .pick c a b => aPick tmps h c a b
  | .alloc t => aAlloc T h t
  | .box t x => aBox tmps h t x
  | .build t ps => aBuild T tmps h t ps
  | .buildSlice t n ps => aBuildSlice T tmps h t n ps
  | .load t a => aLoad T tmps h t a
  | .store t a x => aStore T tmps h t a x
  | .nilCheck x => aNilCheck P o tmps h x
  | .binOp op t x y _ => aBin P T o tmps h op t x y
  | .convert src dst x => aConvert P T o tmps h src dst x
  | .makeInterface t x => aMakeInterface T tmps h t x
  | .makeFunc f first caps => aMakeFunc tmps h f first caps
  | .makeMap _ none => some (.val (.mp h.n), h.push (.map [] 0))
  | .makeSlice t l c => aMakeSlice T tmps h t l c
  | .slice t x lo hi mx => aSlice P T o tmps h t x lo hi mx
  | .fieldAddr t x i => aFieldAddr T tmps h t x i
  | .field t x i => aField T tmps h t x i
  | .indexAddr t x ix => aIndexAddr T tmps h t x ix
  | .index t x ix => aIndex P T o tmps h t x ix
  | .lookup t m k ok => aLookup T tmps h t m k ok
  | .mapUpdate t m k x | .insert t m k x => aUpdate T tmps h t m k x
  | .extract x i => aExtract tmps h x i
  | .range t x => aRange T tmps h t x
  | .next x s => aNext tmps h x s
  | .entry x => aEntry tmps h x
  | .typeAssert x _ t ok => aAssert P T tmps h x t ok
  | .panic x => aPanic tmps h x
  | .call c => aCall P T o tmps h c
  | .defer c => aDefer P tmps h c
  | .unOp op _ x => aUn P tmps h op x
  | _ => none
end Go.Proofs.YtkgbeihcepociaaDoor.Ex
end

section

set_option linter.unusedSimpArgs false
set_option linter.unusedVariables false
namespace Go.Proofs.YtkgbeihcepociaaDoor.Ex
open Go
/-- Which real block an abstract one is, and from which cell on. -/
abbrev Mu := Nat → Option (Nat × Nat)
def capRel (w : World) (r o len : Nat) : Cap → Nat → Prop
  | .kn k, c => c = k ∧ len ≤ k ∧ k ≤ maxLen
  | .un z, c => len ≤ c ∧ c ≤ maxLen ∧ 0 < z ∧ ∃ cur e fz, w.heap[r]? = some (.cells cur e fz) ∧ o + c * z ≤ cur.size
def fnRel (μ : Mu) : Fn → Fn → Prop
  | .yield l, f' => ∃ r, μ l = some (r, 0) ∧ f' = .yield r
  | f, f' => f' = f
mutual
def rel (ρ : Nat → Value) (μ : Mu) (w : World) : AV → Value → Prop
  | .lit v, v' => v' = v ∧ scal v = true
  | .ptr b off, v' => ∃ r base, μ b = some (r, base) ∧ v' = .pointer (some ⟨r, base + off, none⟩)
  | .sl b off len cap, v' => (∃ r base o c, μ b = some (r, base) ∧ v' = .slice (some ⟨r, o, none⟩) len c ∧ (c = 0 ∨ o = base + off) ∧ capRel w r (base + off) len cap c) ∨ (len = 0 ∧ cap = .kn 0 ∧ ∃ a, v' = .slice (some a) 0 0)
  | .mp b, v' => ∃ r, μ b = some (r, 0) ∧ v' = .map (some r)
  | .agg l, v' => ∃ l', v' = .agg l'.toArray ∧ rels ρ μ w l l'
  | .tup l, v' => ∃ l', v' = .tuple l'.toArray ∧ rels ρ μ w l l'
  | .ifc t v, v' => ∃ u, v' = .iface t u ∧ rel ρ μ w v u
  | .fn f first caps, v' => ∃ f' a b, v' = .func f' a.toArray b.toArray ∧ fnRel μ f f' ∧ rels ρ μ w first a ∧ rels ρ μ w caps b
  | .ext i, v' => v' = ρ i ∧ v'.oneCell' = true
  | .any, v' => v'.oneCell' = true
  | .rng i lo hi, v' => v' = ρ i ∧ ∃ n : Int, v' = .int .i64 n ∧ (∀ a, lo = some a → a ≤ n) ∧ (∀ b, hi = some b → n ≤ b)
def rels (ρ : Nat → Value) (μ : Mu) (w : World) : List AV → List Value → Prop
  | [], l' => l' = []
  | x :: xs, l' => ∃ v vs, l' = v :: vs ∧ rel ρ μ w x v ∧ rels ρ μ w xs vs
end
variable {ρ : Nat → Value}
/-- Rows keep their sizes. -/
def Grows (w w' : World) : Prop := ∀ (r : Nat) (cur : Array Value) (e : TypeId) (fz : Nat × Nat), w.heap[r]? = some (.cells cur e fz) → ∃ (cur' : Array Value) (e' : TypeId) (fz' : Nat × Nat), w'.heap[r]? = some (.cells cur' e' fz') ∧ cur'.size = cur.size
theorem Grows.refl (w : World) : Grows w w := fun r cur e fz h => ⟨cur, e, fz, h, rfl⟩
theorem Grows.trans {a b c : World} (h : Grows a b) (k : Grows b c) : Grows a c := fun r cur e fz x => by
  obtain ⟨c1, e1, f1, h1, s1⟩ := h r cur e fz x
  obtain ⟨c2, e2, f2, h2, s2⟩ := k r c1 e1 f1 h1
  exact ⟨c2, e2, f2, h2, s2.trans s1⟩
/-- More is mapped. -/
def More (μ μ' : Mu) : Prop := ∀ b x, μ b = some x → μ' b = some x
theorem More.refl (μ : Mu) : More μ μ := fun _ _ h => h
theorem More.trans {a b c : Mu} (h : More a b) (k : More b c) : More a c := fun x y z => k x y (h x y z)
theorem capRel.mono {w w' : World} {r o len c : Nat} {cap : Cap} (hg : Grows w w') (h : capRel w r o len cap c) : capRel w' r o len cap c := by
  cases cap with
  | kn k => exact h
  | un z =>
    obtain ⟨h1, h2, h3, cur, e, fz, h4, h5⟩ := h
    obtain ⟨cur', e', fz', h6, h7⟩ := hg _ _ _ _ h4
    exact ⟨h1, h2, h3, cur', e', fz', h6, by omega⟩
theorem fnRel.mono {μ μ' : Mu} {f f' : Fn} (hm : More μ μ') (h : fnRel μ f f') : fnRel μ' f f' := by
  cases f <;> first | exact h | (obtain ⟨r, h1, h2⟩ := h; exact ⟨r, hm _ _ h1, h2⟩)
mutual
theorem rel.mono {μ μ' : Mu} {w w' : World} (hm : More μ μ') (hg : Grows w w') : ∀ (a : AV) (v : Value), rel ρ μ w a v → rel ρ μ' w' a v
  | .lit v, v', h => by unfold rel at h ⊢; exact h
  | .ptr b off, v', h => by
    unfold rel at h ⊢
    obtain ⟨r, base, h1, h2⟩ := h
    exact ⟨r, base, hm _ _ h1, h2⟩
  | .sl b off len cap, v', h => by
    unfold rel at h ⊢
    rcases h with ⟨r, base, o, c, h1, h2, h3, h4⟩ | h
    · exact .inl ⟨r, base, o, c, hm _ _ h1, h2, h3, h4.mono hg⟩
    · exact .inr h
  | .mp b, v', h => by
    unfold rel at h ⊢
    obtain ⟨r, h1, h2⟩ := h
    exact ⟨r, hm _ _ h1, h2⟩
  | .agg l, v', h => by
    unfold rel at h ⊢
    obtain ⟨l', h1, h2⟩ := h
    exact ⟨l', h1, rels.mono hm hg l l' h2⟩
  | .tup l, v', h => by
    unfold rel at h ⊢
    obtain ⟨l', h1, h2⟩ := h
    exact ⟨l', h1, rels.mono hm hg l l' h2⟩
  | .ifc t v, v', h => by
    unfold rel at h ⊢
    obtain ⟨u, h1, h2⟩ := h
    exact ⟨u, h1, rel.mono hm hg v u h2⟩
  | .fn f first caps, v', h => by
    unfold rel at h ⊢
    obtain ⟨f', a, b, h1, h2, h3, h4⟩ := h
    exact ⟨f', a, b, h1, h2.mono hm, rels.mono hm hg first a h3, rels.mono hm hg caps b h4⟩
  | .ext i, v', h => by unfold rel at h ⊢; exact h
  | .rng i lo hi, v', h => by unfold rel at h ⊢; exact h
  | .any, v', h => by unfold rel at h ⊢; exact h
theorem rels.mono {μ μ' : Mu} {w w' : World} (hm : More μ μ') (hg : Grows w w') : ∀ (l : List AV) (l' : List Value), rels ρ μ w l l' → rels ρ μ' w' l l'
  | [], l', h => by unfold rels at h ⊢; exact h
  | x :: xs, l', h => by
    unfold rels at h ⊢
    obtain ⟨v, vs, h1, h2, h3⟩ := h
    exact ⟨v, vs, h1, rel.mono hm hg x v h2, rels.mono hm hg xs vs h3⟩
end
section
variable {μ : Mu} {w : World}
theorem rels_nil : rels ρ μ w [] [] := by unfold rels; rfl
theorem rels_cons {x : AV} {v : Value} {xs : List AV} {vs : List Value} (h : rel ρ μ w x v) (k : rels ρ μ w xs vs) : rels ρ μ w (x :: xs) (v :: vs) := by
  unfold rels
  exact ⟨v, vs, rfl, h, k⟩
theorem rels_cons_inv {x : AV} {xs : List AV} {l' : List Value} (h : rels ρ μ w (x :: xs) l') : ∃ v vs, l' = v :: vs ∧ rel ρ μ w x v ∧ rels ρ μ w xs vs := by
  unfold rels at h
  exact h
theorem rels_nil_inv {l' : List Value} (h : rels ρ μ w [] l') : l' = [] := by
  unfold rels at h
  exact h
theorem rels_length : ∀ {l : List AV} {l' : List Value}, rels ρ μ w l l' → l'.length = l.length
  | [], l', h => by rw [rels_nil_inv h]; rfl
  | x :: xs, l', h => by
    obtain ⟨v, vs, rfl, _, h2⟩ := rels_cons_inv h
    rw [List.length_cons, List.length_cons, rels_length h2]
theorem rels_get : ∀ {l : List AV} {l' : List Value} {i : Nat} {x : AV}, rels ρ μ w l l' → l[i]? = some x → ∃ v, l'[i]? = some v ∧ rel ρ μ w x v
  | [], l', i, x, h, hx => by simp at hx
  | y :: ys, l', i, x, h, hx => by
    obtain ⟨v, vs, rfl, h1, h2⟩ := rels_cons_inv h
    cases i with
    | zero => simp only [List.getElem?_cons_zero, Option.some.injEq] at hx; subst hx; exact ⟨v, rfl, h1⟩
    | succ i => simp only [List.getElem?_cons_succ] at hx ⊢; exact rels_get h2 hx
theorem rels_of_get : ∀ {l : List AV} {l' : List Value}, l'.length = l.length → (∀ (i : Nat) (x : AV), l[i]? = some x → ∃ v, l'[i]? = some v ∧ rel ρ μ w x v) → rels ρ μ w l l'
  | [], l', hl, _ => by rw [List.eq_nil_of_length_eq_zero hl]; exact rels_nil
  | x :: xs, l', hl, h => by
    cases l' with
    | nil => simp at hl
    | cons v vs =>
      obtain ⟨u, h1, h2⟩ := h 0 x rfl
      simp only [List.getElem?_cons_zero, Option.some.injEq] at h1
      subst h1
      exact rels_cons h2 (rels_of_get (by simpa using hl) (fun i y hy => by
        obtain ⟨u, h3, h4⟩ := h (i + 1) y (by simpa using hy)
        exact ⟨u, by simpa using h3, h4⟩))
theorem rels_append {l m : List AV} {l' m' : List Value} (h : rels ρ μ w l l') (k : rels ρ μ w m m') : rels ρ μ w (l ++ m) (l' ++ m') := by
  induction l generalizing l' with
  | nil => rw [rels_nil_inv h]; exact k
  | cons x xs ih =>
    obtain ⟨v, vs, rfl, h1, h2⟩ := rels_cons_inv h
    exact rels_cons h1 (ih h2)
theorem rels_take {l : List AV} {l' : List Value} (n : Nat) (h : rels ρ μ w l l') : rels ρ μ w (l.take n) (l'.take n) := by
  induction l generalizing l' n with
  | nil => rw [rels_nil_inv h]; simp; exact rels_nil
  | cons x xs ih =>
    obtain ⟨v, vs, rfl, h1, h2⟩ := rels_cons_inv h
    cases n with
    | zero => exact rels_nil
    | succ n => exact rels_cons h1 (ih n h2)
theorem rels_drop {l : List AV} {l' : List Value} (n : Nat) (h : rels ρ μ w l l') : rels ρ μ w (l.drop n) (l'.drop n) := by
  induction l generalizing l' n with
  | nil => rw [rels_nil_inv h]; simp; exact rels_nil
  | cons x xs ih =>
    obtain ⟨v, vs, rfl, h1, h2⟩ := rels_cons_inv h
    cases n with
    | zero => exact rels_cons h1 h2
    | succ n => exact ih n h2
theorem rels_set {l : List AV} {l' : List Value} (i : Nat) {x : AV} {v : Value} (h : rels ρ μ w l l') (hx : rel ρ μ w x v) : rels ρ μ w (l.set i x) (l'.set i v) := by
  induction l generalizing l' i with
  | nil => rw [rels_nil_inv h]; exact rels_nil
  | cons y ys ih =>
    obtain ⟨u, us, rfl, h1, h2⟩ := rels_cons_inv h
    cases i with
    | zero => exact rels_cons hx h2
    | succ i => exact rels_cons h1 (ih i h2)
theorem rels_replicate (n : Nat) {x : AV} {v : Value} (hx : rel ρ μ w x v) : rels ρ μ w (List.replicate n x) (List.replicate n v) := by
  induction n with
  | zero => exact rels_nil
  | succ n ih => exact rels_cons hx ih
theorem rel_undef : rel ρ μ w aundef undef := by
  unfold aundef rel
  exact ⟨[], rfl, rels_nil⟩
theorem rels_getD {l : List AV} {l' : List Value} (i : Nat) (h : rels ρ μ w l l') : rel ρ μ w (l.getD i aundef) (l'.getD i undef) := by
  rw [List.getD_eq_getElem?_getD, List.getD_eq_getElem?_getD]
  cases hx : l[i]? with
  | none =>
    have : l'[i]? = none := by
      rw [List.getElem?_eq_none_iff] at hx ⊢
      rw [rels_length h]
      exact hx
    rw [this]
    exact rel_undef
  | some x =>
    obtain ⟨v, h1, h2⟩ := rels_get h hx
    rw [h1]
    exact h2
/-! Plain values. -/
theorem ofScal_rel {v : Value} {a : AV} (h : ofScal v = some a) : rel ρ μ w a v := by
  unfold ofScal at h
  split at h
  · obtain rfl := Option.some.inj h
    unfold rel
    exact ⟨rfl, by assumption⟩
  · cases h
theorem ofScals_rel : ∀ {l : List Value} {xs : List AV}, ofScals l = some xs → rels ρ μ w xs l
  | [], xs, h => by simp only [ofScals, Option.some.injEq] at h; subst h; exact rels_nil
  | v :: r, xs, h => by
    unfold ofScals at h
    split at h
    · rename_i x y hx hy
      obtain rfl := Option.some.inj h
      exact rels_cons (ofScal_rel hx) (ofScals_rel hy)
    · cases h
theorem ofVal1_rel {v : Value} {a : AV} (h : ofVal1 v = some a) : rel ρ μ w a v := by
  unfold ofVal1 at h
  split at h
  · rename_i cs
    simp only [Option.map_eq_some_iff] at h
    obtain ⟨l, h1, rfl⟩ := h
    unfold rel
    exact ⟨cs.toList, by simp, ofScals_rel h1⟩
  · exact ofScal_rel h
theorem ofVal1s_rel : ∀ {l : List Value} {xs : List AV}, ofVal1s l = some xs → rels ρ μ w xs l
  | [], xs, h => by simp only [ofVal1s, Option.some.injEq] at h; subst h; exact rels_nil
  | v :: r, xs, h => by
    unfold ofVal1s at h
    split at h
    · rename_i x y hx hy
      obtain rfl := Option.some.inj h
      exact rels_cons (ofVal1_rel hx) (ofVal1s_rel hy)
    · cases h
theorem ofVal_rel {v : Value} {a : AV} (h : ofVal v = some a) : rel ρ μ w a v := by
  unfold ofVal at h
  split at h
  · rename_i vs
    simp only [Option.map_eq_some_iff] at h
    obtain ⟨l, h1, rfl⟩ := h
    unfold rel
    exact ⟨vs.toList, by simp, ofVal1s_rel h1⟩
  · rename_i t u
    simp only [Option.map_eq_some_iff] at h
    obtain ⟨x, h1, rfl⟩ := h
    unfold rel
    exact ⟨u, rfl, ofVal1_rel h1⟩
  · exact ofVal1_rel h
theorem toScals_rel : ∀ {l : List AV} {vs l' : List Value}, toScals l = some vs → rels ρ μ w l l' → l' = vs
  | [], vs, l', h, k => by simp only [toScals, Option.some.injEq] at h; subst h; exact rels_nil_inv k
  | x :: r, vs, l', h, k => by
    cases x <;> simp only [toScals, Option.map_eq_some_iff, reduceCtorEq] at h
    obtain ⟨us, h1, rfl⟩ := h
    obtain ⟨u, us', rfl, k1, k2⟩ := rels_cons_inv k
    unfold rel at k1
    rw [k1.1, toScals_rel h1 k2]
theorem toScals_scal : ∀ {l : List AV} {vs l' : List Value}, toScals l = some vs → rels ρ μ w l l' → ∀ x ∈ vs, scal x = true
  | [], vs, l', h, k => by simp only [toScals, Option.some.injEq] at h; subst h; intro x hx; cases hx
  | x :: r, vs, l', h, k => by
    cases x <;> simp only [toScals, Option.map_eq_some_iff, reduceCtorEq] at h
    obtain ⟨us, h1, rfl⟩ := h
    obtain ⟨u, us', rfl, k1, k2⟩ := rels_cons_inv k
    unfold rel at k1
    intro y hy
    rcases List.mem_cons.1 hy with rfl | hy
    · exact k1.2
    · exact toScals_scal h1 k2 y hy
theorem toVal_rel {a : AV} {v v' : Value} (h : toVal a = some v) (k : rel ρ μ w a v') : v' = v := by
  unfold toVal at h
  split at h
  · obtain rfl := Option.some.inj h
    unfold rel at k
    exact k.1
  · simp only [Option.map_eq_some_iff] at h
    obtain ⟨l, h1, rfl⟩ := h
    unfold rel at k
    obtain ⟨l', rfl, k2⟩ := k
    rw [toScals_rel h1 k2]
  · obtain rfl := Option.some.inj h
    unfold rel at k
    obtain ⟨u, rfl, k2⟩ := k
    unfold rel at k2
    rw [k2.1]
  · simp only [Option.map_eq_some_iff] at h
    obtain ⟨l, h1, rfl⟩ := h
    unfold rel at k
    obtain ⟨u, rfl, k2⟩ := k
    unfold rel at k2
    obtain ⟨l', rfl, k3⟩ := k2
    rw [toScals_rel h1 k3]
  · cases h
theorem rel_lit {v : Value} (h : scal v = true) : rel ρ μ w (.lit v) v := by
  unfold rel
  exact ⟨rfl, h⟩
theorem rel_cells {a : AV} {v : Value} (h : rel ρ μ w a v) : rels ρ μ w a.cells v.cells.toList := by
  cases a with
  | agg l =>
    unfold rel at h
    obtain ⟨l', rfl, h2⟩ := h
    simpa [AV.cells, Value.cells] using h2
  | lit x =>
    have h' := h
    unfold rel at h
    obtain ⟨rfl, h2⟩ := h
    have : v.cells = #[v] := by cases v <;> first | rfl | (simp [scal] at h2)
    rw [this]
    exact rels_cons h' rels_nil
  | ptr b off =>
    have h' := h
    unfold rel at h
    obtain ⟨r, base, _, rfl⟩ := h
    exact rels_cons h' rels_nil
  | sl b off len cap =>
    have h' := h
    unfold rel at h
    rcases h with ⟨r, base, o, c, _, rfl, _⟩ | ⟨_, _, a, rfl⟩ <;> exact rels_cons h' rels_nil
  | mp b =>
    have h' := h
    unfold rel at h
    obtain ⟨r, _, rfl⟩ := h
    exact rels_cons h' rels_nil
  | tup l =>
    have h' := h
    unfold rel at h
    obtain ⟨l', rfl, _⟩ := h
    exact rels_cons h' rels_nil
  | ifc t x =>
    have h' := h
    unfold rel at h
    obtain ⟨u, rfl, _⟩ := h
    exact rels_cons h' rels_nil
  | fn f a b =>
    have h' := h
    unfold rel at h
    obtain ⟨f', x, y, rfl, _⟩ := h
    exact rels_cons h' rels_nil
  | ext i =>
    have h' := h
    unfold rel at h
    obtain ⟨rfl, h2⟩ := h
    have : (ρ i).cells = #[ρ i] := by generalize ρ i = v at h2; cases v <;> first | rfl | (cases h2)
    rw [this]
    exact rels_cons h' rels_nil
  | any =>
    have h' := h
    unfold rel at h
    have : v.cells = #[v] := by cases v <;> first | rfl | (cases h)
    rw [this]
    exact rels_cons h' rels_nil
  | rng i lo hi =>
    have h' := h
    unfold rel at h
    obtain ⟨_, n, rfl, _⟩ := h
    exact rels_cons h' rels_nil
theorem rel_one {a : AV} {v : Value} (h : rel ρ μ w a v) (ho : a.one = true) : v.oneCell' = true := by
  cases a with
  | agg l => cases ho
  | tup l => cases ho
  | lit x =>
    unfold rel at h
    obtain ⟨rfl, h2⟩ := h
    cases v <;> first | rfl | (simp [scal] at h2)
  | ptr b off =>
    unfold rel at h
    obtain ⟨r, base, _, rfl⟩ := h
    rfl
  | sl b off len cap =>
    unfold rel at h
    rcases h with ⟨r, base, o, c, _, rfl, _⟩ | ⟨_, _, a, rfl⟩ <;> rfl
  | mp b =>
    unfold rel at h
    obtain ⟨r, _, rfl⟩ := h
    rfl
  | ifc t x =>
    unfold rel at h
    obtain ⟨u, rfl, _⟩ := h
    rfl
  | fn f a b =>
    unfold rel at h
    obtain ⟨f', x, y, rfl, _⟩ := h
    rfl
  | ext i =>
    unfold rel at h
    exact h.2
  | rng i lo hi =>
    unfold rel at h
    obtain ⟨_, n, rfl, _⟩ := h
    rfl
  | any =>
    unfold rel at h
    exact h
end
end Go.Proofs.YtkgbeihcepociaaDoor.Ex
end

section

set_option linter.unusedSimpArgs false
set_option linter.unusedVariables false
namespace Go.Proofs.YtkgbeihcepociaaDoor.Ex
open Go Go.RowKit
variable {P : Program} {ρ : Nat → Value}
def live : AB → Bool
  | .gone => false
  | _ => true
/-- May a block be written? -/
def wr : AB → Bool
  | .gone => false
  | .frz .. => false
  | _ => true
theorem wr_live {ab : AB} (h : wr ab = true) : live ab = true := by cases ab <;> first | rfl | cases h
theorem wr_false {ab : AB} (h : wr ab = false) : ab = .gone ∨ ∃ l e, ab = .frz l e := by
  cases ab <;> first | exact .inl rfl | exact .inr ⟨_, _, rfl⟩ | cases h
def entRel (ρ : Nat → Value) (μ : Mu) (w : World) (a : AE) (e : MapEntry) : Prop := e.key = a.key ∧ keyV a.key = true ∧ rel ρ μ w a.val e.val ∧ e.born = a.born
def entsRel (ρ : Nat → Value) (μ : Mu) (w : World) : List AE → List MapEntry → Prop
  | [], l => l = []
  | a :: r, l => ∃ e es, l = e :: es ∧ entRel ρ μ w a e ∧ entsRel ρ μ w r es
def loopRel (ρ : Nat → Value) (μ : Mu) (w : World) (a : ALoop) (l : Loop) : Prop :=
  l.state = a.state ∧ l.pending = a.pending ∧ l.fn = a.fn ∧ rels ρ μ w a.tmps.L l.tmps.toList ∧ l.params.toList = a.params ∧ l.assign = a.assign ∧ l.body = a.body
/-- The cells of a window. -/
def window (ρ : Nat → Value) (μ : Mu) (w : World) (base : Nat) (l : List AV) (cur : Array Value) : Prop :=
  base + l.length ≤ cur.size ∧ ∀ (i : Nat) (x : AV), l[i]? = some x → ∃ v, cur[base + i]? = some v ∧ rel ρ μ w x v
/-- Is it the type of a block that no slice is cut of? -/
def bigT (P : Program) (e : TypeId) : Bool := Nat.blt 200 (((P.info? e).map (·.size)).getD 0)
def objRel (P : Program) (ρ : Nat → Value) (μ : Mu) (w : World) (base : Nat) : AB → Obj → Prop
  | .cells l e, o => ∃ cur, o = .cells cur e (0, 0) ∧ window ρ μ w base l cur ∧ (bigT P e = true → base = 0 ∧ cur.size = l.length)
  | .frz l e, o => ∃ cur fz, o = .cells cur e fz ∧ window ρ μ w base l cur
  | .map es clock, o => ∃ es', o = .map es' clock ∧ base = 0 ∧ entsRel ρ μ w es es'.toList
  | .loop a, o => ∃ l, o = .loop l ∧ base = 0 ∧ loopRel ρ μ w a l
  | .iter m since seen last, o => base = 0 ∧ ∃ m', o = .mapIter m' since seen.toArray last ∧ (match m with | none => m' = none | some b => ∃ r, μ b = some (r, 0) ∧ m' = some r)
  | .defd, o => o = .deferred (some []) ∧ base = 0
  | .gone, _ => True
section
variable {μ μ' : Mu} {w w' : World}
theorem entsRel.mono (hm : More μ μ') (hg : Grows w w') : ∀ {l : List AE} {l' : List MapEntry}, entsRel ρ μ w l l' → entsRel ρ μ' w' l l'
  | [], l', h => h
  | a :: r, l', h => by
    obtain ⟨e, es, rfl, ⟨h1, h2, h3, h4⟩, h5⟩ := h
    exact ⟨e, es, rfl, ⟨h1, h2, rel.mono hm hg _ _ h3, h4⟩, entsRel.mono hm hg h5⟩
theorem window.mono (hm : More μ μ') (hg : Grows w w') {base : Nat} {l : List AV} {cur : Array Value} (h : window ρ μ w base l cur) : window ρ μ' w' base l cur :=
  ⟨h.1, fun i x hx => let ⟨v, h1, h2⟩ := h.2 i x hx; ⟨v, h1, rel.mono hm hg _ _ h2⟩⟩
theorem objRel.mono (hm : More μ μ') (hg : Grows w w') {base : Nat} {ab : AB} {o : Obj} (h : objRel P ρ μ w base ab o) : objRel P ρ μ' w' base ab o := by
  cases ab with
  | cells l e => obtain ⟨cur, h1, h2, h3⟩ := h; exact ⟨cur, h1, h2.mono hm hg, h3⟩
  | frz l e => obtain ⟨cur, fz, h1, h2⟩ := h; exact ⟨cur, fz, h1, h2.mono hm hg⟩
  | map es clock => obtain ⟨es', h1, h2, h3⟩ := h; exact ⟨es', h1, h2, h3.mono hm hg⟩
  | loop a => obtain ⟨l, h1, h0, h2, h3, h4, h5, h6, h7, h8⟩ := h; exact ⟨l, h1, h0, h2, h3, h4, rels.mono hm hg _ _ h5, h6, h7, h8⟩
  | iter m since seen last =>
    obtain ⟨h0, m', h1, h2⟩ := h
    refine ⟨h0, m', h1, ?_⟩
    cases m with
    | none => exact h2
    | some b => obtain ⟨r, h3, h4⟩ := h2; exact ⟨r, hm _ _ h3, h4⟩
  | defd => exact h
  | gone => trivial
end
/-- Where block 1 lies, if the values from outside say so (a package-level variable's row). -/
def PinOf (ρ : Nat → Value) (μ : Mu) (w : World) : Prop := ∀ r : Int, ρ 1000000 = .int .i64 r → μ 1 = some (r.toNat, 0) ∧ ∃ cur e fz, w.heap[r.toNat]? = some (.cells cur e fz) ∧ ρ 1000001 = .int .i64 cur.size
theorem PinOf.more {ρ : Nat → Value} {μ μ' : Mu} {w w' : World} (h : PinOf ρ μ w) (hm : More μ μ') (hg : Grows w w') : PinOf ρ μ' w' := fun r hr => by
  obtain ⟨h1, cur, e, fz, h2, h3⟩ := h r hr
  obtain ⟨cur', e', fz', h4, h5⟩ := hg _ _ _ _ h2
  exact ⟨hm _ _ h1, cur', e', fz', h4, by rw [h5]; exact h3⟩
structure HRL (P : Program) (ρ : Nat → Value) (fl : Nat) (μ : Mu) (h : List AB) (w : World) : Prop where
  floor : fl ≤ w.heap.size
  dom : ∀ b x, μ b = some x → b < h.length
  obj : ∀ (b r base : Nat) (ab : AB), μ b = some (r, base) → h[b]? = some ab → (wr ab = true → fl ≤ r) ∧ r < w.heap.size ∧ ∃ o, w.heap[r]? = some o ∧ objRel P ρ μ w base ab o
  inj : ∀ (b b' r base base' : Nat) (ab ab' : AB), μ b = some (r, base) → μ b' = some (r, base') → h[b]? = some ab → h[b']? = some ab' → wr ab = true → live ab' = true → b = b'
  pin : PinOf ρ μ w
structure EffL (P : Program) (ρ : Nat → Value) (fl : Nat) (μ : Mu) (h : List AB) (w : World) (μ' : Mu) (h' : List AB) (w' : World) : Prop where
  more : More μ μ'
  len : h.length ≤ h'.length
  new : ∀ b x, μ b = none → μ' b = some x → h.length ≤ b
  keep : ∀ b, b < h.length → μ b = none → h'[b]? = h[b]?
  gone : ∀ b : Nat, h[b]? = some .gone → h'[b]? = some .gone
  frz : ∀ (b : Nat) (l : List AV) (e : TypeId), h[b]? = some (.frz l e) → h'[b]? = some (.frz l e)
  grows : Grows w w'
  size : w.heap.size ≤ w'.heap.size
  own : ∀ b r base, μ b = none → μ' b = some (r, base) → w.heap.size ≤ r ∨ ∃ (b0 base0 : Nat) (ab : AB), μ b0 = some (r, base0) ∧ h[b0]? = some ab ∧ wr ab = true
  rest : ∀ r, r < w.heap.size → (∀ (b base : Nat) (ab : AB), μ b = some (r, base) → h[b]? = some ab → wr ab = false) → w'.heap[r]? = w.heap[r]?
  same : w'.tape = w.tape ∧ w'.os = w.os ∧ w'.output = w.output
  hr : HRL P ρ fl μ' h' w'
theorem EffL.refl {fl : Nat} {μ : Mu} {h : List AB} {w : World} (hr : HRL P ρ fl μ h w) : EffL P ρ fl μ h w μ h w :=
  ⟨More.refl μ, Nat.le_refl _, fun b x h1 h2 => (by rw [h1] at h2; cases h2), fun _ _ _ => rfl, fun _ h => h, fun _ _ _ h => h, Grows.refl w, Nat.le_refl _, fun b r base h1 h2 => (by rw [h1] at h2; cases h2), fun _ _ _ => rfl, ⟨rfl, rfl, rfl⟩, hr⟩
/-- Draws change nothing. -/
theorem EffL.drew {fl : Nat} {μ : Mu} {h : List AB} {w : World} (hr : HRL P ρ fl μ h w) (n : Nat) : EffL P ρ fl μ h w μ h (w.drewN n) := by
  have hg : Grows w (w.drewN n) := fun r cur e fz h => ⟨cur, e, fz, h, rfl⟩
  exact ⟨More.refl μ, Nat.le_refl _, fun b x h1 h2 => (by rw [h1] at h2; cases h2), fun _ _ _ => rfl, fun _ h => h, fun _ _ _ h => h, hg, Nat.le_refl _, fun b r base h1 h2 => (by rw [h1] at h2; cases h2), fun _ _ _ => rfl, ⟨rfl, rfl, rfl⟩,
    ⟨hr.floor, hr.dom, fun b r base ab h1 h2 => let ⟨h3, h4, o, h5, h6⟩ := hr.obj b r base ab h1 h2; ⟨h3, h4, o, h5, h6.mono (More.refl μ) hg⟩, hr.inj, hr.pin.more (More.refl μ) hg⟩⟩
theorem live_false {ab : AB} (h : live ab = false) : ab = .gone := by
  cases ab <;> first | rfl | cases h
theorem EffL.nowr {fl : Nat} {μ μ1 : Mu} {h h1 : List AB} {w w1 : World} (a : EffL P ρ fl μ h w μ1 h1 w1) {b : Nat} {ab : AB} (hb : h[b]? = some ab) (hw : wr ab = false) : h1[b]? = some ab := by
  rcases wr_false hw with rfl | ⟨l, e, rfl⟩
  · exact a.gone b hb
  · exact a.frz b l e hb
theorem EffL.trans {fl : Nat} {μ μ1 μ2 : Mu} {h h1 h2 : List AB} {w w1 w2 : World} (hr : HRL P ρ fl μ h w) (a : EffL P ρ fl μ h w μ1 h1 w1) (b : EffL P ρ fl μ1 h1 w1 μ2 h2 w2) : EffL P ρ fl μ h w μ2 h2 w2 := by
  refine ⟨a.more.trans b.more, Nat.le_trans a.len b.len, fun c x hc hx => ?_, fun c hc hn => ?_, fun c hc => b.gone c (a.gone c hc), fun c l e hc => b.frz c l e (a.frz c l e hc), a.grows.trans b.grows, Nat.le_trans a.size b.size, fun c r base hc hx => ?_, fun r hr1 hno => ?_, ?_, b.hr⟩
  · cases h3 : μ1 c with
    | some y => exact a.new c y hc h3
    | none => exact Nat.le_trans a.len (b.new c x h3 hx)
  · have h3 : μ1 c = none := by
      cases h4 : μ1 c with
      | none => rfl
      | some y => exact absurd (a.new c y hn h4) (by omega)
    rw [b.keep c (Nat.lt_of_lt_of_le hc a.len) h3, a.keep c hc hn]
  · cases h3 : μ1 c with
    | some y =>
      have h4 := b.more c y h3
      rw [hx] at h4
      obtain rfl := Option.some.inj h4
      exact a.own c r base hc h3
    | none =>
      rcases b.own c r base h3 hx with h4 | ⟨b0, base0, ab, h5, h6, h7⟩
      · exact .inl (Nat.le_trans a.size h4)
      · cases h8 : μ b0 with
        | some y =>
          have h9 := a.more b0 y h8
          rw [h5] at h9
          obtain rfl := Option.some.inj h9
          have hd := hr.dom b0 _ h8
          have hx2 : h[b0]? = some h[b0] := List.getElem?_eq_getElem hd
          refine .inr ⟨b0, base0, h[b0], h8, hx2, ?_⟩
          cases hl : wr h[b0] with
          | true => rfl
          | false =>
            rw [a.nowr hx2 hl] at h6
            obtain rfl := Option.some.inj h6
            rw [hl] at h7
            cases h7
        | none => exact a.own b0 r base0 h8 h5
  · have e1 := a.rest r hr1 hno
    rw [← e1]
    refine b.rest r (Nat.lt_of_lt_of_le hr1 a.size) (fun c base ab hc hab => ?_)
    cases h3 : μ c with
    | some y =>
      have h4 := a.more c y h3
      rw [hc] at h4
      obtain rfl := Option.some.inj h4
      have hd := hr.dom c _ h3
      have hx2 : h[c]? = some h[c] := List.getElem?_eq_getElem hd
      have hl := hno c base _ h3 hx2
      rw [a.nowr hx2 hl] at hab
      obtain rfl := Option.some.inj hab
      exact hl
    | none =>
      rcases a.own c r base h3 hc with h4 | ⟨b0, base0, ab0, h5, h6, h7⟩
      · omega
      · rw [hno b0 base0 ab0 h5 h6] at h7
        cases h7
  · exact ⟨b.same.1.trans a.same.1, b.same.2.1.trans a.same.2.1, b.same.2.2.trans a.same.2.2⟩
def up (μ : Mu) (b : Nat) (x : Nat × Nat) : Mu := fun c => if c = b then some x else μ c
theorem up_same (μ : Mu) (b : Nat) (x : Nat × Nat) : up μ b x b = some x := by simp [up]
theorem up_ne {μ : Mu} {b c : Nat} {x : Nat × Nat} (h : c ≠ b) : up μ b x c = μ c := by simp [up, h]
theorem more_up {μ : Mu} {b : Nat} {x : Nat × Nat} (h : μ b = none) : More μ (up μ b x) := fun c y hc => by
  by_cases hcb : c = b
  · subst hcb
    rw [h] at hc
    cases hc
  · rw [up_ne hcb]
    exact hc
theorem grows_alloc (w : World) (o : Obj) : Grows w (w.alloc o) := fun r cur e fz h => ⟨cur, e, fz, by rw [Below.heap_alloc w o r (lt_in h)]; exact h, rfl⟩
/-- A new block. -/
theorem EffL.alloc {fl : Nat} {μ : Mu} {h : List AB} {w : World} (hr : HRL P ρ fl μ h w) {ab : AB} {o : Obj} (ho : objRel P ρ μ w 0 ab o) : EffL P ρ fl μ h w (up μ h.length (w.heap.size, 0)) (h ++ [ab]) (w.alloc o) := by
  have hn : μ h.length = none := by
    cases hx : μ h.length with
    | none => rfl
    | some x => exact absurd (hr.dom _ _ hx) (by omega)
  have hm : More μ (up μ h.length (w.heap.size, 0)) := more_up hn
  have hg := grows_alloc w o
  have hs : (w.alloc o).heap.size = w.heap.size + 1 := by simp
  refine ⟨hm, by simp, fun b x h1 h2 => ?_, fun b hb _ => List.getElem?_append_left hb, fun b hb => ?_, fun b l e hb => (by rw [List.getElem?_append_left (List.getElem?_eq_some_iff.1 hb).1]; exact hb), hg, by omega, fun b r base h1 h2 => ?_, fun r h1 _ => Below.heap_alloc w o r h1, ⟨rfl, rfl, rfl⟩, ?_⟩
  · by_cases hb : b = h.length
    · omega
    · rw [up_ne hb, h1] at h2
      cases h2
  · rw [List.getElem?_append_left (List.getElem?_eq_some_iff.1 hb).1]
    exact hb
  · by_cases hb : b = h.length
    · subst hb
      rw [up_same] at h2
      simp only [Option.some.injEq, Prod.mk.injEq] at h2
      exact .inl (by omega)
    · rw [up_ne hb, h1] at h2
      cases h2
  · refine ⟨by have := hr.floor; omega, fun b x hb => ?_, fun b r base ab' h1 h2 => ?_, fun b b' r base base' ab1 ab2 h1 h2 h3 h4 h5 h6 => ?_, hr.pin.more hm hg⟩
    · by_cases hbb : b = h.length
      · simp [hbb]
      · rw [up_ne hbb] at hb
        have := hr.dom b x hb
        simp
        omega
    · by_cases hbb : b = h.length
      · subst hbb
        rw [up_same] at h1
        simp only [Option.some.injEq, Prod.mk.injEq] at h1
        obtain ⟨rfl, rfl⟩ := h1
        rw [List.getElem?_append_right (Nat.le_refl _), Nat.sub_self] at h2
        simp only [List.getElem?_cons_zero, Option.some.injEq] at h2
        subst h2
        exact ⟨fun _ => hr.floor, by omega, o, heap_alloc_new' w o, ho.mono hm hg⟩
      · rw [up_ne hbb] at h1
        rw [List.getElem?_append_left (hr.dom b _ h1)] at h2
        obtain ⟨h3, h4, o', h5, h6⟩ := hr.obj b r base ab' h1 h2
        exact ⟨h3, by omega, o', by rw [Below.heap_alloc w o r h4]; exact h5, h6.mono hm hg⟩
    · by_cases hbb : b = h.length
      · by_cases hbb' : b' = h.length
        · omega
        · rw [up_ne hbb'] at h2
          rw [hbb, up_same] at h1
          simp only [Option.some.injEq, Prod.mk.injEq] at h1
          have hd := hr.dom b' _ h2
          rw [List.getElem?_append_left hd] at h4
          have := (hr.obj b' r base' ab2 h2 h4).2.1
          omega
      · rw [up_ne hbb] at h1
        have hd := hr.dom b _ h1
        rw [List.getElem?_append_left hd] at h3
        by_cases hbb' : b' = h.length
        · rw [hbb', up_same] at h2
          simp only [Option.some.injEq, Prod.mk.injEq] at h2
          have := (hr.obj b r base ab1 h1 h3).2.1
          omega
        · rw [up_ne hbb'] at h2
          rw [List.getElem?_append_left (hr.dom b' _ h2)] at h4
          exact hr.inj b b' r base base' ab1 ab2 h1 h2 h3 h4 h5 h6
/-- The real world changed in one block alone. -/
structure One (r : Nat) (w w' : World) : Prop where
  size : w'.heap.size = w.heap.size
  other : ∀ k, k ≠ r → w'.heap[k]? = w.heap[k]?
  grows : Grows w w'
  same : w'.tape = w.tape ∧ w'.os = w.os ∧ w'.output = w.output
/-- A live block becomes another one. -/
theorem EffL.upd {fl : Nat} {μ : Mu} {h : List AB} {w w' : World} (hr : HRL P ρ fl μ h w) {b r base : Nat} {ab ab' : AB} {o' : Obj} (hb : μ b = some (r, base)) (hab : h[b]? = some ab) (hl : wr ab = true)
    (hw : One r w w') (ho : w'.heap[r]? = some o') (hrel : objRel P ρ μ w' base ab' o') : EffL P ρ fl μ h w μ (h.set b ab') w' := by
  have hlt := (List.getElem?_eq_some_iff.1 hab).1
  refine ⟨More.refl μ, by simp, fun c x h1 h2 => (by rw [h1] at h2; cases h2), fun c hc hn => ?_, fun c hc => ?_, fun c l e hc => ?_, hw.grows, by rw [hw.size]; exact Nat.le_refl _, fun c r' base' h1 h2 => (by rw [h1] at h2; cases h2), fun k hk hno => ?_, hw.same, ?_⟩
  · rw [List.getElem?_set_ne (fun e => by rw [e, hn] at hb; cases hb)]
  · by_cases hcb : b = c
    · subst hcb
      rw [hab] at hc
      obtain rfl := Option.some.inj hc
      cases hl
    · rw [List.getElem?_set_ne hcb]
      exact hc
  · by_cases hcb : b = c
    · subst hcb
      rw [hab] at hc
      obtain rfl := Option.some.inj hc
      cases hl
    · rw [List.getElem?_set_ne hcb]
      exact hc
  · exact hw.other k (fun e => by subst e; rw [hno b base ab hb hab] at hl; cases hl)
  · refine ⟨by rw [hw.size]; exact hr.floor, fun c x hc => by rw [List.length_set]; exact hr.dom c x hc, fun c r' base' ac hc hac => ?_, fun c c' r' base1 base2 a1 a2 h1 h2 h3 h4 h5 h6 => ?_, hr.pin.more (More.refl μ) hw.grows⟩
    · by_cases hcb : b = c
      · subst hcb
        rw [hb] at hc
        simp only [Option.some.injEq, Prod.mk.injEq] at hc
        obtain ⟨rfl, rfl⟩ := hc
        rw [List.getElem?_set_self hlt] at hac
        obtain rfl := Option.some.inj hac
        obtain ⟨h3, h4, _⟩ := hr.obj b r base ab hb hab
        exact ⟨fun _ => h3 hl, by rw [hw.size]; exact h4, o', ho, hrel⟩
      · rw [List.getElem?_set_ne hcb] at hac
        obtain ⟨h3, h4, o, h5, h6⟩ := hr.obj c r' base' ac hc hac
        refine ⟨h3, by rw [hw.size]; exact h4, ?_⟩
        cases hl2 : live ac with
        | false =>
          rw [live_false hl2]
          by_cases hk : r' = r
          · subst hk
            exact ⟨o', ho, trivial⟩
          · exact ⟨o, by rw [hw.other r' hk]; exact h5, trivial⟩
        | true =>
          have hk : r' ≠ r := fun e => hcb (by subst e; exact hr.inj b c r' base base' ab ac hb hc hab hac hl hl2)
          exact ⟨o, by rw [hw.other r' hk]; exact h5, h6.mono (More.refl μ) hw.grows⟩
    · have key : ∀ c a, (h.set b ab')[c]? = some a → live a = true → ∃ a0, h[c]? = some a0 ∧ live a0 = true := fun c a hc hla => by
        by_cases hcb : b = c
        · subst hcb
          exact ⟨ab, hab, wr_live hl⟩
        · rw [List.getElem?_set_ne hcb] at hc
          exact ⟨a, hc, hla⟩
      have key2 : ∀ c a, (h.set b ab')[c]? = some a → wr a = true → ∃ a0, h[c]? = some a0 ∧ wr a0 = true := fun c a hc hla => by
        by_cases hcb : b = c
        · subst hcb
          exact ⟨ab, hab, hl⟩
        · rw [List.getElem?_set_ne hcb] at hc
          exact ⟨a, hc, hla⟩
      obtain ⟨b1, q1, q2⟩ := key2 c a1 h3 h5
      obtain ⟨b2, q3, q4⟩ := key c' a2 h4 h6
      exact hr.inj c c' r' base1 base2 b1 b2 h1 h2 q1 q3 q2 q4
/-- A live block is given up, and a new number stands for its real block. -/
theorem EffL.move {fl : Nat} {μ : Mu} {h : List AB} {w w' : World} (hr : HRL P ρ fl μ h w) {b r base base' : Nat} {ab ab' : AB} {o' : Obj} (hb : μ b = some (r, base)) (hab : h[b]? = some ab) (hl : wr ab = true)
    (hw : One r w w') (ho : w'.heap[r]? = some o') (hrel : objRel P ρ μ w' base' ab' o') : EffL P ρ fl μ h w (up μ h.length (r, base')) (h.set b .gone ++ [ab']) w' := by
  have e1 := EffL.upd (ab' := .gone) hr hb hab hl hw ho trivial
  have hlt := (List.getElem?_eq_some_iff.1 hab).1
  have hls : (h.set b .gone).length = h.length := List.length_set
  have hn : μ h.length = none := by
    cases hx : μ h.length with
    | none => rfl
    | some x => exact absurd (hr.dom _ _ hx) (by omega)
  have hm : More μ (up μ h.length (r, base')) := more_up hn
  obtain ⟨f1, f2, _⟩ := hr.obj b r base ab hb hab
  refine ⟨hm, by simp, fun c x h1 h2 => ?_, fun c hc hx => ?_, fun c hc => ?_, fun c l e hc => ?_, hw.grows, e1.size, fun c r' bs h1 h2 => ?_, e1.rest, hw.same, ?_⟩
  · by_cases hcb : c = h.length
    · omega
    · rw [up_ne hcb, h1] at h2
      cases h2
  · rw [List.getElem?_append_left (by omega)]
    exact e1.keep c hc hx
  · have := e1.gone c hc
    rw [List.getElem?_append_left (List.getElem?_eq_some_iff.1 this).1]
    exact this
  · have := e1.frz c l e hc
    rw [List.getElem?_append_left (List.getElem?_eq_some_iff.1 this).1]
    exact this
  · by_cases hcb : c = h.length
    · subst hcb
      rw [up_same] at h2
      simp only [Option.some.injEq, Prod.mk.injEq] at h2
      obtain ⟨rfl, rfl⟩ := h2
      exact .inr ⟨b, base, ab, hb, hab, hl⟩
    · rw [up_ne hcb, h1] at h2
      cases h2
  · refine ⟨e1.hr.floor, fun c x hc => ?_, fun c r' bs ac hc hac => ?_, fun c c' r' b1 b2 a1 a2 h1 h2 h3 h4 h5 h6 => ?_, e1.hr.pin.more hm (Grows.refl _)⟩
    · by_cases hcb : c = h.length
      · simp [hcb]
      · rw [up_ne hcb] at hc
        have := hr.dom c x hc
        simp
        omega
    · by_cases hcb : c = h.length
      · subst hcb
        rw [up_same] at hc
        simp only [Option.some.injEq, Prod.mk.injEq] at hc
        obtain ⟨rfl, rfl⟩ := hc
        rw [List.getElem?_append_right (by omega), hls, Nat.sub_self] at hac
        simp only [List.getElem?_cons_zero, Option.some.injEq] at hac
        subst hac
        exact ⟨fun _ => f1 hl, by rw [hw.size]; exact f2, o', ho, hrel.mono hm (Grows.refl _)⟩
      · rw [up_ne hcb] at hc
        rw [List.getElem?_append_left (by rw [hls]; exact hr.dom c _ hc)] at hac
        obtain ⟨h3, h4, o, h5, h6⟩ := e1.hr.obj c r' bs ac hc hac
        exact ⟨h3, h4, o, h5, h6.mono hm (Grows.refl _)⟩
    · have key : ∀ d bd ad, d ≠ h.length → up μ h.length (r, base') d = some (r', bd) → (h.set b .gone ++ [ab'])[d]? = some ad → live ad = true → r' ≠ r := fun d bd ad hd q1 q2 q3 => by
        rw [up_ne hd] at q1
        rw [List.getElem?_append_left (by rw [hls]; exact hr.dom d _ q1)] at q2
        intro e
        subst e
        by_cases hdb : b = d
        · subst hdb
          rw [List.getElem?_set_self hlt] at q2
          obtain rfl := Option.some.inj q2
          cases q3
        · rw [List.getElem?_set_ne hdb] at q2
          exact hdb (hr.inj b d r' base bd ab ad hb q1 hab q2 hl q3)
      by_cases hc1 : c = h.length
      · by_cases hc2 : c' = h.length
        · omega
        · have := key c' b2 a2 hc2 h2 h4 h6
          rw [hc1, up_same] at h1
          simp only [Option.some.injEq, Prod.mk.injEq] at h1
          exact absurd h1.1.symm this
      · by_cases hc2 : c' = h.length
        · have := key c b1 a1 hc1 h1 h3 (wr_live h5)
          rw [hc2, up_same] at h2
          simp only [Option.some.injEq, Prod.mk.injEq] at h2
          exact absurd h2.1.symm this
        · rw [up_ne hc1] at h1
          rw [up_ne hc2] at h2
          rw [List.getElem?_append_left (by rw [hls]; exact hr.dom c _ h1)] at h3
          rw [List.getElem?_append_left (by rw [hls]; exact hr.dom c' _ h2)] at h4
          exact e1.hr.inj c c' r' b1 b2 a1 a2 h1 h2 h3 h4 h5 h6
/-! The same of the trees. -/
def AH.L (h : AH) : List AB := vL .gone h
theorem L_n (h : AH) : h.L.length = h.n := vL_n _ _
theorem L_at (h : AH) (b : Nat) : h.L[b]? = h.at b := vL_at _ _ _
theorem L_put (h : AH) (b : Nat) (x : AB) : (h.put b x).L = h.L.set b x := vL_put _ _ _ _
theorem L_push (h : AH) (x : AB) : (h.push x).L = h.L ++ [x] := vL_push _ _ _
theorem n_put (h : AH) (b : Nat) (x : AB) : (h.put b x).n = h.n := by rw [← L_n, L_put, List.length_set, L_n]
theorem n_push (h : AH) (x : AB) : (h.push x).n = h.n + 1 := rfl
theorem at_lt {h : AH} {b : Nat} {x : AB} (hx : h.at b = some x) : b < h.n := by
  rw [← L_at] at hx
  rw [← L_n]
  exact (List.getElem?_eq_some_iff.1 hx).1
theorem at_push_lt {h : AH} {b : Nat} (x : AB) (hb : b < h.n) : (h.push x).at b = h.at b := by
  rw [← L_at, L_push, List.getElem?_append_left (by rw [L_n]; exact hb), L_at]
theorem at_push_n (h : AH) (x : AB) : (h.push x).at h.n = some x := by
  rw [← L_at, L_push, List.getElem?_append_right (by rw [L_n]; exact Nat.le_refl _), L_n, Nat.sub_self]
  rfl
theorem at_put_same {h : AH} {b : Nat} (x : AB) (hb : b < h.n) : (h.put b x).at b = some x := by
  rw [← L_at, L_put, List.getElem?_set_self (by rw [L_n]; exact hb)]
theorem at_put_ne {h : AH} {b c : Nat} (x : AB) (hb : b ≠ c) : (h.put b x).at c = h.at c := by
  rw [← L_at, L_put, List.getElem?_set_ne hb, L_at]
def HR (P : Program) (ρ : Nat → Value) (fl : Nat) (μ : Mu) (h : AH) (w : World) : Prop := HRL P ρ fl μ h.L w
def Eff (P : Program) (ρ : Nat → Value) (fl : Nat) (μ : Mu) (h : AH) (w : World) (μ' : Mu) (h' : AH) (w' : World) : Prop := EffL P ρ fl μ h.L w μ' h'.L w'
section trees
variable {fl : Nat} {μ μ' μ1 μ2 : Mu} {h h' h1 h2 : AH} {w w' w1 w2 : World}
theorem HR.floor (hr : HR P ρ fl μ h w) : fl ≤ w.heap.size := HRL.floor hr
theorem HR.dom (hr : HR P ρ fl μ h w) (b : Nat) (x : Nat × Nat) (hb : μ b = some x) : b < h.n := by rw [← L_n]; exact HRL.dom hr b x hb
theorem HR.obj (hr : HR P ρ fl μ h w) (b r base : Nat) (ab : AB) (hb : μ b = some (r, base)) (hx : h.at b = some ab) : (wr ab = true → fl ≤ r) ∧ r < w.heap.size ∧ ∃ o, w.heap[r]? = some o ∧ objRel P ρ μ w base ab o :=
  HRL.obj hr b r base ab hb (by rw [L_at]; exact hx)
theorem HR.inj (hr : HR P ρ fl μ h w) (b b' r base base' : Nat) (ab ab' : AB) (h1 : μ b = some (r, base)) (h2 : μ b' = some (r, base')) (h3 : h.at b = some ab) (h4 : h.at b' = some ab') (h5 : wr ab = true) (h6 : live ab' = true) : b = b' :=
  HRL.inj hr b b' r base base' ab ab' h1 h2 (by rw [L_at]; exact h3) (by rw [L_at]; exact h4) h5 h6
theorem Eff.more (e : Eff P ρ fl μ h w μ' h' w') : More μ μ' := EffL.more e
theorem Eff.len (e : Eff P ρ fl μ h w μ' h' w') : h.n ≤ h'.n := by rw [← L_n, ← L_n]; exact EffL.len e
theorem Eff.new (e : Eff P ρ fl μ h w μ' h' w') (b : Nat) (x : Nat × Nat) (h1 : μ b = none) (h2 : μ' b = some x) : h.n ≤ b := by rw [← L_n]; exact EffL.new e b x h1 h2
theorem Eff.keep (e : Eff P ρ fl μ h w μ' h' w') (b : Nat) (hb : b < h.n) (hn : μ b = none) : h'.at b = h.at b := by
  rw [← L_at, ← L_at]
  exact EffL.keep e b (by rw [L_n]; exact hb) hn
theorem Eff.gone (e : Eff P ρ fl μ h w μ' h' w') (b : Nat) (hb : h.at b = some .gone) : h'.at b = some .gone := by
  rw [← L_at] at hb ⊢
  exact EffL.gone e b hb
theorem Eff.frz (e : Eff P ρ fl μ h w μ' h' w') (b : Nat) (l : List AV) (t : TypeId) (hb : h.at b = some (.frz l t)) : h'.at b = some (.frz l t) := by
  rw [← L_at] at hb ⊢
  exact EffL.frz e b l t hb
theorem Eff.grows (e : Eff P ρ fl μ h w μ' h' w') : Grows w w' := EffL.grows e
theorem Eff.size (e : Eff P ρ fl μ h w μ' h' w') : w.heap.size ≤ w'.heap.size := EffL.size e
theorem Eff.own (e : Eff P ρ fl μ h w μ' h' w') (b r base : Nat) (h1 : μ b = none) (h2 : μ' b = some (r, base)) : w.heap.size ≤ r ∨ ∃ (b0 base0 : Nat) (ab : AB), μ b0 = some (r, base0) ∧ h.at b0 = some ab ∧ wr ab = true := by
  rcases EffL.own e b r base h1 h2 with h3 | ⟨b0, base0, ab, h3, h4, h5⟩
  · exact .inl h3
  · exact .inr ⟨b0, base0, ab, h3, by rw [← L_at]; exact h4, h5⟩
theorem Eff.rest (e : Eff P ρ fl μ h w μ' h' w') (r : Nat) (hr : r < w.heap.size) (hno : ∀ (b base : Nat) (ab : AB), μ b = some (r, base) → h.at b = some ab → wr ab = false) : w'.heap[r]? = w.heap[r]? :=
  EffL.rest e r hr (fun b base ab h1 h2 => hno b base ab h1 (by rw [← L_at]; exact h2))
theorem Eff.same (e : Eff P ρ fl μ h w μ' h' w') : w'.tape = w.tape ∧ w'.os = w.os ∧ w'.output = w.output := EffL.same e
theorem Eff.hr (e : Eff P ρ fl μ h w μ' h' w') : HR P ρ fl μ' h' w' := EffL.hr e
theorem Eff.refl (hr : HR P ρ fl μ h w) : Eff P ρ fl μ h w μ h w := EffL.refl hr
theorem Eff.drew (hr : HR P ρ fl μ h w) (n : Nat) : Eff P ρ fl μ h w μ h (w.drewN n) := EffL.drew hr n
theorem Eff.trans (hr : HR P ρ fl μ h w) (a : Eff P ρ fl μ h w μ1 h1 w1) (b : Eff P ρ fl μ1 h1 w1 μ2 h2 w2) : Eff P ρ fl μ h w μ2 h2 w2 := EffL.trans hr a b
theorem Eff.alloc (hr : HR P ρ fl μ h w) {ab : AB} {o : Obj} (ho : objRel P ρ μ w 0 ab o) : Eff P ρ fl μ h w (up μ h.n (w.heap.size, 0)) (h.push ab) (w.alloc o) := by
  unfold Eff
  rw [L_push, ← L_n]
  exact EffL.alloc hr ho
theorem Eff.upd (hr : HR P ρ fl μ h w) {b r base : Nat} {ab ab' : AB} {o' : Obj} (hb : μ b = some (r, base)) (hab : h.at b = some ab) (hl : wr ab = true)
    (hw : One r w w') (ho : w'.heap[r]? = some o') (hrel : objRel P ρ μ w' base ab' o') : Eff P ρ fl μ h w μ (h.put b ab') w' := by
  unfold Eff
  rw [L_put]
  exact EffL.upd hr hb (by rw [L_at]; exact hab) hl hw ho hrel
theorem Eff.move (hr : HR P ρ fl μ h w) {b r base base' : Nat} {ab ab' : AB} {o' : Obj} (hb : μ b = some (r, base)) (hab : h.at b = some ab) (hl : wr ab = true)
    (hw : One r w w') (ho : w'.heap[r]? = some o') (hrel : objRel P ρ μ w' base' ab' o') : Eff P ρ fl μ h w (up μ h.n (r, base')) ((h.put b .gone).push ab') w' := by
  unfold Eff
  rw [L_push, L_put, ← L_n]
  exact EffL.move hr hb (by rw [L_at]; exact hab) hl hw ho hrel
/-- A heap that is the same to look at. -/
theorem Eff.alike (e : Eff P ρ fl μ h w μ' h' w') (hh : h'.L = h1.L) : Eff P ρ fl μ h w μ' h1 w' := by
  unfold Eff at e ⊢
  rw [← hh]
  exact e
end trees
end Go.Proofs.YtkgbeihcepociaaDoor.Ex
end
