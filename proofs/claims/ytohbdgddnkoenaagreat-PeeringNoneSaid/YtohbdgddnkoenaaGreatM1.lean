/- Part 1 of the proof: Region, Lib, Ex, Exr, Exh, Exo, Exp, Exq, Exs, Ext, Exu, Exv. -/
import Derived.WalkKit
import Derived.Deep.QuietTactic
import Derived.BigQuiet
import Derived.StillTailTactics
import Derived.WalkSpells
import Derived.WalkLawsBesides
import Derived.Handy
import Derived.Deep.AppendSrc
import Derived.Lib.Hide
import Derived.Lib.MinMax
import Derived.Orders
import Derived.Deep.MidRow
import Derived.Laws.IdiomStrings
import Derived.Laws.MakeOwn
section

set_option linter.unusedSimpArgs false
namespace Go.Proofs.YtohbdgddnkoenaaGreat
open Go.RowKit
section
variable {P : Program} {ops : Array Oper} {md : Region.Mode} {C : World → Prop}
/-- What has come up is closed: all that it waits for has come up too. -/
def Closed (md : Region.Mode) (ops : Array Oper) (listed : Array Bool) : Prop :=
  ∀ j oj, ops[j]? = some oj → listed.getD j false = true → ∀ e ∈ oj.after, Region.binds md e = true → listed.getD e.on false = true
theorem Closed.set {listed : Array Bool} {i : Nat} (h : Closed md ops listed) (hi : i ∈ Region.ready md ops listed) : Closed md ops (listed.setIfInBounds i true) := by
  obtain ⟨_, oi, hoi, hall⟩ := mem_ready.1 hi
  intro j oj hj hl e he hb
  by_cases hij : i = j
  · subst hij
    have : oj = oi := Option.some.inj (hj.symm.trans hoi)
    subst this
    exact getD_set_true (hall e he hb)
  · rw [getD_set_ne false hij] at hl
    exact getD_set_true (h j oj hj hl e he hb)
end
end Go.Proofs.YtohbdgddnkoenaaGreat
end

section

set_option linter.unusedSimpArgs false
set_option linter.unusedVariables false
namespace Go.Proofs.YtohbdgddnkoenaaGreat
open Go.RowKit
/-- All blocks that were there, but for those in F, are as they were. -/
structure Kept (F : Nat → Prop) (w w' : World) : Prop where
  os : w'.os = w.os
  tape : w'.tape = w.tape
  output : w'.output = w.output
  size : w.heap.size ≤ w'.heap.size
  block : ∀ k, k < w.heap.size → ¬ F k → w'.heap[k]? = w.heap[k]?
theorem Kept.refl (F : Nat → Prop) (w : World) : Kept F w w := ⟨rfl, rfl, rfl, Nat.le_refl _, fun _ _ _ => rfl⟩
theorem Kept.trans {F : Nat → Prop} {a b c : World} (h : Kept F a b) (k : Kept F b c) : Kept F a c :=
  ⟨k.os.trans h.os, k.tape.trans h.tape, k.output.trans h.output, Nat.le_trans h.size k.size,
    fun i hi hf => (k.block i (Nat.lt_of_lt_of_le hi h.size) hf).trans (h.block i hi hf)⟩
theorem Kept.mono {F G : Nat → Prop} {w w' : World} (h : Kept F w w') (hg : ∀ i, i < w.heap.size → F i → G i) : Kept G w w' :=
  ⟨h.os, h.tape, h.output, h.size, fun k hk hn => h.block k hk (fun q => hn (hg k hk q))⟩
theorem Kept.drewN (F : Nat → Prop) (w : World) (n : Nat) : Kept F w (w.drewN n) := ⟨rfl, rfl, rfl, Nat.le_refl _, fun _ _ _ => rfl⟩
theorem Kept.drew (F : Nat → Prop) (w : World) : Kept F w w.drew := ⟨rfl, rfl, rfl, Nat.le_refl _, fun _ _ _ => rfl⟩
theorem Kept.alloc (F : Nat → Prop) (w : World) (o : Obj) : Kept F w (w.alloc o) := ⟨rfl, rfl, rfl, by simp, fun k hk _ => Below.heap_alloc w o k hk⟩
theorem Kept.setCell {F : Nat → Prop} (w : World) (a : Addr) (u : Value) (h : F a.block) : Kept F w (w.setCell a u) :=
  ⟨rfl, rfl, rfl, by simp [World.setCell], fun k _ hn => Below.heap_setCell _ _ _ _ (fun e => hn (e ▸ h))⟩
theorem Kept.al {F : Nat → Prop} {a w : World} (h : Kept F a w) (o : Obj) : Kept F a (w.alloc o) := h.trans (Kept.alloc _ _ _)
theorem Kept.below {F : Nat → Prop} {w w' : World} {B : Nat} (h : Kept F w w') (hb : B ≤ w.heap.size) (hf : ∀ k, F k → B ≤ k) : Below B w w' :=
  ⟨h.os, h.tape, h.output, h.size, fun k hk => h.block k (by omega) (fun q => by have := hf k q; omega)⟩
theorem Kept.cell {F : Nat → Prop} {w w' : World} (h : Kept F w w') {a : Addr} (hl : a.block < w.heap.size) (hn : ¬ F a.block) : w'.cell? a = w.cell? a :=
  World.cell?_of_block (h.block _ hl hn)
theorem heap_alloc_new' (w : World) (o : Obj) : (w.alloc o).heap[w.heap.size]? = some o := by
  show (w.heap.push o)[w.heap.size]? = _
  simp
/-- A byte's cell. -/
def bv (b : UInt8) : Value := .int .u8 (b.toNat : Int)
/-- A slice value whose elements, of 'size' cells each, read as the cells l; g: the block in which they lie. -/
def Reads (w : World) (size : Nat) (v : Value) (n : Nat) (l : List Value) (g : Option Nat) : Prop :=
  l.length = n * size ∧ ((∃ a c, v = .slice a 0 c ∧ n = 0) ∨
    ∃ b off c, g = some b ∧ v = .slice (some ⟨b, off, none⟩) n c ∧ n ≤ c ∧ c ≤ maxLen ∧ ∀ j, j < l.length → w.cell? ⟨b, off + j, none⟩ = l[j]?)
/-- A slice value that owns its row: block g, of cells of type e, all of which may be written. -/
def Own (w : World) (e : TypeId) (size : Nat) (v : Value) (n : Nat) (l : List Value) (g : Option Nat) : Prop :=
  l.length = n * size ∧ ((g = none ∧ v = .slice none 0 0 ∧ n = 0) ∨
    ∃ b off c cur, g = some b ∧ v = .slice (some ⟨b, off, none⟩) n c ∧ n ≤ c ∧ c ≤ maxLen ∧ w.heap[b]? = some (.cells cur e (0, 0)) ∧ off + c * size ≤ cur.size ∧ ∀ j, j < l.length → cur[off + j]? = l[j]?)
theorem cell_in {w : World} {g k : Nat} {cur : Array Value} {e : TypeId} {fz : Nat × Nat} (h : w.heap[g]? = some (.cells cur e fz)) : w.cell? ⟨g, k, none⟩ = cur[k]? := by
  simp [World.cell?, h]
theorem frozen_in {w : World} {g k : Nat} {cur : Array Value} {e : TypeId} (h : w.heap[g]? = some (.cells cur e (0, 0))) : w.frozen? ⟨g, k, none⟩ = false := by
  simp [World.frozen?, h]
theorem lt_in {w : World} {g : Nat} {o : Obj} (h : w.heap[g]? = some o) : g < w.heap.size := by simpa using (Array.getElem?_eq_some_iff.1 h).1
theorem Own.reads {w : World} {e size n : Nat} {g : Option Nat} {v : Value} {l : List Value} (h : Own w e size v n l g) : Reads w size v n l g := by
  obtain ⟨h0, ⟨rfl, rfl, rfl⟩ | ⟨b, off, c, cur, rfl, rfl, h1, h2, h3, h4, h5⟩⟩ := h
  · exact ⟨h0, .inl ⟨none, 0, rfl, rfl⟩⟩
  · exact ⟨h0, .inr ⟨b, off, c, rfl, rfl, h1, h2, fun j hj => by rw [cell_in h3]; exact h5 j hj⟩⟩
theorem Own.shape {w : World} {e size n : Nat} {g : Option Nat} {v : Value} {l : List Value} (h : Own w e size v n l g) : ∃ a c, v = .slice a n c ∧ n ≤ c ∧ c ≤ maxLen := by
  obtain ⟨h0, ⟨rfl, rfl, rfl⟩ | ⟨b, off, c, cur, rfl, rfl, h1, h2, h3, h4, h5⟩⟩ := h
  · exact ⟨_, _, rfl, Nat.le_refl _, Nat.zero_le _⟩
  · exact ⟨_, _, rfl, h1, h2⟩
/-- A row that is not empty. -/
theorem Own.pos {w : World} {e size n c : Nat} {a : Option Addr} {g : Option Nat} {l : List Value} (h : Own w e size (.slice a n c) n l g) (hn : 0 < n) :
    ∃ b off cur, g = some b ∧ a = some ⟨b, off, none⟩ ∧ n ≤ c ∧ c ≤ maxLen ∧ w.heap[b]? = some (.cells cur e (0, 0)) ∧ off + c * size ≤ cur.size ∧ l.length = n * size ∧ ∀ j, j < l.length → cur[off + j]? = l[j]? := by
  obtain ⟨h0, ⟨rfl, h1, rfl⟩ | ⟨b, off, c', cur, rfl, h1, h2, h3, h4, h5, h6⟩⟩ := h
  · omega
  · simp at h1
    obtain ⟨rfl, rfl⟩ := h1
    exact ⟨b, off, cur, rfl, rfl, h2, h3, h4, h5, h0, h6⟩
theorem Own.lt {w : World} {e size n : Nat} {g : Option Nat} {v : Value} {l : List Value} (h : Own w e size v n l g) : ∀ k, g = some k → k < w.heap.size := by
  obtain ⟨h0, ⟨rfl, rfl, rfl⟩ | ⟨b, off, c, cur, rfl, rfl, h1, h2, h3, h4, h5⟩⟩ := h
  · rintro k ⟨⟩
  · rintro k ⟨⟩; exact lt_in h3
theorem Reads.shape {w : World} {size n : Nat} {g : Option Nat} {v : Value} {l : List Value} (h : Reads w size v n l g) : ∃ a c, v = .slice a n c ∧ n ≤ c := by
  obtain ⟨-, ⟨a, c, rfl, hx⟩ | ⟨b, off, c, -, rfl, h1, -⟩⟩ := h
  · rw [hx]; exact ⟨_, _, rfl, Nat.zero_le _⟩
  · exact ⟨_, _, rfl, h1⟩
theorem Reads.heap {w w' : World} {size n : Nat} {g : Option Nat} {v : Value} {l : List Value} (h : Reads w size v n l g) (hg : ∀ k, g = some k → l ≠ [] → w'.heap[k]? = w.heap[k]?) : Reads w' size v n l g := by
  obtain ⟨h0, h1 | ⟨b, off, c, rfl, rfl, h1, h2, h3⟩⟩ := h
  · exact ⟨h0, .inl h1⟩
  · refine ⟨h0, .inr ⟨b, off, c, rfl, rfl, h1, h2, fun j hj => ?_⟩⟩
    rw [World.cell?_of_block (a := ⟨b, off + j, none⟩) (hg b rfl (by intro e; subst e; simp at hj))]
    exact h3 j hj
theorem Reads.lt {w : World} {size n : Nat} {g : Option Nat} {v : Value} {l : List Value} (h : Reads w size v n l g) (hl : l ≠ []) : ∀ k, g = some k → k < w.heap.size := by
  obtain ⟨h0, ⟨a, c, rfl, rfl⟩ | ⟨b, off, c, rfl, rfl, h1, h2, h3⟩⟩ := h
  · exact absurd (List.eq_nil_of_length_eq_zero (by simpa using h0)) hl
  · rintro k ⟨⟩
    have hp : 0 < l.length := List.length_pos_iff.2 hl
    have := h3 0 hp
    rw [List.getElem?_eq_getElem hp] at this
    exact World.block_lt_of_cell? _ _ this
theorem Reads.drewN {w : World} {size n : Nat} {g : Option Nat} {v : Value} {l : List Value} (h : Reads w size v n l g) (m : Nat) : Reads (w.drewN m) size v n l g := h.heap fun _ _ _ => rfl
theorem Reads.drew {w : World} {size n : Nat} {g : Option Nat} {v : Value} {l : List Value} (h : Reads w size v n l g) : Reads w.drew size v n l g := h.heap fun _ _ _ => rfl
theorem Own.heap {w w' : World} {e size n : Nat} {g : Option Nat} {v : Value} {l : List Value} (h : Own w e size v n l g) (hg : ∀ k, g = some k → w'.heap[k]? = w.heap[k]?) : Own w' e size v n l g := by
  obtain ⟨h0, h1 | ⟨b, off, c, cur, rfl, rfl, h1, h2, h3, h4, h5⟩⟩ := h
  · exact ⟨h0, .inl h1⟩
  · exact ⟨h0, .inr ⟨b, off, c, cur, rfl, rfl, h1, h2, (hg b rfl).trans h3, h4, h5⟩⟩
theorem Own.drewN {w : World} {e size n : Nat} {g : Option Nat} {v : Value} {l : List Value} (h : Own w e size v n l g) (m : Nat) : Own (w.drewN m) e size v n l g := h.heap fun _ _ => rfl
theorem Own.drew {w : World} {e size n : Nat} {g : Option Nat} {v : Value} {l : List Value} (h : Own w e size v n l g) : Own w.drew e size v n l g := h.heap fun _ _ => rfl
theorem Own.nil (w : World) (e size : Nat) : Own w e size (.slice none 0 0) 0 [] none := ⟨by simp, .inl ⟨rfl, rfl, rfl⟩⟩
theorem addr_add (b off k : Nat) : (⟨b, off, none⟩ : Addr).add k = ⟨b, off + k, none⟩ := by unfold Addr.add; split <;> simp_all
theorem heap_setCells {g : Nat} {e : TypeId} {fz : Nat × Nat} : ∀ (vs : List Value) (o : Nat) (w : World) (cur : Array Value), w.heap[g]? = some (.cells cur e fz) → o + vs.length ≤ cur.size →
    ∃ cur', (w.setCells g o vs).heap[g]? = some (.cells cur' e fz) ∧ cur'.size = cur.size ∧ ∀ k, cur'[k]? = if o ≤ k ∧ k < o + vs.length then vs[k - o]? else cur[k]?
  | [], o, w, cur, h, _ => ⟨cur, h, rfl, fun k => by rw [if_neg (by simp)]⟩
  | v :: r, o, w, cur, h, hl => by
    have h1 : (w.setCell ⟨g, o, none⟩ v).heap[g]? = some (.cells (cur.setIfInBounds o v) e fz) := by
      simp [World.setCell, Array.getElem?_modify, h]
    simp only [List.length_cons] at hl
    obtain ⟨cur', h2, h3, h4⟩ := heap_setCells r (o + 1) _ _ h1 (by simp; omega)
    refine ⟨cur', h2, by simpa using h3, fun k => ?_⟩
    rw [h4 k]
    simp only [List.length_cons]
    by_cases hk : k = o
    · subst hk
      rw [if_neg (by omega), if_pos (by omega)]
      simp [Array.getElem?_setIfInBounds]
      omega
    · by_cases hk2 : o + 1 ≤ k ∧ k < o + 1 + r.length
      · rw [if_pos hk2, if_pos (by omega), show k - o = (k - (o + 1)) + 1 by omega, List.getElem?_cons_succ]
      · rw [if_neg hk2, if_neg (by omega), Array.getElem?_setIfInBounds, if_neg (by omega)]
theorem size_setCells' (b : Nat) : ∀ (vs : List Value) (o : Nat) (w : World), (w.setCells b o vs).heap.size = w.heap.size
  | [], _, _ => rfl
  | v :: r, o, w => by rw [World.setCells, size_setCells' b r]; simp [World.setCell]
theorem tape_setCells' (b : Nat) : ∀ (vs : List Value) (o : Nat) (w : World), (w.setCells b o vs).tape = w.tape
  | [], _, _ => rfl
  | v :: r, o, w => by rw [World.setCells, tape_setCells' b r]; rfl
theorem other_setCells' (b : Nat) : ∀ (vs : List Value) (o : Nat) (w : World) (k : Nat), k ≠ b → (w.setCells b o vs).heap[k]? = w.heap[k]?
  | [], _, _, _, _ => rfl
  | v :: r, o, w, k, hk => by rw [World.setCells, other_setCells' b r _ _ _ hk]; exact Below.heap_setCell _ _ _ _ hk
theorem os_setCells' (b : Nat) : ∀ (vs : List Value) (o : Nat) (w : World), (w.setCells b o vs).os = w.os ∧ (w.setCells b o vs).output = w.output
  | [], _, _ => ⟨rfl, rfl⟩
  | v :: r, o, w => by rw [World.setCells]; exact os_setCells' b r _ _
theorem Kept.setCells {F : Nat → Prop} (w : World) (b o : Nat) (vs : List Value) (h : F b) : Kept F w (w.setCells b o vs) :=
  ⟨(os_setCells' b vs o w).1, tape_setCells' b vs o w, (os_setCells' b vs o w).2, by rw [size_setCells']; exact Nat.le_refl _,
    fun k _ hn => other_setCells' b vs o w k (fun e => hn (e ▸ h))⟩
section
variable {P : Program}
theorem Reads.src {w : World} {size n : Nat} {g : Option Nat} {v : Value} {l : List Value} (h : Reads w size v n l g) {tx e' : TypeId} (hk : P.underlying tx = some (.slice e')) (h1 : ∀ u ∈ l, u.oneCell' = true) : Src P size tx v n l w := by
  obtain ⟨h0, ⟨a, c, rfl, rfl⟩ | ⟨b, off, c, rfl, rfl, h2, h3, h4⟩⟩ := h
  · obtain rfl : l = [] := List.eq_nil_of_length_eq_zero (by simpa using h0)
    cases a with
    | none => exact Src.ofNil w hk c
    | some a => exact Src.ofSlice w hk a 0 c [] (by simp) (fun j u hu => by simp at hu) h1
  · refine Src.ofSlice w hk _ n c l h0 (fun j u hu => ?_) h1
    have hj : j < l.length := (List.getElem?_eq_some_iff.1 hu).1
    have hadd : (⟨b, off, none⟩ : Addr).add j = ⟨b, off + j, none⟩ := by unfold Addr.add; split <;> simp_all
    rw [hadd, h4 j hj, hu]
theorem foldl_push_bytes : ∀ (l : List UInt8) (s : ByteArray), (l.map fun b => (b.toNat : Int)).foldl (fun r n => r.push (UInt8.ofNat n.toNat)) s = ⟨s.data ++ l.toArray⟩
  | [], s => by simp
  | b :: r, s => by
    simp only [List.map_cons, List.foldl_cons]
    rw [foldl_push_bytes r]
    have : UInt8.ofNat ((b.toNat : Int)).toNat = b := by simp
    rw [this]
    congr 1
    simp [ByteArray.push]
/-- 'string(b)'. -/
theorem Reads.string_run {w : World} {src dst e n : Nat} {v : Value} {g : Option Nat} {bs : List UInt8} (h : Reads w 1 v n (bs.map bv) g) (hs : P.underlying src = some (.slice e)) (he : P.underlying e = some (.int .u8)) (hd : P.underlying dst = some .string) :
    (convert src dst v).run P w = .ok (.string ⟨bs.toArray⟩) w := by
  obtain ⟨h0, ⟨a, c, rfl, rfl⟩ | ⟨b, off, c, rfl, rfl, h2, h3, h4⟩⟩ := h
  · obtain rfl : bs = [] := List.eq_nil_of_length_eq_zero (by simpa using h0)
    rw [run_convert_bytes_string w src dst e a 0 c hs he hd]
    cases a with
    | none => simp [Conv.bytesToString, ByteArray.empty, ByteArray.emptyWithCapacity]; rfl
    | some a =>
      have hl := run_firstCells_some (P := P) w 1 0 a 0 c [] (by simp) (fun j u hu => by simp at hu)
      simp only [Builtin.firstCells, Nat.mul_one] at hl
      rw [run_bytesToString w _ _ _ [] (by simpa using hl)]
      rfl
  · have hn : n = bs.length := by simpa using h0.symm
    subst hn
    rw [run_convert_bytes_string w src dst e _ _ c hs he hd]
    have hm : bs.map bv = (bs.map fun b => (b.toNat : Int)).map (Value.int .u8) := by simp [bv, Function.comp_def]
    have hl := run_firstCells_some (P := P) w 1 bs.length ⟨b, off, none⟩ bs.length c (bs.map bv) (by simp) (fun j u hu => by
      have hj : j < (bs.map bv).length := (List.getElem?_eq_some_iff.1 hu).1
      rw [addr_add, h4 j hj, hu])
    simp only [Builtin.firstCells, Nat.mul_one] at hl
    rw [hm] at hl
    rw [run_bytesToString w _ _ _ _ hl, foldl_push_bytes]
    simp [ByteArray.empty, ByteArray.emptyWithCapacity]
    rfl
end
end Go.Proofs.YtohbdgddnkoenaaGreat
end

section

set_option linter.unusedSimpArgs false
set_option linter.unusedVariables false
namespace Go.Proofs.YtohbdgddnkoenaaGreat.Ex
open Go
/-! Rows that are found fast: trees of numbers. -/
inductive Tri (α : Type) where
  | e
  | n (l : Tri α) (v : α) (r : Tri α)
variable {α : Type}
def Tri.get (d : α) : Tri α → Nat → α
  | .e, _ => d
  | .n l v r, k => bif Nat.ble k 1 then v else bif Nat.beq (k % 2) 0 then l.get d (k / 2) else r.get d (k / 2)
def Tri.lt : Tri α → Tri α
  | .e => .e
  | .n l _ _ => l
def Tri.rt : Tri α → Tri α
  | .e => .e
  | .n _ _ r => r
def Tri.top (d : α) : Tri α → α
  | .e => d
  | .n _ v _ => v
def Tri.put (d : α) : Nat → Tri α → Nat → α → Tri α
  | 0, t, _, _ => t
  | f + 1, t, k, x => bif Nat.ble k 1 then .n t.lt x t.rt else bif Nat.beq (k % 2) 0 then .n (Tri.put d f t.lt (k / 2) x) (t.top d) t.rt else .n t.lt (t.top d) (Tri.put d f t.rt (k / 2) x)
structure Vec (α : Type) where
  t : Tri α
  n : Nat
def vAt (d : α) (h : Vec α) (b : Nat) : Option α := bif Nat.blt b h.n then some (h.t.get d (b + 1)) else none
def vPut (d : α) (h : Vec α) (b : Nat) (x : α) : Vec α := bif Nat.blt b h.n then ⟨h.t.put d (Nat.log2 (b + 1) + 1) (b + 1) x, h.n⟩ else h
def vPush (d : α) (h : Vec α) (x : α) : Vec α := ⟨h.t.put d (Nat.log2 (h.n + 1) + 1) (h.n + 1) x, h.n + 1⟩
def vL (d : α) (h : Vec α) : List α := (List.range h.n).map fun b => h.t.get d (b + 1)
theorem get_put (d : α) : ∀ (f : Nat) (t : Tri α) (k j : Nat) (x : α), 1 ≤ k → 1 ≤ j → k < 2 ^ f → (t.put d f k x).get d j = if j = k then x else t.get d j
  | 0, t, k, j, x, hk, _, hf => by simp at hf; omega
  | f + 1, t, k, j, x, hk, hj, hf => by
    have e1 : t.get d j = if j ≤ 1 then t.top d else if j % 2 = 0 then t.lt.get d (j / 2) else t.rt.get d (j / 2) := by
      cases t with
      | e => simp [Tri.get, Tri.lt, Tri.rt, Tri.top]
      | n l v r =>
        simp only [Tri.get, Tri.lt, Tri.rt, Tri.top]
        by_cases h1 : j ≤ 1
        · rw [if_pos h1, Nat.ble_eq.mpr h1]; rfl
        · rw [if_neg h1, Bool.eq_false_iff.mpr (fun h => h1 (Nat.ble_eq.mp h))]
          by_cases h2 : j % 2 = 0
          · rw [if_pos h2, h2]; rfl
          · rw [if_neg h2, show Nat.beq (j % 2) 0 = false from Bool.eq_false_iff.mpr (fun h => h2 (Nat.eq_of_beq_eq_true h))]; rfl
    have e2 : ∀ (l : Tri α) (v : α) (r : Tri α), (Tri.n l v r).get d j = if j ≤ 1 then v else if j % 2 = 0 then l.get d (j / 2) else r.get d (j / 2) := fun l v r => by
      simp only [Tri.get]
      by_cases h1 : j ≤ 1
      · rw [if_pos h1, Nat.ble_eq.mpr h1]; rfl
      · rw [if_neg h1, Bool.eq_false_iff.mpr (fun h => h1 (Nat.ble_eq.mp h))]
        by_cases h2 : j % 2 = 0
        · rw [if_pos h2, h2]; rfl
        · rw [if_neg h2, show Nat.beq (j % 2) 0 = false from Bool.eq_false_iff.mpr (fun h => h2 (Nat.eq_of_beq_eq_true h))]; rfl
    rw [e1]
    simp only [Tri.put]
    by_cases h1 : k ≤ 1
    · rw [Nat.ble_eq.mpr h1]
      simp only [cond_true]
      rw [e2]
      by_cases hj1 : j ≤ 1
      · rw [if_pos hj1, if_pos (by omega)]
      · have hjk : ¬ j = k := by omega
        simp only [if_neg hj1, if_neg hjk]
    · rw [Bool.eq_false_iff.mpr (fun h => h1 (Nat.ble_eq.mp h))]
      simp only [cond_false]
      have hf2 : k / 2 < 2 ^ f := by rw [Nat.pow_succ] at hf; omega
      by_cases h2 : k % 2 = 0
      · rw [h2]
        rw [show Nat.beq 0 0 = true from rfl, cond_true, e2]
        by_cases hj1 : j ≤ 1
        · have hjk : ¬ j = k := by omega
          simp only [if_pos hj1, if_neg hjk]
        · simp only [if_neg hj1]
          by_cases hj2 : j % 2 = 0
          · simp only [if_pos hj2]
            rw [get_put d f _ _ _ _ (by omega) (by omega) hf2]
            by_cases hjk : j = k
            · rw [if_pos (by omega), if_pos hjk]
            · rw [if_neg (by omega), if_neg hjk]
          · have hjk : ¬ j = k := by omega
            simp only [if_neg hj2, if_neg hjk]
      · rw [show Nat.beq (k % 2) 0 = false from Bool.eq_false_iff.mpr (fun h => h2 (Nat.eq_of_beq_eq_true h)), cond_false, e2]
        by_cases hj1 : j ≤ 1
        · have hjk : ¬ j = k := by omega
          simp only [if_pos hj1, if_neg hjk]
        · simp only [if_neg hj1]
          by_cases hj2 : j % 2 = 0
          · have hjk : ¬ j = k := by omega
            simp only [if_pos hj2, if_neg hjk]
          · simp only [if_neg hj2]
            rw [get_put d f _ _ _ _ (by omega) (by omega) hf2]
            by_cases hjk : j = k
            · rw [if_pos (by omega), if_pos hjk]
            · rw [if_neg (by omega), if_neg hjk]
theorem vL_n (d : α) (h : Vec α) : (vL d h).length = h.n := by simp [vL]
theorem vL_at (d : α) (h : Vec α) (b : Nat) : (vL d h)[b]? = vAt d h b := by
  unfold vL vAt
  rw [List.getElem?_map]
  by_cases hb : b < h.n
  · rw [List.getElem?_range hb, show Nat.blt b h.n = true from Nat.blt_eq.mpr hb]; rfl
  · rw [List.getElem?_eq_none (by simp; omega), show Nat.blt b h.n = false from Bool.eq_false_iff.mpr (fun hh => hb (Nat.blt_eq.mp hh))]; rfl
theorem log2_lt (k : Nat) (hk : 1 ≤ k) : k < 2 ^ (Nat.log2 k + 1) := Nat.lt_log2_self
theorem vL_put (d : α) (h : Vec α) (b : Nat) (x : α) : vL d (vPut d h b x) = (vL d h).set b x := by
  apply List.ext_getElem?
  intro j
  rw [vL_at, List.getElem?_set, vL_n, vL_at]
  unfold vPut
  by_cases hb : b < h.n
  · rw [show Nat.blt b h.n = true from Nat.blt_eq.mpr hb, cond_true]
    unfold vAt
    simp only
    by_cases hj : j < h.n
    · rw [show Nat.blt j h.n = true from Nat.blt_eq.mpr hj, cond_true, cond_true, get_put d _ _ _ _ _ (by omega) (by omega) (log2_lt _ (by omega))]
      by_cases hbj : b = j
      · rw [if_pos (by omega), if_pos hbj, if_pos hb]
      · rw [if_neg (by omega), if_neg hbj]
    · rw [show Nat.blt j h.n = false from Bool.eq_false_iff.mpr (fun hh => hj (Nat.blt_eq.mp hh)), cond_false, cond_false, if_neg (by omega)]
  · rw [show Nat.blt b h.n = false from Bool.eq_false_iff.mpr (fun hh => hb (Nat.blt_eq.mp hh)), cond_false]
    by_cases hbj : b = j
    · subst hbj
      rw [if_pos rfl, if_neg hb]
      unfold vAt
      rw [show Nat.blt b h.n = false from Bool.eq_false_iff.mpr (fun hh => hb (Nat.blt_eq.mp hh)), cond_false]
    · rw [if_neg hbj]
theorem vL_push (d : α) (h : Vec α) (x : α) : vL d (vPush d h x) = vL d h ++ [x] := by
  apply List.ext_getElem?
  intro j
  rw [vL_at]
  unfold vAt vPush
  simp only
  by_cases hj : j < h.n
  · rw [show Nat.blt j (h.n + 1) = true from Nat.blt_eq.mpr (by omega), cond_true, get_put d _ _ _ _ _ (by omega) (by omega) (log2_lt _ (by omega)), if_neg (by omega), List.getElem?_append_left (by rw [vL_n]; exact hj), vL_at]
    unfold vAt
    rw [show Nat.blt j h.n = true from Nat.blt_eq.mpr hj, cond_true]
  · rw [List.getElem?_append_right (by rw [vL_n]; omega), vL_n]
    by_cases hjn : j = h.n
    · subst hjn
      rw [show Nat.blt h.n (h.n + 1) = true from Nat.blt_eq.mpr (by omega), cond_true, get_put d _ _ _ _ _ (by omega) (by omega) (log2_lt _ (by omega)), if_pos rfl, Nat.sub_self]
      rfl
    · rw [show Nat.blt j (h.n + 1) = false from Bool.eq_false_iff.mpr (fun hh => by have := Nat.blt_eq.mp hh; omega), cond_false, List.getElem?_eq_none (by simp; omega)]
/-- A slice's capacity: known, or at least its length (z: cells of an element). -/
inductive Cap where
  | kn (k : Nat)
  | un (z : Nat)
  deriving Repr
inductive AV where
  | lit (v : Value)
  | ptr (b off : Nat)
  | sl (b off len : Nat) (cap : Cap)
  | mp (b : Nat)
  | agg (l : List AV)
  | tup (l : List AV)
  | ifc (t : TypeId) (v : AV)
  | fn (f : Fn) (first caps : List AV)
  | ext (i : Nat)
  | rng (i : Nat) (lo hi : Option Int)
  | any
instance : Inhabited AV := ⟨.lit (.bool false)⟩
/-- Temporaries. -/
abbrev TM := Vec AV
def TM.at (h : TM) (b : Nat) : Option AV := vAt (.tup []) h b
def TM.set (h : TM) (b : Nat) (x : AV) : TM := vPut (.tup []) h b x
def TM.fill : TM → Nat → List AV → TM
  | m, _, [] => m
  | m, k, x :: r => TM.fill (m.set k x) (k + 1) r
/-- The values, and then so many that are not known yet. -/
def TM.ofL (l : List AV) (n : Nat) : TM := TM.fill ⟨.e, l.length + n⟩ 0 l
def TM.L (h : TM) : List AV := vL (.tup []) h
theorem TL_n (h : TM) : h.L.length = h.n := vL_n _ _
theorem TL_at (h : TM) (b : Nat) : h.L[b]? = h.at b := vL_at _ _ _
theorem TL_set (h : TM) (b : Nat) (x : AV) : (h.set b x).L = h.L.set b x := vL_put _ _ _ _
theorem Tn_set (h : TM) (b : Nat) (x : AV) : (h.set b x).n = h.n := by rw [← TL_n, TL_set, List.length_set, TL_n]
theorem fill_get : ∀ (l : List AV) (m : TM) (k j : Nat), k + l.length ≤ m.n → (TM.fill m k l).L[j]? = if k ≤ j ∧ j < k + l.length then l[j - k]? else m.L[j]?
  | [], m, k, j, _ => by rw [if_neg (by simp)]; rfl
  | x :: r, m, k, j, hk => by
    simp only [List.length_cons] at hk ⊢
    rw [TM.fill, fill_get r _ (k + 1) j (by rw [Tn_set]; omega), TL_set]
    by_cases h1 : k + 1 ≤ j ∧ j < k + 1 + r.length
    · rw [if_pos h1, if_pos (by omega), show j - k = (j - (k + 1)) + 1 by omega, List.getElem?_cons_succ]
    · rw [if_neg h1]
      by_cases h2 : j = k
      · subst h2
        rw [if_pos (by omega), List.getElem?_set_self (by rw [TL_n]; omega), Nat.sub_self]
        rfl
      · rw [if_neg (by omega), List.getElem?_set_ne (by omega)]
theorem empty_L (m : Nat) : TM.L ⟨.e, m⟩ = List.replicate m (AV.tup []) := by
  unfold TM.L vL
  apply List.ext_getElem?
  intro j
  rw [List.getElem?_map, List.getElem?_replicate]
  simp only
  by_cases hj : j < m
  · rw [if_pos hj, List.getElem?_range hj]; rfl
  · rw [if_neg hj, List.getElem?_eq_none (by simp; omega)]; rfl
theorem ofL_L (l : List AV) (n : Nat) : (TM.ofL l n).L = l ++ List.replicate n (.tup []) := by
  apply List.ext_getElem?
  intro j
  unfold TM.ofL
  rw [fill_get l _ 0 j (by simp), empty_L]
  by_cases h1 : j < l.length
  · rw [if_pos (by omega), Nat.sub_zero, List.getElem?_append_left h1]
  · rw [if_neg (by omega), List.getElem?_append_right (by omega), List.getElem?_replicate, List.getElem?_replicate]
    by_cases h2 : j < l.length + n
    · rw [if_pos h2, if_pos (by omega)]
    · rw [if_neg h2, if_neg (by omega)]
/-- Temporaries of which the values are these. -/
def tmOf (l : List AV) : TM := TM.ofL l 0
theorem tmOf_L (l : List AV) : (tmOf l).L = l := by rw [tmOf, ofL_L]; simp
theorem tmOf_at (l : List AV) (k : Nat) : (tmOf l).at k = l[k]? := by rw [← TL_at, tmOf_L]
structure AE where
  key : Value
  val : AV
  born : Nat
structure ALoop where
  state : LoopState
  pending : Option Code
  fn : FuncId
  tmps : TM
  params : List Tmp
  assign : Code
  body : Code
inductive AB where
  | cells (l : List AV) (e : TypeId)
  | frz (l : List AV) (e : TypeId)
  | map (es : List AE) (clock : Nat)
  | loop (l : ALoop)
  | iter (m : Option Nat) (since : Nat) (seen : List Nat) (last : Nat)
  | siter (s : ByteArray) (pos : Nat)
  | defd
  | gone
abbrev AH := Vec AB
def AH.at (h : AH) (b : Nat) : Option AB := vAt .gone h b
def AH.put (h : AH) (b : Nat) (x : AB) : AH := vPut .gone h b x
def AH.push (h : AH) (x : AB) : AH := vPush .gone h x
def AH.nil : AH := ⟨.e, 0⟩
/-- A value without addresses and without parts. -/
def scal : Value → Bool
  | .bool _ | .int _ _ | .string _ | .pointer none | .slice none 0 0 | .map none | .nilFunc | .nilIface => true
  | _ => false
def ofScal (v : Value) : Option AV := if scal v then some (.lit v) else none
def ofScals : List Value → Option (List AV)
  | [] => some []
  | v :: r => match ofScal v, ofScals r with
    | some x, some y => some (x :: y)
    | _, _ => none
def ofVal1 : Value → Option AV
  | .agg cs => (ofScals cs.toList).map .agg
  | v => ofScal v
def ofVal1s : List Value → Option (List AV)
  | [] => some []
  | v :: r => match ofVal1 v, ofVal1s r with
    | some x, some y => some (x :: y)
    | _, _ => none
def ofVal : Value → Option AV
  | .tuple vs => (ofVal1s vs.toList).map .tup
  | .iface t v => (ofVal1 v).map (.ifc t)
  | v => ofVal1 v
def toScals : List AV → Option (List Value)
  | [] => some []
  | .lit v :: r => (toScals r).map (v :: ·)
  | _ :: _ => none
def toVal : AV → Option Value
  | .lit v => some v
  | .agg l => (toScals l).map fun l => .agg l.toArray
  | .ifc t (.lit v) => some (.iface t v)
  | .ifc t (.agg l) => (toScals l).map fun l => .iface t (.agg l.toArray)
  | _ => none
def AV.cells : AV → List AV
  | .agg l => l
  | v => [v]
inductive PR (α : Type) where
  | ok (a : α)
  | pan (v : Value)
def pur (P : Program) {α : Type} : Sem α → Option (PR α)
  | .pure a => some (.ok a)
  | .program k => pur P (k P)
  | .mark _ k => pur P k
  | .halt (.panic v) => some (.pan v)
  | _ => none
/-- What an operation comes to. -/
inductive AN where
  | val (v : AV)
  | enter (f : FuncId) (args : List AV)
  | round (l : Nat) (args : List AV)
  | defer (f : FuncId) (args : List AV)
  | recover
  | pan (v : AV)
  | alts (l : List (AV × AH))
def aundef : AV := .tup []
def evalA (tmps : TM) : Operand → Option AV
  | .tmp t => some ((tmps.at t).getD aundef)
  | .const v => ofVal v
  | .func f => some (.fn (.func f) [] [])
  | .global _ => none
def evals (tmps : TM) : List Operand → Option (List AV)
  | [] => some []
  | x :: r => match evalA tmps x, evals tmps r with
    | some v, some vs => some (v :: vs)
    | _, _ => none
/-- What is known of a type. -/
structure TI where
  desc : TypeDesc
  size : Nat
  bytes : Nat
  zero : AV
  /-- May a value be a map's key, and are two the same? -/
  ck : Value → Bool
  eq : Value → Value → Option Bool
abbrev TT := TypeId → Option TI
def und (T : TT) (t : TypeId) : Option TypeDesc := (T t).map (·.desc)
def isAggD : TypeDesc → Bool
  | .struct _ | .array _ _ => true
  | _ => false
/-- The zero value of a pair of a pointer and a slice (strings.Builder is one): rows of such are never appended to, so a block of this type is all of one variable. -/
def bldZ : AV → Bool
  | .agg [.lit (.pointer none), .lit (.slice none 0 0)] => true
  | _ => false
def tiOf (P : Program) (t : TypeId) : TI :=
  { desc := (P.underlying t).getD .invalid
    size := ((P.info? t).map (·.size)).getD 0
    bytes := (bif bldZ ((((P.info? t).bind (·.zero)).bind ofVal1).getD (.tup [])) then 281474976710657 else 0) + ((P.info? t).map (·.bytes)).getD 0
    zero := (((P.info? t).bind (·.zero)).bind ofVal1).getD (.tup [])
    ck := fun v => match pur P (Instr.checkKey true 10000 t v), pur P (Instr.checkKey false 10000 t v) with
      | some (.ok _), some (.ok _) => true
      | _, _ => false
    eq := fun a b => match pur P (Op.equal t a b) with
      | some (.ok r) => some r
      | _ => none }
/-- May a type stand in the table? -/
def okType (P : Program) (t : TypeId) : Bool := (P.underlying t).isSome && (((P.info? t).bind (·.zero)).bind ofVal1).isSome
/-- Numbers, to be found fast. -/
inductive NT where
  | leaf
  | node (l : NT) (k : Nat) (r : NT)
def NT.has (t : Nat) : NT → Bool
  | .leaf => false
  | .node l k r => bif Nat.beq t k then true else bif Nat.blt t k then l.has t else r.has t
def NT.all (p : Nat → Bool) : NT → Bool
  | .leaf => true
  | .node l k r => p k && l.all p && r.all p
def tabOf (P : Program) (N : NT) : TT := fun t => bif N.has t then some (tiOf P t) else none
def isAggT (T : TT) (t : TypeId) : Option Bool := (T t).map fun i => isAggD i.desc
def sizeT (T : TT) (t : TypeId) : Option Nat := (T t).map (·.size)
def zeroT (T : TT) (t : TypeId) : Option AV := (T t).map (·.zero)
/-- A row that may be written. -/
def getB (h : AH) (b : Nat) : Option (List AV × TypeId) := match (h.at b) with
  | some (.cells l e) => some (l, e)
  | _ => none
/-- A row that may be read. -/
def getR (h : AH) (b : Nat) : Option (List AV) := match (h.at b) with
  | some (.cells l _) | some (.frz l _) => some l
  | _ => none
/-- Cells of a row, n from i on. -/
def cut (l : List AV) (i n : Nat) : Option (List AV) := if i + n ≤ l.length then some ((l.drop i).take n) else none
def put (l : List AV) (i : Nat) (vs : List AV) : Option (List AV) := if i + vs.length ≤ l.length then some (l.take i ++ vs ++ l.drop (i + vs.length)) else none
/-- Is it the value of one cell? -/
def AV.one : AV → Bool
  | .agg _ | .tup _ => false
  | _ => true
def loadA (T : TT) (h : AH) (t : TypeId) (b off : Nat) : Option AV :=
  match getR h b, isAggT T t, sizeT T t with
  | some l, some true, some n => (cut l off n).map .agg
  | some l, some false, some _ => l[off]?
  | _, _, _ => none
def storeA (T : TT) (h : AH) (t : TypeId) (b off : Nat) (v : AV) : Option AH :=
  match getB h b, sizeT T t with
  | some (l, e), some n => if v.cells.length = n && v.cells.all AV.one then (put l off v.cells).map fun l' => h.put b (.cells l' e) else none
  | _, _ => none
def intA : AV → Option Int
  | .lit (.int _ n) => some n
  | _ => none
def natA (v : AV) : Option Nat := match intA v with
  | some n => if 0 ≤ n then some n.toNat else none
  | none => none
def fillA (place : Nat → Option (Nat × Nat)) : List AV → List (Nat × AV) → Option (List AV)
  | cells, [] => some cells
  | cells, (i, v) :: rest =>
    match place i with
    | some (off, size) => if v.cells.length = size then match put cells off v.cells with
      | some c => fillA place c rest
      | none => none else none
    | none => none
def evalParts (tmps : TM) : List (Nat × Operand) → Option (List (Nat × AV))
  | [] => some []
  | (i, x) :: r => match evalA tmps x, evalParts tmps r with
    | some v, some vs => some ((i, v) :: vs)
    | _, _ => none
def places (T : TT) : List Field → Option (List (Nat × Nat))
  | [] => some []
  | f :: r => match sizeT T f.type, places T r with
    | some n, some l => some ((f.offset, n) :: l)
    | _, _ => none
def buildA (T : TT) (t : TypeId) (parts : List (Nat × AV)) : Option AV :=
  match zeroT T t, und T t with
  | some (.agg z), some (.struct fs) => match places T fs.toList with
    | some pl => (fillA (fun i => pl[i]?) z parts).map .agg
    | none => none
  | some (.agg z), some (.array _ e) => match sizeT T e with
    | some n => (fillA (fun i => some (i * n, n)) z parts).map .agg
    | none => none
  | _, _ => none
def rep (z : List AV) : Nat → List AV
  | 0 => []
  | n + 1 => z ++ rep z n
def capGe (c : Cap) (len n : Nat) : Option Bool := match c with
  | .kn k => some (n ≤ k)
  | .un _ => if n ≤ len then some true else none
/-- The low and the high bound, and the new capacity, of a slice expression. -/
def boundsA (len : Nat) (cap : Cap) (lo hi mx : Option Nat) : Option (Nat × Nat × Cap) :=
  let l := lo.getD 0
  match mx with
  | some m => match hi with
    | some h => if l ≤ h && h ≤ m && capGe cap len m == some true then some (l, h, .kn (m - l)) else none
    | none => none
  | none =>
    let h := hi.getD len
    if l ≤ h && capGe cap len h == some true then some (l, h, match cap with | .kn k => .kn (k - l) | .un z => .un z) else none
def optNat (tmps : TM) : Option Operand → Option (Option Nat)
  | none => some none
  | some x => match evalA tmps x with
    | some v => (natA v).map some
    | none => none
/-- Bytes of cells. -/
def bytesA : List AV → Option (List UInt8)
  | [] => some []
  | .lit (.int .u8 (.ofNat k)) :: r => bif Nat.blt k 256 then (bytesA r).map (UInt8.ofNat k :: ·) else none
  | _ :: _ => none
def byteCells (s : ByteArray) : List AV := s.data.toList.map fun b => .lit (.int .u8 b.toNat)
/-- What is appended or copied: its elements' cells. -/
def srcA (h : AH) (z : Nat) : AV → Option (List AV)
  | .lit (.slice none 0 0) => some []
  | .lit (.string s) => bif Nat.beq z 1 then some (byteCells s) else none
  | .sl b off len _ => match getR h b with
    | some l => cut l off (len * z)
    | none => none
  | _ => none
def lenA : AV → Option Nat
  | .lit (.slice none 0 0) => some 0
  | .lit (.string s) => some s.size
  | .sl _ _ len _ => some len
  | _ => none
def isSrcD (z : Nat) : TypeDesc → Bool
  | .slice _ => true
  | .string => Nat.beq z 1
  | _ => false
/-- The appended cells laid: s is the slice, 'new' the cells, z their number in an element, m the number of elements. -/
def appendB (h : AH) (e : TypeId) (z m : Nat) (new : List AV) (s : AV) : Option (AV × AH) := match s with
  | .lit (.slice none 0 0) => bif Nat.beq m 0 then some (s, h) else some (.sl h.n 0 m (.un z), h.push (.cells new e))
  | .sl b off len cap => bif Nat.beq m 0 then some (s, h) else match cap with
    | .un z' => match getB h b with
      | some (l, e') => match cut l off (len * z) with
        | some old => bif Nat.beq z z' && Nat.beq e e' then some (.sl h.n 0 (len + m) (.un z), (h.put b .gone).push (.cells (old ++ new) e)) else none
        | none => none
      | none => none
    | .kn k => bif Nat.ble (len + m) k then match getB h b with
        | some (l, e') => (put l (off + len * z) new).map fun l' => (.sl b off (len + m) cap, h.put b (.cells l' e'))
        | none => none
      else match getR h b with
        | some l => match cut l off (len * z) with
          | some old => some (.sl h.n 0 (len + m) (.un z), h.push (.cells (old ++ new) e))
          | none => none
        | none => none
  | _ => none
def appendA (T : TT) (h : AH) (t tx : TypeId) (s x : AV) : Option (AV × AH) := match und T t, und T tx with
  | some (.slice e), some dx => match T e, lenA x, lenA s with
    | some i, some m, some n => bif isSrcD i.size dx && Nat.blt 0 i.size && Nat.ble i.size 200 && Nat.beq i.zero.cells.length i.size && Nat.ble (n + m) 4611686018427387904 && Nat.ble ((n + m) * i.bytes) 140737488355328 then match srcA h i.size x with
      | some new => bif Nat.beq new.length (m * i.size) && new.all AV.one then appendB h e i.size m new s else none
      | none => none else none
    | _, _, _ => none
  | _, _ => none
/-- Is a slice empty, with no room? -/
def isNul (len : Nat) : Cap → Bool
  | .kn k => Nat.beq len 0 && Nat.beq k 0
  | .un _ => false
def copyB (h : AH) (z k : Nat) (cs : List AV) : AV → Option (AV × AH)
  | .sl b off len cap => bif isNul len cap then some (.lit (.int .i64 0), h) else match getB h b with
    | some (l, e') => (put l off (cs.take (k * z))).map fun l' => (.lit (.int .i64 (k : Nat)), h.put b (.cells l' e'))
    | none => none
  | .lit (.slice none 0 0) => some (.lit (.int .i64 0), h)
  | _ => none
def copyA (T : TT) (h : AH) (t : TypeId) (d x : AV) : Option (AV × AH) := match und T t with
  | some (.slice e) => match sizeT T e, lenA d, lenA x with
    | some z, some n, some m => match srcA h z x with
      | some cs => bif Nat.beq cs.length (m * z) && cs.all AV.one then copyB h z (Nat.min m n) cs d else none
      | none => none
    | _, _, _ => none
  | _ => none
def keyKind : TypeDesc → Bool
  | .int _ | .string => true
  | _ => false
def findA (kind : TypeDesc) (k : Value) : List AE → Nat → Option (Option (Nat × AV))
  | [], _ => some none
  | e :: es, i => match Instr.sameNow kind k e.key with
    | some true => some (some (i, e.val))
    | some false => findA kind k es (i + 1)
    | none => none
def findE (eq : Value → Value → Option Bool) (k : Value) : List AE → Nat → Option (Option (Nat × AV))
  | [], _ => some none
  | e :: es, i => match eq k e.key with
    | some true => bif Instr.sameBits 10000 e.key k then some (some (i, e.val)) else none
    | some false => findE eq k es (i + 1)
    | none => none
def isStructD : TypeDesc → Bool
  | .struct _ => true
  | _ => false
/-- A key: a plain value, or some of them. -/
def keyV : Value → Bool
  | .agg cs => cs.toList.all scal
  | v => scal v
def keyOf : AV → Option Value
  | .lit v => some v
  | .agg l => (toScals l).map fun l => .agg l.toArray
  | _ => none
def avKey : Value → AV
  | .agg cs => .agg (cs.toList.map .lit)
  | v => .lit v
/-- Where a key stands in a map. -/
def findT (T : TT) (t : TypeId) (k : Value) (es : List AE) : Option (Option (Nat × AV)) := match und T t with
  | some (.map kt _) => match T kt with
    | some i => bif keyKind i.desc then findA i.desc k es 0 else bif isStructD i.desc && i.ck k then findE i.eq k es 0 else none
    | none => none
  | _ => none
def elemT (T : TT) (t : TypeId) : Option TypeId := match und T t with
  | some (.map _ e) => some e
  | _ => none
def entsA (h : AH) : AV → Option (List AE)
  | .lit (.map none) => some []
  | .mp b => match (h.at b) with
    | some (.map es _) => some es
    | _ => none
  | _ => none
def lookupA (T : TT) (h : AH) (t : TypeId) (m k : AV) (ok : Bool) : Option AV :=
  match keyOf k, entsA h m, elemT T t with
  | some key, some es, some e => match findT T t key es, zeroT T e with
      | some (some (_, v)), _ => some (bif ok then .tup [v, .lit (.bool true)] else v)
      | some none, some z => some (bif ok then .tup [z, .lit (.bool false)] else z)
      | _, _ => none
  | _, _, _ => none
def updateA (T : TT) (h : AH) (t : TypeId) (m k v : AV) : Option AH :=
  match m, keyOf k with
  | .mp b, some key => match (h.at b) with
    | some (.map es clock) => match findT T t key es with
      | some (some (i, _)) => some (h.put b (.map (es.modify i fun e => { e with key := key, val := v }) clock))
      | some none => some (h.put b (.map (es ++ [{ key, val := v, born := clock }]) (clock + 1)))
      | none => none
    | _ => none
  | _, _ => none
def deleteA (T : TT) (h : AH) (t : TypeId) (m k : AV) : Option AH :=
  match m, keyOf k with
  | .lit (.map none), some key => match findT T t key [] with
    | some _ => some h
    | none => none
  | .mp b, some key => match (h.at b) with
    | some (.map es clock) => match findT T t key es with
      | some (some (i, _)) => some (h.put b (.map (es.eraseIdx i) clock))
      | some none => some h
      | none => none
    | _ => none
  | _, _ => none
/-- A method of a type with the method's own function. -/
def methodA (P : Program) (t : TypeId) (name : String) : Option FuncId := match P.info? t with
  | some i => match i.methods.find? (·.name == name) with
    | some m => bif m.path.isEmpty then (match m.func, P.underlying t with
        | some (f, true), some (.pointer _) => some f
        | some (_, false), some (.pointer _) => none
        | some (f, false), some _ => some f
        | _, _ => none) else none
    | none => none
  | none => none
/-- A function's value, or a method's, called. -/
def callA (P : Program) (f : AV) (args : List AV) : Option AN :=
  match f with
  | .fn (.func g) first caps => some (.enter g (first ++ args ++ caps))
  | .fn (.yield l) [] [] => some (.round l args)
  | .fn (.method name) [.ifc t v] [] => (methodA P t name).map fun g => .enter g (v :: args)
  | _ => none
/-- Are two values, not both plain, the same? -/
def sameA (T : TT) (d : TypeDesc) (x y : AV) : Option Bool := match d, x, y with
  | .pointer _, .ptr _ _, .lit (.pointer none) | .pointer _, .lit (.pointer none), .ptr _ _ => some false
  | .slice _, .sl .., .lit (.slice none 0 0) | .slice _, .lit (.slice none 0 0), .sl .. => some false
  | .map _ _, .mp _, .lit (.map none) | .map _ _, .lit (.map none), .mp _ => some false
  | .func .., .fn .., .lit .nilFunc | .func .., .lit .nilFunc, .fn .. => some false
  | .interface _, .ifc .., .lit .nilIface | .interface _, .lit .nilIface, .ifc .. => some false
  | .pointer e, .ptr b i, .ptr c j => match sizeT T e with
    | some (_ + 1) => bif Nat.beq b c then some (Nat.beq i j) else none
    | _ => none
  | _, _, _ => none
def litAll (tmps : TM) : List Operand → Bool
  | [] => true
  | x :: r => match evalA tmps x with
    | some v => (toVal v).isSome && litAll tmps r
    | none => false
def litEnv (tmps : TM) (x : Operand) : Value := match evalA tmps x with
  | some v => (toVal v).getD undef
  | none => undef
def ofPR : Option (PR Next) → Option AN
  | some (.ok (.value v)) => (ofVal v).map .val
  | some (.pan v) => (ofVal v).map .pan
  | _ => none
def notSelect : Op → Bool
  | .select .. => false
  | _ => true
/-- An operation whose operands are all plain, by the model's own text. -/
def litOp (P : Program) (o : Oper) (tmps : TM) : Option AN :=
  if notSelect o.op && litAll tmps o.op.operands.toList then ofPR (pur P (execOp (litEnv tmps) o)) else none
abbrev AR := Option (AN × AH)
def val (h : AH) (x : Option AV) : AR := x.map fun x => (.val x, h)
def orLit (P : Program) (o : Oper) (tmps : TM) (h : AH) (r : Unit → AR) : AR := match litOp P o tmps with
  | some n => some (n, h)
  | none => r ()
def aPick (tmps : TM) (h : AH) (c a b : Operand) : AR := match evalA tmps c with
  | some (.lit (.bool t)) => val h (bif t then evalA tmps a else evalA tmps b)
  | _ => none
def aAlloc (T : TT) (h : AH) (t : TypeId) : AR := (zeroT T t).map fun z => (.val (.ptr h.n 0), h.push (.cells z.cells t))
def aBox (tmps : TM) (h : AH) (t : TypeId) (x : Operand) : AR := match evalA tmps x with
  | some z => if z.cells.all AV.one then some (.val (.ptr h.n 0), h.push (.cells z.cells t)) else none
  | none => none
def aBuild (T : TT) (tmps : TM) (h : AH) (t : TypeId) (ps : Array (Nat × Operand)) : AR := match evalParts tmps ps.toList with
  | some ps => val h (buildA T t ps)
  | none => none
def aBuildSlice (T : TT) (tmps : TM) (h : AH) (t : TypeId) (n : Nat) (ps : Array (Nat × Operand)) : AR := match und T t, evalParts tmps ps.toList with
  | some (.slice e), some ps => match T e with
    | some i => if i.zero.cells.length = i.size && n ≤ 65536 && n * i.size ≤ 65536 then (fillA (fun k => some (k * i.size, i.size)) (rep i.zero.cells n) ps).map fun l => (.val (.sl h.n 0 n (.kn n)), h.push (.cells l e)) else none
    | none => none
  | _, _ => none
def aLoad (T : TT) (tmps : TM) (h : AH) (t : TypeId) (a : Operand) : AR := match evalA tmps a with
  | some (.ptr b off) => val h (loadA T h t b off)
  | _ => none
def aStore (T : TT) (tmps : TM) (h : AH) (t : TypeId) (a x : Operand) : AR := match evalA tmps a, evalA tmps x with
  | some (.ptr b off), some x => (storeA T h t b off x).map fun h' => (.val aundef, h')
  | _, _ => none
def aNilCheck (P : Program) (o : Oper) (tmps : TM) (h : AH) (x : Operand) : AR := match evalA tmps x with
  | some (.ptr b off) => some (.val (.ptr b off), h)
  | some (.fn (.func g) a b) => some (.val (.fn (.func g) a b), h)
  | some (.ifc t x) => some (.val (.ifc t x), h)
  | _ => orLit P o tmps h fun _ => none
def aSame (T : TT) (tmps : TM) (h : AH) (op : BinOp) (t : TypeId) (x y : Operand) : AR := match und T t, evalA tmps x, evalA tmps y with
  | some d, some a, some b => match sameA T d a b, op with
    | some r, .eql => some (.val (.lit (.bool r)), h)
    | some r, .neq => some (.val (.lit (.bool !r)), h)
    | _, _ => none
  | _, _, _ => none
def bytesAt (h : AH) (b off len : Nat) : Option (List UInt8) := match getR h b with
  | some l => match cut l off len with
    | some cs => bytesA cs
    | none => none
  | none => none
def aConv1 (T : TT) (h : AH) (src dst : TypeId) (x : AV) : AR := match und T src, und T dst, x with
  | some (.slice e), some .string, .sl b off len _ => match und T e with
    | some (.int .u8) => val h ((bytesAt h b off len).map fun bs => .lit (.string ⟨bs.toArray⟩))
    | _ => none
  | some (.slice _), some (.slice e), .sl b off len cap => if src == dst then match und T e, getB h b with
      | some (.int .u8), some (l, e') => bif isNul len cap then none else some (.val (.sl b off len cap), h.put b (.frz l e'))
      | _, _ => none else none
  | some .string, some (.slice e), .lit (.string s) => match und T e with
    | some (.int .u8) => bif Nat.ble s.size 16777216 then some (.val (.sl h.n 0 s.size (.un 1)), h.push (.frz (byteCells s) e)) else none
    | _ => none
  | _, _, _ => none
def aConvert (P : Program) (T : TT) (o : Oper) (tmps : TM) (h : AH) (src dst : TypeId) (x : Operand) : AR := match evalA tmps x with
  | some (.lit (.int k n)) => match und T src, und T dst with
    | some _, some (.int k') => some (.val (.lit (.int k' (k'.wrap n))), h)
    | _, _ => orLit P o tmps h fun _ => none
  | some v => orLit P o tmps h fun _ => aConv1 T h src dst v
  | none => none
def aMakeInterface (T : TT) (tmps : TM) (h : AH) (t : TypeId) (x : Operand) : AR := match und T t, evalA tmps x with
  | some (.interface _), _ => none
  | some _, some x => some (.val (.ifc t x), h)
  | _, _ => none
def notYield : Fn → Bool
  | .yield _ => false
  | _ => true
def aMakeFunc (tmps : TM) (h : AH) (f : Fn) (first caps : Array Operand) : AR := match evals tmps first.toList, evals tmps caps.toList with
  | some a, some b => bif notYield f then some (.val (.fn f a b), h) else none
  | _, _ => none
def aMakeSlice (T : TT) (tmps : TM) (h : AH) (t : TypeId) (l c : Operand) : AR := match und T t, (evalA tmps l).bind natA, (evalA tmps c).bind natA with
  | some (.slice e), some n, some m => match T e with
    | some i => if n ≤ m && m ≤ 140737488355328 && i.bytes * m ≤ 281474976710656 && i.zero.cells.length = i.size then some (.val (.sl h.n 0 n (.kn m)), h.push (.cells (rep i.zero.cells m) e)) else none
    | none => none
  | _, _, _ => none
def capFits (z : Nat) : Cap → Bool
  | .kn _ => true
  | .un z' => Nat.beq z z'
def aSlice1 (T : TT) (h : AH) (t : TypeId) (x : AV) (lo hi mx : Option Nat) : AR := match und T t, x with
  | some (.slice e), .sl b off len cap => match sizeT T e, boundsA len cap lo hi mx with
    | some z, some (l, r, c) => bif capFits z c then some (.val (.sl b (off + l * z) (r - l) c), h) else none
    | _, _ => none
  | some (.array n e), .ptr b off => match sizeT T e, boundsA n (.kn n) lo hi mx with
    | some z, some (l, r, c) => bif Nat.ble n 16777216 then some (.val (.sl b (off + l * z) (r - l) c), h) else none
    | _, _ => none
  | _, _ => none
def aSlice (P : Program) (T : TT) (o : Oper) (tmps : TM) (h : AH) (t : TypeId) (x : Operand) (lo hi mx : Option Operand) : AR :=
  orLit P o tmps h fun _ => match evalA tmps x, optNat tmps lo, optNat tmps hi, optNat tmps mx with
    | some x, some lo, some hi, some mx => aSlice1 T h t x lo hi mx
    | _, _, _, _ => none
def aFieldAddr (T : TT) (tmps : TM) (h : AH) (t : TypeId) (x : Operand) (i : Nat) : AR := match und T t, evalA tmps x with
  | some (.struct fs), some (.ptr b off) => match fs[i]? with
    | some f => match sizeT T f.type with
      | some (_ + 1) => some (.val (.ptr b (off + f.offset)), h)
      | _ => none
    | none => none
  | _, _ => none
def partA (T : TT) (t : TypeId) (l : List AV) (off : Nat) : Option AV := match T t with
  | some i => bif isAggD i.desc then (cut l off i.size).map .agg else l[off]?
  | none => none
def aField (T : TT) (tmps : TM) (h : AH) (t : TypeId) (x : Operand) (i : Nat) : AR := match und T t, evalA tmps x with
  | some (.struct fs), some (.agg l) => match fs[i]? with
    | some f => val h (partA T f.type l f.offset)
    | none => none
  | _, _ => none
def aIndexAddr (T : TT) (tmps : TM) (h : AH) (t : TypeId) (x ix : Operand) : AR := match und T t, evalA tmps x, (evalA tmps ix).bind natA with
  | some (.slice e), some (.sl b off len _), some i => match sizeT T e with
    | some z => if i < len then some (.val (.ptr b (off + i * z)), h) else none
    | none => none
  | some (.array n e), some (.ptr b off), some i => match sizeT T e with
    | some z => if i < n then some (.val (.ptr b (off + i * z)), h) else none
    | none => none
  | _, _, _ => none
def aIndex (P : Program) (T : TT) (o : Oper) (tmps : TM) (h : AH) (t : TypeId) (x ix : Operand) : AR :=
  orLit P o tmps h fun _ => match und T t, evalA tmps x, (evalA tmps ix).bind natA with
    | some (.array n e), some (.agg l), some i => match sizeT T e with
      | some z => if i < n then val h (partA T e l (i * z)) else none
      | none => none
    | _, _, _ => none
def aLookup (T : TT) (tmps : TM) (h : AH) (t : TypeId) (m k : Operand) (ok : Bool) : AR := match evalA tmps m, evalA tmps k with
  | some m, some k => val h (lookupA T h t m k ok)
  | _, _ => none
def aUpdate (T : TT) (tmps : TM) (h : AH) (t : TypeId) (m k x : Operand) : AR := match evalA tmps m, evalA tmps k, evalA tmps x with
  | some m, some k, some x => (updateA T h t m k x).map fun h' => (.val aundef, h')
  | _, _, _ => none
def aRange (T : TT) (tmps : TM) (h : AH) (t : TypeId) (x : Operand) : AR := match und T t, evalA tmps x with
  | some (.map _ _), some (.lit (.map none)) => some (.val (.ptr h.n 0), h.push (.iter none 0 [] 0))
  | some (.map _ _), some (.mp b) => match h.at b with
    | some (.map _ clock) => some (.val (.ptr h.n 0), h.push (.iter (some b) clock [] clock))
    | _ => none
  | some .string, some (.lit (.string s)) => some (.val (.ptr h.n 0), h.push (.siter s 0))
  | _, _ => none
/-- A map's iterator goes on, where there is one way alone: no entry is left, or one that was there from the beginning. -/
def aNext (tmps : TM) (h : AH) (x : Operand) (isS : Bool) : AR := match evalA tmps x, isS with
  | some (.ptr b 0), false => match h.at b with
    | some (.iter none _ _ _) => some (.val (.tup [.lit (.bool false)]), h)
    | some (.iter (some m) since seen last) => match h.at m with
      | some (.map es clock) => bif !seen.isEmpty && !es.isEmpty && es.all (fun e => decide (e.born ≥ last)) then none else match es.filter (fun e => !seen.contains e.born) with
        | [] => some (.val (.tup [.lit (.bool false)]), h)
        | [e] => bif Nat.blt e.born since then some (.val (.tup [.lit (.bool true), avKey e.key, e.val]), h.put b (.iter (some m) since (seen ++ [e.born]) clock)) else none
        | l => bif l.all (fun e => Nat.blt e.born since) then some (.alts (l.map fun e => (.tup [.lit (.bool true), avKey e.key, e.val], h.put b (.iter (some m) since (seen ++ [e.born]) clock))), h) else none
      | _ => none
    | _ => none
  | some (.ptr b 0), true => match h.at b with
    | some (.siter s pos) => bif Nat.blt pos s.size then some (.val (.tup [.lit (.bool true), .lit (.int .i64 pos), .lit (.int .i32 (Utf8.decode s pos).1)]), h.put b (.siter s (pos + (Utf8.decode s pos).2))) else some (.val (.tup [.lit (.bool false)]), h)
    | _ => none
  | _, _ => none
/-- The entry of a map's iterator. -/
def aEntry (tmps : TM) (h : AH) (x : Operand) : AR := match evalA tmps x with
  | some (.ptr b 0) => match h.at b with
    | some (.iter (some m) _ seen stepped) => match h.at m, seen.getLast? with
      | some (.map es clock), some stamp => bif Nat.beq clock stepped then match es.find? (fun e => Nat.beq e.born stamp) with
        | some e => some (.val (.tup [avKey e.key, e.val]), h)
        | none => none else none
      | _, _ => none
    | _ => none
  | _ => none
def aExtract (tmps : TM) (h : AH) (x : Operand) (i : Nat) : AR := match evalA tmps x with
  | some (.tup l) => val h l[i]?
  | _ => none
def okPair (ok : Bool) (v : AV) (b : Bool) : AV := bif ok then .tup [v, .lit (.bool b)] else v
def aAssert (P : Program) (T : TT) (tmps : TM) (h : AH) (x : Operand) (t : TypeId) (ok : Bool) : AR := match evalA tmps x, T t with
  | some (.ifc d y), some i => match i.desc with
    | .interface want => match P.info? d with
      | some j => if (Instr.missingMethod want j.methods).isNone then some (.val (okPair ok (.ifc d y) true), h) else none
      | none => none
    | _ => bif Nat.beq d t then some (.val (okPair ok y true), h) else bif ok then some (.val (.tup [i.zero, .lit (.bool false)]), h) else none
  | some (.lit .nilIface), some i => bif ok then some (.val (.tup [i.zero, .lit (.bool false)]), h) else none
  | _, _ => none
def aPanic (tmps : TM) (h : AH) (x : Operand) : AR := match evalA tmps x with
  | some (.ifc t x) => some (.pan (.ifc t x), h)
  | _ => none
def clearA (T : TT) (h : AH) (t : TypeId) (x : AV) : Option AH := match und T t with
  | some (.slice e) => match x with
    | .sl b off len _ => bif Nat.beq len 0 then some h else match T e, getB h b with
      | some i, some (l, e') => bif (rep i.zero.cells len).all AV.one then (put l off (rep i.zero.cells len)).map fun l' => h.put b (.cells l' e') else none
      | _, _ => none
    | .lit (.slice none 0 0) => some h
    | _ => none
  | _ => none
def aBuiltin (P : Program) (T : TT) (o : Oper) (tmps : TM) (h : AH) (b : Builtin) (c : Call) : AR := match b, evals tmps c.args.toList, c.argTypes.toList with
  | .append, some [s, x], [t, tx] => (appendA T h t tx s x).map fun r => (.val r.1, r.2)
  | .copy, some [s, x], t :: _ => (copyA T h t s x).map fun r => (.val r.1, r.2)
  | .delete, some [m, k], t :: _ => (deleteA T h t m k).map fun h' => (.val (.tup []), h')
  | .clear, some [x], t :: _ => (clearA T h t x).map fun h' => (.val (.tup []), h')
  | .len, some [.sl _ _ n _], t :: _ => match und T t with
    | some (.slice _) => some (.val (.lit (.int .i64 n)), h)
    | _ => none
  | .len, some [.mp b], t :: _ => match und T t, (h.at b) with
    | some (.map _ _), some (.map es _) => some (.val (.lit (.int .i64 es.length)), h)
    | _, _ => none
  | .recover, _, _ => some (.recover, h)
  | _, _, _ => orLit P o tmps h fun _ => none
def aCall (P : Program) (T : TT) (o : Oper) (tmps : TM) (h : AH) (c : Call) : AR := match c.callee with
  | .builtin b => aBuiltin P T o tmps h b c
  | .value f => match evalA tmps f, evals tmps c.args.toList with
    | some f, some args => (callA P f args).map (·, h)
    | _, _ => none
  | .invoke r name => match evalA tmps r, evals tmps c.args.toList with
    | some r, some args => (callA P (.fn (.method name) [r] []) args).map (·, h)
    | _, _ => none
def aDefer (P : Program) (tmps : TM) (h : AH) (c : Call) : AR := match c.callee with
  | .value f => match evalA tmps f, evals tmps c.args.toList with
    | some f, some args => match callA P f args with
      | some (.enter g a) => some (.defer g a, h)
      | _ => none
    | _, _ => none
  | _ => none
def ofPV (h : AH) : Option (PR Value) → AR
  | some (.ok v) => (ofScal v).map fun a => (.val a, h)
  | some (.pan v) => (ofVal v).map fun a => (.pan a, h)
  | none => none
def cmpB (op : BinOp) (below above upto from' : Bool) : Option Bool := match op with
  | .lss => bif below then some true else bif from' then some false else none
  | .geq => bif below then some false else bif from' then some true else none
  | .leq => bif upto then some true else bif above then some false else none
  | .gtr => bif upto then some false else bif above then some true else none
  | .eql => bif below || above then some false else none
  | .neq => bif below || above then some true else none
  | _ => none
def ltO (x : Option Int) (c : Int) : Bool := match x with
  | some b => decide (b < c)
  | none => false
def gtO (x : Option Int) (c : Int) : Bool := match x with
  | some b => decide (c < b)
  | none => false
/-- A number of which bounds are known, compared with a known one. -/
def cmpR (op : BinOp) (lo hi : Option Int) (c : Int) : Option Bool := cmpB op (ltO hi c) (gtO lo c) (ltO hi (c + 1)) (gtO lo (c - 1))
def aBin (P : Program) (T : TT) (o : Oper) (tmps : TM) (h : AH) (op : BinOp) (t : TypeId) (x y : Operand) : AR := match evalA tmps x, evalA tmps y with
  | some (.lit .nilIface), _ => orLit P o tmps h fun _ => aSame T tmps h op t x y
  | some (.lit a), some (.lit b) => ofPV h (pur P (binOp op t a b))
  | some (.rng _ lo hi), some (.lit (.int .i64 c)) => val h ((cmpR op lo hi c).map fun r => .lit (.bool r))
  | _, _ => orLit P o tmps h fun _ => aSame T tmps h op t x y
def aUn (P : Program) (tmps : TM) (h : AH) (op : UnOp) (x : Operand) : AR := match evalA tmps x with
  | some (.lit a) => ofPV h (pur P (Op.unary op a))
  | _ => none
def aop (P : Program) (T : TT) (o : Oper) (tmps : TM) (h : AH) : AR :=
  match o.op with
  | .move x | .assign x => val h (evalA tmps x)
  | .pick c a b => aPick tmps h c a b
  | .alloc t => aAlloc T h t
  | .box t x => aBox tmps h t x
  | .build t ps => aBuild T tmps h t ps
  | .buildSlice t n ps => aBuildSlice T tmps h t n ps
  | .load t a => aLoad T tmps h t a
  | .store t a x => aStore T tmps h t a x
  | .nilCheck x => aNilCheck P o tmps h x
  | .binOp op t x y _ => aBin P T o tmps h op t x y
  | .convert src dst x => aConvert P T o tmps h src dst x
  | .makeInterface t x => aMakeInterface T tmps h t x
  | .makeFunc f first caps => aMakeFunc tmps h f first caps
  | .makeMap _ none => some (.val (.mp h.n), h.push (.map [] 0))
  | .makeSlice t l c => aMakeSlice T tmps h t l c
  | .slice t x lo hi mx => aSlice P T o tmps h t x lo hi mx
  | .fieldAddr t x i => aFieldAddr T tmps h t x i
  | .field t x i => aField T tmps h t x i
  | .indexAddr t x ix => aIndexAddr T tmps h t x ix
  | .index t x ix => aIndex P T o tmps h t x ix
  | .lookup t m k ok => aLookup T tmps h t m k ok
  | .mapUpdate t m k x | .insert t m k x => aUpdate T tmps h t m k x
  | .extract x i => aExtract tmps h x i
  | .range t x => aRange T tmps h t x
  | .next x s => aNext tmps h x s
  | .entry x => aEntry tmps h x
  | .typeAssert x _ t ok => aAssert P T tmps h x t ok
  | .panic x => aPanic tmps h x
  | .call c => aCall P T o tmps h c
  | .defer c => aDefer P tmps h c
  | .unOp op _ x => aUn P tmps h op x
  | _ => none
end Go.Proofs.YtohbdgddnkoenaaGreat.Ex
end

section

set_option linter.unusedSimpArgs false
set_option linter.unusedVariables false
namespace Go.Proofs.YtohbdgddnkoenaaGreat.Ex
open Go
/-- Which real block an abstract one is, and from which cell on. -/
abbrev Mu := Nat → Option (Nat × Nat)
def capRel (w : World) (r o len : Nat) : Cap → Nat → Prop
  | .kn k, c => c = k ∧ len ≤ k ∧ k ≤ maxLen
  | .un z, c => len ≤ c ∧ c ≤ maxLen ∧ 0 < z ∧ ∃ cur e fz, w.heap[r]? = some (.cells cur e fz) ∧ o + c * z ≤ cur.size
def fnRel (μ : Mu) : Fn → Fn → Prop
  | .yield l, f' => ∃ r, μ l = some (r, 0) ∧ f' = .yield r
  | f, f' => f' = f
mutual
def rel (ρ : Nat → Value) (μ : Mu) (w : World) : AV → Value → Prop
  | .lit v, v' => v' = v ∧ scal v = true
  | .ptr b off, v' => ∃ r base, μ b = some (r, base) ∧ v' = .pointer (some ⟨r, base + off, none⟩)
  | .sl b off len cap, v' => (∃ r base o c, μ b = some (r, base) ∧ v' = .slice (some ⟨r, o, none⟩) len c ∧ (c = 0 ∨ o = base + off) ∧ capRel w r (base + off) len cap c) ∨ (len = 0 ∧ cap = .kn 0 ∧ ∃ a, v' = .slice (some a) 0 0)
  | .mp b, v' => ∃ r, μ b = some (r, 0) ∧ v' = .map (some r)
  | .agg l, v' => ∃ l', v' = .agg l'.toArray ∧ rels ρ μ w l l'
  | .tup l, v' => ∃ l', v' = .tuple l'.toArray ∧ rels ρ μ w l l'
  | .ifc t v, v' => ∃ u, v' = .iface t u ∧ rel ρ μ w v u
  | .fn f first caps, v' => ∃ f' a b, v' = .func f' a.toArray b.toArray ∧ fnRel μ f f' ∧ rels ρ μ w first a ∧ rels ρ μ w caps b
  | .ext i, v' => v' = ρ i ∧ v'.oneCell' = true
  | .any, v' => v'.oneCell' = true
  | .rng i lo hi, v' => v' = ρ i ∧ ∃ n : Int, v' = .int .i64 n ∧ (∀ a, lo = some a → a ≤ n) ∧ (∀ b, hi = some b → n ≤ b)
def rels (ρ : Nat → Value) (μ : Mu) (w : World) : List AV → List Value → Prop
  | [], l' => l' = []
  | x :: xs, l' => ∃ v vs, l' = v :: vs ∧ rel ρ μ w x v ∧ rels ρ μ w xs vs
end
variable {ρ : Nat → Value}
/-- Rows keep their sizes. -/
def Grows (w w' : World) : Prop := ∀ (r : Nat) (cur : Array Value) (e : TypeId) (fz : Nat × Nat), w.heap[r]? = some (.cells cur e fz) → ∃ (cur' : Array Value) (e' : TypeId) (fz' : Nat × Nat), w'.heap[r]? = some (.cells cur' e' fz') ∧ cur'.size = cur.size
theorem Grows.refl (w : World) : Grows w w := fun r cur e fz h => ⟨cur, e, fz, h, rfl⟩
theorem Grows.trans {a b c : World} (h : Grows a b) (k : Grows b c) : Grows a c := fun r cur e fz x => by
  obtain ⟨c1, e1, f1, h1, s1⟩ := h r cur e fz x
  obtain ⟨c2, e2, f2, h2, s2⟩ := k r c1 e1 f1 h1
  exact ⟨c2, e2, f2, h2, s2.trans s1⟩
/-- More is mapped. -/
def More (μ μ' : Mu) : Prop := ∀ b x, μ b = some x → μ' b = some x
theorem More.refl (μ : Mu) : More μ μ := fun _ _ h => h
theorem More.trans {a b c : Mu} (h : More a b) (k : More b c) : More a c := fun x y z => k x y (h x y z)
theorem capRel.mono {w w' : World} {r o len c : Nat} {cap : Cap} (hg : Grows w w') (h : capRel w r o len cap c) : capRel w' r o len cap c := by
  cases cap with
  | kn k => exact h
  | un z =>
    obtain ⟨h1, h2, h3, cur, e, fz, h4, h5⟩ := h
    obtain ⟨cur', e', fz', h6, h7⟩ := hg _ _ _ _ h4
    exact ⟨h1, h2, h3, cur', e', fz', h6, by omega⟩
theorem fnRel.mono {μ μ' : Mu} {f f' : Fn} (hm : More μ μ') (h : fnRel μ f f') : fnRel μ' f f' := by
  cases f <;> first | exact h | (obtain ⟨r, h1, h2⟩ := h; exact ⟨r, hm _ _ h1, h2⟩)
mutual
theorem rel.mono {μ μ' : Mu} {w w' : World} (hm : More μ μ') (hg : Grows w w') : ∀ (a : AV) (v : Value), rel ρ μ w a v → rel ρ μ' w' a v
  | .lit v, v', h => by unfold rel at h ⊢; exact h
  | .ptr b off, v', h => by
    unfold rel at h ⊢
    obtain ⟨r, base, h1, h2⟩ := h
    exact ⟨r, base, hm _ _ h1, h2⟩
  | .sl b off len cap, v', h => by
    unfold rel at h ⊢
    rcases h with ⟨r, base, o, c, h1, h2, h3, h4⟩ | h
    · exact .inl ⟨r, base, o, c, hm _ _ h1, h2, h3, h4.mono hg⟩
    · exact .inr h
  | .mp b, v', h => by
    unfold rel at h ⊢
    obtain ⟨r, h1, h2⟩ := h
    exact ⟨r, hm _ _ h1, h2⟩
  | .agg l, v', h => by
    unfold rel at h ⊢
    obtain ⟨l', h1, h2⟩ := h
    exact ⟨l', h1, rels.mono hm hg l l' h2⟩
  | .tup l, v', h => by
    unfold rel at h ⊢
    obtain ⟨l', h1, h2⟩ := h
    exact ⟨l', h1, rels.mono hm hg l l' h2⟩
  | .ifc t v, v', h => by
    unfold rel at h ⊢
    obtain ⟨u, h1, h2⟩ := h
    exact ⟨u, h1, rel.mono hm hg v u h2⟩
  | .fn f first caps, v', h => by
    unfold rel at h ⊢
    obtain ⟨f', a, b, h1, h2, h3, h4⟩ := h
    exact ⟨f', a, b, h1, h2.mono hm, rels.mono hm hg first a h3, rels.mono hm hg caps b h4⟩
  | .ext i, v', h => by unfold rel at h ⊢; exact h
  | .rng i lo hi, v', h => by unfold rel at h ⊢; exact h
  | .any, v', h => by unfold rel at h ⊢; exact h
theorem rels.mono {μ μ' : Mu} {w w' : World} (hm : More μ μ') (hg : Grows w w') : ∀ (l : List AV) (l' : List Value), rels ρ μ w l l' → rels ρ μ' w' l l'
  | [], l', h => by unfold rels at h ⊢; exact h
  | x :: xs, l', h => by
    unfold rels at h ⊢
    obtain ⟨v, vs, h1, h2, h3⟩ := h
    exact ⟨v, vs, h1, rel.mono hm hg x v h2, rels.mono hm hg xs vs h3⟩
end
section
variable {μ : Mu} {w : World}
theorem rels_nil : rels ρ μ w [] [] := by unfold rels; rfl
theorem rels_cons {x : AV} {v : Value} {xs : List AV} {vs : List Value} (h : rel ρ μ w x v) (k : rels ρ μ w xs vs) : rels ρ μ w (x :: xs) (v :: vs) := by
  unfold rels
  exact ⟨v, vs, rfl, h, k⟩
theorem rels_cons_inv {x : AV} {xs : List AV} {l' : List Value} (h : rels ρ μ w (x :: xs) l') : ∃ v vs, l' = v :: vs ∧ rel ρ μ w x v ∧ rels ρ μ w xs vs := by
  unfold rels at h
  exact h
theorem rels_nil_inv {l' : List Value} (h : rels ρ μ w [] l') : l' = [] := by
  unfold rels at h
  exact h
theorem rels_length : ∀ {l : List AV} {l' : List Value}, rels ρ μ w l l' → l'.length = l.length
  | [], l', h => by rw [rels_nil_inv h]; rfl
  | x :: xs, l', h => by
    obtain ⟨v, vs, rfl, _, h2⟩ := rels_cons_inv h
    rw [List.length_cons, List.length_cons, rels_length h2]
theorem rels_get : ∀ {l : List AV} {l' : List Value} {i : Nat} {x : AV}, rels ρ μ w l l' → l[i]? = some x → ∃ v, l'[i]? = some v ∧ rel ρ μ w x v
  | [], l', i, x, h, hx => by simp at hx
  | y :: ys, l', i, x, h, hx => by
    obtain ⟨v, vs, rfl, h1, h2⟩ := rels_cons_inv h
    cases i with
    | zero => simp only [List.getElem?_cons_zero, Option.some.injEq] at hx; subst hx; exact ⟨v, rfl, h1⟩
    | succ i => simp only [List.getElem?_cons_succ] at hx ⊢; exact rels_get h2 hx
theorem rels_of_get : ∀ {l : List AV} {l' : List Value}, l'.length = l.length → (∀ (i : Nat) (x : AV), l[i]? = some x → ∃ v, l'[i]? = some v ∧ rel ρ μ w x v) → rels ρ μ w l l'
  | [], l', hl, _ => by rw [List.eq_nil_of_length_eq_zero hl]; exact rels_nil
  | x :: xs, l', hl, h => by
    cases l' with
    | nil => simp at hl
    | cons v vs =>
      obtain ⟨u, h1, h2⟩ := h 0 x rfl
      simp only [List.getElem?_cons_zero, Option.some.injEq] at h1
      subst h1
      exact rels_cons h2 (rels_of_get (by simpa using hl) (fun i y hy => by
        obtain ⟨u, h3, h4⟩ := h (i + 1) y (by simpa using hy)
        exact ⟨u, by simpa using h3, h4⟩))
theorem rels_append {l m : List AV} {l' m' : List Value} (h : rels ρ μ w l l') (k : rels ρ μ w m m') : rels ρ μ w (l ++ m) (l' ++ m') := by
  induction l generalizing l' with
  | nil => rw [rels_nil_inv h]; exact k
  | cons x xs ih =>
    obtain ⟨v, vs, rfl, h1, h2⟩ := rels_cons_inv h
    exact rels_cons h1 (ih h2)
theorem rels_take {l : List AV} {l' : List Value} (n : Nat) (h : rels ρ μ w l l') : rels ρ μ w (l.take n) (l'.take n) := by
  induction l generalizing l' n with
  | nil => rw [rels_nil_inv h]; simp; exact rels_nil
  | cons x xs ih =>
    obtain ⟨v, vs, rfl, h1, h2⟩ := rels_cons_inv h
    cases n with
    | zero => exact rels_nil
    | succ n => exact rels_cons h1 (ih n h2)
theorem rels_drop {l : List AV} {l' : List Value} (n : Nat) (h : rels ρ μ w l l') : rels ρ μ w (l.drop n) (l'.drop n) := by
  induction l generalizing l' n with
  | nil => rw [rels_nil_inv h]; simp; exact rels_nil
  | cons x xs ih =>
    obtain ⟨v, vs, rfl, h1, h2⟩ := rels_cons_inv h
    cases n with
    | zero => exact rels_cons h1 h2
    | succ n => exact ih n h2
theorem rels_set {l : List AV} {l' : List Value} (i : Nat) {x : AV} {v : Value} (h : rels ρ μ w l l') (hx : rel ρ μ w x v) : rels ρ μ w (l.set i x) (l'.set i v) := by
  induction l generalizing l' i with
  | nil => rw [rels_nil_inv h]; exact rels_nil
  | cons y ys ih =>
    obtain ⟨u, us, rfl, h1, h2⟩ := rels_cons_inv h
    cases i with
    | zero => exact rels_cons hx h2
    | succ i => exact rels_cons h1 (ih i h2)
theorem rels_replicate (n : Nat) {x : AV} {v : Value} (hx : rel ρ μ w x v) : rels ρ μ w (List.replicate n x) (List.replicate n v) := by
  induction n with
  | zero => exact rels_nil
  | succ n ih => exact rels_cons hx ih
theorem rel_undef : rel ρ μ w aundef undef := by
  unfold aundef rel
  exact ⟨[], rfl, rels_nil⟩
theorem rels_getD {l : List AV} {l' : List Value} (i : Nat) (h : rels ρ μ w l l') : rel ρ μ w (l.getD i aundef) (l'.getD i undef) := by
  rw [List.getD_eq_getElem?_getD, List.getD_eq_getElem?_getD]
  cases hx : l[i]? with
  | none =>
    have : l'[i]? = none := by
      rw [List.getElem?_eq_none_iff] at hx ⊢
      rw [rels_length h]
      exact hx
    rw [this]
    exact rel_undef
  | some x =>
    obtain ⟨v, h1, h2⟩ := rels_get h hx
    rw [h1]
    exact h2
/-! Plain values. -/
theorem ofScal_rel {v : Value} {a : AV} (h : ofScal v = some a) : rel ρ μ w a v := by
  unfold ofScal at h
  split at h
  · obtain rfl := Option.some.inj h
    unfold rel
    exact ⟨rfl, by assumption⟩
  · cases h
theorem ofScals_rel : ∀ {l : List Value} {xs : List AV}, ofScals l = some xs → rels ρ μ w xs l
  | [], xs, h => by simp only [ofScals, Option.some.injEq] at h; subst h; exact rels_nil
  | v :: r, xs, h => by
    unfold ofScals at h
    split at h
    · rename_i x y hx hy
      obtain rfl := Option.some.inj h
      exact rels_cons (ofScal_rel hx) (ofScals_rel hy)
    · cases h
theorem ofVal1_rel {v : Value} {a : AV} (h : ofVal1 v = some a) : rel ρ μ w a v := by
  unfold ofVal1 at h
  split at h
  · rename_i cs
    simp only [Option.map_eq_some_iff] at h
    obtain ⟨l, h1, rfl⟩ := h
    unfold rel
    exact ⟨cs.toList, by simp, ofScals_rel h1⟩
  · exact ofScal_rel h
theorem ofVal1s_rel : ∀ {l : List Value} {xs : List AV}, ofVal1s l = some xs → rels ρ μ w xs l
  | [], xs, h => by simp only [ofVal1s, Option.some.injEq] at h; subst h; exact rels_nil
  | v :: r, xs, h => by
    unfold ofVal1s at h
    split at h
    · rename_i x y hx hy
      obtain rfl := Option.some.inj h
      exact rels_cons (ofVal1_rel hx) (ofVal1s_rel hy)
    · cases h
theorem ofVal_rel {v : Value} {a : AV} (h : ofVal v = some a) : rel ρ μ w a v := by
  unfold ofVal at h
  split at h
  · rename_i vs
    simp only [Option.map_eq_some_iff] at h
    obtain ⟨l, h1, rfl⟩ := h
    unfold rel
    exact ⟨vs.toList, by simp, ofVal1s_rel h1⟩
  · rename_i t u
    simp only [Option.map_eq_some_iff] at h
    obtain ⟨x, h1, rfl⟩ := h
    unfold rel
    exact ⟨u, rfl, ofVal1_rel h1⟩
  · exact ofVal1_rel h
theorem toScals_rel : ∀ {l : List AV} {vs l' : List Value}, toScals l = some vs → rels ρ μ w l l' → l' = vs
  | [], vs, l', h, k => by simp only [toScals, Option.some.injEq] at h; subst h; exact rels_nil_inv k
  | x :: r, vs, l', h, k => by
    cases x <;> simp only [toScals, Option.map_eq_some_iff, reduceCtorEq] at h
    obtain ⟨us, h1, rfl⟩ := h
    obtain ⟨u, us', rfl, k1, k2⟩ := rels_cons_inv k
    unfold rel at k1
    rw [k1.1, toScals_rel h1 k2]
theorem toScals_scal : ∀ {l : List AV} {vs l' : List Value}, toScals l = some vs → rels ρ μ w l l' → ∀ x ∈ vs, scal x = true
  | [], vs, l', h, k => by simp only [toScals, Option.some.injEq] at h; subst h; intro x hx; cases hx
  | x :: r, vs, l', h, k => by
    cases x <;> simp only [toScals, Option.map_eq_some_iff, reduceCtorEq] at h
    obtain ⟨us, h1, rfl⟩ := h
    obtain ⟨u, us', rfl, k1, k2⟩ := rels_cons_inv k
    unfold rel at k1
    intro y hy
    rcases List.mem_cons.1 hy with rfl | hy
    · exact k1.2
    · exact toScals_scal h1 k2 y hy
theorem toVal_rel {a : AV} {v v' : Value} (h : toVal a = some v) (k : rel ρ μ w a v') : v' = v := by
  unfold toVal at h
  split at h
  · obtain rfl := Option.some.inj h
    unfold rel at k
    exact k.1
  · simp only [Option.map_eq_some_iff] at h
    obtain ⟨l, h1, rfl⟩ := h
    unfold rel at k
    obtain ⟨l', rfl, k2⟩ := k
    rw [toScals_rel h1 k2]
  · obtain rfl := Option.some.inj h
    unfold rel at k
    obtain ⟨u, rfl, k2⟩ := k
    unfold rel at k2
    rw [k2.1]
  · simp only [Option.map_eq_some_iff] at h
    obtain ⟨l, h1, rfl⟩ := h
    unfold rel at k
    obtain ⟨u, rfl, k2⟩ := k
    unfold rel at k2
    obtain ⟨l', rfl, k3⟩ := k2
    rw [toScals_rel h1 k3]
  · cases h
theorem rel_lit {v : Value} (h : scal v = true) : rel ρ μ w (.lit v) v := by
  unfold rel
  exact ⟨rfl, h⟩
theorem rel_cells {a : AV} {v : Value} (h : rel ρ μ w a v) : rels ρ μ w a.cells v.cells.toList := by
  cases a with
  | agg l =>
    unfold rel at h
    obtain ⟨l', rfl, h2⟩ := h
    simpa [AV.cells, Value.cells] using h2
  | lit x =>
    have h' := h
    unfold rel at h
    obtain ⟨rfl, h2⟩ := h
    have : v.cells = #[v] := by cases v <;> first | rfl | (simp [scal] at h2)
    rw [this]
    exact rels_cons h' rels_nil
  | ptr b off =>
    have h' := h
    unfold rel at h
    obtain ⟨r, base, _, rfl⟩ := h
    exact rels_cons h' rels_nil
  | sl b off len cap =>
    have h' := h
    unfold rel at h
    rcases h with ⟨r, base, o, c, _, rfl, _⟩ | ⟨_, _, a, rfl⟩ <;> exact rels_cons h' rels_nil
  | mp b =>
    have h' := h
    unfold rel at h
    obtain ⟨r, _, rfl⟩ := h
    exact rels_cons h' rels_nil
  | tup l =>
    have h' := h
    unfold rel at h
    obtain ⟨l', rfl, _⟩ := h
    exact rels_cons h' rels_nil
  | ifc t x =>
    have h' := h
    unfold rel at h
    obtain ⟨u, rfl, _⟩ := h
    exact rels_cons h' rels_nil
  | fn f a b =>
    have h' := h
    unfold rel at h
    obtain ⟨f', x, y, rfl, _⟩ := h
    exact rels_cons h' rels_nil
  | ext i =>
    have h' := h
    unfold rel at h
    obtain ⟨rfl, h2⟩ := h
    have : (ρ i).cells = #[ρ i] := by generalize ρ i = v at h2; cases v <;> first | rfl | (cases h2)
    rw [this]
    exact rels_cons h' rels_nil
  | any =>
    have h' := h
    unfold rel at h
    have : v.cells = #[v] := by cases v <;> first | rfl | (cases h)
    rw [this]
    exact rels_cons h' rels_nil
  | rng i lo hi =>
    have h' := h
    unfold rel at h
    obtain ⟨_, n, rfl, _⟩ := h
    exact rels_cons h' rels_nil
theorem rel_one {a : AV} {v : Value} (h : rel ρ μ w a v) (ho : a.one = true) : v.oneCell' = true := by
  cases a with
  | agg l => cases ho
  | tup l => cases ho
  | lit x =>
    unfold rel at h
    obtain ⟨rfl, h2⟩ := h
    cases v <;> first | rfl | (simp [scal] at h2)
  | ptr b off =>
    unfold rel at h
    obtain ⟨r, base, _, rfl⟩ := h
    rfl
  | sl b off len cap =>
    unfold rel at h
    rcases h with ⟨r, base, o, c, _, rfl, _⟩ | ⟨_, _, a, rfl⟩ <;> rfl
  | mp b =>
    unfold rel at h
    obtain ⟨r, _, rfl⟩ := h
    rfl
  | ifc t x =>
    unfold rel at h
    obtain ⟨u, rfl, _⟩ := h
    rfl
  | fn f a b =>
    unfold rel at h
    obtain ⟨f', x, y, rfl, _⟩ := h
    rfl
  | ext i =>
    unfold rel at h
    exact h.2
  | rng i lo hi =>
    unfold rel at h
    obtain ⟨_, n, rfl, _⟩ := h
    rfl
  | any =>
    unfold rel at h
    exact h
end
end Go.Proofs.YtohbdgddnkoenaaGreat.Ex
end

section

set_option linter.unusedSimpArgs false
set_option linter.unusedVariables false
namespace Go.Proofs.YtohbdgddnkoenaaGreat.Ex
open Go Go.RowKit
variable {P : Program} {ρ : Nat → Value}
def live : AB → Bool
  | .gone => false
  | _ => true
/-- May a block be written? -/
def wr : AB → Bool
  | .gone => false
  | .frz .. => false
  | _ => true
theorem wr_live {ab : AB} (h : wr ab = true) : live ab = true := by cases ab <;> first | rfl | cases h
theorem wr_false {ab : AB} (h : wr ab = false) : ab = .gone ∨ ∃ l e, ab = .frz l e := by
  cases ab <;> first | exact .inl rfl | exact .inr ⟨_, _, rfl⟩ | cases h
def entRel (ρ : Nat → Value) (μ : Mu) (w : World) (a : AE) (e : MapEntry) : Prop := e.key = a.key ∧ keyV a.key = true ∧ rel ρ μ w a.val e.val ∧ e.born = a.born
def entsRel (ρ : Nat → Value) (μ : Mu) (w : World) : List AE → List MapEntry → Prop
  | [], l => l = []
  | a :: r, l => ∃ e es, l = e :: es ∧ entRel ρ μ w a e ∧ entsRel ρ μ w r es
def loopRel (ρ : Nat → Value) (μ : Mu) (w : World) (a : ALoop) (l : Loop) : Prop :=
  l.state = a.state ∧ l.pending = a.pending ∧ l.fn = a.fn ∧ rels ρ μ w a.tmps.L l.tmps.toList ∧ l.params.toList = a.params ∧ l.assign = a.assign ∧ l.body = a.body
/-- The cells of a window. -/
def window (ρ : Nat → Value) (μ : Mu) (w : World) (base : Nat) (l : List AV) (cur : Array Value) : Prop :=
  base + l.length ≤ cur.size ∧ ∀ (i : Nat) (x : AV), l[i]? = some x → ∃ v, cur[base + i]? = some v ∧ rel ρ μ w x v
/-- Is it the type of a block that no slice is cut of? -/
def bigT (P : Program) (e : TypeId) : Bool := Nat.blt 200 (((P.info? e).map (·.size)).getD 0) || bldZ ((((P.info? e).bind (·.zero)).bind ofVal1).getD (.tup []))
def objRel (P : Program) (ρ : Nat → Value) (μ : Mu) (w : World) (base : Nat) : AB → Obj → Prop
  | .cells l e, o => ∃ cur, o = .cells cur e (0, 0) ∧ window ρ μ w base l cur ∧ (bigT P e = true → base = 0 ∧ cur.size = l.length)
  | .frz l e, o => ∃ cur fz, o = .cells cur e fz ∧ window ρ μ w base l cur
  | .map es clock, o => ∃ es', o = .map es' clock ∧ base = 0 ∧ entsRel ρ μ w es es'.toList
  | .loop a, o => ∃ l, o = .loop l ∧ base = 0 ∧ loopRel ρ μ w a l
  | .iter m since seen last, o => base = 0 ∧ ∃ m', o = .mapIter m' since seen.toArray last ∧ (match m with | none => m' = none | some b => ∃ r, μ b = some (r, 0) ∧ m' = some r)
  | .siter s pos, o => o = .stringIter s pos ∧ base = 0
  | .defd, o => o = .deferred (some []) ∧ base = 0
  | .gone, _ => True
section
variable {μ μ' : Mu} {w w' : World}
theorem entsRel.mono (hm : More μ μ') (hg : Grows w w') : ∀ {l : List AE} {l' : List MapEntry}, entsRel ρ μ w l l' → entsRel ρ μ' w' l l'
  | [], l', h => h
  | a :: r, l', h => by
    obtain ⟨e, es, rfl, ⟨h1, h2, h3, h4⟩, h5⟩ := h
    exact ⟨e, es, rfl, ⟨h1, h2, rel.mono hm hg _ _ h3, h4⟩, entsRel.mono hm hg h5⟩
theorem window.mono (hm : More μ μ') (hg : Grows w w') {base : Nat} {l : List AV} {cur : Array Value} (h : window ρ μ w base l cur) : window ρ μ' w' base l cur :=
  ⟨h.1, fun i x hx => let ⟨v, h1, h2⟩ := h.2 i x hx; ⟨v, h1, rel.mono hm hg _ _ h2⟩⟩
theorem objRel.mono (hm : More μ μ') (hg : Grows w w') {base : Nat} {ab : AB} {o : Obj} (h : objRel P ρ μ w base ab o) : objRel P ρ μ' w' base ab o := by
  cases ab with
  | cells l e => obtain ⟨cur, h1, h2, h3⟩ := h; exact ⟨cur, h1, h2.mono hm hg, h3⟩
  | frz l e => obtain ⟨cur, fz, h1, h2⟩ := h; exact ⟨cur, fz, h1, h2.mono hm hg⟩
  | map es clock => obtain ⟨es', h1, h2, h3⟩ := h; exact ⟨es', h1, h2, h3.mono hm hg⟩
  | loop a => obtain ⟨l, h1, h0, h2, h3, h4, h5, h6, h7, h8⟩ := h; exact ⟨l, h1, h0, h2, h3, h4, rels.mono hm hg _ _ h5, h6, h7, h8⟩
  | iter m since seen last =>
    obtain ⟨h0, m', h1, h2⟩ := h
    refine ⟨h0, m', h1, ?_⟩
    cases m with
    | none => exact h2
    | some b => obtain ⟨r, h3, h4⟩ := h2; exact ⟨r, hm _ _ h3, h4⟩
  | siter s pos => exact h
  | defd => exact h
  | gone => trivial
end
/-- Where block 1 lies, if the values from outside say so (a package-level variable's row). -/
def PinOf (ρ : Nat → Value) (μ : Mu) (w : World) : Prop := ∀ r : Int, ρ 1000000 = .int .i64 r → μ 1 = some (r.toNat, 0) ∧ ∃ cur e fz, w.heap[r.toNat]? = some (.cells cur e fz) ∧ ρ 1000001 = .int .i64 cur.size
theorem PinOf.more {ρ : Nat → Value} {μ μ' : Mu} {w w' : World} (h : PinOf ρ μ w) (hm : More μ μ') (hg : Grows w w') : PinOf ρ μ' w' := fun r hr => by
  obtain ⟨h1, cur, e, fz, h2, h3⟩ := h r hr
  obtain ⟨cur', e', fz', h4, h5⟩ := hg _ _ _ _ h2
  exact ⟨hm _ _ h1, cur', e', fz', h4, by rw [h5]; exact h3⟩
structure HRL (P : Program) (ρ : Nat → Value) (fl : Nat) (μ : Mu) (h : List AB) (w : World) : Prop where
  floor : fl ≤ w.heap.size
  dom : ∀ b x, μ b = some x → b < h.length
  obj : ∀ (b r base : Nat) (ab : AB), μ b = some (r, base) → h[b]? = some ab → (wr ab = true → fl ≤ r) ∧ r < w.heap.size ∧ ∃ o, w.heap[r]? = some o ∧ objRel P ρ μ w base ab o
  inj : ∀ (b b' r base base' : Nat) (ab ab' : AB), μ b = some (r, base) → μ b' = some (r, base') → h[b]? = some ab → h[b']? = some ab' → wr ab = true → live ab' = true → b = b'
  pin : PinOf ρ μ w
structure EffL (P : Program) (ρ : Nat → Value) (fl : Nat) (μ : Mu) (h : List AB) (w : World) (μ' : Mu) (h' : List AB) (w' : World) : Prop where
  more : More μ μ'
  len : h.length ≤ h'.length
  new : ∀ b x, μ b = none → μ' b = some x → h.length ≤ b
  keep : ∀ b, b < h.length → μ b = none → h'[b]? = h[b]?
  gone : ∀ b : Nat, h[b]? = some .gone → h'[b]? = some .gone
  frz : ∀ (b : Nat) (l : List AV) (e : TypeId), h[b]? = some (.frz l e) → h'[b]? = some (.frz l e)
  grows : Grows w w'
  size : w.heap.size ≤ w'.heap.size
  own : ∀ b r base, μ b = none → μ' b = some (r, base) → w.heap.size ≤ r ∨ ∃ (b0 base0 : Nat) (ab : AB), μ b0 = some (r, base0) ∧ h[b0]? = some ab ∧ wr ab = true
  rest : ∀ r, r < w.heap.size → (∀ (b base : Nat) (ab : AB), μ b = some (r, base) → h[b]? = some ab → wr ab = false) → w'.heap[r]? = w.heap[r]?
  same : w'.tape = w.tape ∧ w'.os = w.os ∧ w'.output = w.output
  hr : HRL P ρ fl μ' h' w'
theorem EffL.refl {fl : Nat} {μ : Mu} {h : List AB} {w : World} (hr : HRL P ρ fl μ h w) : EffL P ρ fl μ h w μ h w :=
  ⟨More.refl μ, Nat.le_refl _, fun b x h1 h2 => (by rw [h1] at h2; cases h2), fun _ _ _ => rfl, fun _ h => h, fun _ _ _ h => h, Grows.refl w, Nat.le_refl _, fun b r base h1 h2 => (by rw [h1] at h2; cases h2), fun _ _ _ => rfl, ⟨rfl, rfl, rfl⟩, hr⟩
/-- Draws change nothing. -/
theorem EffL.drew {fl : Nat} {μ : Mu} {h : List AB} {w : World} (hr : HRL P ρ fl μ h w) (n : Nat) : EffL P ρ fl μ h w μ h (w.drewN n) := by
  have hg : Grows w (w.drewN n) := fun r cur e fz h => ⟨cur, e, fz, h, rfl⟩
  exact ⟨More.refl μ, Nat.le_refl _, fun b x h1 h2 => (by rw [h1] at h2; cases h2), fun _ _ _ => rfl, fun _ h => h, fun _ _ _ h => h, hg, Nat.le_refl _, fun b r base h1 h2 => (by rw [h1] at h2; cases h2), fun _ _ _ => rfl, ⟨rfl, rfl, rfl⟩,
    ⟨hr.floor, hr.dom, fun b r base ab h1 h2 => let ⟨h3, h4, o, h5, h6⟩ := hr.obj b r base ab h1 h2; ⟨h3, h4, o, h5, h6.mono (More.refl μ) hg⟩, hr.inj, hr.pin.more (More.refl μ) hg⟩⟩
theorem live_false {ab : AB} (h : live ab = false) : ab = .gone := by
  cases ab <;> first | rfl | cases h
theorem EffL.nowr {fl : Nat} {μ μ1 : Mu} {h h1 : List AB} {w w1 : World} (a : EffL P ρ fl μ h w μ1 h1 w1) {b : Nat} {ab : AB} (hb : h[b]? = some ab) (hw : wr ab = false) : h1[b]? = some ab := by
  rcases wr_false hw with rfl | ⟨l, e, rfl⟩
  · exact a.gone b hb
  · exact a.frz b l e hb
theorem EffL.trans {fl : Nat} {μ μ1 μ2 : Mu} {h h1 h2 : List AB} {w w1 w2 : World} (hr : HRL P ρ fl μ h w) (a : EffL P ρ fl μ h w μ1 h1 w1) (b : EffL P ρ fl μ1 h1 w1 μ2 h2 w2) : EffL P ρ fl μ h w μ2 h2 w2 := by
  refine ⟨a.more.trans b.more, Nat.le_trans a.len b.len, fun c x hc hx => ?_, fun c hc hn => ?_, fun c hc => b.gone c (a.gone c hc), fun c l e hc => b.frz c l e (a.frz c l e hc), a.grows.trans b.grows, Nat.le_trans a.size b.size, fun c r base hc hx => ?_, fun r hr1 hno => ?_, ?_, b.hr⟩
  · cases h3 : μ1 c with
    | some y => exact a.new c y hc h3
    | none => exact Nat.le_trans a.len (b.new c x h3 hx)
  · have h3 : μ1 c = none := by
      cases h4 : μ1 c with
      | none => rfl
      | some y => exact absurd (a.new c y hn h4) (by omega)
    rw [b.keep c (Nat.lt_of_lt_of_le hc a.len) h3, a.keep c hc hn]
  · cases h3 : μ1 c with
    | some y =>
      have h4 := b.more c y h3
      rw [hx] at h4
      obtain rfl := Option.some.inj h4
      exact a.own c r base hc h3
    | none =>
      rcases b.own c r base h3 hx with h4 | ⟨b0, base0, ab, h5, h6, h7⟩
      · exact .inl (Nat.le_trans a.size h4)
      · cases h8 : μ b0 with
        | some y =>
          have h9 := a.more b0 y h8
          rw [h5] at h9
          obtain rfl := Option.some.inj h9
          have hd := hr.dom b0 _ h8
          have hx2 : h[b0]? = some h[b0] := List.getElem?_eq_getElem hd
          refine .inr ⟨b0, base0, h[b0], h8, hx2, ?_⟩
          cases hl : wr h[b0] with
          | true => rfl
          | false =>
            rw [a.nowr hx2 hl] at h6
            obtain rfl := Option.some.inj h6
            rw [hl] at h7
            cases h7
        | none => exact a.own b0 r base0 h8 h5
  · have e1 := a.rest r hr1 hno
    rw [← e1]
    refine b.rest r (Nat.lt_of_lt_of_le hr1 a.size) (fun c base ab hc hab => ?_)
    cases h3 : μ c with
    | some y =>
      have h4 := a.more c y h3
      rw [hc] at h4
      obtain rfl := Option.some.inj h4
      have hd := hr.dom c _ h3
      have hx2 : h[c]? = some h[c] := List.getElem?_eq_getElem hd
      have hl := hno c base _ h3 hx2
      rw [a.nowr hx2 hl] at hab
      obtain rfl := Option.some.inj hab
      exact hl
    | none =>
      rcases a.own c r base h3 hc with h4 | ⟨b0, base0, ab0, h5, h6, h7⟩
      · omega
      · rw [hno b0 base0 ab0 h5 h6] at h7
        cases h7
  · exact ⟨b.same.1.trans a.same.1, b.same.2.1.trans a.same.2.1, b.same.2.2.trans a.same.2.2⟩
def up (μ : Mu) (b : Nat) (x : Nat × Nat) : Mu := fun c => if c = b then some x else μ c
theorem up_same (μ : Mu) (b : Nat) (x : Nat × Nat) : up μ b x b = some x := by simp [up]
theorem up_ne {μ : Mu} {b c : Nat} {x : Nat × Nat} (h : c ≠ b) : up μ b x c = μ c := by simp [up, h]
theorem more_up {μ : Mu} {b : Nat} {x : Nat × Nat} (h : μ b = none) : More μ (up μ b x) := fun c y hc => by
  by_cases hcb : c = b
  · subst hcb
    rw [h] at hc
    cases hc
  · rw [up_ne hcb]
    exact hc
theorem grows_alloc (w : World) (o : Obj) : Grows w (w.alloc o) := fun r cur e fz h => ⟨cur, e, fz, by rw [Below.heap_alloc w o r (lt_in h)]; exact h, rfl⟩
/-- A new block. -/
theorem EffL.alloc {fl : Nat} {μ : Mu} {h : List AB} {w : World} (hr : HRL P ρ fl μ h w) {ab : AB} {o : Obj} (ho : objRel P ρ μ w 0 ab o) : EffL P ρ fl μ h w (up μ h.length (w.heap.size, 0)) (h ++ [ab]) (w.alloc o) := by
  have hn : μ h.length = none := by
    cases hx : μ h.length with
    | none => rfl
    | some x => exact absurd (hr.dom _ _ hx) (by omega)
  have hm : More μ (up μ h.length (w.heap.size, 0)) := more_up hn
  have hg := grows_alloc w o
  have hs : (w.alloc o).heap.size = w.heap.size + 1 := by simp
  refine ⟨hm, by simp, fun b x h1 h2 => ?_, fun b hb _ => List.getElem?_append_left hb, fun b hb => ?_, fun b l e hb => (by rw [List.getElem?_append_left (List.getElem?_eq_some_iff.1 hb).1]; exact hb), hg, by omega, fun b r base h1 h2 => ?_, fun r h1 _ => Below.heap_alloc w o r h1, ⟨rfl, rfl, rfl⟩, ?_⟩
  · by_cases hb : b = h.length
    · omega
    · rw [up_ne hb, h1] at h2
      cases h2
  · rw [List.getElem?_append_left (List.getElem?_eq_some_iff.1 hb).1]
    exact hb
  · by_cases hb : b = h.length
    · subst hb
      rw [up_same] at h2
      simp only [Option.some.injEq, Prod.mk.injEq] at h2
      exact .inl (by omega)
    · rw [up_ne hb, h1] at h2
      cases h2
  · refine ⟨by have := hr.floor; omega, fun b x hb => ?_, fun b r base ab' h1 h2 => ?_, fun b b' r base base' ab1 ab2 h1 h2 h3 h4 h5 h6 => ?_, hr.pin.more hm hg⟩
    · by_cases hbb : b = h.length
      · simp [hbb]
      · rw [up_ne hbb] at hb
        have := hr.dom b x hb
        simp
        omega
    · by_cases hbb : b = h.length
      · subst hbb
        rw [up_same] at h1
        simp only [Option.some.injEq, Prod.mk.injEq] at h1
        obtain ⟨rfl, rfl⟩ := h1
        rw [List.getElem?_append_right (Nat.le_refl _), Nat.sub_self] at h2
        simp only [List.getElem?_cons_zero, Option.some.injEq] at h2
        subst h2
        exact ⟨fun _ => hr.floor, by omega, o, heap_alloc_new' w o, ho.mono hm hg⟩
      · rw [up_ne hbb] at h1
        rw [List.getElem?_append_left (hr.dom b _ h1)] at h2
        obtain ⟨h3, h4, o', h5, h6⟩ := hr.obj b r base ab' h1 h2
        exact ⟨h3, by omega, o', by rw [Below.heap_alloc w o r h4]; exact h5, h6.mono hm hg⟩
    · by_cases hbb : b = h.length
      · by_cases hbb' : b' = h.length
        · omega
        · rw [up_ne hbb'] at h2
          rw [hbb, up_same] at h1
          simp only [Option.some.injEq, Prod.mk.injEq] at h1
          have hd := hr.dom b' _ h2
          rw [List.getElem?_append_left hd] at h4
          have := (hr.obj b' r base' ab2 h2 h4).2.1
          omega
      · rw [up_ne hbb] at h1
        have hd := hr.dom b _ h1
        rw [List.getElem?_append_left hd] at h3
        by_cases hbb' : b' = h.length
        · rw [hbb', up_same] at h2
          simp only [Option.some.injEq, Prod.mk.injEq] at h2
          have := (hr.obj b r base ab1 h1 h3).2.1
          omega
        · rw [up_ne hbb'] at h2
          rw [List.getElem?_append_left (hr.dom b' _ h2)] at h4
          exact hr.inj b b' r base base' ab1 ab2 h1 h2 h3 h4 h5 h6
/-- The real world changed in one block alone. -/
structure One (r : Nat) (w w' : World) : Prop where
  size : w'.heap.size = w.heap.size
  other : ∀ k, k ≠ r → w'.heap[k]? = w.heap[k]?
  grows : Grows w w'
  same : w'.tape = w.tape ∧ w'.os = w.os ∧ w'.output = w.output
/-- A live block becomes another one. -/
theorem EffL.upd {fl : Nat} {μ : Mu} {h : List AB} {w w' : World} (hr : HRL P ρ fl μ h w) {b r base : Nat} {ab ab' : AB} {o' : Obj} (hb : μ b = some (r, base)) (hab : h[b]? = some ab) (hl : wr ab = true)
    (hw : One r w w') (ho : w'.heap[r]? = some o') (hrel : objRel P ρ μ w' base ab' o') : EffL P ρ fl μ h w μ (h.set b ab') w' := by
  have hlt := (List.getElem?_eq_some_iff.1 hab).1
  refine ⟨More.refl μ, by simp, fun c x h1 h2 => (by rw [h1] at h2; cases h2), fun c hc hn => ?_, fun c hc => ?_, fun c l e hc => ?_, hw.grows, by rw [hw.size]; exact Nat.le_refl _, fun c r' base' h1 h2 => (by rw [h1] at h2; cases h2), fun k hk hno => ?_, hw.same, ?_⟩
  · rw [List.getElem?_set_ne (fun e => by rw [e, hn] at hb; cases hb)]
  · by_cases hcb : b = c
    · subst hcb
      rw [hab] at hc
      obtain rfl := Option.some.inj hc
      cases hl
    · rw [List.getElem?_set_ne hcb]
      exact hc
  · by_cases hcb : b = c
    · subst hcb
      rw [hab] at hc
      obtain rfl := Option.some.inj hc
      cases hl
    · rw [List.getElem?_set_ne hcb]
      exact hc
  · exact hw.other k (fun e => by subst e; rw [hno b base ab hb hab] at hl; cases hl)
  · refine ⟨by rw [hw.size]; exact hr.floor, fun c x hc => by rw [List.length_set]; exact hr.dom c x hc, fun c r' base' ac hc hac => ?_, fun c c' r' base1 base2 a1 a2 h1 h2 h3 h4 h5 h6 => ?_, hr.pin.more (More.refl μ) hw.grows⟩
    · by_cases hcb : b = c
      · subst hcb
        rw [hb] at hc
        simp only [Option.some.injEq, Prod.mk.injEq] at hc
        obtain ⟨rfl, rfl⟩ := hc
        rw [List.getElem?_set_self hlt] at hac
        obtain rfl := Option.some.inj hac
        obtain ⟨h3, h4, _⟩ := hr.obj b r base ab hb hab
        exact ⟨fun _ => h3 hl, by rw [hw.size]; exact h4, o', ho, hrel⟩
      · rw [List.getElem?_set_ne hcb] at hac
        obtain ⟨h3, h4, o, h5, h6⟩ := hr.obj c r' base' ac hc hac
        refine ⟨h3, by rw [hw.size]; exact h4, ?_⟩
        cases hl2 : live ac with
        | false =>
          rw [live_false hl2]
          by_cases hk : r' = r
          · subst hk
            exact ⟨o', ho, trivial⟩
          · exact ⟨o, by rw [hw.other r' hk]; exact h5, trivial⟩
        | true =>
          have hk : r' ≠ r := fun e => hcb (by subst e; exact hr.inj b c r' base base' ab ac hb hc hab hac hl hl2)
          exact ⟨o, by rw [hw.other r' hk]; exact h5, h6.mono (More.refl μ) hw.grows⟩
    · have key : ∀ c a, (h.set b ab')[c]? = some a → live a = true → ∃ a0, h[c]? = some a0 ∧ live a0 = true := fun c a hc hla => by
        by_cases hcb : b = c
        · subst hcb
          exact ⟨ab, hab, wr_live hl⟩
        · rw [List.getElem?_set_ne hcb] at hc
          exact ⟨a, hc, hla⟩
      have key2 : ∀ c a, (h.set b ab')[c]? = some a → wr a = true → ∃ a0, h[c]? = some a0 ∧ wr a0 = true := fun c a hc hla => by
        by_cases hcb : b = c
        · subst hcb
          exact ⟨ab, hab, hl⟩
        · rw [List.getElem?_set_ne hcb] at hc
          exact ⟨a, hc, hla⟩
      obtain ⟨b1, q1, q2⟩ := key2 c a1 h3 h5
      obtain ⟨b2, q3, q4⟩ := key c' a2 h4 h6
      exact hr.inj c c' r' base1 base2 b1 b2 h1 h2 q1 q3 q2 q4
/-- A live block is given up, and a new number stands for its real block. -/
theorem EffL.move {fl : Nat} {μ : Mu} {h : List AB} {w w' : World} (hr : HRL P ρ fl μ h w) {b r base base' : Nat} {ab ab' : AB} {o' : Obj} (hb : μ b = some (r, base)) (hab : h[b]? = some ab) (hl : wr ab = true)
    (hw : One r w w') (ho : w'.heap[r]? = some o') (hrel : objRel P ρ μ w' base' ab' o') : EffL P ρ fl μ h w (up μ h.length (r, base')) (h.set b .gone ++ [ab']) w' := by
  have e1 := EffL.upd (ab' := .gone) hr hb hab hl hw ho trivial
  have hlt := (List.getElem?_eq_some_iff.1 hab).1
  have hls : (h.set b .gone).length = h.length := List.length_set
  have hn : μ h.length = none := by
    cases hx : μ h.length with
    | none => rfl
    | some x => exact absurd (hr.dom _ _ hx) (by omega)
  have hm : More μ (up μ h.length (r, base')) := more_up hn
  obtain ⟨f1, f2, _⟩ := hr.obj b r base ab hb hab
  refine ⟨hm, by simp, fun c x h1 h2 => ?_, fun c hc hx => ?_, fun c hc => ?_, fun c l e hc => ?_, hw.grows, e1.size, fun c r' bs h1 h2 => ?_, e1.rest, hw.same, ?_⟩
  · by_cases hcb : c = h.length
    · omega
    · rw [up_ne hcb, h1] at h2
      cases h2
  · rw [List.getElem?_append_left (by omega)]
    exact e1.keep c hc hx
  · have := e1.gone c hc
    rw [List.getElem?_append_left (List.getElem?_eq_some_iff.1 this).1]
    exact this
  · have := e1.frz c l e hc
    rw [List.getElem?_append_left (List.getElem?_eq_some_iff.1 this).1]
    exact this
  · by_cases hcb : c = h.length
    · subst hcb
      rw [up_same] at h2
      simp only [Option.some.injEq, Prod.mk.injEq] at h2
      obtain ⟨rfl, rfl⟩ := h2
      exact .inr ⟨b, base, ab, hb, hab, hl⟩
    · rw [up_ne hcb, h1] at h2
      cases h2
  · refine ⟨e1.hr.floor, fun c x hc => ?_, fun c r' bs ac hc hac => ?_, fun c c' r' b1 b2 a1 a2 h1 h2 h3 h4 h5 h6 => ?_, e1.hr.pin.more hm (Grows.refl _)⟩
    · by_cases hcb : c = h.length
      · simp [hcb]
      · rw [up_ne hcb] at hc
        have := hr.dom c x hc
        simp
        omega
    · by_cases hcb : c = h.length
      · subst hcb
        rw [up_same] at hc
        simp only [Option.some.injEq, Prod.mk.injEq] at hc
        obtain ⟨rfl, rfl⟩ := hc
        rw [List.getElem?_append_right (by omega), hls, Nat.sub_self] at hac
        simp only [List.getElem?_cons_zero, Option.some.injEq] at hac
        subst hac
        exact ⟨fun _ => f1 hl, by rw [hw.size]; exact f2, o', ho, hrel.mono hm (Grows.refl _)⟩
      · rw [up_ne hcb] at hc
        rw [List.getElem?_append_left (by rw [hls]; exact hr.dom c _ hc)] at hac
        obtain ⟨h3, h4, o, h5, h6⟩ := e1.hr.obj c r' bs ac hc hac
        exact ⟨h3, h4, o, h5, h6.mono hm (Grows.refl _)⟩
    · have key : ∀ d bd ad, d ≠ h.length → up μ h.length (r, base') d = some (r', bd) → (h.set b .gone ++ [ab'])[d]? = some ad → live ad = true → r' ≠ r := fun d bd ad hd q1 q2 q3 => by
        rw [up_ne hd] at q1
        rw [List.getElem?_append_left (by rw [hls]; exact hr.dom d _ q1)] at q2
        intro e
        subst e
        by_cases hdb : b = d
        · subst hdb
          rw [List.getElem?_set_self hlt] at q2
          obtain rfl := Option.some.inj q2
          cases q3
        · rw [List.getElem?_set_ne hdb] at q2
          exact hdb (hr.inj b d r' base bd ab ad hb q1 hab q2 hl q3)
      by_cases hc1 : c = h.length
      · by_cases hc2 : c' = h.length
        · omega
        · have := key c' b2 a2 hc2 h2 h4 h6
          rw [hc1, up_same] at h1
          simp only [Option.some.injEq, Prod.mk.injEq] at h1
          exact absurd h1.1.symm this
      · by_cases hc2 : c' = h.length
        · have := key c b1 a1 hc1 h1 h3 (wr_live h5)
          rw [hc2, up_same] at h2
          simp only [Option.some.injEq, Prod.mk.injEq] at h2
          exact absurd h2.1.symm this
        · rw [up_ne hc1] at h1
          rw [up_ne hc2] at h2
          rw [List.getElem?_append_left (by rw [hls]; exact hr.dom c _ h1)] at h3
          rw [List.getElem?_append_left (by rw [hls]; exact hr.dom c' _ h2)] at h4
          exact e1.hr.inj c c' r' b1 b2 a1 a2 h1 h2 h3 h4 h5 h6
/-! The same of the trees. -/
def AH.L (h : AH) : List AB := vL .gone h
theorem L_n (h : AH) : h.L.length = h.n := vL_n _ _
theorem L_at (h : AH) (b : Nat) : h.L[b]? = h.at b := vL_at _ _ _
theorem L_put (h : AH) (b : Nat) (x : AB) : (h.put b x).L = h.L.set b x := vL_put _ _ _ _
theorem L_push (h : AH) (x : AB) : (h.push x).L = h.L ++ [x] := vL_push _ _ _
theorem n_put (h : AH) (b : Nat) (x : AB) : (h.put b x).n = h.n := by rw [← L_n, L_put, List.length_set, L_n]
theorem n_push (h : AH) (x : AB) : (h.push x).n = h.n + 1 := rfl
theorem at_lt {h : AH} {b : Nat} {x : AB} (hx : h.at b = some x) : b < h.n := by
  rw [← L_at] at hx
  rw [← L_n]
  exact (List.getElem?_eq_some_iff.1 hx).1
theorem at_push_lt {h : AH} {b : Nat} (x : AB) (hb : b < h.n) : (h.push x).at b = h.at b := by
  rw [← L_at, L_push, List.getElem?_append_left (by rw [L_n]; exact hb), L_at]
theorem at_push_n (h : AH) (x : AB) : (h.push x).at h.n = some x := by
  rw [← L_at, L_push, List.getElem?_append_right (by rw [L_n]; exact Nat.le_refl _), L_n, Nat.sub_self]
  rfl
theorem at_put_same {h : AH} {b : Nat} (x : AB) (hb : b < h.n) : (h.put b x).at b = some x := by
  rw [← L_at, L_put, List.getElem?_set_self (by rw [L_n]; exact hb)]
theorem at_put_ne {h : AH} {b c : Nat} (x : AB) (hb : b ≠ c) : (h.put b x).at c = h.at c := by
  rw [← L_at, L_put, List.getElem?_set_ne hb, L_at]
theorem nil_at (b : Nat) : AH.nil.at b = none := by rw [← L_at]; rfl
def HR (P : Program) (ρ : Nat → Value) (fl : Nat) (μ : Mu) (h : AH) (w : World) : Prop := HRL P ρ fl μ h.L w
def Eff (P : Program) (ρ : Nat → Value) (fl : Nat) (μ : Mu) (h : AH) (w : World) (μ' : Mu) (h' : AH) (w' : World) : Prop := EffL P ρ fl μ h.L w μ' h'.L w'
section trees
variable {fl : Nat} {μ μ' μ1 μ2 : Mu} {h h' h1 h2 : AH} {w w' w1 w2 : World}
theorem HR.floor (hr : HR P ρ fl μ h w) : fl ≤ w.heap.size := HRL.floor hr
theorem HR.dom (hr : HR P ρ fl μ h w) (b : Nat) (x : Nat × Nat) (hb : μ b = some x) : b < h.n := by rw [← L_n]; exact HRL.dom hr b x hb
theorem HR.obj (hr : HR P ρ fl μ h w) (b r base : Nat) (ab : AB) (hb : μ b = some (r, base)) (hx : h.at b = some ab) : (wr ab = true → fl ≤ r) ∧ r < w.heap.size ∧ ∃ o, w.heap[r]? = some o ∧ objRel P ρ μ w base ab o :=
  HRL.obj hr b r base ab hb (by rw [L_at]; exact hx)
theorem HR.inj (hr : HR P ρ fl μ h w) (b b' r base base' : Nat) (ab ab' : AB) (h1 : μ b = some (r, base)) (h2 : μ b' = some (r, base')) (h3 : h.at b = some ab) (h4 : h.at b' = some ab') (h5 : wr ab = true) (h6 : live ab' = true) : b = b' :=
  HRL.inj hr b b' r base base' ab ab' h1 h2 (by rw [L_at]; exact h3) (by rw [L_at]; exact h4) h5 h6
theorem Eff.more (e : Eff P ρ fl μ h w μ' h' w') : More μ μ' := EffL.more e
theorem Eff.len (e : Eff P ρ fl μ h w μ' h' w') : h.n ≤ h'.n := by rw [← L_n, ← L_n]; exact EffL.len e
theorem Eff.new (e : Eff P ρ fl μ h w μ' h' w') (b : Nat) (x : Nat × Nat) (h1 : μ b = none) (h2 : μ' b = some x) : h.n ≤ b := by rw [← L_n]; exact EffL.new e b x h1 h2
theorem Eff.keep (e : Eff P ρ fl μ h w μ' h' w') (b : Nat) (hb : b < h.n) (hn : μ b = none) : h'.at b = h.at b := by
  rw [← L_at, ← L_at]
  exact EffL.keep e b (by rw [L_n]; exact hb) hn
theorem Eff.gone (e : Eff P ρ fl μ h w μ' h' w') (b : Nat) (hb : h.at b = some .gone) : h'.at b = some .gone := by
  rw [← L_at] at hb ⊢
  exact EffL.gone e b hb
theorem Eff.frz (e : Eff P ρ fl μ h w μ' h' w') (b : Nat) (l : List AV) (t : TypeId) (hb : h.at b = some (.frz l t)) : h'.at b = some (.frz l t) := by
  rw [← L_at] at hb ⊢
  exact EffL.frz e b l t hb
theorem Eff.grows (e : Eff P ρ fl μ h w μ' h' w') : Grows w w' := EffL.grows e
theorem Eff.size (e : Eff P ρ fl μ h w μ' h' w') : w.heap.size ≤ w'.heap.size := EffL.size e
theorem Eff.own (e : Eff P ρ fl μ h w μ' h' w') (b r base : Nat) (h1 : μ b = none) (h2 : μ' b = some (r, base)) : w.heap.size ≤ r ∨ ∃ (b0 base0 : Nat) (ab : AB), μ b0 = some (r, base0) ∧ h.at b0 = some ab ∧ wr ab = true := by
  rcases EffL.own e b r base h1 h2 with h3 | ⟨b0, base0, ab, h3, h4, h5⟩
  · exact .inl h3
  · exact .inr ⟨b0, base0, ab, h3, by rw [← L_at]; exact h4, h5⟩
theorem Eff.rest (e : Eff P ρ fl μ h w μ' h' w') (r : Nat) (hr : r < w.heap.size) (hno : ∀ (b base : Nat) (ab : AB), μ b = some (r, base) → h.at b = some ab → wr ab = false) : w'.heap[r]? = w.heap[r]? :=
  EffL.rest e r hr (fun b base ab h1 h2 => hno b base ab h1 (by rw [← L_at]; exact h2))
theorem Eff.same (e : Eff P ρ fl μ h w μ' h' w') : w'.tape = w.tape ∧ w'.os = w.os ∧ w'.output = w.output := EffL.same e
theorem Eff.hr (e : Eff P ρ fl μ h w μ' h' w') : HR P ρ fl μ' h' w' := EffL.hr e
theorem Eff.refl (hr : HR P ρ fl μ h w) : Eff P ρ fl μ h w μ h w := EffL.refl hr
theorem Eff.drew (hr : HR P ρ fl μ h w) (n : Nat) : Eff P ρ fl μ h w μ h (w.drewN n) := EffL.drew hr n
theorem Eff.trans (hr : HR P ρ fl μ h w) (a : Eff P ρ fl μ h w μ1 h1 w1) (b : Eff P ρ fl μ1 h1 w1 μ2 h2 w2) : Eff P ρ fl μ h w μ2 h2 w2 := EffL.trans hr a b
theorem Eff.alloc (hr : HR P ρ fl μ h w) {ab : AB} {o : Obj} (ho : objRel P ρ μ w 0 ab o) : Eff P ρ fl μ h w (up μ h.n (w.heap.size, 0)) (h.push ab) (w.alloc o) := by
  unfold Eff
  rw [L_push, ← L_n]
  exact EffL.alloc hr ho
theorem Eff.upd (hr : HR P ρ fl μ h w) {b r base : Nat} {ab ab' : AB} {o' : Obj} (hb : μ b = some (r, base)) (hab : h.at b = some ab) (hl : wr ab = true)
    (hw : One r w w') (ho : w'.heap[r]? = some o') (hrel : objRel P ρ μ w' base ab' o') : Eff P ρ fl μ h w μ (h.put b ab') w' := by
  unfold Eff
  rw [L_put]
  exact EffL.upd hr hb (by rw [L_at]; exact hab) hl hw ho hrel
theorem Eff.move (hr : HR P ρ fl μ h w) {b r base base' : Nat} {ab ab' : AB} {o' : Obj} (hb : μ b = some (r, base)) (hab : h.at b = some ab) (hl : wr ab = true)
    (hw : One r w w') (ho : w'.heap[r]? = some o') (hrel : objRel P ρ μ w' base' ab' o') : Eff P ρ fl μ h w (up μ h.n (r, base')) ((h.put b .gone).push ab') w' := by
  unfold Eff
  rw [L_push, L_put, ← L_n]
  exact EffL.move hr hb (by rw [L_at]; exact hab) hl hw ho hrel
/-- A heap that is the same to look at. -/
theorem Eff.alike (e : Eff P ρ fl μ h w μ' h' w') (hh : h'.L = h1.L) : Eff P ρ fl μ h w μ' h1 w' := by
  unfold Eff at e ⊢
  rw [← hh]
  exact e
end trees
end Go.Proofs.YtohbdgddnkoenaaGreat.Ex
end

section

set_option linter.unusedSimpArgs false
set_option linter.unusedVariables false
namespace Go.Proofs.YtohbdgddnkoenaaGreat.Ex
open Go Go.RowKit
structure TT.Sound (P : Program) (T : TT) : Prop where
  und : ∀ t i, T t = some i → P.underlying t = some i.desc
  info : ∀ t i, T t = some i → ∃ info z, P.info? t = some info ∧ info.size = i.size ∧ (info.bytes ≤ i.bytes ∧ (bldZ i.zero = true → 281474976710656 < i.bytes)) ∧ info.zero = some z ∧ ofVal1 z = some i.zero
  ck : ∀ t i v, T t = some i → i.ck v = true → ∀ b, ∃ a, pur P (Instr.checkKey b 10000 t v) = some (.ok a)
  eq : ∀ t i a b r, T t = some i → i.eq a b = some r → pur P (Op.equal t a b) = some (.ok r)
theorem NT.all_has {p : Nat → Bool} {t : Nat} : ∀ {N : NT}, N.all p = true → N.has t = true → p t = true
  | .leaf, _, h => by cases h
  | .node l k r, ha, h => by
    simp only [NT.all, Bool.and_eq_true] at ha
    simp only [NT.has] at h
    cases h1 : Nat.beq t k with
    | true =>
      obtain rfl := Nat.eq_of_beq_eq_true h1
      exact ha.1.1
    | false =>
      rw [h1] at h
      simp only [cond_false] at h
      cases h2 : Nat.blt t k with
      | true => rw [h2] at h; exact NT.all_has ha.1.2 h
      | false => rw [h2] at h; exact NT.all_has ha.2 h
theorem tabOf_sound {P : Program} {N : NT} (h : N.all (okType P) = true) : TT.Sound P (tabOf P N) := by
  have key : ∀ t i, tabOf P N t = some i → okType P t = true ∧ i = tiOf P t := fun t i hi => by
    unfold tabOf at hi
    cases hh : NT.has t N with
    | false => rw [hh] at hi; cases hi
    | true =>
      rw [hh] at hi
      exact ⟨NT.all_has h hh, (Option.some.inj hi).symm⟩
  refine ⟨fun t i hi => ?_, fun t i hi => ?_, fun t i v hi hc b => ?_, fun t i a b r hi he => ?_⟩
  rotate_left 2
  · obtain ⟨_, rfl⟩ := key t i hi
    simp only [tiOf] at hc
    split at hc
    · rename_i x y h1 h2
      cases b
      · exact ⟨y, h2⟩
      · exact ⟨x, h1⟩
    · cases hc
  · obtain ⟨_, rfl⟩ := key t i hi
    simp only [tiOf] at he
    split at he
    · obtain rfl := Option.some.inj he
      assumption
    · cases he
  · obtain ⟨h1, rfl⟩ := key t i hi
    simp only [okType, Bool.and_eq_true] at h1
    obtain ⟨d, hd⟩ := Option.isSome_iff_exists.1 h1.1
    simp [tiOf, hd]
  · obtain ⟨h1, rfl⟩ := key t i hi
    simp only [okType, Bool.and_eq_true] at h1
    obtain ⟨a, ha⟩ := Option.isSome_iff_exists.1 h1.2
    cases hq : P.info? t with
    | none => rw [hq] at ha; cases ha
    | some info =>
      cases hz : info.zero with
      | none => rw [hq] at ha; simp [hz] at ha
      | some z =>
        rw [hq] at ha
        simp only [Option.bind_some, hz] at ha
        exact ⟨info, z, rfl, by simp [tiOf, hq], ⟨by simp only [tiOf, hq, Option.map_some, Option.getD_some]; omega, fun hb => by simp only [tiOf, hq] at hb ⊢; rw [hb]; simp only [cond_true]; omega⟩, hz, by simp [tiOf, hq, hz, ha]⟩
variable {P : Program} {T : TT} {ρ : Nat → Value} {fl : Nat} {μ : Mu} {h : AH} {w : World}
theorem run_und (hT : TT.Sound P T) {t : TypeId} {d : TypeDesc} (hd : und T t = some d) (w : World) : (underlying t).run P w = .ok d w := by
  simp only [und, Option.map_eq_some_iff] at hd
  obtain ⟨i, h1, rfl⟩ := hd
  simp [underlying, hT.und t i h1]
theorem und_P (hT : TT.Sound P T) {t : TypeId} {d : TypeDesc} (hd : und T t = some d) : P.underlying t = some d := by
  simp only [und, Option.map_eq_some_iff] at hd
  obtain ⟨i, h1, rfl⟩ := hd
  exact hT.und t i h1
theorem run_size (hT : TT.Sound P T) {t : TypeId} {n : Nat} (hd : sizeT T t = some n) (w : World) : (sizeOf t).run P w = .ok n w := by
  simp only [sizeT, Option.map_eq_some_iff] at hd
  obtain ⟨i, h1, rfl⟩ := hd
  obtain ⟨info, z, h2, h3, _⟩ := hT.info t i h1
  simp [sizeOf, typeInfo, h2, h3]
theorem size_P (hT : TT.Sound P T) {t : TypeId} {n : Nat} (hd : sizeT T t = some n) : (P.info? t).map (·.size) = some n := by
  simp only [sizeT, Option.map_eq_some_iff] at hd
  obtain ⟨i, h1, rfl⟩ := hd
  obtain ⟨info, z, h2, h3, _⟩ := hT.info t i h1
  simp [h2, h3]
theorem run_zero (hT : TT.Sound P T) {t : TypeId} {z : AV} (hd : zeroT T t = some z) (w : World) : ∃ v, (zeroValue t).run P w = .ok v w ∧ ofVal1 v = some z := by
  simp only [zeroT, Option.map_eq_some_iff] at hd
  obtain ⟨i, h1, rfl⟩ := hd
  obtain ⟨info, z, h2, _, _, h3, h4⟩ := hT.info t i h1
  exact ⟨z, by simp [zeroValue, typeInfo, h2, h3], h4⟩
theorem run_isAgg (hT : TT.Sound P T) {t : TypeId} {b : Bool} (hd : isAggT T t = some b) (w : World) : (isAgg t).run P w = .ok b w := by
  simp only [isAggT, Option.map_eq_some_iff] at hd
  obtain ⟨i, h1, rfl⟩ := hd
  unfold isAgg
  have h2 : und T t = some i.desc := by simp [und, h1]
  rw [Sem.run_bind, run_und hT h2]
  cases i.desc <;> rfl
/-! Programs that ask nothing of the world. -/
theorem pur_run {α : Type} (s : Sem α) : ∀ r, pur P s = some r → ∀ w, s.run P w = match r with | .ok a => .ok a w | .pan v => .halt (.panic v) w := by
  induction s with
  | pure a => intro r hr w; simp only [pur, Option.some.injEq] at hr; subst hr; rfl
  | program k ih => intro r hr w; exact ih P r hr w
  | mark m k ih => intro r hr w; exact ih r hr w
  | halt x =>
    intro r hr w
    cases x <;> simp only [pur, Option.some.injEq, reduceCtorEq] at hr
    subst hr
    rfl
  | load m a k ih => intro r hr; cases hr
  | store m a v k ih => intro r hr; cases hr
  | new o k ih => intro r hr; cases hr
  | shape r k ih => intro r hr; cases hr
  | freeze a n k ih => intro r hr; cases hr
  | frozen a k ih => intro r hr; cases hr
  | getObj r k ih => intro r hr; cases hr
  | setObj r o k ih => intro r hr; cases hr
  | choose q k ih => intro r hr; cases hr
  | sys c k ih => intro r hr; cases hr
/-! Operands. -/
def EnvR (ρ : Nat → Value) (μ : Mu) (w : World) (tmps : TM) (ev : Operand → Value) : Prop := ∀ x a, evalA tmps x = some a → rel ρ μ w a (ev x)
theorem envR_of {tmps : TM} {ev : Operand → Value} {l : List Value} (hl : rels ρ μ w tmps.L l) (h1 : ∀ t, ev (.tmp t) = l.getD t undef) (h2 : ∀ v, ev (.const v) = v) (h3 : ∀ f, ev (.func f) = .func (.func f) #[] #[]) : EnvR ρ μ w tmps ev := by
  intro x a hx
  cases x with
  | tmp t =>
    simp only [evalA, Option.some.injEq] at hx
    subst hx
    rw [h1, ← TL_at, ← List.getD_eq_getElem?_getD]
    exact rels_getD t hl
  | const v => rw [h2]; exact ofVal_rel hx
  | global g => cases hx
  | func f =>
    simp only [evalA, Option.some.injEq] at hx
    subst hx
    rw [h3]
    unfold rel
    exact ⟨.func f, [], [], rfl, rfl, rels_nil, rels_nil⟩
variable {tmps : TM} {ev : Operand → Value}
theorem evals_sound (he : EnvR ρ μ w tmps ev) : ∀ {l : List Operand} {xs : List AV}, evals tmps l = some xs → rels ρ μ w xs (l.map ev)
  | [], xs, hh => by simp only [evals, Option.some.injEq] at hh; subst hh; exact rels_nil
  | x :: r, xs, hh => by
    unfold evals at hh
    split at hh
    · rename_i v vs hv hvs
      obtain rfl := Option.some.inj hh
      exact rels_cons (he x v hv) (evals_sound he hvs)
    · cases hh
theorem litAll_sound (he : EnvR ρ μ w tmps ev) : ∀ {l : List Operand}, litAll tmps l = true → ∀ x ∈ l, ev x = litEnv tmps x
  | [], _, x, hx => by cases hx
  | y :: r, hh, x, hx => by
    unfold litAll at hh
    split at hh
    · rename_i v hv
      simp only [Bool.and_eq_true] at hh
      cases hx with
      | head =>
        obtain ⟨u, hu⟩ := Option.isSome_iff_exists.1 hh.1
        simp only [litEnv, hv, hu, Option.getD_some]
        exact toVal_rel hu (he _ _ hv)
      | tail _ hm => exact litAll_sound he hh.2 x hm
    · cases hh
/-! What an operation comes to. -/
def valOK (P : Program) (ρ : Nat → Value) (fl : Nat) (μ : Mu) (h : AH) (w : World) (r : Result Next) (v : AV) (h' : AH) : Prop :=
  ∃ μ' w' v', (r = .ok (.value v') w' ∨ (r = .ok .skip w' ∧ v' = undef)) ∧ Eff P ρ fl μ h w μ' h' w' ∧ rel ρ μ' w' v v'
def OpOK (P : Program) (ρ : Nat → Value) (fl : Nat) (μ : Mu) (h : AH) (w : World) (r : Result Next) : AN → AH → Prop
  | .val v, h' => valOK P ρ fl μ h w r v h'
  | .enter f args, h' => h' = h ∧ ∃ args', rels ρ μ w args args' ∧ r = (callFunc f args'.toArray).run P w
  | .round l args, h' => h' = h ∧ ∃ rl args', μ l = some (rl, 0) ∧ rels ρ μ w args args' ∧ r = (Instr.yield rl args'.toArray).run P w
  | .defer f args, h' => h' = h ∧ ∃ d args', rels ρ μ w args args' ∧ r = .ok (.defer d) w ∧ (∃ fn c, d.target = .fn fn c) ∧ ∀ w', (invoke d.target d.args).run P w' = (callFunc f args'.toArray).run P w'
  | .recover, h' => h' = h ∧ r = .ok .recover w
  | .pan v, h' => h' = h ∧ ∃ v', r = .halt (.panic v') w ∧ rel ρ μ w v v'
  | .alts l, _ => ∃ x ∈ l, valOK P ρ fl μ h w r x.1 x.2
theorem valOK_here {r : Result Next} {v : AV} {v' : Value} (hr : HR P ρ fl μ h w) (h1 : r = .ok (.value v') w) (h2 : rel ρ μ w v v') : valOK P ρ fl μ h w r v h :=
  ⟨μ, w, v', .inl h1, Eff.refl hr, h2⟩
theorem litOp_sound {o : Oper} {n : AN} (hr : HR P ρ fl μ h w) (he : EnvR ρ μ w tmps ev) (hl : litOp P o tmps = some n) : OpOK P ρ fl μ h w ((execOp ev o).run P w) n h := by
  unfold litOp at hl
  split at hl
  case isFalse => cases hl
  rename_i hc
  simp only [Bool.and_eq_true] at hc
  have heq : execOp ev o = execOp (litEnv tmps) o := execOp_congr o (fun cs b hcs => by
    have := hc.1
    rw [hcs] at this
    cases this) (fun x hx => litAll_sound he hc.2 x (by simpa using hx))
  rw [heq]
  cases hp : pur P (execOp (litEnv tmps) o) with
  | none => rw [hp] at hl; cases hl
  | some r =>
    rw [hp] at hl
    have hrun := pur_run _ r hp w
    cases r with
    | ok nx =>
      cases nx with
      | value v =>
        simp only [ofPR, Option.map_eq_some_iff] at hl
        obtain ⟨a, ha, rfl⟩ := hl
        exact valOK_here hr hrun (ofVal_rel ha)
      | _ => cases hl
    | pan v =>
      simp only [ofPR, Option.map_eq_some_iff] at hl
      obtain ⟨a, ha, rfl⟩ := hl
      exact ⟨rfl, v, hrun, ofVal_rel ha⟩
theorem orLit_sound {o : Oper} {n : AN} {h' : AH} {k : Unit → AR} (hr : HR P ρ fl μ h w) (he : EnvR ρ μ w tmps ev) (hl : orLit P o tmps h k = some (n, h'))
    (hk : k () = some (n, h') → OpOK P ρ fl μ h w ((execOp ev o).run P w) n h') : OpOK P ρ fl μ h w ((execOp ev o).run P w) n h' := by
  unfold orLit at hl
  split at hl
  · rename_i m hm
    simp only [Option.some.injEq, Prod.mk.injEq] at hl
    obtain ⟨rfl, rfl⟩ := hl
    exact litOp_sound hr he hm
  · exact hk hl
theorem val_some {x : Option AV} {n : AN} {h' : AH} (hv : val h x = some (n, h')) : ∃ a, x = some a ∧ n = .val a ∧ h' = h := by
  simp only [val, Option.map_eq_some_iff, Prod.mk.injEq] at hv
  obtain ⟨a, h1, h2, h3⟩ := hv
  exact ⟨a, h1, h2.symm, h3.symm⟩
/-! Rows of cells. -/
theorem getB_R {b : Nat} {l : List AV} {e : TypeId} (hg : getB h b = some (l, e)) : h.at b = some (.cells l e) ∧ getR h b = some l := by
  unfold getB at hg
  split at hg
  · rename_i l' e' hb
    simp only [Option.some.injEq, Prod.mk.injEq] at hg
    obtain ⟨rfl, rfl⟩ := hg
    exact ⟨hb, by simp [getR, hb]⟩
  · cases hg
theorem getR_sound {b r base : Nat} {l : List AV} (hr : HR P ρ fl μ h w) (hb : μ b = some (r, base)) (hg : getR h b = some l) :
    ∃ cur e fz, w.heap[r]? = some (.cells cur e fz) ∧ window ρ μ w base l cur := by
  unfold getR at hg
  split at hg
  · rename_i l' e hx
    obtain rfl := Option.some.inj hg
    obtain ⟨_, _, o, h1, h2⟩ := hr.obj b r base _ hb hx
    obtain ⟨cur, rfl, h3, _⟩ := h2
    exact ⟨cur, _, _, h1, h3⟩
  · rename_i l' e hx
    obtain rfl := Option.some.inj hg
    obtain ⟨_, _, o, h1, h2⟩ := hr.obj b r base _ hb hx
    obtain ⟨cur, fz, rfl, h3⟩ := h2
    exact ⟨cur, _, _, h1, h3⟩
  · cases hg
theorem getB_sound {b r base : Nat} {l : List AV} {e : TypeId} (hr : HR P ρ fl μ h w) (hb : μ b = some (r, base)) (hg : getB h b = some (l, e)) :
    ∃ cur, w.heap[r]? = some (.cells cur e (0, 0)) ∧ window ρ μ w base l cur ∧ (bigT P e = true → base = 0 ∧ cur.size = l.length) := by
  obtain ⟨hx, _⟩ := getB_R hg
  obtain ⟨_, _, o, h1, h2⟩ := hr.obj b r base _ hb hx
  obtain ⟨cur, rfl, h3⟩ := h2
  exact ⟨cur, h1, h3⟩
theorem cut_some {l cs : List AV} {i n : Nat} (hc : cut l i n = some cs) : i + n ≤ l.length ∧ cs = (l.drop i).take n := by
  unfold cut at hc
  split at hc
  · exact ⟨by assumption, (Option.some.inj hc).symm⟩
  · cases hc
theorem cut_sound {base off n : Nat} {l cs : List AV} {cur : Array Value} (hw : window ρ μ w base l cur) (hc : cut l off n = some cs) :
    ∃ vs : List Value, rels ρ μ w cs vs ∧ vs.length = n ∧ cs.length = n ∧ base + off + n ≤ cur.size ∧ ∀ (j : Nat) (v : Value), vs[j]? = some v → cur[base + off + j]? = some v := by
  obtain ⟨h1, rfl⟩ := cut_some hc
  obtain ⟨h2, h3⟩ := hw
  have hl : ((l.drop off).take n).length = n := by simp; omega
  have hlv : ((cur.toList.drop (base + off)).take n).length = n := by simp; omega
  refine ⟨(cur.toList.drop (base + off)).take n, rels_of_get (by rw [hl, hlv]) (fun i x hx => ?_), hlv, hl, by omega, fun j v hv => ?_⟩
  · rw [List.getElem?_take] at hx
    split at hx
    · rename_i hi
      rw [List.getElem?_drop] at hx
      obtain ⟨v, h4, h5⟩ := h3 _ _ hx
      refine ⟨v, ?_, h5⟩
      rw [List.getElem?_take, if_pos hi, List.getElem?_drop, Array.getElem?_toList, Nat.add_assoc]
      exact h4
    · cases hx
  · rw [List.getElem?_take] at hv
    split at hv
    · rw [List.getElem?_drop, Array.getElem?_toList] at hv
      exact hv
    · cases hv
theorem put_some {l vs l' : List AV} {i : Nat} (hp : put l i vs = some l') : i + vs.length ≤ l.length ∧ l' = l.take i ++ vs ++ l.drop (i + vs.length) := by
  unfold put at hp
  split at hp
  · exact ⟨by assumption, (Option.some.inj hp).symm⟩
  · cases hp
theorem put_length {l vs l' : List AV} {i : Nat} (hp : put l i vs = some l') : l'.length = l.length := by
  obtain ⟨h1, rfl⟩ := put_some hp
  simp
  omega
theorem put_get {l vs l' : List AV} {i : Nat} (hp : put l i vs = some l') (k : Nat) : l'[k]? = if i ≤ k ∧ k < i + vs.length then vs[k - i]? else l[k]? := by
  obtain ⟨h1, rfl⟩ := put_some hp
  have hti : (l.take i).length = i := by simp; omega
  rw [List.append_assoc]
  by_cases hk : k < i
  · rw [List.getElem?_append_left (by omega), if_neg (by omega), List.getElem?_take, if_pos hk]
  · rw [List.getElem?_append_right (by omega), hti]
    by_cases hk2 : k < i + vs.length
    · rw [List.getElem?_append_left (by omega), if_pos (by omega)]
    · rw [List.getElem?_append_right (by omega), if_neg (by omega), List.getElem?_drop]
      congr 1
      omega
theorem rels_one {l : List AV} {l' : List Value} (hl : rels ρ μ w l l') (h1 : l.all AV.one = true) : ∀ u ∈ l', u.oneCell' = true := by
  induction l generalizing l' with
  | nil => rw [rels_nil_inv hl]; intro u hu; cases hu
  | cons x xs ih =>
    obtain ⟨v, vs, rfl, h2, h3⟩ := rels_cons_inv hl
    simp only [List.all_cons, Bool.and_eq_true] at h1
    intro u hu
    cases hu with
    | head => exact rel_one h2 h1.1
    | tail _ hm => exact ih h3 h1.2 u hm
theorem one_setCells {r e : Nat} {cur : Array Value} {fz : Nat × Nat} (hg : w.heap[r]? = some (.cells cur e fz)) (o : Nat) (vs : List Value) (hl : o + vs.length ≤ cur.size) : One r w (w.setCells r o vs) := by
  refine ⟨size_setCells' _ _ _ _, fun k hk => other_setCells' _ _ _ _ k hk, fun k cur' e' fz' hk => ?_, ⟨tape_setCells' _ _ _ _, (os_setCells' _ _ _ _).1, (os_setCells' _ _ _ _).2⟩⟩
  by_cases hkr : k = r
  · subst hkr
    rw [hg] at hk
    obtain ⟨rfl, rfl, rfl⟩ := Obj.cells.inj (Option.some.inj hk)
    obtain ⟨c, h1, h2, _⟩ := heap_setCells vs o w _ hg hl
    exact ⟨c, _, _, h1, h2⟩
  · exact ⟨cur', e', fz', by rw [other_setCells' _ _ _ _ k hkr]; exact hk, rfl⟩
/-- Cells are laid into a row that may be written. -/
theorem setCells_eff {b r base off : Nat} {l l' vs : List AV} {e : TypeId} {rvs : List Value} (hr : HR P ρ fl μ h w) (hb : μ b = some (r, base)) (hg : getB h b = some (l, e)) (hp : put l off vs = some l') (hv : rels ρ μ w vs rvs) :
    Eff P ρ fl μ h w μ (h.put b (.cells l' e)) (w.setCells r (base + off) rvs) ∧ (∀ j, j < rvs.length → (w.cell? ⟨r, base + off + j, none⟩).isSome = true) ∧ (∀ j, j < rvs.length → w.frozen? ⟨r, base + off + j, none⟩ = false) := by
  obtain ⟨cur, h1, h2, hbig⟩ := getB_sound hr hb hg
  obtain ⟨hx, _⟩ := getB_R hg
  obtain ⟨p1, _⟩ := put_some hp
  have hlen := rels_length hv
  have hfit : base + off + rvs.length ≤ cur.size := by have := h2.1; omega
  refine ⟨?_, fun j hj => ?_, fun j hj => frozen_in h1⟩
  · obtain ⟨cur', c1, c2, c3⟩ := heap_setCells rvs (base + off) w cur h1 hfit
    have hone := one_setCells h1 (base + off) rvs hfit
    refine Eff.upd hr hb hx rfl hone c1 ⟨cur', rfl, ⟨by rw [put_length hp, c2]; exact h2.1, fun i x hi => ?_⟩, fun hb => by rw [put_length hp, c2]; exact hbig hb⟩
    rw [put_get hp] at hi
    rw [c3]
    by_cases hk : off ≤ i ∧ i < off + vs.length
    · rw [if_pos hk] at hi
      rw [if_pos (by omega), show base + i - (base + off) = i - off by omega]
      obtain ⟨v, q1, q2⟩ := rels_get hv hi
      exact ⟨v, q1, rel.mono (More.refl μ) hone.grows _ _ q2⟩
    · rw [if_neg hk] at hi
      rw [if_neg (by omega)]
      obtain ⟨v, q1, q2⟩ := h2.2 i x hi
      exact ⟨v, q1, rel.mono (More.refl μ) hone.grows _ _ q2⟩
  · rw [cell_in h1, Array.getElem?_eq_getElem (by omega)]
    rfl
theorem loadA_sound {t : TypeId} {b r base off : Nat} {v : AV} (hT : TT.Sound P T) (hr : HR P ρ fl μ h w) (hb : μ b = some (r, base)) (hl : loadA T h t b off = some v) :
    ∃ v', (loadVar t ⟨r, base + off, none⟩).run P w = .ok v' w ∧ rel ρ μ w v v' := by
  unfold loadA at hl
  split at hl
  · rename_i l n hg hA hS
    simp only [Option.map_eq_some_iff] at hl
    obtain ⟨cs, hc, rfl⟩ := hl
    obtain ⟨cur, e, fz, h1, h2⟩ := getR_sound hr hb hg
    obtain ⟨vs, h3, h4, h5, h6, h7⟩ := cut_sound h2 hc
    have hA' := hA
    simp only [isAggT, Option.map_eq_some_iff] at hA
    obtain ⟨i, hi, hd⟩ := hA
    refine ⟨.agg vs.toArray, run_loadVar_mid w r (base + off) t vs i.desc (fun j u hu => ?_) (hT.und t i hi) hd (by rw [size_P hT hS, h4]), ?_⟩
    · rw [cell_in h1]
      exact h7 j u hu
    · unfold rel
      exact ⟨vs, rfl, h3⟩
  · rename_i l n hg hA hS
    obtain ⟨cur, e, fz, h1, h2⟩ := getR_sound hr hb hg
    obtain ⟨v', h3, h4⟩ := h2.2 _ _ hl
    refine ⟨v', ?_, h4⟩
    unfold loadVar
    have hc : w.cell? ⟨r, base + off, none⟩ = some v' := by rw [cell_in h1, h3]
    simp [Sem.run_bind, run_isAgg hT hA, hc]
  · cases hl
theorem storeA_sound {t : TypeId} {b r base off : Nat} {x : AV} {x' : Value} {h' : AH} (hT : TT.Sound P T) (hr : HR P ρ fl μ h w) (hb : μ b = some (r, base)) (hx : rel ρ μ w x x') (hl : storeA T h t b off x = some h') :
    ∃ w', (storeVar t ⟨r, base + off, none⟩ x').run P w = .ok () w' ∧ Eff P ρ fl μ h w μ h' w' := by
  unfold storeA at hl
  split at hl
  · rename_i l e n hg hS
    split at hl
    · rename_i hc
      simp only [Option.map_eq_some_iff] at hl
      obtain ⟨l', hp, rfl⟩ := hl
      simp only [Bool.and_eq_true, decide_eq_true_eq] at hc
      have hcells : rels ρ μ w x.cells x'.cells.toList := rel_cells hx
      obtain ⟨e1, e2, e3⟩ := setCells_eff hr hb hg hp hcells
      have hone := rels_one hcells hc.2
      have hst := run_storeCells_cells (P := P) r (base + off) x'.cells.toList 0 w (by simpa using e2) (by simpa using e3) hone
      have hsz : x'.cells.size = n := by
        have := rels_length hcells
        rw [Array.length_toList] at this
        omega
      refine ⟨_, ?_, e1⟩
      simp only [Nat.add_zero] at hst
      unfold storeVar
      simp [Sem.run_bind, run_size hT hS, hsz, hst]
    · cases hl
  · cases hl
end Go.Proofs.YtohbdgddnkoenaaGreat.Ex
end

section

set_option linter.unusedSimpArgs false
set_option linter.unusedVariables false
namespace Go.Proofs.YtohbdgddnkoenaaGreat.Ex
open Go Go.RowKit
variable {P : Program} {T : TT} {ρ : Nat → Value} {fl : Nat} {μ : Mu} {h : AH} {w : World} {tmps : TM} {ev : Operand → Value} {o : Oper} {n : AN} {h' : AH}
theorem op_move {x : Operand} (hr : HR P ρ fl μ h w) (he : EnvR ρ μ w tmps ev) (ho : o.op = .move x ∨ o.op = .assign x) (ha : val h (evalA tmps x) = some (n, h')) :
    OpOK P ρ fl μ h w ((execOp ev o).run P w) n h' := by
  obtain ⟨a, h1, rfl, rfl⟩ := val_some ha
  rcases ho with ho | ho <;> exact valOK_here hr (by simp [execOp, ho]) (he x a h1)
theorem rel_bool_inv {b : Bool} {v : Value} (hh : rel ρ μ w (.lit (.bool b)) v) : v = .bool b := by unfold rel at hh; exact hh.1
theorem op_pick {c a b : Operand} (hr : HR P ρ fl μ h w) (he : EnvR ρ μ w tmps ev) (ho : o.op = .pick c a b) (ha : aPick tmps h c a b = some (n, h')) :
    OpOK P ρ fl μ h w ((execOp ev o).run P w) n h' := by
  unfold aPick at ha
  split at ha
  · rename_i t hc
    have h1 := rel_bool_inv (he c _ hc)
    obtain ⟨x, hx, rfl, rfl⟩ := val_some ha
    refine valOK_here hr (v' := if t then ev a else ev b) (by simp [execOp, ho, h1, asBool]) ?_
    cases t <;> exact he _ _ hx
  · cases ha
theorem window_of {l : List AV} {cur : Array Value} (hh : rels ρ μ w l cur.toList) : window ρ μ w 0 l cur :=
  ⟨by have := rels_length hh; rw [Array.length_toList] at this; omega, fun i x hx => by
    obtain ⟨v, h1, h2⟩ := rels_get hh hx
    exact ⟨v, by rw [Nat.zero_add, ← Array.getElem?_toList]; exact h1, h2⟩⟩
theorem whole_of {e : TypeId} {l : List AV} {cur : Array Value} (hh : rels ρ μ w l cur.toList) : window ρ μ w 0 l cur ∧ (bigT P e = true → 0 = 0 ∧ cur.size = l.length) :=
  ⟨window_of hh, fun _ => ⟨rfl, by have := rels_length hh; rwa [Array.length_toList] at this⟩⟩
theorem rel_new (x : Nat × Nat) : rel ρ (up μ h.n (x.1, 0)) w (.ptr h.n 0) (.pointer (some ⟨x.1, 0, none⟩)) := by
  unfold rel
  exact ⟨x.1, 0, up_same _ _ _, rfl⟩
theorem op_alloc {t : TypeId} (hT : TT.Sound P T) (hr : HR P ρ fl μ h w) (ho : o.op = .alloc t) (ha : aAlloc T h t = some (n, h')) :
    OpOK P ρ fl μ h w ((execOp ev o).run P w) n h' := by
  simp only [aAlloc, Option.map_eq_some_iff, Prod.mk.injEq] at ha
  obtain ⟨z, h1, rfl, rfl⟩ := ha
  obtain ⟨v, h2, h3⟩ := run_zero hT h1 w
  refine ⟨_, _, .pointer (some ⟨w.heap.size, 0, none⟩), .inl ?_, Eff.alloc hr (o := .cells v.cells t) ⟨v.cells, rfl, whole_of (rel_cells (ofVal1_rel h3))⟩, rel_new (w.heap.size, 0)⟩
  simp [execOp, ho, Instr.alloc, h2, newVar, newRow]
theorem op_box {t : TypeId} {x : Operand} (hr : HR P ρ fl μ h w) (he : EnvR ρ μ w tmps ev) (ho : o.op = .box t x) (ha : aBox tmps h t x = some (n, h')) :
    OpOK P ρ fl μ h w ((execOp ev o).run P w) n h' := by
  unfold aBox at ha
  split at ha
  · rename_i z hz
    split at ha
    · simp only [Option.some.injEq, Prod.mk.injEq] at ha
      obtain ⟨rfl, rfl⟩ := ha
      refine ⟨_, _, .pointer (some ⟨w.heap.size, 0, none⟩), .inl ?_, Eff.alloc hr (o := .cells (ev x).cells t) ⟨_, rfl, whole_of (rel_cells (he x z hz))⟩, rel_new (w.heap.size, 0)⟩
      simp [execOp, ho, Instr.box, newVar, newRow]
    · cases ha
  · cases ha
/-! Filling. -/
def partsRel (ρ : Nat → Value) (μ : Mu) (w : World) : List (Nat × AV) → List (Nat × Value) → Prop
  | [], l => l = []
  | (i, a) :: r, l => ∃ v l', l = (i, v) :: l' ∧ rel ρ μ w a v ∧ partsRel ρ μ w r l'
theorem evalParts_sound (he : EnvR ρ μ w tmps ev) : ∀ {l : List (Nat × Operand)} {ps : List (Nat × AV)}, evalParts tmps l = some ps → partsRel ρ μ w ps (l.map fun p => (p.1, ev p.2))
  | [], ps, hh => by simp only [evalParts, Option.some.injEq] at hh; subst hh; rfl
  | (i, x) :: r, ps, hh => by
    unfold evalParts at hh
    split at hh
    · rename_i v vs hv hvs
      obtain rfl := Option.some.inj hh
      exact ⟨ev x, _, rfl, he x v hv, evalParts_sound he hvs⟩
    · cases hh
theorem fold_cells (off : Nat) : ∀ (vs : List Value) (k : Nat) (cells : Array Value), off + k + vs.length ≤ cells.size →
    ((vs.zipIdx k).foldl (fun cs (x : Value × Nat) => cs.setIfInBounds (off + x.2) x.1) cells).size = cells.size ∧
    ∀ i, ((vs.zipIdx k).foldl (fun cs (x : Value × Nat) => cs.setIfInBounds (off + x.2) x.1) cells)[i]? = if off + k ≤ i ∧ i < off + k + vs.length then vs[i - (off + k)]? else cells[i]?
  | [], k, cells, _ => ⟨rfl, fun i => by simp only [List.zipIdx_nil, List.foldl_nil]; rw [if_neg (by simp)]⟩
  | v :: r, k, cells, hl => by
    simp only [List.length_cons] at hl
    obtain ⟨h1, h2⟩ := fold_cells off r (k + 1) (cells.setIfInBounds (off + k) v) (by simp; omega)
    simp only [List.zipIdx_cons, List.foldl_cons]
    refine ⟨by rw [h1]; simp, fun i => ?_⟩
    rw [h2 i]
    simp only [List.length_cons]
    by_cases hi : i = off + k
    · subst hi
      rw [if_neg (by omega), if_pos (by omega), Array.getElem?_setIfInBounds, if_pos rfl]
      simp
      omega
    · by_cases hk : off + (k + 1) ≤ i ∧ i < off + (k + 1) + r.length
      · rw [if_pos hk, if_pos (by omega), show i - (off + k) = (i - (off + (k + 1))) + 1 by omega, List.getElem?_cons_succ]
      · rw [if_neg hk, if_neg (by omega), Array.getElem?_setIfInBounds, if_neg (by omega)]
theorem fillA_sound {place : Nat → Option (Nat × Nat)} : ∀ {ps : List (Nat × AV)} {rps : List (Nat × Value)} {cells res : List AV} {rcells : Array Value}, partsRel ρ μ w ps rps → rels ρ μ w cells rcells.toList → fillA place cells ps = some res →
    ∃ rres, Instr.fill place rcells rps = some rres ∧ rels ρ μ w res rres.toList
  | [], rps, cells, res, rcells, hp, hc, hf => by
    obtain rfl := hp
    simp only [fillA, Option.some.injEq] at hf
    subst hf
    exact ⟨rcells, rfl, hc⟩
  | (i, a) :: r, rps, cells, res, rcells, hp, hc, hf => by
    obtain ⟨v, l', rfl, h1, h2⟩ := hp
    unfold fillA at hf
    split at hf
    · rename_i off size hpl
      split at hf
      · rename_i hsz
        split at hf
        · rename_i c hput
          have hcs := rel_cells h1
          have hlen := rels_length hcs
          rw [Array.length_toList] at hlen
          obtain ⟨p1, _⟩ := put_some hput
          have hclen := rels_length hc
          rw [Array.length_toList] at hclen
          obtain ⟨f1, f2⟩ := fold_cells off v.cells.toList 0 rcells (by rw [Array.length_toList]; omega)
          have hnew : rels ρ μ w c ((v.cells.toList.zipIdx 0).foldl (fun cs (x : Value × Nat) => cs.setIfInBounds (off + x.2) x.1) rcells).toList := by
            refine rels_of_get (by rw [Array.length_toList, f1, put_length hput, hclen]) (fun k x hk => ?_)
            rw [Array.getElem?_toList, f2, Array.length_toList]
            rw [put_get hput] at hk
            by_cases hin : off ≤ k ∧ k < off + a.cells.length
            · rw [if_pos hin] at hk
              rw [if_pos (by omega), Nat.add_zero]
              exact rels_get hcs hk
            · rw [if_neg hin] at hk
              rw [if_neg (by omega), ← Array.getElem?_toList]
              exact rels_get hc hk
          obtain ⟨rres, q1, q2⟩ := fillA_sound h2 hnew hf
          refine ⟨rres, ?_, q2⟩
          have e1 : ¬ (v.cells.size ≠ size || decide (off + v.cells.size > rcells.size)) = true := by
            simp
            omega
          have e2 : v.cells.zipIdx.foldl (fun cs (x : Value × Nat) => cs.setIfInBounds (off + x.2) x.1) rcells = (v.cells.toList.zipIdx 0).foldl (fun cs (x : Value × Nat) => cs.setIfInBounds (off + x.2) x.1) rcells := by
            rw [← Array.foldl_toList, Array.toList_zipIdx]
          simp only [Instr.fill, hpl, e1, if_false]
          rw [e2]
          exact q1
        · cases hf
      · cases hf
    · cases hf
theorem places_run (hT : TT.Sound P T) (w : World) : ∀ {fs : List Field} {pl : List (Nat × Nat)}, places T fs = some pl → (fs.mapM fun f => Prod.mk f.offset <$> sizeOf f.type).run P w = .ok pl w
  | [], pl, hh => by simp only [places, Option.some.injEq] at hh; subst hh; simp
  | f :: r, pl, hh => by
    unfold places at hh
    split at hh
    · rename_i n' l hn hl
      obtain rfl := Option.some.inj hh
      simp [List.mapM_cons, run_size hT hn, places_run hT w hl]
    · cases hh
theorem op_build {t : TypeId} {ps : Array (Nat × Operand)} (hT : TT.Sound P T) (hr : HR P ρ fl μ h w) (he : EnvR ρ μ w tmps ev) (ho : o.op = .build t ps) (ha : aBuild T tmps h t ps = some (n, h')) :
    OpOK P ρ fl μ h w ((execOp ev o).run P w) n h' := by
  unfold aBuild at ha
  split at ha
  case h_2 => cases ha
  rename_i ps' hps
  obtain ⟨a, h1, rfl, rfl⟩ := val_some ha
  have hpr := evalParts_sound he hps
  unfold buildA at h1
  split at h1
  · rename_i z fs hz hu
    split at h1
    · rename_i pl hpl
      simp only [Option.map_eq_some_iff] at h1
      obtain ⟨res, hf, rfl⟩ := h1
      obtain ⟨v, hv, hv2⟩ := run_zero hT hz w
      obtain ⟨rres, q1, q2⟩ := fillA_sound (ρ := ρ) hpr (rel_cells (ofVal1_rel hv2)) hf
      refine valOK_here hr (v' := .agg rres) ?_ (by unfold rel; exact ⟨rres.toList, by simp, q2⟩)
      have e1 : (fs.mapM fun f => Prod.mk f.offset <$> sizeOf f.type).run P w = .ok pl.toArray w := by
        rw [Array.mapM_eq_mapM_toList]
        simp [places_run hT w hpl]
      simp [execOp, ho, Instr.build, hv, run_und hT hu, e1, q1]
    · cases h1
  · rename_i z m e hz hu
    split at h1
    · rename_i sz hs
      simp only [Option.map_eq_some_iff] at h1
      obtain ⟨res, hf, rfl⟩ := h1
      obtain ⟨v, hv, hv2⟩ := run_zero hT hz w
      obtain ⟨rres, q1, q2⟩ := fillA_sound (ρ := ρ) hpr (rel_cells (ofVal1_rel hv2)) hf
      refine valOK_here hr (v' := .agg rres) ?_ (by unfold rel; exact ⟨rres.toList, by simp, q2⟩)
      simp [execOp, ho, Instr.build, hv, run_und hT hu, run_size hT hs, q1]
    · cases h1
  · cases h1
/-! Rows of zeros. -/
theorem rep_length (z : List AV) : ∀ m, (rep z m).length = m * z.length
  | 0 => by simp [rep]
  | m + 1 => by rw [rep, List.length_append, rep_length z m, Nat.add_mul, Nat.one_mul, Nat.add_comm]
theorem rep_get (z : List AV) : ∀ (m k : Nat), k < m * z.length → (rep z m)[k]? = z[k % z.length]?
  | 0, k, hk => by omega
  | m + 1, k, hk => by
    rw [rep]
    rw [Nat.add_mul, Nat.one_mul] at hk
    by_cases h1 : k < z.length
    · rw [List.getElem?_append_left h1, Nat.mod_eq_of_lt h1]
    · have h2 : k % z.length = (k - z.length) % z.length := Nat.mod_eq_sub_mod (by omega)
      rw [List.getElem?_append_right (by omega), rep_get z m _ (by omega), h2]
theorem rep_rels {z : List AV} {rz : Array Value} (hz : rels ρ μ w z rz.toList) (m : Nat) : rels ρ μ w (rep z m) ((Array.range (m * z.length)).map (fun i => rz[i % rz.size]!)).toList := by
  have hlen := rels_length hz
  rw [Array.length_toList] at hlen
  refine rels_of_get (by simp [rep_length]) (fun k x hx => ?_)
  have hk : k < m * z.length := by rw [← rep_length]; exact (List.getElem?_eq_some_iff.1 hx).1
  rw [rep_get z m k hk] at hx
  obtain ⟨v, h1, h2⟩ := rels_get hz hx
  refine ⟨v, ?_, h2⟩
  rw [Array.getElem?_toList] at h1
  simp only [Array.toList_map, List.getElem?_map, Array.toList_range, List.getElem?_range hk, Option.map_some, Option.some.injEq]
  have hi : k % rz.size = k % z.length := by rw [hlen]
  rw [hi, getElem!_def, h1]
theorem rel_sl_new {len k : Nat} (hk : len ≤ k) (hm : k ≤ maxLen) (w' : World) : rel ρ (up μ h.n (w.heap.size, 0)) w' (.sl h.n 0 len (.kn k)) (.slice (some ⟨w.heap.size, 0, none⟩) len k) := by
  unfold rel
  exact .inl ⟨w.heap.size, 0, 0, k, up_same _ _ _, rfl, .inr rfl, rfl, hk, hm⟩
theorem op_buildSlice {t : TypeId} {m : Nat} {ps : Array (Nat × Operand)} (hT : TT.Sound P T) (hr : HR P ρ fl μ h w) (he : EnvR ρ μ w tmps ev) (ho : o.op = .buildSlice t m ps) (ha : aBuildSlice T tmps h t m ps = some (n, h')) :
    OpOK P ρ fl μ h w ((execOp ev o).run P w) n h' := by
  unfold aBuildSlice at ha
  split at ha
  case h_2 => cases ha
  rename_i e ps' hu hps
  split at ha
  case h_2 => cases ha
  rename_i i hi
  split at ha
  case isFalse => cases ha
  rename_i hc
  simp only [Bool.and_eq_true, decide_eq_true_eq] at hc
  simp only [Option.map_eq_some_iff, Prod.mk.injEq] at ha
  obtain ⟨l, hf, rfl, rfl⟩ := ha
  obtain ⟨z, hz, hz2⟩ := run_zero hT (show zeroT T e = some i.zero by simp [zeroT, hi]) w
  have hzr := rel_cells (ofVal1_rel (ρ := ρ) (μ := μ) (w := w) hz2)
  have hlen := rels_length hzr
  rw [Array.length_toList] at hlen
  have hs := run_size hT (show sizeT T e = some i.size by simp [sizeT, hi]) w
  have hrow : rels ρ μ w (rep i.zero.cells m) ((Array.range (m * i.size)).map (fun k => (if m * i.size = 0 then (#[] : Array Value) else z.cells)[k % (if m * i.size = 0 then (#[] : Array Value) else z.cells).size]!)).toList := by
    by_cases h0 : m * i.size = 0
    · have : rep i.zero.cells m = [] := List.eq_nil_of_length_eq_zero (by rw [rep_length, hc.1.1]; exact h0)
      rw [this, h0]
      simp [rels_nil]
    · simp only [h0, if_false]
      have := rep_rels hzr m
      rw [hc.1.1] at this
      exact this
  obtain ⟨rres, q1, q2⟩ := fillA_sound (evalParts_sound he hps) hrow hf
  have hmm : m ≤ maxLen := by
    simp only [maxLen]
    omega
  refine ⟨_, _, .slice (some ⟨w.heap.size, 0, none⟩) m m, .inl ?_, Eff.alloc hr (o := .cells rres e) ⟨rres, rfl, whole_of q2⟩, rel_sl_new (Nat.le_refl _) hmm _⟩
  have h24 : ¬ (m * i.size > 2 ^ 24) := by omega
  by_cases h0 : m * i.size = 0
  · simp only [h0, if_true] at q1
    have e0 : Array.range 0 = #[] := rfl
    simp only [e0, List.map_toArray, List.map_nil] at q1
    simp [execOp, ho, Instr.buildSlice, run_und hT hu, hs, h0, e0, q1, newRow]
  · simp only [h0, if_false] at q1
    simp [execOp, ho, Instr.buildSlice, run_und hT hu, hs, h0, h24, hz, q1, newRow]
end Go.Proofs.YtohbdgddnkoenaaGreat.Ex
end

section

set_option linter.unusedSimpArgs false
set_option linter.unusedVariables false
namespace Go.Proofs.YtohbdgddnkoenaaGreat.Ex
open Go Go.RowKit
variable {P : Program} {T : TT} {ρ : Nat → Value} {fl : Nat} {μ : Mu} {h : AH} {w : World} {tmps : TM} {ev : Operand → Value} {o : Oper} {n : AN} {h' : AH}
theorem rel_ptr_inv {b off : Nat} {v : Value} (hh : rel ρ μ w (.ptr b off) v) : ∃ r base, μ b = some (r, base) ∧ v = .pointer (some ⟨r, base + off, none⟩) := by unfold rel at hh; exact hh
theorem rel_lit_inv {u v : Value} (hh : rel ρ μ w (.lit u) v) : v = u := by unfold rel at hh; exact hh.1
theorem op_load {t : TypeId} {x : Operand} (hT : TT.Sound P T) (hr : HR P ρ fl μ h w) (he : EnvR ρ μ w tmps ev) (ho : o.op = .load t x) (ha : aLoad T tmps h t x = some (n, h')) :
    OpOK P ρ fl μ h w ((execOp ev o).run P w) n h' := by
  unfold aLoad at ha
  split at ha
  · rename_i b off hx
    obtain ⟨a, h1, rfl, rfl⟩ := val_some ha
    obtain ⟨r, base, hb, hv⟩ := rel_ptr_inv (he x _ hx)
    obtain ⟨v', h2, h3⟩ := loadA_sound hT hr hb h1
    exact valOK_here hr (by simp [execOp, ho, hv, Instr.loadAt, Instr.sureAddr, h2]) h3
  · cases ha
theorem op_store {t : TypeId} {x y : Operand} (hT : TT.Sound P T) (hr : HR P ρ fl μ h w) (he : EnvR ρ μ w tmps ev) (ho : o.op = .store t x y) (ha : aStore T tmps h t x y = some (n, h')) :
    OpOK P ρ fl μ h w ((execOp ev o).run P w) n h' := by
  unfold aStore at ha
  split at ha
  · rename_i b off u hx hy
    simp only [Option.map_eq_some_iff, Prod.mk.injEq] at ha
    obtain ⟨h1, h2, rfl, rfl⟩ := ha
    obtain ⟨r, base, hb, hv⟩ := rel_ptr_inv (he x _ hx)
    obtain ⟨w', h3, h4⟩ := storeA_sound hT hr hb (he y _ hy) h2
    exact ⟨μ, w', undef, .inr ⟨by simp [execOp, ho, hv, Instr.storeAt, Instr.sureAddr, h3], rfl⟩, h4, rel_undef⟩
  · cases ha
theorem rel_fn_inv {f : FuncId} {a b : List AV} {v : Value} (hh : rel ρ μ w (.fn (.func f) a b) v) : ∃ x y, v = .func (.func f) x y := by
  unfold rel at hh
  obtain ⟨f', x, y, h1, h2, _⟩ := hh
  simp only [fnRel] at h2
  subst h2
  exact ⟨_, _, h1⟩
theorem rel_ifc_inv {t : TypeId} {a : AV} {v : Value} (hh : rel ρ μ w (.ifc t a) v) : ∃ u, v = .iface t u ∧ rel ρ μ w a u := by unfold rel at hh; exact hh
theorem op_nilCheck {x : Operand} (hr : HR P ρ fl μ h w) (he : EnvR ρ μ w tmps ev) (ho : o.op = .nilCheck x) (ha : aNilCheck P o tmps h x = some (n, h')) :
    OpOK P ρ fl μ h w ((execOp ev o).run P w) n h' := by
  unfold aNilCheck at ha
  split at ha
  · rename_i b off hx
    simp only [Option.some.injEq, Prod.mk.injEq] at ha
    obtain ⟨rfl, rfl⟩ := ha
    have h1 := he x _ hx
    obtain ⟨r, base, hb, hv⟩ := rel_ptr_inv h1
    exact valOK_here hr (by simp [execOp, ho, hv]) (hv ▸ h1)
  · rename_i g a b hx
    simp only [Option.some.injEq, Prod.mk.injEq] at ha
    obtain ⟨rfl, rfl⟩ := ha
    have h1 := he x _ hx
    obtain ⟨p, q, hv⟩ := rel_fn_inv h1
    exact valOK_here hr (by simp [execOp, ho, hv]) (hv ▸ h1)
  · rename_i t u hx
    simp only [Option.some.injEq, Prod.mk.injEq] at ha
    obtain ⟨rfl, rfl⟩ := ha
    have h1 := he x _ hx
    obtain ⟨q, hv, _⟩ := rel_ifc_inv h1
    exact valOK_here hr (by simp [execOp, ho, hv]) (hv ▸ h1)
  · exact orLit_sound hr he ha fun hk => by cases hk
/-! Comparisons. -/
theorem eqGuard_run {op : BinOp} {t : TypeId} {x y : Operand} {a b : Value} (h1 : ¬ (a = .nilIface ∧ b = .nilIface)) (h2 : ∀ cs, a ≠ .agg cs) (w : World) : (eqGuard op t x y a b).run P w = .ok () w := by
  unfold eqGuard
  cases op <;> (try rfl)
  all_goals (cases a <;> first | rfl | (exact absurd rfl (h2 _)) | (cases b <;> first | rfl | exact absurd ⟨rfl, rfl⟩ h1))
theorem equal_succ (t : TypeId) (x y : Value) : Op.equal t x y = Op.equalIn (9999 + 1) t x y := rfl
theorem sameA_sound {t : TypeId} {d : TypeDesc} {a b : AV} {x y : Value} {r : Bool} (hT : TT.Sound P T) (hr : HR P ρ fl μ h w) (hd : und T t = some d) (ha : rel ρ μ w a x) (hb : rel ρ μ w b y) (hs : sameA T d a b = some r) :
    (Op.equal t x y).run P w = .ok r w ∧ ¬ (x = .nilIface ∧ y = .nilIface) ∧ ∀ cs, x ≠ .agg cs := by
  have hu := run_und hT hd w
  rw [equal_succ]
  generalize 9999 = dep
  unfold sameA at hs
  split at hs
  case h_1 =>
    obtain rfl := Option.some.inj hs
    obtain ⟨r, base, _, rfl⟩ := rel_ptr_inv ha
    obtain rfl := rel_lit_inv hb
    exact ⟨by simp [Op.equalIn, hu], by simp, by simp⟩
  case h_2 =>
    obtain rfl := Option.some.inj hs
    obtain ⟨r, base, _, rfl⟩ := rel_ptr_inv hb
    obtain rfl := rel_lit_inv ha
    exact ⟨by simp [Op.equalIn, hu], by simp, by simp⟩
  case h_3 =>
    obtain rfl := Option.some.inj hs
    unfold rel at ha
    obtain rfl := rel_lit_inv hb
    rcases ha with ⟨r, base, o, c, _, rfl, _⟩ | ⟨_, _, a, rfl⟩ <;> exact ⟨by simp [Op.equalIn, hu], by simp, by simp⟩
  case h_4 =>
    obtain rfl := Option.some.inj hs
    unfold rel at hb
    obtain rfl := rel_lit_inv ha
    rcases hb with ⟨r, base, o, c, _, rfl, _⟩ | ⟨_, _, a, rfl⟩ <;> exact ⟨by simp [Op.equalIn, hu], by simp, by simp⟩
  case h_5 =>
    obtain rfl := Option.some.inj hs
    unfold rel at ha
    obtain ⟨r, _, rfl⟩ := ha
    obtain rfl := rel_lit_inv hb
    exact ⟨by simp [Op.equalIn, hu], by simp, by simp⟩
  case h_6 =>
    obtain rfl := Option.some.inj hs
    unfold rel at hb
    obtain ⟨r, _, rfl⟩ := hb
    obtain rfl := rel_lit_inv ha
    exact ⟨by simp [Op.equalIn, hu], by simp, by simp⟩
  case h_7 =>
    obtain rfl := Option.some.inj hs
    unfold rel at ha
    obtain ⟨f', p, q, rfl, _⟩ := ha
    obtain rfl := rel_lit_inv hb
    exact ⟨by simp [Op.equalIn, hu], by simp, by simp⟩
  case h_8 =>
    obtain rfl := Option.some.inj hs
    unfold rel at hb
    obtain ⟨f', p, q, rfl, _⟩ := hb
    obtain rfl := rel_lit_inv ha
    exact ⟨by simp [Op.equalIn, hu], by simp, by simp⟩
  case h_9 =>
    obtain rfl := Option.some.inj hs
    obtain ⟨u, rfl, _⟩ := rel_ifc_inv ha
    obtain rfl := rel_lit_inv hb
    exact ⟨by simp [Op.equalIn, hu], by simp, by simp⟩
  case h_10 =>
    obtain rfl := Option.some.inj hs
    obtain ⟨u, rfl, _⟩ := rel_ifc_inv hb
    obtain rfl := rel_lit_inv ha
    exact ⟨by simp [Op.equalIn, hu], by simp, by simp⟩
  case h_11 e b1 i b2 j =>
    obtain ⟨r1, base1, m1, rfl⟩ := rel_ptr_inv ha
    obtain ⟨r2, base2, m2, rfl⟩ := rel_ptr_inv hb
    split at hs
    case h_2 => cases hs
    rename_i k hk
    have hsz := run_size hT hk w
    refine ⟨?_, by simp, by simp⟩
    cases hbb : Nat.beq b1 b2 with
    | true =>
      rw [hbb] at hs
      obtain rfl := Option.some.inj hs
      obtain rfl := Nat.eq_of_beq_eq_true hbb
      rw [m1] at m2
      obtain ⟨rfl, rfl⟩ := Prod.mk.inj (Option.some.inj m2)
      have e1 : ((⟨r1, base1 + i, none⟩ : Addr) == ⟨r1, base1 + j, none⟩) = Nat.beq i j := by
        rw [Bool.eq_iff_iff]
        simp
      simp [Op.equalIn, hu, hsz, sameAddr, e1]
    | false => rw [hbb] at hs; cases hs
  case h_12 => cases hs
/-- Neither is a plain pair. -/
def loose : Value → Value → Bool
  | .pointer _, .pointer _ | .slice .., .slice .. | .map _, .map _ | .func .., .nilFunc | .nilFunc, .func .. | .iface .., .nilIface | .nilIface, .iface .. => true
  | _, _ => false
theorem bin_loose {t : TypeId} {x y : Value} (hl : loose x y = true) : binOp .eql t x y = (do pure (.bool (← Op.equal t x y))) ∧ binOp .neq t x y = (do pure (.bool (!(← Op.equal t x y)))) := by
  unfold loose at hl
  split at hl <;> first | exact ⟨rfl, rfl⟩ | cases hl
theorem sameA_bin {t : TypeId} {d : TypeDesc} {a b : AV} {x y : Value} {r : Bool} (hd : und T t = some d) (ha : rel ρ μ w a x) (hb : rel ρ μ w b y) (hs : sameA T d a b = some r) :
    binOp .eql t x y = (do pure (.bool (← Op.equal t x y))) ∧ binOp .neq t x y = (do pure (.bool (!(← Op.equal t x y)))) := by
  refine bin_loose ?_
  unfold sameA at hs
  split at hs
  case h_12 => cases hs
  all_goals
    unfold rel at ha hb
    first
      | (obtain ⟨_, _, _, rfl⟩ := ha; obtain ⟨_, _, _, rfl⟩ := hb; rfl)
      | (obtain ⟨_, _, _, rfl⟩ := ha; obtain ⟨rfl, _⟩ := hb; rfl)
      | (obtain ⟨_, _, _, rfl⟩ := hb; obtain ⟨rfl, _⟩ := ha; rfl)
      | (obtain ⟨rfl, _⟩ := hb; rcases ha with ⟨_, _, _, _, _, rfl, _⟩ | ⟨_, _, _, rfl⟩ <;> rfl)
      | (obtain ⟨rfl, _⟩ := ha; rcases hb with ⟨_, _, _, _, _, rfl, _⟩ | ⟨_, _, _, rfl⟩ <;> rfl)
      | (obtain ⟨_, _, rfl⟩ := ha; obtain ⟨rfl, _⟩ := hb; rfl)
      | (obtain ⟨_, _, rfl⟩ := hb; obtain ⟨rfl, _⟩ := ha; rfl)
      | (obtain ⟨_, _, _, rfl, _⟩ := ha; obtain ⟨rfl, _⟩ := hb; rfl)
      | (obtain ⟨_, _, _, rfl, _⟩ := hb; obtain ⟨rfl, _⟩ := ha; rfl)
      | (obtain ⟨_, rfl, _⟩ := ha; obtain ⟨rfl, _⟩ := hb; rfl)
      | (obtain ⟨_, rfl, _⟩ := hb; obtain ⟨rfl, _⟩ := ha; rfl)
theorem op_same {op : BinOp} {t ty : TypeId} {x y : Operand} (hT : TT.Sound P T) (hr : HR P ρ fl μ h w) (he : EnvR ρ μ w tmps ev) (ho : o.op = .binOp op t x y ty) (ha : aSame T tmps h op t x y = some (n, h')) :
    OpOK P ρ fl μ h w ((execOp ev o).run P w) n h' := by
  unfold aSame at ha
  split at ha
  case h_2 => cases ha
  rename_i d a b hd hx hy
  split at ha
  · rename_i r hs
    simp only [Option.some.injEq, Prod.mk.injEq] at ha
    obtain ⟨rfl, rfl⟩ := ha
    obtain ⟨h1, h2, h3⟩ := sameA_sound hT hr hd (he x _ hx) (he y _ hy) hs
    refine valOK_here hr (v' := .bool r) ?_ (rel_lit rfl)
    simp only [execOp, ho, Sem.run_bind, eqGuard_run h2 h3, Result.andThen_ok]
    rw [(sameA_bin hd (he x _ hx) (he y _ hy) hs).1]
    simp [h1]
  · rename_i r hs
    simp only [Option.some.injEq, Prod.mk.injEq] at ha
    obtain ⟨rfl, rfl⟩ := ha
    obtain ⟨h1, h2, h3⟩ := sameA_sound hT hr hd (he x _ hx) (he y _ hy) hs
    refine valOK_here hr (v' := .bool !r) ?_ (rel_lit rfl)
    simp only [execOp, ho, Sem.run_bind, eqGuard_run h2 h3, Result.andThen_ok]
    rw [(sameA_bin hd (he x _ hx) (he y _ hy) hs).2]
    simp [h1]
  · cases ha
end Go.Proofs.YtohbdgddnkoenaaGreat.Ex
end

section

set_option linter.unusedSimpArgs false
set_option linter.unusedVariables false
namespace Go.Proofs.YtohbdgddnkoenaaGreat.Ex
open Go Go.RowKit
variable {P : Program} {T : TT} {ρ : Nat → Value} {fl : Nat} {μ : Mu} {h : AH} {w : World} {tmps : TM} {ev : Operand → Value} {o : Oper} {n : AN} {h' : AH}
theorem rel_lit_scal {u v : Value} (hh : rel ρ μ w (.lit u) v) : scal v = true := by unfold rel at hh; rw [hh.1]; exact hh.2
theorem ofPV_sound {s : Sem Value} {r : Result Next} (hr : HR P ρ fl μ h w) (ha : ofPV h (pur P s) = some (n, h')) (hrun : r = ((s.run P w).andThen fun v w' => .ok (.value v) w')) : OpOK P ρ fl μ h w r n h' := by
  cases hp : pur P s with
  | none => rw [hp] at ha; cases ha
  | some pr =>
    rw [hp] at ha
    have hs := pur_run s pr hp w
    cases pr with
    | ok v =>
      simp only [ofPV, Option.map_eq_some_iff, Prod.mk.injEq] at ha
      obtain ⟨a, h1, rfl, rfl⟩ := ha
      exact valOK_here hr (by rw [hrun, hs]; rfl) (ofScal_rel h1)
    | pan v =>
      simp only [ofPV, Option.map_eq_some_iff, Prod.mk.injEq] at ha
      obtain ⟨a, h1, rfl, rfl⟩ := ha
      exact ⟨rfl, v, by rw [hrun, hs]; rfl, ofVal_rel h1⟩
theorem cmpB_sound {op : BinOp} {a b u f : Bool} {c m : Int} {r : Bool} {t : TypeId} (hc : cmpB op b a u f = some r) (hb : b = true → m < c) (ha : a = true → c < m) (hu : u = true → m ≤ c) (hf : f = true → c ≤ m) :
    (binOp op t (.int .i64 m) (.int .i64 c)).run P w = .ok (.bool r) w := by
  have key : ∀ v : Bool, (binOp op t (.int .i64 m) (.int .i64 c)) = .pure (.bool v) → v = r → (binOp op t (.int .i64 m) (.int .i64 c)).run P w = .ok (.bool r) w := fun v e1 e2 => by rw [e1, e2]; rfl
  cases op <;> simp only [cmpB, reduceCtorEq] at hc
  case eql => 
    refine key (m == c) (by simp [binOp, Op.intCmp]; rfl) ?_
    cases b <;> cases a <;> simp at hc hb ha ⊢ <;> subst hc <;> simp <;> omega
  case neq =>
    refine key (m != c) (by simp [binOp, Op.intCmp]; rfl) ?_
    cases b <;> cases a <;> simp at hc hb ha ⊢ <;> subst hc <;> simp <;> omega
  case lss =>
    refine key (decide (m < c)) (by simp [binOp, Op.intCmp]; rfl) ?_
    cases b <;> cases f <;> simp at hc hb hf ⊢ <;> subst hc <;> simp <;> omega
  case leq =>
    refine key (decide (m ≤ c)) (by simp [binOp, Op.intCmp]; rfl) ?_
    cases u <;> cases a <;> simp at hc hu ha ⊢ <;> subst hc <;> simp <;> omega
  case gtr =>
    refine key (decide (m > c)) (by simp [binOp, Op.intCmp]; rfl) ?_
    cases u <;> cases a <;> simp at hc hu ha ⊢ <;> subst hc <;> simp <;> omega
  case geq =>
    refine key (decide (m ≥ c)) (by simp [binOp, Op.intCmp]; rfl) ?_
    cases b <;> cases f <;> simp at hc hb hf ⊢ <;> subst hc <;> simp <;> omega
theorem cmpR_sound {op : BinOp} {lo hi : Option Int} {c m : Int} {r : Bool} {t : TypeId} (hc : cmpR op lo hi c = some r) (hlo : ∀ a, lo = some a → a ≤ m) (hhi : ∀ b, hi = some b → m ≤ b) :
    (binOp op t (.int .i64 m) (.int .i64 c)).run P w = .ok (.bool r) w := by
  refine cmpB_sound hc (fun h => ?_) (fun h => ?_) (fun h => ?_) (fun h => ?_)
  · cases hi <;> simp [ltO] at h; have := hhi _ rfl; omega
  · cases lo <;> simp [gtO] at h; have := hlo _ rfl; omega
  · cases hi <;> simp [ltO] at h; have := hhi _ rfl; omega
  · cases lo <;> simp [gtO] at h; have := hlo _ rfl; omega
theorem op_bin {op : BinOp} {t ty : TypeId} {x y : Operand} (hT : TT.Sound P T) (hr : HR P ρ fl μ h w) (he : EnvR ρ μ w tmps ev) (ho : o.op = .binOp op t x y ty) (ha : aBin P T o tmps h op t x y = some (n, h')) :
    OpOK P ρ fl μ h w ((execOp ev o).run P w) n h' := by
  unfold aBin at ha
  split at ha
  · exact orLit_sound hr he ha fun hk => op_same hT hr he ho hk
  · rename_i a b hne hx hy
    have h1 := he x _ hx
    have h2 := he y _ hy
    have e1 := rel_lit_inv h1
    have e2 := rel_lit_inv h2
    have hs := rel_lit_scal h1
    refine ofPV_sound hr ha ?_
    rw [← e1, ← e2]
    simp only [execOp, ho, Sem.run_bind]
    rw [eqGuard_run (fun hh => by
      rw [e1] at hh
      exact hne hh.1) (fun cs hcs => by rw [hcs] at hs; cases hs)]
    simp only [Result.andThen_ok]
    rfl
  · rename_i i lo hi c hx hy
    have h1 := he x _ hx
    have e2 := rel_lit_inv (he y _ hy)
    unfold rel at h1
    obtain ⟨_, m, e1, hlo, hhi⟩ := h1
    simp only [val, Option.map_eq_some_iff, Prod.mk.injEq] at ha
    obtain ⟨a, ⟨r, hc, rfl⟩, rfl, rfl⟩ := ha
    refine valOK_here hr ?_ (rel_lit (v := .bool r) rfl)
    simp only [execOp, ho, Sem.run_bind]
    rw [eqGuard_run (fun hh => by rw [e1] at hh; cases hh.1) (fun cs hcs => by rw [e1] at hcs; cases hcs)]
    simp only [Result.andThen_ok]
    rw [e1, e2, cmpR_sound hc hlo hhi]
    rfl
  · exact orLit_sound hr he ha fun hk => op_same hT hr he ho hk
theorem op_un {op : UnOp} {t : TypeId} {x : Operand} (hr : HR P ρ fl μ h w) (he : EnvR ρ μ w tmps ev) (ho : o.op = .unOp op t x) (ha : aUn P tmps h op x = some (n, h')) :
    OpOK P ρ fl μ h w ((execOp ev o).run P w) n h' := by
  unfold aUn at ha
  split at ha
  · rename_i a hx
    have e1 := rel_lit_inv (he x _ hx)
    refine ofPV_sound hr ha ?_
    rw [← e1]
    simp only [execOp, ho, Sem.run_bind]
    rfl
  · cases ha
theorem rel_sl_inv {b off len : Nat} {cap : Cap} {v : Value} (hh : rel ρ μ w (.sl b off len cap) v) : (∃ r base o c, μ b = some (r, base) ∧ v = .slice (some ⟨r, o, none⟩) len c ∧ (c = 0 ∨ o = base + off) ∧ capRel w r (base + off) len cap c) ∨ (len = 0 ∧ cap = .kn 0 ∧ ∃ a, v = .slice (some a) 0 0) := by unfold rel at hh; exact hh
theorem capRel_le {r o' len c : Nat} {cap : Cap} (hh : capRel w r o' len cap c) : len ≤ c ∧ c ≤ maxLen := by
  cases cap with
  | kn k => obtain ⟨rfl, h2, h3⟩ := hh; exact ⟨h2, h3⟩
  | un z => exact ⟨hh.1, hh.2.1⟩
theorem bytesA_some : ∀ {l : List AV} {bs : List UInt8} {vs : List Value}, bytesA l = some bs → rels ρ μ w l vs → vs = bs.map bv
  | [], bs, vs, hb, hv => by
    simp only [bytesA, Option.some.injEq] at hb
    subst hb
    rw [rels_nil_inv hv]
    rfl
  | x :: r, bs, vs, hb, hv => by
    unfold bytesA at hb
    split at hb
    · rename_i hnil; cases hnil
    · rename_i k r' heq
      obtain ⟨rfl, rfl⟩ := List.cons.inj heq
      cases hk : Nat.blt k 256 with
      | false => rw [hk] at hb; cases hb
      | true =>
        rw [hk] at hb
        simp only [cond_true, Option.map_eq_some_iff] at hb
        obtain ⟨bs', h1, rfl⟩ := hb
        obtain ⟨v, vs', rfl, h2, h3⟩ := rels_cons_inv hv
        have hk2 : k < 256 := Nat.blt_eq.mp hk
        rw [rel_lit_inv h2, bytesA_some h1 h3, List.map_cons]
        congr 1
        unfold bv
        congr 1
        simp
        omega
    · cases hb
/-- The bytes of a slice, read. -/
theorem bytesAt_reads {b off len : Nat} {cap : Cap} {v : Value} {bs : List UInt8} (hr : HR P ρ fl μ h w) (hv : rel ρ μ w (.sl b off len cap) v) (hb : bytesAt h b off len = some bs) :
    ∃ g, bs.length = len ∧ Reads w 1 v len (bs.map bv) g ∧ ∀ k, g = some k → ∃ base, μ b = some (k, base) := by
  rcases rel_sl_inv hv with ⟨r, base, o', c, h1, rfl, h2, h3⟩ | ⟨rfl, rfl, ad, rfl⟩
  rotate_left
  · unfold bytesAt at hb
    split at hb
    case h_2 => cases hb
    split at hb
    case h_2 => cases hb
    rename_i cs hc
    unfold cut at hc
    split at hc
    case isFalse => cases hc
    obtain rfl := Option.some.inj hc
    simp only [List.take_zero, bytesA, Option.some.injEq] at hb
    subst hb
    exact ⟨none, rfl, ⟨by simp, .inl ⟨_, 0, rfl, rfl⟩⟩, fun k hk => by cases hk⟩
  obtain ⟨h4, h5⟩ := capRel_le h3
  unfold bytesAt at hb
  split at hb
  case h_2 => cases hb
  rename_i l hg
  split at hb
  case h_2 => cases hb
  rename_i cs hc
  obtain ⟨cur, e, fz, k1, k2⟩ := getR_sound hr h1 hg
  obtain ⟨vs, k3, k4, k5, k6, k7⟩ := cut_sound k2 hc
  obtain rfl := bytesA_some hb k3
  have hlen : bs.length = len := by simpa using k4
  refine ⟨some r, hlen, ⟨by simp [hlen], ?_⟩, fun k hk => by cases hk; exact ⟨base, h1⟩⟩
  by_cases hc0 : len = 0
  · exact .inl ⟨_, c, by rw [hc0], hc0⟩
  · refine .inr ⟨r, o', c, rfl, rfl, h4, h5, fun j hj => ?_⟩
    obtain rfl : o' = base + off := h2.resolve_left (by omega)
    rw [cell_in k1, List.getElem?_eq_getElem hj]
    exact k7 j _ (List.getElem?_eq_getElem hj)
theorem freeze_one {r : Nat} {cur : Array Value} {e : TypeId} {fz : Nat × Nat} (hg : w.heap[r]? = some (.cells cur e fz)) (k m : Nat) : One r w (w.freeze ⟨r, k, none⟩ m) ∧ ∃ fz', (w.freeze ⟨r, k, none⟩ m).heap[r]? = some (.cells cur e fz') := by
  unfold World.freeze
  split
  · exact ⟨⟨rfl, fun _ _ => rfl, Grows.refl w, ⟨rfl, rfl, rfl⟩⟩, fz, hg⟩
  · obtain ⟨a, b⟩ := fz
    have key : ∀ j, j ≠ r → (w.heap.modify r fun
        | .cells c elem (lo, hi) => .cells c elem (if lo == hi then (k, k + m) else (min lo k, max hi (k + m)))
        | o => o)[j]? = w.heap[j]? := fun j hj => by rw [Array.getElem?_modify, if_neg (Ne.symm hj)]
    refine ⟨⟨by simp, key, fun j cur' e' fz' hj => ?_, ⟨rfl, rfl, rfl⟩⟩, (if a == b then (k, k + m) else (min a k, max b (k + m))), by simp [Array.getElem?_modify, hg]⟩
    by_cases hjr : j = r
    · subst hjr
      rw [hg] at hj
      obtain ⟨rfl, rfl, rfl⟩ := Obj.cells.inj (Option.some.inj hj)
      exact ⟨cur, e, _, by simp [Array.getElem?_modify, hg]; rfl, rfl⟩
    · exact ⟨cur', e', fz', by show (w.heap.modify r _)[j]? = _; rw [Array.getElem?_modify, if_neg (Ne.symm hjr)]; exact hj, rfl⟩
theorem byteCells_rels (s : ByteArray) (rest : Array Value) : window ρ μ w 0 (byteCells s) (s.data.map (fun b => Value.int .u8 b.toNat) ++ rest) := by
  refine ⟨by simp [byteCells], fun i x hx => ?_⟩
  unfold byteCells at hx
  rw [List.getElem?_map] at hx
  cases hb : s.data.toList[i]? with
  | none => rw [hb] at hx; cases hx
  | some b =>
    rw [hb] at hx
    simp only [Option.map_some, Option.some.injEq] at hx
    subst hx
    rw [Array.getElem?_toList] at hb
    have hlt := (Array.getElem?_eq_some_iff.1 hb).1
    refine ⟨.int .u8 b.toNat, ?_, rel_lit rfl⟩
    rw [Nat.zero_add, Array.getElem?_append_left (by simpa using hlt), Array.getElem?_map, hb]
    rfl
theorem aConv1_sound {src dst : TypeId} {a : AV} {x : Value} (hT : TT.Sound P T) (hr : HR P ρ fl μ h w) (hx : rel ρ μ w a x) (ha : aConv1 T h src dst a = some (n, h')) {r : Result Next}
    (hrun : r = (((convert src dst x).run P w).andThen fun v w' => .ok (.value v) w')) : OpOK P ρ fl μ h w r n h' := by
  unfold aConv1 at ha
  split at ha
  · rename_i e b off len cap hs hd
    split at ha
    case h_2 => cases ha
    rename_i he
    obtain ⟨y, hy, rfl, rfl⟩ := val_some ha
    simp only [Option.map_eq_some_iff] at hy
    obtain ⟨bs, hb, rfl⟩ := hy
    obtain ⟨g, h2, h3, _⟩ := bytesAt_reads hr hx hb
    refine valOK_here hr (v' := .string ⟨bs.toArray⟩) ?_ (rel_lit rfl)
    rw [hrun, h3.string_run (und_P hT hs) (und_P hT he) (und_P hT hd)]
    rfl
  · rename_i e0 e b off len cap hs hd
    split at ha
    case isFalse => cases ha
    rename_i hsd
    obtain rfl : src = dst := by simpa using hsd
    split at ha
    case h_2 => cases ha
    rename_i l e' he hg
    cases hnul : isNul len cap with
    | true => rw [hnul] at ha; cases ha
    | false =>
    rw [hnul] at ha
    simp only [cond_false, Option.some.injEq, Prod.mk.injEq] at ha
    obtain ⟨rfl, rfl⟩ := ha
    rcases rel_sl_inv hx with ⟨r1, base, o', c, h1, rfl, h2, h3⟩ | ⟨rfl, rfl, ad, rfl⟩
    rotate_left
    · cases hnul
    obtain ⟨cur, k1, k2, _⟩ := getB_sound hr h1 hg
    obtain ⟨f1, fz', f2⟩ := freeze_one k1 cur.size 1
    have heff := Eff.upd hr h1 (getB_R hg).1 rfl f1 f2 (ab' := .frz l e') ⟨cur, fz', rfl, k2.1, fun i x hi => by
      obtain ⟨v, q1, q2⟩ := k2.2 i x hi
      exact ⟨v, q1, rel.mono (More.refl μ) f1.grows _ _ q2⟩⟩
    refine ⟨μ, _, .slice (some ⟨r1, o', none⟩) len c, .inl ?_, heff, rel.mono (More.refl μ) f1.grows _ _ hx⟩
    have hsh : w.shape? r1 = some (e', cur.size) := by simp [World.shape?, k1]
    have hcv : (convert src src (.slice (some ⟨r1, o', none⟩) len c)).run P w = .ok (.slice (some ⟨r1, o', none⟩) len c) (w.freeze ⟨r1, cur.size, none⟩ 1) := by
      simp [convert, run_und hT hd, run_und hT he, markStringish, hsh]
    rw [hrun, hcv]
    rfl
  · rename_i e s hs hd
    split at ha
    case h_2 => cases ha
    rename_i he
    cases hlb : Nat.ble s.size 16777216 with
    | false => rw [hlb] at ha; cases ha
    | true =>
    rw [hlb] at ha
    simp only [cond_true, Option.some.injEq, Prod.mk.injEq] at ha
    obtain ⟨rfl, rfl⟩ := ha
    have hlen : s.size ≤ maxLen := by
      have := Nat.ble_eq.mp hlb
      simp only [maxLen]
      omega
    obtain rfl := rel_lit_inv hx
    have hcv := run_bytes_of_string (P := P) w src dst e s (und_P hT hs) (und_P hT hd) (und_P hT he)
    have e1 : Eff P ρ fl μ h w μ h w.drew := Eff.drew hr 1
    have e2 := Eff.alloc e1.hr (ab := .frz (byteCells s) e) (o := .cells (bytesRow s (grownCap w s.size 0 e)) e ((bytesRow s (grownCap w s.size 0 e)).size, (bytesRow s (grownCap w s.size 0 e)).size + 1)) ⟨_, _, rfl, byteCells_rels s _⟩
    have hge := grownCap_ge w s.size 0 e
    have hsz : (bytesRow s (grownCap w s.size 0 e)).size = grownCap w s.size 0 e := by
      have : s.data.size = s.size := rfl
      simp [bytesRow, this]
      omega
    refine ⟨_, _, .slice (some ⟨w.heap.size, 0, none⟩) s.size (grownCap w s.size 0 e), .inl ?_, e1.trans hr e2, ?_⟩
    · rw [hrun, hcv]
      rfl
    · unfold rel
      refine .inl ⟨w.heap.size, 0, 0, _, up_same _ _ _, rfl, .inr rfl, hge, grownCap_le_maxLen w s.size 0 e hlen, by omega, ?_⟩
      refine ⟨_, _, _, heap_alloc_new' w.drew _, ?_⟩
      rw [hsz]
      omega
  · cases ha
end Go.Proofs.YtohbdgddnkoenaaGreat.Ex
end

section

set_option linter.unusedSimpArgs false
set_option linter.unusedVariables false
namespace Go.Proofs.YtohbdgddnkoenaaGreat.Ex
open Go Go.RowKit
variable {P : Program} {T : TT} {ρ : Nat → Value} {fl : Nat} {μ : Mu} {h : AH} {w : World} {tmps : TM} {ev : Operand → Value} {o : Oper} {n : AN} {h' : AH}
theorem op_convert {src dst : TypeId} {x : Operand} (hT : TT.Sound P T) (hr : HR P ρ fl μ h w) (he : EnvR ρ μ w tmps ev) (ho : o.op = .convert src dst x) (ha : aConvert P T o tmps h src dst x = some (n, h')) :
    OpOK P ρ fl μ h w ((execOp ev o).run P w) n h' := by
  unfold aConvert at ha
  split at ha
  · rename_i k m hx
    split at ha
    · rename_i d0 k' hs hd
      simp only [Option.some.injEq, Prod.mk.injEq] at ha
      obtain ⟨rfl, rfl⟩ := ha
      have h1 := rel_lit_inv (he x _ hx)
      refine valOK_here hr (v' := .int k' (k'.wrap m)) ?_ (rel_lit rfl)
      simp [execOp, ho, h1, convert, run_und hT hs, run_und hT hd, Conv.intToInt]
    · exact orLit_sound hr he ha fun hk => by cases hk
  · rename_i v hx
    refine orLit_sound hr he ha fun hk => aConv1_sound hT hr (he x _ hx) hk ?_
    simp only [execOp, ho, Sem.run_bind]
    rfl
  · cases ha
theorem op_makeInterface {t : TypeId} {x : Operand} (hT : TT.Sound P T) (hr : HR P ρ fl μ h w) (he : EnvR ρ μ w tmps ev) (ho : o.op = .makeInterface t x) (ha : aMakeInterface T tmps h t x = some (n, h')) :
    OpOK P ρ fl μ h w ((execOp ev o).run P w) n h' := by
  unfold aMakeInterface at ha
  split at ha
  · cases ha
  · rename_i d y hne hd hx
    simp only [Option.some.injEq, Prod.mk.injEq] at ha
    obtain ⟨rfl, rfl⟩ := ha
    refine valOK_here hr (v' := .iface t (ev x)) ?_ (by unfold rel; exact ⟨_, rfl, he x _ hx⟩)
    have : (Instr.makeInterface t (ev x)).run P w = .ok (.iface t (ev x)) w := by
      simp only [Instr.makeInterface, Sem.run_bind, run_und hT hd, Result.andThen_ok]
      cases d <;> first | rfl | (exact absurd rfl (hne _))
    simp [execOp, ho, this]
  · cases ha
theorem arr_map (f : Operand → Value) (l : Array Operand) : l.map f = (l.toList.map f).toArray := by
  cases l
  simp
theorem op_makeFunc {f : Fn} {first caps : Array Operand} (hr : HR P ρ fl μ h w) (he : EnvR ρ μ w tmps ev) (ho : o.op = .makeFunc f first caps) (ha : aMakeFunc tmps h f first caps = some (n, h')) :
    OpOK P ρ fl μ h w ((execOp ev o).run P w) n h' := by
  unfold aMakeFunc at ha
  split at ha
  · rename_i a b h1 h2
    cases hy : notYield f with
    | false => rw [hy] at ha; cases ha
    | true =>
      rw [hy] at ha
      simp only [cond_true, Option.some.injEq, Prod.mk.injEq] at ha
      obtain ⟨rfl, rfl⟩ := ha
      refine valOK_here hr (v' := .func f (first.map ev) (caps.map ev)) (by simp [execOp, ho, Instr.makeFunc]) ?_
      unfold rel
      refine ⟨f, first.toList.map ev, caps.toList.map ev, by rw [arr_map, arr_map], ?_, evals_sound he h1, evals_sound he h2⟩
      cases f <;> first | rfl | cases hy
  · cases ha
theorem op_makeMap {t : TypeId} (hr : HR P ρ fl μ h w) (ho : o.op = .makeMap t none) : OpOK P ρ fl μ h w ((execOp ev o).run P w) (.val (.mp h.n)) (h.push (.map [] 0)) := by
  refine ⟨_, _, .map (some w.heap.size), .inl ?_, Eff.alloc hr (o := .map #[] 0) ⟨#[], rfl, rfl, rfl⟩, ?_⟩
  · simp [execOp, ho, Instr.makeMap]
  · unfold rel
    exact ⟨w.heap.size, up_same _ _ _, rfl⟩
theorem natA_inv {v : AV} {k : Nat} {u : Value} (hv : natA v = some k) (hu : rel ρ μ w v u) : ∃ kd i, u = .int kd i ∧ 0 ≤ i ∧ i.toNat = k := by
  unfold natA at hv
  split at hv
  · rename_i i hi
    split at hv
    · unfold intA at hi
      split at hi
      · rename_i kd i'
        obtain rfl := Option.some.inj hi
        exact ⟨kd, _, rel_lit_inv hu, by assumption, Option.some.inj hv⟩
      · cases hi
    · cases hv
  · cases hv
theorem op_makeSlice {t : TypeId} {l c : Operand} (hT : TT.Sound P T) (hr : HR P ρ fl μ h w) (he : EnvR ρ μ w tmps ev) (ho : o.op = .makeSlice t l c) (ha : aMakeSlice T tmps h t l c = some (n, h')) :
    OpOK P ρ fl μ h w ((execOp ev o).run P w) n h' := by
  unfold aMakeSlice at ha
  split at ha
  case h_2 => cases ha
  rename_i e k m hu hl hc
  split at ha
  case h_2 => cases ha
  rename_i i hi
  split at ha
  case isFalse => cases ha
  rename_i hcond
  simp only [Bool.and_eq_true, decide_eq_true_eq] at hcond
  obtain ⟨⟨⟨c1, c2⟩, c3⟩, c4⟩ := hcond
  simp only [Option.some.injEq, Prod.mk.injEq] at ha
  obtain ⟨rfl, rfl⟩ := ha
  obtain ⟨al, al1, al2⟩ := Option.bind_eq_some_iff.1 hl
  obtain ⟨ac, ac1, ac2⟩ := Option.bind_eq_some_iff.1 hc
  obtain ⟨kl, il, e1, e2, rfl⟩ := natA_inv al2 (he l _ al1)
  obtain ⟨kc, ic, f1, f2, rfl⟩ := natA_inv ac2 (he c _ ac1)
  obtain ⟨info, z, g1, g2, g3, g4, g5⟩ := hT.info e i hi
  have hzr := rel_cells (ofVal1_rel (ρ := ρ) (μ := μ) (w := w) g5)
  have hlen := rels_length hzr
  rw [Array.length_toList] at hlen
  have hb : (info.bytes : Int) * ic ≤ 281474976710656 := by
    have h1 : ((i.bytes * ic.toNat : Nat) : Int) ≤ 281474976710656 := by omega
    have h2 : ((info.bytes * ic.toNat : Nat) : Int) ≤ 281474976710656 := by have := Nat.mul_le_mul_right ic.toNat g3.1; omega
    rw [Int.natCast_mul, Int.toNat_of_nonneg f2] at h2
    exact h2
  have hrun := run_make (P := P) w t e info z (und_P hT hu) g1 g4 kl kc il ic e2 (by omega) hb (by omega)
  have hrow := rep_rels hzr ic.toNat
  rw [c4] at hrow
  refine ⟨_, _, .slice (some ⟨w.heap.size, 0, none⟩) il.toNat ic.toNat, .inl ?_, Eff.alloc hr (o := .cells (madeCells z.cells (ic.toNat * info.size)) e) ⟨_, rfl, whole_of (by rw [g2]; exact hrow)⟩, rel_sl_new c1 (by simp only [maxLen]; omega) _⟩
  simp [execOp, ho, e1, f1, hrun]
/-! Slice expressions. -/
def optRel : Option Nat → Option Value → Prop
  | none, u => u = none
  | some k, u => ∃ kd i, u = some (.int kd i) ∧ 0 ≤ i ∧ i.toNat = k
theorem optNat_sound (he : EnvR ρ μ w tmps ev) {x : Option Operand} {k : Option Nat} (hx : optNat tmps x = some k) : optRel k (x.map ev) := by
  cases x with
  | none =>
    change some none = some k at hx
    obtain rfl := Option.some.inj hx
    rfl
  | some y =>
    change (match evalA tmps y with | some v => (natA v).map some | none => none) = some k at hx
    split at hx
    · rename_i v hv
      simp only [Option.map_eq_some_iff] at hx
      obtain ⟨k', h1, rfl⟩ := hx
      obtain ⟨kd, i, h2, h3, h4⟩ := natA_inv h1 (he y _ hv)
      exact ⟨kd, i, by simp [h2], h3, h4⟩
    · cases hx
def capFor (m l : Nat) : Cap → Option Nat → Cap → Prop
  | cap, none, c' => c' = (match cap with | .kn k => .kn (k - l) | .un z => .un z)
  | _, some _, c' => c' = .kn (m - l)
theorem low_run {P : Program} {w : World} {lo : Option Nat} {rlo : Option Value} (y : Nat) (code : BoundsCode) (k m : Nat) : optRel lo rlo → lo.getD 0 ≤ y → (match rlo with
      | some v => (do let l ← Instr.sliceBound v y code; pure (l, k, m))
      | none => (do let l ← pure 0; pure (l, k, m)) : Sem (Nat × Nat × Nat)).run P w = .ok (lo.getD 0, k, m) w := fun h1 hy => by
  cases lo with
  | none => obtain rfl := h1; rfl
  | some k =>
    obtain ⟨kd, i, rfl, h4, h5⟩ := h1
    simp only [Option.getD_some] at hy ⊢
    rw [Sem.run_bind, run_sliceBound w kd i y code h4 (by omega), h5]
    rfl
theorem bounds_sound {isS : Bool} {len c : Nat} {cap c' : Cap} {lo hi mx : Option Nat} {rlo rhi rmx : Option Value} {l r : Nat} (h1 : optRel lo rlo) (h2 : optRel hi rhi) (h3 : optRel mx rmx)
    (hcap : ∀ k, capGe cap len k = some true → k ≤ c) (hb : boundsA len cap lo hi mx = some (l, r, c')) (w : World) :
    ∃ m, (Instr.sliceBounds isS len c rlo rhi rmx).run P w = .ok (l, r, m) w ∧ l ≤ r ∧ r ≤ m ∧ m ≤ c ∧ (mx = none → m = c) ∧ capFor m l cap mx c' := by
  unfold boundsA at hb
  cases mx with
  | some m =>
    obtain ⟨km, im, rfl, m1, m2⟩ := h3
    cases hi with
    | none => simp at hb
    | some k =>
      obtain ⟨kh, ih, rfl, g1, g2⟩ := h2
      simp only at hb
      split at hb
      · rename_i hc
        simp only [Bool.and_eq_true, decide_eq_true_eq, beq_iff_eq] at hc
        simp only [Option.some.injEq, Prod.mk.injEq] at hb
        obtain ⟨rfl, rfl, rfl⟩ := hb
        have hmc := hcap m hc.2
        refine ⟨m, ?_, hc.1.1, hc.1.2, hmc, by simp, rfl⟩
        simp only [Instr.sliceBounds, Sem.run_bind]
        rw [run_sliceBound w km im c _ m1 (by omega), m2]
        simp only [Result.andThen_ok, Sem.run_bind]
        rw [run_sliceBound w kh ih m _ g1 (by omega), g2]
        simp only [Result.andThen_ok]
        exact low_run k _ _ _ h1 hc.1.1
      · cases hb
  | none =>
    obtain rfl := h3
    simp only at hb
    split at hb
    · rename_i hc
      simp only [Bool.and_eq_true, decide_eq_true_eq, beq_iff_eq] at hc
      simp only [Option.some.injEq, Prod.mk.injEq] at hb
      obtain ⟨rfl, rfl, rfl⟩ := hb
      have hrc := hcap _ hc.2
      refine ⟨c, ?_, hc.1, hrc, Nat.le_refl _, fun _ => rfl, rfl⟩
      simp only [Instr.sliceBounds, Sem.run_bind, Sem.run_pure, Result.andThen_ok]
      cases hi with
      | none =>
        obtain rfl := h2
        simp only [Option.getD_none, Sem.run_pure, Result.andThen_ok, Sem.run_bind] at hc ⊢
        exact low_run len _ _ _ h1 hc.1
      | some k =>
        obtain ⟨kh, ih, rfl, g1, g2⟩ := h2
        simp only [Option.getD_some] at hc hrc ⊢
        rw [Sem.run_bind, run_sliceBound w kh ih c _ g1 (by omega), g2]
        simp only [Result.andThen_ok]
        exact low_run k _ _ _ h1 hc.1
    · cases hb
theorem capGe_of {r o' len c : Nat} {cap : Cap} (hh : capRel w r o' len cap c) (k : Nat) (hk : capGe cap len k = some true) : k ≤ c := by
  cases cap with
  | kn m => simp only [capGe, Option.some.injEq, decide_eq_true_eq] at hk; obtain ⟨rfl, _⟩ := hh; exact hk
  | un z =>
    simp only [capGe] at hk
    split at hk
    · exact Nat.le_trans (by assumption) hh.1
    · cases hk
/-- The slice that a slice expression gives. -/
theorem sl_cut {b off len c m l r base r1 o' z : Nat} {cap c' : Cap} {mx : Option Nat} (hb : μ b = some (r1, base)) (ho : c = 0 ∨ o' = base + off) (hc : capRel w r1 (base + off) len cap c)
    (h1 : l ≤ r) (h2 : r ≤ m) (h3 : m ≤ c) (hm : mx = none → m = c) (hf : capFor m l cap mx c') (hz : capFits z c' = true) :
    rel ρ μ w (.sl b (off + l * z) (r - l) c') (.slice (if m = l then some ⟨r1, o', none⟩ else (some ⟨r1, o', none⟩ : Option Addr).map (·.add (l * z))) (r - l) (m - l)) := by
  have hmax := (capRel_le hc).2
  have key : ∃ o2, (if m = l then some ⟨r1, o', none⟩ else (some ⟨r1, o', none⟩ : Option Addr).map (·.add (l * z))) = some ⟨r1, o2, none⟩ ∧ (m - l = 0 ∨ o2 = base + (off + l * z)) := by
    by_cases hml : m = l
    · exact ⟨o', by simp [hml], .inl (by omega)⟩
    · refine ⟨o' + l * z, by simp [hml, addr_add], .inr ?_⟩
      rcases ho with h0 | rfl
      · omega
      · omega
  obtain ⟨o2, e1, e2⟩ := key
  rw [e1]
  unfold rel
  refine .inl ⟨r1, base, o2, m - l, hb, rfl, e2, ?_⟩
  cases mx with
  | some k =>
    simp only [capFor] at hf
    subst hf
    exact ⟨rfl, by omega, by omega⟩
  | none =>
    have hmc := hm rfl
    subst hmc
    simp only [capFor] at hf
    subst hf
    cases cap with
    | kn k =>
      obtain ⟨rfl, _, _⟩ := hc
      exact ⟨rfl, by omega, by omega⟩
    | un z2 =>
      obtain ⟨_, _, q1, cur, e, fz, q2, q3⟩ := hc
      simp only [capFits] at hz
      obtain rfl := Nat.eq_of_beq_eq_true hz
      refine ⟨by omega, by omega, q1, cur, e, fz, q2, ?_⟩
      have : l * z + (m - l) * z = m * z := by rw [← Nat.add_mul]; congr 1; omega
      omega
theorem op_slice {t : TypeId} {x : Operand} {lo hi mx : Option Operand} (hT : TT.Sound P T) (hr : HR P ρ fl μ h w) (he : EnvR ρ μ w tmps ev) (ho : o.op = .slice t x lo hi mx) (ha : aSlice P T o tmps h t x lo hi mx = some (n, h')) :
    OpOK P ρ fl μ h w ((execOp ev o).run P w) n h' := by
  unfold aSlice at ha
  refine orLit_sound hr he ha fun hk => ?_
  split at hk
  case h_2 => cases hk
  rename_i y l0 h0 m0 hx hl hh hm
  have q1 := optNat_sound he hl
  have q2 := optNat_sound he hh
  have q3 := optNat_sound he hm
  have hv := he x _ hx
  unfold aSlice1 at hk
  split at hk
  · rename_i e b off len cap hu
    split at hk
    case h_2 => cases hk
    rename_i z l r c' hz hb
    cases hfit : capFits z c' with
    | false => rw [hfit] at hk; cases hk
    | true =>
      rw [hfit] at hk
      simp only [cond_true, Option.some.injEq, Prod.mk.injEq] at hk
      obtain ⟨rfl, rfl⟩ := hk
      rcases rel_sl_inv hv with ⟨r1, base, o', c, h1, h2, h3, h4⟩ | ⟨rfl, rfl, ad, h2⟩
      rotate_left
      · obtain ⟨m, b1, b2, b3, b4, b5, b6⟩ := bounds_sound (P := P) (isS := true) (len := 0) (c := 0) q1 q2 q3 (fun k hk => by simp only [capGe, Option.some.injEq, decide_eq_true_eq] at hk; exact hk) hb w
        obtain rfl : m = 0 := by omega
        obtain rfl : r = 0 := by omega
        obtain rfl : l = 0 := by omega
        refine valOK_here hr (v' := .slice (some ad) 0 0) ?_ ?_
        · simp [execOp, ho, h2, Instr.sliceAt, Instr.slice, run_und hT hu, b1, run_size hT hz]
        · unfold rel
          refine .inr ⟨rfl, ?_, ad, rfl⟩
          cases m0 with
          | some k => simp only [capFor] at b6; subst b6; rfl
          | none => simp only [capFor] at b6; subst b6; rfl
      obtain ⟨m, b1, b2, b3, b4, b5, b6⟩ := bounds_sound (P := P) (isS := true) (len := len) (c := c) q1 q2 q3 (capGe_of h4) hb w
      refine valOK_here hr ?_ (sl_cut h1 h3 h4 b2 b3 b4 b5 b6 hfit)
      simp [execOp, ho, h2, Instr.sliceAt, Instr.slice, run_und hT hu, b1, run_size hT hz]
  · rename_i k e b off hu
    split at hk
    case h_2 => cases hk
    rename_i z l r c' hz hb
    cases hfit : Nat.ble k 16777216 with
    | false => rw [hfit] at hk; cases hk
    | true =>
      rw [hfit] at hk
      simp only [cond_true, Option.some.injEq, Prod.mk.injEq] at hk
      obtain ⟨rfl, rfl⟩ := hk
      have hk2 := Nat.ble_eq.mp hfit
      obtain ⟨r1, base, h1, h2⟩ := rel_ptr_inv hv
      have h4 : capRel w r1 (base + off) k (.kn k) k := ⟨rfl, Nat.le_refl _, by simp only [maxLen]; omega⟩
      obtain ⟨m, b1, b2, b3, b4, b5, b6⟩ := bounds_sound (P := P) (isS := false) (len := k) (c := k) q1 q2 q3 (capGe_of h4) hb w
      have hcf : capFits z c' = true := by
        cases m0 <;> simp only [capFor] at b6 <;> subst b6 <;> rfl
      refine valOK_here hr ?_ (sl_cut h1 (.inr rfl) h4 b2 b3 b4 b5 b6 hcf)
      simp [execOp, ho, h2, Instr.sliceAt, Instr.sureAddr, run_und hT hu, b1, run_size hT hz]
      split <;> rfl
  · cases hk
end Go.Proofs.YtohbdgddnkoenaaGreat.Ex
end

section

set_option linter.unusedSimpArgs false
set_option linter.unusedVariables false
namespace Go.Proofs.YtohbdgddnkoenaaGreat.Ex
open Go Go.RowKit
variable {P : Program} {T : TT} {ρ : Nat → Value} {fl : Nat} {μ : Mu} {h : AH} {w : World} {tmps : TM} {ev : Operand → Value} {o : Oper} {n : AN} {h' : AH}
theorem op_fieldAddr {t : TypeId} {x : Operand} {i : Nat} (hT : TT.Sound P T) (hr : HR P ρ fl μ h w) (he : EnvR ρ μ w tmps ev) (ho : o.op = .fieldAddr t x i) (ha : aFieldAddr T tmps h t x i = some (n, h')) :
    OpOK P ρ fl μ h w ((execOp ev o).run P w) n h' := by
  unfold aFieldAddr at ha
  split at ha
  case h_2 => cases ha
  rename_i fs b off hu hx
  split at ha
  case h_2 => cases ha
  rename_i f hf
  split at ha
  case h_2 => cases ha
  rename_i k hk
  simp only [Option.some.injEq, Prod.mk.injEq] at ha
  obtain ⟨rfl, rfl⟩ := ha
  obtain ⟨r, base, hb, hv⟩ := rel_ptr_inv (he x _ hx)
  refine valOK_here hr (v' := .pointer (some ⟨r, base + (off + f.offset), none⟩)) ?_ (by unfold rel; exact ⟨r, base, hb, rfl⟩)
  simp [execOp, ho, hv, Instr.fieldAt, Instr.sureAddr, run_und hT hu, hf, fieldPlace, run_size hT hk, addr_add, Nat.add_assoc]
theorem partA_sound {t : TypeId} {l : List AV} {l' : List Value} {off : Nat} {a : AV} (hT : TT.Sound P T) (hl : rels ρ μ w l l') (hp : partA T t l off = some a) (w' : World) :
    ∃ v, (part t l'.toArray off).run P w' = .ok v w' ∧ rel ρ μ w a v := by
  unfold partA at hp
  split at hp
  case h_2 => cases hp
  rename_i i hi
  have hA := run_isAgg hT (show isAggT T t = some (isAggD i.desc) by simp [isAggT, hi]) w'
  have hS := run_size hT (show sizeT T t = some i.size by simp [sizeT, hi]) w'
  cases hd : isAggD i.desc with
  | true =>
    rw [hd] at hp hA
    simp only [cond_true, Option.map_eq_some_iff] at hp
    obtain ⟨cs, hc, rfl⟩ := hp
    obtain ⟨c1, rfl⟩ := cut_some hc
    refine ⟨.agg (l'.toArray.extract off (off + i.size)), by simp [part, hA, hS], ?_⟩
    unfold rel
    refine ⟨(l'.drop off).take i.size, ?_, rels_take _ (rels_drop _ hl)⟩
    simp [List.extract_eq_take_drop]
  | false =>
    rw [hd] at hp hA
    simp only [cond_false] at hp
    obtain ⟨v, h1, h2⟩ := rels_get hl hp
    exact ⟨v, by simp [part, hA, h1], h2⟩
theorem rel_agg_inv {l : List AV} {v : Value} (hh : rel ρ μ w (.agg l) v) : ∃ l', v = .agg l'.toArray ∧ rels ρ μ w l l' := by unfold rel at hh; exact hh
theorem rel_tup_inv {l : List AV} {v : Value} (hh : rel ρ μ w (.tup l) v) : ∃ l', v = .tuple l'.toArray ∧ rels ρ μ w l l' := by unfold rel at hh; exact hh
theorem op_field {t : TypeId} {x : Operand} {i : Nat} (hT : TT.Sound P T) (hr : HR P ρ fl μ h w) (he : EnvR ρ μ w tmps ev) (ho : o.op = .field t x i) (ha : aField T tmps h t x i = some (n, h')) :
    OpOK P ρ fl μ h w ((execOp ev o).run P w) n h' := by
  unfold aField at ha
  split at ha
  case h_2 => cases ha
  rename_i fs l hu hx
  split at ha
  case h_2 => cases ha
  rename_i f hf
  obtain ⟨a, h1, rfl, rfl⟩ := val_some ha
  obtain ⟨l', hv, hl⟩ := rel_agg_inv (he x _ hx)
  obtain ⟨v, h2, h3⟩ := partA_sound hT hl h1 w
  exact valOK_here hr (by simp [execOp, ho, hv, Instr.field, run_und hT hu, hf, asAgg, h2]) h3
theorem op_indexAddr {t : TypeId} {x ix : Operand} (hT : TT.Sound P T) (hr : HR P ρ fl μ h w) (he : EnvR ρ μ w tmps ev) (ho : o.op = .indexAddr t x ix) (ha : aIndexAddr T tmps h t x ix = some (n, h')) :
    OpOK P ρ fl μ h w ((execOp ev o).run P w) n h' := by
  unfold aIndexAddr at ha
  split at ha
  · rename_i e b off len cap i hu hx hix
    split at ha
    case h_2 => cases ha
    rename_i z hz
    split at ha
    case isFalse => cases ha
    rename_i hlt
    simp only [Option.some.injEq, Prod.mk.injEq] at ha
    obtain ⟨rfl, rfl⟩ := ha
    obtain ⟨ai, ai1, ai2⟩ := Option.bind_eq_some_iff.1 hix
    obtain ⟨kd, iv, e1, e2, rfl⟩ := natA_inv ai2 (he ix _ ai1)
    rcases rel_sl_inv (he x _ hx) with ⟨r, base, o', c, h1, h2, h3, h4⟩ | ⟨rfl, _⟩
    rotate_left
    · omega
    have h5 := (capRel_le h4).1
    obtain rfl : o' = base + off := h3.resolve_left (by omega)
    have hi2 : iv < (len : Int) := by omega
    refine valOK_here hr (v' := .pointer (some ⟨r, base + (off + iv.toNat * z), none⟩)) ?_ (by unfold rel; exact ⟨r, base, h1, rfl⟩)
    by_cases hl1 : len ≤ 1
    · simp [execOp, ho, h2, e1, Instr.indexAt, asIntOf, run_und hT hu, hl1, e2, hi2, run_size hT hz, addr_add, Nat.add_assoc]
    · simp [execOp, ho, h2, e1, Instr.indexAt, asIntOf, run_und hT hu, hl1, e2, hi2, run_size hT hz, addr_add, Nat.add_assoc]
  · rename_i m e b off i hu hx hix
    split at ha
    case h_2 => cases ha
    rename_i z hz
    split at ha
    case isFalse => cases ha
    rename_i hlt
    simp only [Option.some.injEq, Prod.mk.injEq] at ha
    obtain ⟨rfl, rfl⟩ := ha
    obtain ⟨ai, ai1, ai2⟩ := Option.bind_eq_some_iff.1 hix
    obtain ⟨kd, iv, e1, e2, rfl⟩ := natA_inv ai2 (he ix _ ai1)
    obtain ⟨r, base, h1, h2⟩ := rel_ptr_inv (he x _ hx)
    have hi2 : iv < (m : Int) := by omega
    refine valOK_here hr (v' := .pointer (some ⟨r, base + (off + iv.toNat * z), none⟩)) ?_ (by unfold rel; exact ⟨r, base, h1, rfl⟩)
    by_cases hl1 : m ≤ 1
    · simp [execOp, ho, h2, e1, Instr.indexAt, Instr.sureAddr, asIntOf, run_und hT hu, hl1, e2, hi2, run_size hT hz, addr_add, Nat.add_assoc]
    · simp [execOp, ho, h2, e1, Instr.indexAt, Instr.sureAddr, asIntOf, run_und hT hu, hl1, e2, hi2, run_size hT hz, addr_add, Nat.add_assoc]
  · cases ha
theorem op_index {t : TypeId} {x ix : Operand} (hT : TT.Sound P T) (hr : HR P ρ fl μ h w) (he : EnvR ρ μ w tmps ev) (ho : o.op = .index t x ix) (ha : aIndex P T o tmps h t x ix = some (n, h')) :
    OpOK P ρ fl μ h w ((execOp ev o).run P w) n h' := by
  unfold aIndex at ha
  refine orLit_sound hr he ha fun hk => ?_
  split at hk
  case h_2 => cases hk
  rename_i m e l i hu hx hix
  split at hk
  case h_2 => cases hk
  rename_i z hz
  split at hk
  case isFalse => cases hk
  rename_i hlt
  obtain ⟨a, h1, rfl, rfl⟩ := val_some hk
  obtain ⟨ai, ai1, ai2⟩ := Option.bind_eq_some_iff.1 hix
  obtain ⟨kd, iv, e1, e2, rfl⟩ := natA_inv ai2 (he ix _ ai1)
  obtain ⟨l', hv, hl⟩ := rel_agg_inv (he x _ hx)
  obtain ⟨v, h2, h3⟩ := partA_sound hT hl h1 w
  have hi2 : iv < (m : Int) := by omega
  exact valOK_here hr (by simp [execOp, ho, hv, e1, Instr.index, asIntOf, run_und hT hu, e2, hi2, run_size hT hz, h2]) h3
theorem op_extract {x : Operand} {i : Nat} (hr : HR P ρ fl μ h w) (he : EnvR ρ μ w tmps ev) (ho : o.op = .extract x i) (ha : aExtract tmps h x i = some (n, h')) :
    OpOK P ρ fl μ h w ((execOp ev o).run P w) n h' := by
  unfold aExtract at ha
  split at ha
  case h_2 => cases ha
  rename_i l hx
  obtain ⟨a, h1, rfl, rfl⟩ := val_some ha
  obtain ⟨l', hv, hl⟩ := rel_tup_inv (he x _ hx)
  obtain ⟨v, h2, h3⟩ := rels_get hl h1
  exact valOK_here hr (by simp [execOp, ho, hv, Instr.extract, h2]) h3
theorem rel_pair {a : AV} {v : Value} (hh : rel ρ μ w a v) (b : Bool) : rel ρ μ w (.tup [a, .lit (.bool b)]) (.tuple #[v, .bool b]) := by
  unfold rel
  exact ⟨[v, .bool b], rfl, rels_cons hh (rels_cons (rel_lit rfl) rels_nil)⟩
theorem rel_okPair {a : AV} {v : Value} (hh : rel ρ μ w a v) (ok b : Bool) : rel ρ μ w (okPair ok a b) (if ok then .tuple #[v, .bool b] else v) := by
  cases ok
  · exact hh
  · exact rel_pair hh b
theorem op_assert {x : Operand} {xt t : TypeId} {ok : Bool} (hT : TT.Sound P T) (hr : HR P ρ fl μ h w) (he : EnvR ρ μ w tmps ev) (ho : o.op = .typeAssert x xt t ok) (ha : aAssert P T tmps h x t ok = some (n, h')) :
    OpOK P ρ fl μ h w ((execOp ev o).run P w) n h' := by
  unfold aAssert at ha
  split at ha
  · rename_i d y i hx hi
    have hu := run_und hT (show und T t = some i.desc by simp [und, hi]) w
    obtain ⟨u, hv, hu2⟩ := rel_ifc_inv (he x _ hx)
    obtain ⟨z, hz, hz2⟩ := run_zero hT (show zeroT T t = some i.zero by simp [zeroT, hi]) w
    split at ha
    · rename_i want hd
      split at ha
      case h_2 => cases ha
      rename_i j hj
      split at ha
      case isFalse => cases ha
      rename_i hmiss
      simp only [Option.some.injEq, Prod.mk.injEq] at ha
      obtain ⟨rfl, rfl⟩ := ha
      refine valOK_here hr ?_ (rel_okPair (hv ▸ he x _ hx) ok true)
      rw [hd] at hu
      have hm2 : Instr.missingMethod want j.methods = none := by simpa using hmiss
      simp [execOp, ho, hv, Instr.typeAssert, hu, typeInfo, hj, hm2]
    · rename_i hni
      cases hdt : Nat.beq d t with
      | true =>
        rw [hdt] at ha
        simp only [cond_true, Option.some.injEq, Prod.mk.injEq] at ha
        obtain ⟨rfl, rfl⟩ := ha
        obtain rfl := Nat.eq_of_beq_eq_true hdt
        refine valOK_here hr ?_ (rel_okPair hu2 ok true)
        have : (Instr.typeAssert (.iface d u) xt d ok).run P w = .ok (if ok then .tuple #[u, .bool true] else u) w := by
          simp only [Instr.typeAssert, Sem.run_bind, hu, Result.andThen_ok]
          cases hd : i.desc <;> first | (exact absurd hd (hni _)) | (simp; done) | simp
        simp [execOp, ho, hv, this]
      | false =>
        rw [hdt] at ha
        simp only [cond_false] at ha
        cases ok with
        | false => cases ha
        | true =>
          simp only [cond_true, Option.some.injEq, Prod.mk.injEq] at ha
          obtain ⟨rfl, rfl⟩ := ha
          have hne : t ≠ d := fun hh => by subst hh; simp at hdt
          refine valOK_here hr (v' := .tuple #[z, .bool false]) ?_ (rel_pair (ofVal1_rel hz2) false)
          have : (Instr.typeAssert (.iface d u) xt t true).run P w = .ok (.tuple #[z, .bool false]) w := by
            simp only [Instr.typeAssert, Sem.run_bind, hu, Result.andThen_ok]
            cases hd : i.desc <;> first | (exact absurd hd (hni _)) | (simp [Ne.symm hne, hz]; done) | simp [Ne.symm hne, hz]
          simp [execOp, ho, hv, this]
  · rename_i i hx hi
    have hu := run_und hT (show und T t = some i.desc by simp [und, hi]) w
    have hv := rel_lit_inv (he x _ hx)
    obtain ⟨z, hz, hz2⟩ := run_zero hT (show zeroT T t = some i.zero by simp [zeroT, hi]) w
    cases ok with
    | false => cases ha
    | true =>
      simp only [cond_true, Option.some.injEq, Prod.mk.injEq] at ha
      obtain ⟨rfl, rfl⟩ := ha
      refine valOK_here hr (v' := .tuple #[z, .bool false]) ?_ (rel_pair (ofVal1_rel hz2) false)
      have : (Instr.typeAssert .nilIface xt t true).run P w = .ok (.tuple #[z, .bool false]) w := by
        simp only [Instr.typeAssert, Sem.run_bind, hu, Result.andThen_ok]
        cases hd : i.desc <;> simp [hz]
      simp [execOp, ho, hv, this]
  · cases ha
theorem op_panic {x : Operand} (hr : HR P ρ fl μ h w) (he : EnvR ρ μ w tmps ev) (ho : o.op = .panic x) (ha : aPanic tmps h x = some (n, h')) :
    OpOK P ρ fl μ h w ((execOp ev o).run P w) n h' := by
  unfold aPanic at ha
  split at ha
  · rename_i t y hx
    simp only [Option.some.injEq, Prod.mk.injEq] at ha
    obtain ⟨rfl, rfl⟩ := ha
    have h1 := he x _ hx
    obtain ⟨u, hv, _⟩ := rel_ifc_inv h1
    exact ⟨rfl, ev x, by simp [execOp, ho, hv, Instr.panic], h1⟩
  · cases ha
/-! Maps. -/
theorem findA_sound {kind : TypeDesc} {k : Value} : ∀ {es : List AE} {res : List MapEntry} {i : Nat} {f : Option (Nat × AV)}, entsRel ρ μ w es res → findA kind k es i = some f →
    ∃ g, Instr.findNow kind k res i = some g ∧ (match f with | none => g = none | some (j, a) => ∃ v, g = some (j, v) ∧ rel ρ μ w a v ∧ i ≤ j ∧ ∃ e, res[j - i]? = some e ∧ Instr.sameNow kind k e.key = some true)
  | [], res, i, f, hr, hf => by
    simp only [entsRel] at hr
    subst hr
    simp only [findA, Option.some.injEq] at hf
    subst hf
    exact ⟨none, rfl, rfl⟩
  | a :: r, res, i, f, hr, hf => by
    simp only [entsRel] at hr
    obtain ⟨e, es, rfl, h1, h2⟩ := hr
    obtain ⟨k1, k2, k3, k4⟩ := h1
    unfold findA at hf
    rw [← k1] at hf
    split at hf
    · rename_i hs
      obtain rfl := Option.some.inj hf
      exact ⟨some (i, e.val), by simp [Instr.findNow, hs], e.val, rfl, k3, Nat.le_refl _, e, by simp, hs⟩
    · rename_i hs
      obtain ⟨g, g1, g2⟩ := findA_sound h2 hf
      refine ⟨g, by simp [Instr.findNow, hs, g1], ?_⟩
      cases f with
      | none => exact g2
      | some p =>
        obtain ⟨j, b⟩ := p
        obtain ⟨v, v1, v2, v3, e', v4, v5⟩ := g2
        exact ⟨v, v1, v2, by omega, e', by rw [show j - i = (j - (i + 1)) + 1 by omega, List.getElem?_cons_succ]; exact v4, v5⟩
    · cases hf
theorem run_checkKey' (hT : TT.Sound P T) {k : TypeId} {d : TypeDesc} (hd : und T k = some d) (hk : keyKind d = true) (b : Bool) (v : Value) (w : World) : (Instr.checkKey b 10000 k v).run P w = .ok () w := by
  rw [show (10000 : Nat) = 9999 + 1 from rfl]
  generalize 9999 = m
  unfold Instr.checkKey
  rw [Sem.run_bind, run_und hT hd]
  simp only [Result.andThen_ok]
  cases d <;> first | rfl | cases hk
theorem findE_sound {eq : Value → Value → Option Bool} {kt : TypeId} {k : Value} (heq : ∀ b r, eq k b = some r → ∀ w, (Op.equal kt k b).run P w = .ok r w) : ∀ {es : List AE} {res : List MapEntry} {i : Nat} {f : Option (Nat × AV)}, entsRel ρ μ w es res → findE eq k es i = some f →
    ∃ g, (∀ w', (Instr.findAsking kt k res i).run P w' = .ok g w') ∧ (match f with | none => g = none | some (j, a) => ∃ v, g = some (j, v) ∧ rel ρ μ w a v ∧ i ≤ j ∧ ∃ e, res[j - i]? = some e ∧ Instr.sameBits 10000 e.key k = true)
  | [], res, i, f, hr, hf => by
    simp only [entsRel] at hr
    subst hr
    simp only [findE, Option.some.injEq] at hf
    subst hf
    exact ⟨none, fun _ => rfl, rfl⟩
  | a :: r, res, i, f, hr, hf => by
    simp only [entsRel] at hr
    obtain ⟨e, es, rfl, h1, h2⟩ := hr
    obtain ⟨k1, k2, k3, k4⟩ := h1
    unfold findE at hf
    rw [← k1] at hf
    split at hf
    · rename_i hs
      cases hb : Instr.sameBits 10000 e.key k with
      | false => rw [hb] at hf; cases hf
      | true =>
      rw [hb] at hf
      obtain rfl := Option.some.inj hf
      exact ⟨some (i, e.val), fun w' => by simp [Instr.findAsking, heq _ _ hs w'], e.val, rfl, k3, Nat.le_refl _, e, by simp, hb⟩
    · rename_i hs
      obtain ⟨g, g1, g2⟩ := findE_sound heq h2 hf
      refine ⟨g, fun w' => by simp [Instr.findAsking, heq _ _ hs w', g1 w'], ?_⟩
      cases f with
      | none => exact g2
      | some p =>
        obtain ⟨j, b⟩ := p
        obtain ⟨v, v1, v2, v3, e', v4, v5⟩ := g2
        exact ⟨v, v1, v2, by omega, e', by rw [show j - i = (j - (i + 1)) + 1 by omega, List.getElem?_cons_succ]; exact v4, v5⟩
    · cases hf
theorem ba_eq {a b : ByteArray} (hh : (a == b) = true) : a = b := by
  obtain ⟨x⟩ := a
  obtain ⟨y⟩ := b
  have e : x = y := by simpa using (show (x == y) = true from hh)
  rw [e]
theorem sameNow_bits {d : TypeDesc} {a b : Value} (hs : Instr.sameNow d a b = some true) (m : Nat) : Instr.sameBits m b a = true := by
  unfold Instr.sameNow at hs
  split at hs
  · rename_i k a k' b
    split at hs
    · rename_i hk
      subst hk
      simp only [Option.some.injEq, beq_iff_eq] at hs
      subst hs
      simp [Instr.sameBits]
    · cases hs
  · simp only [Option.some.injEq] at hs
    have := ba_eq hs
    subst this
    simp only [Instr.sameBits]
    exact hs
  · simp only [Option.some.injEq, beq_iff_eq] at hs
    subst hs
    simp [Instr.sameBits]
  · cases hs
/-- A key is found in a map. -/
theorem findT_sound (hT : TT.Sound P T) {t : TypeId} {k : Value} {es : List AE} {res : List MapEntry} {f : Option (Nat × AV)} (hr : entsRel ρ μ w es res) (hf : findT T t k es = some f) :
    ∃ kt e, und T t = some (.map kt e) ∧ (∀ b w', ∃ a, (Instr.checkKey b 10000 kt k).run P w' = .ok a w') ∧ ∃ g, (∀ w', (Instr.findKey kt k res).run P w' = .ok g w') ∧
      (match f with | none => g = none | some (j, a) => ∃ v, g = some (j, v) ∧ rel ρ μ w a v ∧ ∃ e, res[j]? = some e ∧ Instr.sameBits 10000 e.key k = true) := by
  unfold findT at hf
  split at hf
  case h_2 => cases hf
  rename_i kt e hu
  split at hf
  case h_2 => cases hf
  rename_i i hi
  have hd : und T kt = some i.desc := by simp [und, hi]
  cases hk : keyKind i.desc with
  | true =>
    rw [hk] at hf
    simp only [cond_true] at hf
    obtain ⟨g, g1, g2⟩ := findA_sound hr hf
    refine ⟨kt, e, hu, fun b w' => ⟨(), run_checkKey' hT hd hk b k w'⟩, g, fun w' => by simp [Instr.findKey, run_und hT hd, g1], ?_⟩
    cases f with
    | none => exact g2
    | some p =>
      obtain ⟨j, a⟩ := p
      obtain ⟨v, v1, v2, _, e', v4, v5⟩ := g2
      exact ⟨v, v1, v2, e', v4, sameNow_bits v5 10000⟩
  | false =>
    rw [hk] at hf
    simp only [cond_false] at hf
    cases hc : (isStructD i.desc && i.ck k) with
    | false => rw [hc] at hf; cases hf
    | true =>
    rw [hc] at hf
    simp only [cond_true] at hf
    simp only [Bool.and_eq_true] at hc
    obtain ⟨g, g1, g2⟩ := findE_sound (P := P) (kt := kt) (fun b r hb w' => by
      have := pur_run _ _ (hT.eq kt i k b r hi hb) w'
      simpa using this) hr hf
    refine ⟨kt, e, hu, fun b w' => ?_, g, fun w' => ?_, ?_⟩
    · obtain ⟨a, ha⟩ := hT.ck kt i k hi hc.2 b
      exact ⟨a, by simpa using pur_run _ _ ha w'⟩
    · unfold Instr.findKey
      rw [Sem.run_bind, run_und hT hd]
      simp only [Result.andThen_ok]
      have hno : Instr.findNow i.desc k res 0 = none ∨ (Instr.findNow i.desc k res 0 = some none ∧ res = []) := by
        cases res with
        | nil => exact .inr ⟨rfl, rfl⟩
        | cons x xs =>
          left
          unfold Instr.findNow
          have : Instr.sameNow i.desc k x.key = none := by
            cases hq : i.desc <;> rw [hq] at hc <;> first | (cases hc.1; done) | skip
            unfold Instr.sameNow
            rfl
          rw [this]
      rcases hno with h1 | ⟨h1, h2⟩
      · rw [h1]
        exact g1 w'
      · rw [h1]
        subst h2
        have := g1 w'
        simp only [Instr.findAsking, Sem.run_pure, Result.ok.injEq, and_true] at this
        rw [← this]
        rfl
    · cases f with
      | none => exact g2
      | some p =>
        obtain ⟨j, a⟩ := p
        obtain ⟨v, v1, v2, _, e', v4, v5⟩ := g2
        exact ⟨v, v1, v2, e', v4, v5⟩
theorem keyOf_rel {a : AV} {k v : Value} (hk : keyOf a = some k) (hv : rel ρ μ w a v) : v = k ∧ keyV k = true := by
  unfold keyOf at hk
  split at hk
  · obtain rfl := Option.some.inj hk
    unfold rel at hv
    refine ⟨hv.1, ?_⟩
    unfold keyV
    split
    · simp [scal] at hv
    · exact hv.2
  · rename_i l
    simp only [Option.map_eq_some_iff] at hk
    obtain ⟨m, hm, rfl⟩ := hk
    unfold rel at hv
    obtain ⟨l', rfl, h2⟩ := hv
    obtain rfl := toScals_rel hm h2
    refine ⟨rfl, ?_⟩
    simp only [keyV, List.all_eq_true]
    intro x hx
    exact toScals_scal hm h2 x (by simpa using hx)
  · cases hk
theorem elemT_inv {t e : TypeId} (he : elemT T t = some e) : ∃ k, und T t = some (.map k e) := by
  unfold elemT at he
  split at he
  · obtain rfl := Option.some.inj he
    exact ⟨_, by assumption⟩
  · cases he
theorem op_lookup {t : TypeId} {m k : Operand} {ok : Bool} (hT : TT.Sound P T) (hr : HR P ρ fl μ h w) (he : EnvR ρ μ w tmps ev) (ho : o.op = .lookup t m k ok) (ha : aLookup T tmps h t m k ok = some (n, h')) :
    OpOK P ρ fl μ h w ((execOp ev o).run P w) n h' := by
  unfold aLookup at ha
  split at ha
  case h_2 => cases ha
  rename_i am ak hm hk
  obtain ⟨a, h1, rfl, rfl⟩ := val_some ha
  unfold lookupA at h1
  split at h1
  case h_2 => cases h1
  rename_i key es e hkey hes hel
  obtain ⟨hkv, _⟩ := keyOf_rel hkey (he k _ hk)
  obtain ⟨_, hu0⟩ := elemT_inv hel
  have key2 : ∀ (res : Array MapEntry), entsRel ρ μ w es res.toList → (∀ (kt : TypeId) (g : Option (Nat × Value)) (z : Value), und T t = some (.map kt e) → (∀ b w', ∃ a, (Instr.checkKey b 10000 kt key).run P w' = .ok a w') → (∀ w', (Instr.findKey kt key res.toList).run P w' = .ok g w') → (g = none → (zeroValue e).run P w = .ok z w) →
      (Instr.lookup t (ev m) key ok).run P w = .ok (if ok then .tuple #[(match g with | some (_, v) => v | none => z), .bool g.isSome] else (match g with | some (_, v) => v | none => z)) w) →
      OpOK P ρ fl μ h' w ((execOp ev o).run P w) (.val a) h' := fun res hres hrun => by
    split at h1
    · rename_i j v hf
      obtain rfl := Option.some.inj h1
      obtain ⟨kt, e2, hu, hck, g, g1, v', rfl, g2, _⟩ := findT_sound hT hres hf
      obtain ⟨rfl, rfl⟩ : kt = _ ∧ e2 = e := by rw [hu0] at hu; simp at hu; exact ⟨hu.1.symm, hu.2.symm⟩
      have h3 := hrun _ _ undef hu hck g1 (fun hh => by cases hh)
      refine valOK_here hr (v' := if ok then .tuple #[v', .bool true] else v') (by simp only [execOp, ho, hkv, Sem.run_bind, h3]; rfl) ?_
      cases ok
      · exact g2
      · exact rel_pair g2 true
    · rename_i z hf hz
      obtain rfl := Option.some.inj h1
      obtain ⟨kt, e2, hu, hck, g, g1, rfl⟩ := findT_sound hT hres hf
      obtain ⟨rfl, rfl⟩ : kt = _ ∧ e2 = e := by rw [hu0] at hu; simp at hu; exact ⟨hu.1.symm, hu.2.symm⟩
      obtain ⟨zv, z1, z2⟩ := run_zero hT hz w
      have h3 := hrun _ _ zv hu hck g1 (fun _ => z1)
      refine valOK_here hr (v' := if ok then .tuple #[zv, .bool false] else zv) (by simp only [execOp, ho, hkv, Sem.run_bind, h3]; rfl) ?_
      cases ok
      · exact ofVal1_rel z2
      · exact rel_pair (ofVal1_rel z2) false
    · cases h1
  unfold entsA at hes
  split at hes
  · obtain rfl := Option.some.inj hes
    have hv := rel_lit_inv (he m _ hm)
    refine key2 #[] rfl fun kt g z hu hck hg hz => ?_
    obtain ⟨a0, hck⟩ := hck true w
    have hg := hg w
    simp only [Instr.lookup, hv, Sem.run_bind, run_und hT hu, Result.andThen_ok, Sem.run_pure]
    rw [show (#[] : Array MapEntry).isEmpty = true from rfl, hck]
    simp only [Result.andThen_ok, hg]
    cases g with
    | none => cases ok <;> simp [hz rfl]
    | some p => cases ok <;> simp
  · rename_i b
    split at hes
    case h_2 => cases hes
    rename_i es' clock hb
    obtain rfl := Option.some.inj hes
    have hv := he m _ hm
    unfold rel at hv
    obtain ⟨r, hr1, hv⟩ := hv
    obtain ⟨_, _, ob, o1, o2⟩ := hr.obj b r 0 _ hr1 hb
    obtain ⟨res, rfl, _, o3⟩ := o2
    refine key2 res o3 fun kt g z hu hck hg hz => ?_
    obtain ⟨a0, hck⟩ := hck res.isEmpty w
    have hgo : (getObj r).run P w = .ok (.map res clock) w := by simp [getObj, Sem.run, o1]
    simp only [Instr.lookup, hv, Sem.run_bind, run_und hT hu, Result.andThen_ok, hgo, Sem.run_pure, hck, hg w]
    cases g with
    | none => cases ok <;> simp [hz rfl]
    | some p => cases ok <;> simp
  · cases hes
theorem entsRel_length {l : List AE} {l' : List MapEntry} (hh : entsRel ρ μ w l l') : l'.length = l.length := by
  induction l generalizing l' with
  | nil => simp only [entsRel] at hh; rw [hh]; rfl
  | cons a r ih =>
    simp only [entsRel] at hh
    obtain ⟨e, es, rfl, _, h2⟩ := hh
    rw [List.length_cons, List.length_cons, ih h2]
theorem entsRel_append {l m : List AE} {l' m' : List MapEntry} (hh : entsRel ρ μ w l l') (hk : entsRel ρ μ w m m') : entsRel ρ μ w (l ++ m) (l' ++ m') := by
  induction l generalizing l' with
  | nil => simp only [entsRel] at hh; rw [hh]; exact hk
  | cons a r ih =>
    simp only [entsRel] at hh
    obtain ⟨e, es, rfl, h1, h2⟩ := hh
    exact ⟨e, es ++ m', rfl, h1, ih h2⟩
theorem entsRel_modify {f : AE → AE} {g : MapEntry → MapEntry} {l : List AE} {l' : List MapEntry} (i : Nat) (hh : entsRel ρ μ w l l') (hfg : ∀ a e, entRel ρ μ w a e → entRel ρ μ w (f a) (g e)) : entsRel ρ μ w (l.modify i f) (l'.modify i g) := by
  induction l generalizing l' i with
  | nil => simp only [entsRel] at hh; subst hh; simp [entsRel]
  | cons a r ih =>
    simp only [entsRel] at hh
    obtain ⟨e, es, rfl, h1, h2⟩ := hh
    cases i with
    | zero => exact ⟨_, _, rfl, hfg _ _ h1, h2⟩
    | succ i => exact ⟨_, _, by simp [List.modify_succ_cons], h1, ih i h2⟩
theorem entsRel_erase {l : List AE} {l' : List MapEntry} (i : Nat) (hh : entsRel ρ μ w l l') : entsRel ρ μ w (l.eraseIdx i) (l'.eraseIdx i) := by
  induction l generalizing l' i with
  | nil => simp only [entsRel] at hh; subst hh; simp [entsRel]
  | cons a r ih =>
    simp only [entsRel] at hh
    obtain ⟨e, es, rfl, h1, h2⟩ := hh
    cases i with
    | zero => exact h2
    | succ i => exact ⟨e, _, rfl, h1, ih i h2⟩
theorem setObj_one {r : Nat} {es : Array MapEntry} {c : Nat} (hg : w.heap[r]? = some (.map es c)) (o' : Obj) (hn : True) : One r w { w with heap := w.heap.setIfInBounds r o' } ∧ (w.heap.setIfInBounds r o')[r]? = some o' := by
  have hlt := lt_in hg
  refine ⟨⟨by simp, fun k hk => ?_, fun k cur e fz hk => ?_, ⟨rfl, rfl, rfl⟩⟩, by simp [hlt]⟩
  · show (w.heap.setIfInBounds r o')[k]? = _
    rw [Array.getElem?_setIfInBounds, if_neg (Ne.symm hk)]
  · have hne : r ≠ k := fun e' => by subst e'; rw [hg] at hk; cases hk
    exact ⟨cur, e, fz, by show (w.heap.setIfInBounds r o')[k]? = _; rw [Array.getElem?_setIfInBounds, if_neg hne]; exact hk, rfl⟩
theorem run_setObj_map {r : Nat} {es : Array MapEntry} {c : Nat} (hg : w.heap[r]? = some (.map es c)) (o' : Obj) : (setObj r o').run P w = .ok () { w with heap := w.heap.setIfInBounds r o' } := by
  simp [setObj, Sem.run, hg]
end Go.Proofs.YtohbdgddnkoenaaGreat.Ex
end

section

set_option linter.unusedSimpArgs false
set_option linter.unusedVariables false
namespace Go.Proofs.YtohbdgddnkoenaaGreat.Ex
open Go Go.RowKit
variable {P : Program} {T : TT} {ρ : Nat → Value} {fl : Nat} {μ : Mu} {h : AH} {w : World} {tmps : TM} {ev : Operand → Value} {o : Oper} {n : AN} {h' : AH}
theorem map_inv {b : Nat} {es : List AE} {clock : Nat} {v : Value} (hr : HR P ρ fl μ h w) (hv : rel ρ μ w (.mp b) v) (hb : h.at b = some (.map es clock)) :
    ∃ r res, μ b = some (r, 0) ∧ v = .map (some r) ∧ w.heap[r]? = some (.map res clock) ∧ entsRel ρ μ w es res.toList := by
  unfold rel at hv
  obtain ⟨r, hr1, hv⟩ := hv
  obtain ⟨_, _, ob, o1, o2⟩ := hr.obj b r 0 _ hr1 hb
  obtain ⟨res, rfl, _, o3⟩ := o2
  exact ⟨r, res, hr1, hv, o1, o3⟩
/-- A map's entries are laid anew. -/
theorem map_eff {b r clock clock' : Nat} {es es' : List AE} {res res' : Array MapEntry} (hr : HR P ρ fl μ h w) (hb : μ b = some (r, 0)) (hx : h.at b = some (.map es clock)) (hg : w.heap[r]? = some (.map res clock)) (he : entsRel ρ μ w es' res'.toList) :
    Eff P ρ fl μ h w μ (h.put b (.map es' clock')) { w with heap := w.heap.setIfInBounds r (.map res' clock') } := by
  obtain ⟨h1, h2⟩ := setObj_one hg (.map res' clock') trivial
  exact Eff.upd hr hb hx rfl h1 h2 ⟨res', rfl, rfl, entsRel.mono (More.refl μ) h1.grows he⟩
theorem updateA_sound {t : TypeId} {m k x : AV} {rm rk rx : Value} (hT : TT.Sound P T) (hr : HR P ρ fl μ h w) (hm : rel ρ μ w m rm) (hk : rel ρ μ w k rk) (hx : rel ρ μ w x rx) (hu : updateA T h t m k x = some h') :
    ∃ w', (Instr.mapUpdate t rm rk rx).run P w = .ok () w' ∧ Eff P ρ fl μ h w μ h' w' := by
  unfold updateA at hu
  split at hu
  case h_2 => cases hu
  rename_i b key hkey
  split at hu
  case h_2 => cases hu
  rename_i es clock hb
  obtain ⟨r, res, m1, rfl, m2, m3⟩ := map_inv hr hm hb
  obtain ⟨hkv, hks⟩ := keyOf_rel hkey hk
  subst hkv
  have hgo : (getObj r).run P w = .ok (.map res clock) w := by simp [getObj, Sem.run, m2]
  split at hu
  · rename_i i v hf
    obtain rfl := Option.some.inj hu
    obtain ⟨kt, e, hu1, hck, g, g1, v', rfl, g2, e', g4, g5⟩ := findT_sound hT m3 hf
    obtain ⟨a0, hck⟩ := hck false w
    simp only [Array.getElem?_toList] at g4
    refine ⟨_, ?_, map_eff hr m1 hb m2 (res' := res.modify i fun e => { e with key := rk, val := rx }) ?_⟩
    · have hkt : (Instr.keyThatStays e'.key rk).run P w = .ok rk w := by
        unfold Instr.keyThatStays
        rw [if_pos g5]
        rfl
      simp [Instr.mapUpdate, run_und hT hu1, hgo, hck, g1 w, g4, hkt, run_setObj_map m2]
    · rw [Array.toList_modify]
      exact entsRel_modify i m3 fun a e q => ⟨rfl, hks, hx, q.2.2.2⟩
  · rename_i hf
    obtain rfl := Option.some.inj hu
    obtain ⟨kt, e, hu1, hck, g, g1, rfl⟩ := findT_sound hT m3 hf
    obtain ⟨a0, hck⟩ := hck false w
    refine ⟨_, ?_, map_eff hr m1 hb m2 (res' := res.push { key := rk, val := rx, born := clock }) ?_⟩
    · simp [Instr.mapUpdate, run_und hT hu1, hgo, hck, g1 w, run_setObj_map m2]
    · rw [Array.toList_push]
      exact entsRel_append m3 ⟨_, [], rfl, ⟨rfl, hks, hx, rfl⟩, rfl⟩
  · cases hu
theorem op_update {t : TypeId} {m k x : Operand} (hT : TT.Sound P T) (hr : HR P ρ fl μ h w) (he : EnvR ρ μ w tmps ev) (ho : o.op = .mapUpdate t m k x ∨ o.op = .insert t m k x) (ha : aUpdate T tmps h t m k x = some (n, h')) :
    OpOK P ρ fl μ h w ((execOp ev o).run P w) n h' := by
  unfold aUpdate at ha
  split at ha
  · rename_i am ak ax hm hk hx
    simp only [Option.map_eq_some_iff, Prod.mk.injEq] at ha
    obtain ⟨h1, h2, rfl, rfl⟩ := ha
    obtain ⟨w', q1, q2⟩ := updateA_sound hT hr (he m _ hm) (he k _ hk) (he x _ hx) h2
    refine ⟨μ, w', undef, .inr ⟨?_, rfl⟩, q2, rel_undef⟩
    rcases ho with ho | ho <;> simp [execOp, ho, q1]
  · cases ha
theorem set_same {h : List AB} {b : Nat} {x : AB} (hb : h[b]? = some x) : h.set b x = h := by
  apply List.ext_getElem?
  intro i
  by_cases hi : b = i
  · subst hi
    rw [List.getElem?_set_self (List.getElem?_eq_some_iff.1 hb).1, hb]
  · rw [List.getElem?_set_ne hi]
theorem deleteA_sound {t ty : TypeId} {l : List TypeId} {m k : AV} {rm rk : Value} (hT : TT.Sound P T) (hr : HR P ρ fl μ h w) (hm : rel ρ μ w m rm) (hk : rel ρ μ w k rk) (hu : deleteA T h t m k = some h') :
    ∃ w', (Builtin.delete_ (t :: l).toArray ty #[rm, rk]).run P w = .ok (.tuple #[]) w' ∧ Eff P ρ fl μ h w μ h' w' := by
  unfold deleteA at hu
  split at hu
  · rename_i key hkey
    split at hu
    case h_2 => cases hu
    rename_i g0 hf
    obtain rfl := Option.some.inj hu
    obtain ⟨hkv, hks⟩ := keyOf_rel hkey hk
    subst hkv
    obtain ⟨kt, e, hu1, hck, _⟩ := findT_sound (ρ := ρ) (μ := μ) (w := w) (es := []) (res := []) hT rfl hf
    have h1 := rel_lit_inv hm
    obtain ⟨a0, hck⟩ := hck true w
    refine ⟨w, ?_, Eff.refl hr⟩
    simp [Builtin.delete_, h1, run_und hT hu1, hck]
  · rename_i b key hkey
    split at hu
    case h_2 => cases hu
    rename_i es clock hb
    obtain ⟨r, res, m1, rfl, m2, m3⟩ := map_inv hr hm hb
    obtain ⟨hkv, hks⟩ := keyOf_rel hkey hk
    subst hkv
    have hgo : (getObj r).run P w = .ok (.map res clock) w := by simp [getObj, Sem.run, m2]
    split at hu
    · rename_i i v hf
      obtain rfl := Option.some.inj hu
      obtain ⟨kt, e, hu1, hck, g, g1, v', rfl, g2, e', g4, g5⟩ := findT_sound hT m3 hf
      obtain ⟨a0, hck⟩ := hck res.isEmpty w
      refine ⟨_, ?_, map_eff hr m1 hb m2 (res' := res.eraseIdxIfInBounds i) (clock' := clock) ?_⟩
      · simp [Builtin.delete_, run_und hT hu1, hgo, hck, g1 w, run_setObj_map m2]
      · simp only [Array.getElem?_toList] at g4
        have hlt := (Array.getElem?_eq_some_iff.1 g4).1
        have : (res.eraseIdxIfInBounds i).toList = res.toList.eraseIdx i := by
          unfold Array.eraseIdxIfInBounds
          rw [dif_pos hlt, Array.toList_eraseIdx]
        rw [this]
        exact entsRel_erase i m3
    · rename_i hf
      obtain rfl := Option.some.inj hu
      obtain ⟨kt, e, hu1, hck, g, g1, rfl⟩ := findT_sound hT m3 hf
      obtain ⟨a0, hck⟩ := hck res.isEmpty w
      have := map_eff (es' := es) (res' := res) (clock' := clock) hr m1 hb m2 m3
      refine ⟨_, ?_, this.alike (by rw [L_put]; exact set_same (by rw [L_at]; exact hb))⟩
      simp [Builtin.delete_, run_und hT hu1, hgo, hck, g1 w, run_setObj_map m2]
    · cases hu
  · cases hu
/-! Append and copy. -/
theorem srcD_kind {z : Nat} {tx : TypeId} {dx : TypeDesc} (hu : P.underlying tx = some dx) (hk : isSrcD z dx = true) : ((∃ e', P.underlying tx = some (.slice e')) ∨ P.underlying tx = some .string) := by
  cases dx <;> first | exact .inl ⟨_, hu⟩ | exact .inr hu | cases hk
theorem rels_byteCells (s : ByteArray) : rels ρ μ w (byteCells s) (Go.byteCells s) := by
  unfold byteCells Go.byteCells
  induction s.data.toList with
  | nil => exact rels_nil
  | cons b r ih => exact rels_cons (rel_lit rfl) ih
theorem srcA_sound {z m : Nat} {tx : TypeId} {dx : TypeDesc} {x : AV} {v : Value} {new : List AV} (hT : TT.Sound P T) (hr : HR P ρ fl μ h w) (hd : und T tx = some dx) (hk : isSrcD z dx = true) (hv : rel ρ μ w x v)
    (hl : lenA x = some m) (hs : srcA h z x = some new) (hn : new.length = m * z) (h1 : new.all AV.one = true) :
    ∃ vs, rels ρ μ w new vs ∧ Src P z tx v m vs w := by
  have hu := und_P hT hd
  have hkind := srcD_kind hu hk
  unfold srcA at hs
  split at hs
  · obtain rfl := Option.some.inj hs
    obtain rfl := rel_lit_inv hv
    simp only [lenA, Option.some.injEq] at hl
    subst hl
    exact ⟨[], rels_nil, hkind, fun _ => rfl, run_firstCells_none w z 0 0 0, run_firstCells_none w.drew z 0 0 0, by simp, by simp⟩
  · rename_i s
    cases hz1 : Nat.beq z 1 with
    | false => rw [hz1] at hs; cases hs
    | true =>
    rw [hz1] at hs
    obtain rfl := Nat.eq_of_beq_eq_true hz1
    obtain rfl := Option.some.inj hs
    obtain rfl := rel_lit_inv hv
    simp only [lenA, Option.some.injEq] at hl
    subst hl
    refine ⟨Go.byteCells s, rels_byteCells s, hkind, fun _ => rfl, firstCells_string s w, firstCells_string s w.drew, by rw [byteCells_length, Nat.mul_one], fun u hu => ?_⟩
    obtain ⟨_, _, rfl⟩ := List.mem_map.1 hu
    rfl
  · rename_i b off len cap
    split at hs
    case h_2 => cases hs
    rename_i l hg
    simp only [lenA, Option.some.injEq] at hl
    subst hl
    rcases rel_sl_inv hv with ⟨r, base, o', c, q1, rfl, q2, q3⟩ | ⟨rfl, rfl, ad, rfl⟩
    rotate_left
    · unfold cut at hs
      split at hs
      case isFalse => cases hs
      obtain rfl := Option.some.inj hs
      simp only [Nat.zero_mul, List.take_zero]
      exact ⟨[], rels_nil, hkind, fun _ => rfl, run_firstCells_some w z 0 ad 0 0 [] (by simp) (fun j u hu => by simp at hu), run_firstCells_some w.drew z 0 ad 0 0 [] (by simp) (fun j u hu => by simp at hu), by simp, by simp⟩
    obtain ⟨cur, e, fz, k1, k2⟩ := getR_sound hr q1 hg
    obtain ⟨vs, k3, k4, k5, k6, k7⟩ := cut_sound k2 hs
    have hle := (capRel_le q3).1
    have hcell : ∀ j u, vs[j]? = some u → w.cell? ((⟨r, o', none⟩ : Addr).add j) = some u := fun j u hu => by
      have hj := (List.getElem?_eq_some_iff.1 hu).1
      have : 0 < len := by
        rcases Nat.eq_zero_or_pos len with h0 | h0
        · subst h0; simp only [Nat.zero_mul] at k4; omega
        · exact h0
      obtain rfl : o' = base + off := q2.resolve_left (by omega)
      rw [addr_add, cell_in k1]
      exact k7 j u hu
    exact ⟨vs, k3, hkind, fun _ => rfl, run_firstCells_some w z len _ len c vs k4 hcell, run_firstCells_some w.drew z len _ len c vs k4 (by simpa using hcell), k4, rels_one k3 h1⟩
  · cases hs
theorem window_append {l : List AV} {vs : List Value} {rest : Array Value} (hh : rels ρ μ w l vs) : window ρ μ w 0 l (vs.toArray ++ rest) := by
  refine ⟨by simp; have := rels_length hh; omega, fun i x hx => ?_⟩
  obtain ⟨v, h1, h2⟩ := rels_get hh hx
  refine ⟨v, ?_, h2⟩
  rw [Nat.zero_add, Array.getElem?_append_left (by simpa using (List.getElem?_eq_some_iff.1 h1).1)]
  simpa using h1
theorem size_zeroCells' (z : Array Value) (k : Nat) : (Builtin.zeroCells z k).size = k * z.size := by simp [Builtin.zeroCells]
/-- A new row for an append that finds no room. -/
theorem bigT_no {e : TypeId} {i : TI} {n : Nat} (hT : TT.Sound P T) (hi : T e = some i) (hz : i.size ≤ 200) (hby : n * i.bytes ≤ 140737488355328) (hn : 1 ≤ n) : bigT P e = false := by
  obtain ⟨info, z, g1, g2, g3, g4, g5⟩ := hT.info e i hi
  unfold bigT
  rw [g1, Bool.or_eq_false_iff]
  refine ⟨?_, ?_⟩
  · rw [Bool.eq_false_iff]
    intro hb
    have := Nat.blt_eq.mp hb
    simp at this
    omega
  · simp only [Option.bind_some, g4, g5, Option.getD_some]
    rw [Bool.eq_false_iff]
    intro hb
    have h1 := g3.2 hb
    have h2 := Nat.mul_le_mul_right i.bytes hn
    omega
theorem append_new {t tx ty e : TypeId} {i : TI} {len c m : Nat} {base : Option Addr} {x : Value} {olds news : List AV} {ovs nvs : List Value} (hT : TT.Sound P T) (hr : HR P ρ fl μ h w) (hu : und T t = some (.slice e)) (hi : T e = some i)
    (hzl : i.zero.cells.length = i.size) (hz0 : 0 < i.size) (hbg : i.size ≤ 200) (hlen : len + m ≤ 4611686018427387904) (hby : (len + m) * i.bytes ≤ 140737488355328) (hold : (Builtin.firstCells i.size len (.slice base len c)).run P w.drew = .ok ovs.toArray w.drew) (ho : rels ρ μ w olds ovs) (hol : ovs.length = len * i.size)
    (hn : rels ρ μ w news nvs) (hs : Src P i.size tx x m nvs w) (hc : c < len + m) :
    valOK P ρ fl μ h w (((Builtin.append_ #[t, tx] ty #[.slice base len c, x]).run P w).andThen fun v w' => .ok (.value v) w') (.sl h.n 0 (len + m) (.un i.size)) (h.push (.cells (olds ++ news) e)) := by
  obtain ⟨info, z, g1, g2, g3, g4, g5⟩ := hT.info e i hi
  have hbg' : bigT P e = false := bigT_no hT hi hbg hby (by omega)
  have hzr := rel_cells (ofVal1_rel (ρ := ρ) (μ := μ) (w := w) g5)
  have hzs := rels_length hzr
  rw [Array.length_toList] at hzs
  have hmax : len + m ≤ maxLen := by simp only [maxLen]; omega
  rw [← g2] at hold hs
  have hrun := run_append_grow_src (P := P) w t tx ty e info z (und_P hT hu) g1 g4 base len c ovs hold x m nvs hs hc (by simp only [maxLen] at hmax; omega) (growslice_fits hc (Nat.le_trans (Nat.mul_le_mul_left _ g3.1) hby))
  have hge := grownCap_ge w (len + m) c e
  have hcm := grownCap_le_maxLen w (len + m) c e hmax
  have e1 : Eff P ρ fl μ h w μ h w.drew := Eff.drew hr 1
  have e2 := Eff.alloc e1.hr (ab := .cells (olds ++ news) e) (o := .cells ((ovs ++ nvs).toArray ++ Builtin.zeroCells z.cells (grownCap w (len + m) c e - (len + m))) e) ⟨_, rfl, window_append (rels_append (rels.mono (More.refl μ) e1.grows _ _ ho) (rels.mono (More.refl μ) e1.grows _ _ hn)), fun hb => by rw [hbg'] at hb; cases hb⟩
  refine ⟨_, _, _, .inl (by rw [hrun]; rfl), e1.trans hr e2, ?_⟩
  unfold rel
  refine .inl ⟨w.heap.size, 0, 0, _, up_same _ _ _, rfl, .inr rfl, hge, hcm, hz0, ?_⟩
  refine ⟨_, _, _, heap_alloc_new' w.drew _, ?_⟩
  have hnl := hs.newsLen
  rw [g2] at hnl
  simp only [Array.size_append, List.size_toArray, List.length_append, size_zeroCells', hzs, hzl, hol, hnl]
  rw [← Nat.add_mul, ← Nat.add_mul, Nat.zero_add]
  exact Nat.mul_le_mul_right _ (by omega)
theorem appendA_sound {t tx ty : TypeId} {s x a : AV} {rs rx : Value} (hT : TT.Sound P T) (hr : HR P ρ fl μ h w) (hs : rel ρ μ w s rs) (hx : rel ρ μ w x rx) (ha : appendA T h t tx s x = some (a, h')) :
    valOK P ρ fl μ h w (((Builtin.append_ #[t, tx] ty #[rs, rx]).run P w).andThen fun v w' => .ok (.value v) w') a h' := by
  unfold appendA at ha
  split at ha
  case h_2 => cases ha
  rename_i e dx hu hdx
  split at ha
  case h_2 => cases ha
  rename_i i m k hi hm hk
  generalize hc : (isSrcD i.size dx && Nat.blt 0 i.size && Nat.ble i.size 200 && Nat.beq i.zero.cells.length i.size && Nat.ble (k + m) 4611686018427387904 && Nat.ble ((k + m) * i.bytes) 140737488355328) = cb at ha
  cases cb with
  | false => cases ha
  | true =>
  simp only [Bool.and_eq_true] at hc
  obtain ⟨⟨⟨⟨⟨c1, c2⟩, c6⟩, c3⟩, c4⟩, c5⟩ := hc
  have c6 := Nat.ble_eq.mp c6
  have c2 := Nat.blt_eq.mp c2
  have c3 := Nat.eq_of_beq_eq_true c3
  have c4 := Nat.ble_eq.mp c4
  have c5 := Nat.ble_eq.mp c5
  simp only [cond_true] at ha
  split at ha
  case h_2 => cases ha
  rename_i new hnew
  generalize hc : (Nat.beq new.length (m * i.size) && new.all AV.one) = cb at ha
  cases cb with
  | false => cases ha
  | true =>
  simp only [Bool.and_eq_true] at hc
  have d1 := Nat.eq_of_beq_eq_true hc.1
  simp only [cond_true] at ha
  obtain ⟨vs, v1, v2⟩ := srcA_sound (P := P) (tx := tx) hT hr hdx c1 hx hm hnew d1 hc.2
  obtain ⟨info, z, g1, g2, g3, g4, g5⟩ := hT.info e i hi
  unfold appendB at ha
  split at ha
  · obtain rfl := rel_lit_inv hs
    simp only [lenA, Option.some.injEq] at hk
    subst hk
    cases hm0 : Nat.beq m 0 with
    | true =>
      rw [hm0] at ha
      simp only [cond_true, Option.some.injEq, Prod.mk.injEq] at ha
      obtain ⟨rfl, rfl⟩ := ha
      obtain rfl := Nat.eq_of_beq_eq_true hm0
      have hnil : vs = [] := List.eq_nil_of_length_eq_zero (by rw [rels_length v1, d1]; simp)
      refine valOK_here hr ?_ hs
      have hs2 := v2
      rw [← g2] at hs2
      rcases v2.kind with ⟨e', hkk⟩ | hkk <;> simp [Builtin.append_, run_und hT hu, run_underlying hkk, sizeOf, typeInfo, g1, hs2.len, hs2.cells]
    | false =>
      rw [hm0] at ha
      simp only [cond_false, Option.some.injEq, Prod.mk.injEq] at ha
      obtain ⟨rfl, rfl⟩ := ha
      have hmp : m ≠ 0 := fun hh => by subst hh; simp at hm0
      have := append_new (ty := ty) (c := 0) (base := none) (olds := []) (ovs := []) hT hr hu hi c3 c2 c6 c4 c5 (run_firstCells_none w.drew i.size 0 0 0) rels_nil (by simp) v1 v2 (by omega)
      simpa using this
  · rename_i b off len cap
    rcases rel_sl_inv hs with ⟨r, base, o', c, q1, rfl, q2, q3⟩ | ⟨rfl, rfl, ad, rfl⟩
    rotate_left
    · simp only [lenA, Option.some.injEq] at hk
      subst hk
      cases hm0 : Nat.beq m 0 with
      | true =>
        rw [hm0] at ha
        simp only [cond_true, Option.some.injEq, Prod.mk.injEq] at ha
        obtain ⟨rfl, rfl⟩ := ha
        obtain rfl := Nat.eq_of_beq_eq_true hm0
        have hnil : vs = [] := List.eq_nil_of_length_eq_zero (by rw [rels_length v1, d1]; simp)
        refine valOK_here hr ?_ hs
        have hs2 := v2
        rw [← g2] at hs2
        rcases v2.kind with ⟨e', hkk⟩ | hkk <;> simp [Builtin.append_, run_und hT hu, run_underlying hkk, sizeOf, typeInfo, g1, hs2.len, hs2.cells, hnil, storeCells, Addr.add]
      | false =>
        have hmp : m ≠ 0 := fun hh => by subst hh; simp at hm0
        have hb0 : Nat.ble (0 + m) 0 = false := Bool.eq_false_iff.mpr fun hh => by have := Nat.ble_eq.mp hh; omega
        rw [hm0] at ha
        simp only [cond_false, hb0] at ha
        split at ha
        case h_2 => cases ha
        rename_i l hgR
        split at ha
        case h_2 => cases ha
        rename_i old hcut
        unfold cut at hcut
        split at hcut
        case isFalse => cases hcut
        obtain rfl := Option.some.inj hcut
        simp only [Nat.zero_mul, List.take_zero, Option.some.injEq, Prod.mk.injEq] at ha
        obtain ⟨rfl, rfl⟩ := ha
        exact append_new (ty := ty) (c := 0) (base := some ad) (olds := []) (ovs := []) hT hr hu hi c3 c2 c6 c4 c5 (run_firstCells_some w.drew i.size 0 ad 0 0 [] (by simp) (fun j u hu => by simp at hu)) rels_nil (by simp) v1 v2 (by omega)
    simp only [lenA, Option.some.injEq] at hk
    subst hk
    have hle := capRel_le q3
    cases hm0 : Nat.beq m 0 with
    | true =>
      rw [hm0] at ha
      simp only [cond_true, Option.some.injEq, Prod.mk.injEq] at ha
      obtain ⟨rfl, rfl⟩ := ha
      obtain rfl := Nat.eq_of_beq_eq_true hm0
      have hnil : vs = [] := List.eq_nil_of_length_eq_zero (by rw [rels_length v1, d1]; simp)
      subst hnil
      have hs2 := v2
      rw [← g2] at hs2
      refine valOK_here hr ?_ hs
      rw [run_append_room_src (P := P) w t tx ty e info (und_P hT hu) g1 r o' len c rx 0 [] hs2 (by omega) (fun j hj => by simp at hj) (fun j hj => by simp at hj)]
      rfl
    | false =>
      rw [hm0] at ha
      have hmp : m ≠ 0 := fun hh => by subst hh; simp at hm0
      simp only [cond_false] at ha
      have hvl := rels_length v1
      -- the old elements, read behind a draw
      have oldR : ∀ l old, getR h b = some l → cut l off (len * i.size) = some old → ∃ ovs, rels ρ μ w old ovs ∧ ovs.length = len * i.size ∧ (∀ j u, ovs[j]? = some u → w.cell? ((⟨r, o', none⟩ : Addr).add j) = some u) ∧ (Builtin.firstCells i.size len (.slice (some ⟨r, o', none⟩) len c)).run P w.drew = .ok ovs.toArray w.drew := fun l old hgR hcut => by
        obtain ⟨cur, e0, fz0, k1, k2⟩ := getR_sound hr q1 hgR
        obtain ⟨ovs, p1, p2, p3, p4, p5⟩ := cut_sound k2 hcut
        have hcell : ∀ j u, ovs[j]? = some u → w.cell? ((⟨r, o', none⟩ : Addr).add j) = some u := fun j u hj => by
          have hjl := (List.getElem?_eq_some_iff.1 hj).1
          have : 0 < len := by
            rcases Nat.eq_zero_or_pos len with h0 | h0
            · subst h0; simp only [Nat.zero_mul] at p2; omega
            · exact h0
          obtain rfl : o' = base + off := q2.resolve_left (by omega)
          rw [addr_add, cell_in k1]
          exact p5 j u hj
        exact ⟨ovs, p1, p2, hcell, run_firstCells_some (P := P) w.drew i.size len _ len c ovs p2 (by simpa using hcell)⟩
      cases cap with
      | un z' =>
        simp only at ha
        split at ha
        case h_2 => cases ha
        rename_i l e' hg
        obtain ⟨cur, k1, k2, _⟩ := getB_sound hr q1 hg
        split at ha
        case h_2 => cases ha
        rename_i old hcut
        generalize hcc : (Nat.beq i.size z' && Nat.beq e e') = cb at ha
        cases cb with
        | false => cases ha
        | true =>
        simp only [Bool.and_eq_true] at hcc
        obtain rfl := Nat.eq_of_beq_eq_true hcc.1
        obtain rfl := Nat.eq_of_beq_eq_true hcc.2
        simp only [cond_true, Option.some.injEq, Prod.mk.injEq] at ha
        obtain ⟨rfl, rfl⟩ := ha
        obtain ⟨ovs, p1, p2, p3, p4⟩ := oldR l old (getB_R hg).2 hcut
        have hx0 := (getB_R hg).1
        by_cases hroom : len + m ≤ c
        · obtain rfl : o' = base + off := q2.resolve_left (by omega)
          obtain ⟨_, _, z0, cur2, e2, fz2, y1, y2⟩ := q3
          rw [k1] at y1
          obtain ⟨rfl, rfl, rfl⟩ := Obj.cells.inj (Option.some.inj y1)
          have hsz : (len + m) * i.size ≤ c * i.size := Nat.mul_le_mul_right _ hroom
          rw [Nat.add_mul] at hsz
          have hfit : base + off + len * i.size + vs.length ≤ cur.size := by omega
          have hone := one_setCells k1 (base + off + len * i.size) vs hfit
          obtain ⟨cur', t1, t2, t3⟩ := heap_setCells vs (base + off + len * i.size) w cur k1 hfit
          have hs2 := v2
          rw [← g2] at hs2
          have hrun := run_append_room_src (P := P) w t tx ty e info (und_P hT hu) g1 r (base + off) len c rx m vs hs2 hroom
            (by rw [g2]; intro j hj; rw [cell_in k1, Array.getElem?_eq_getElem (by omega)]; rfl) (by intro j hj; exact frozen_in k1)
          rw [g2] at hrun
          have heff := Eff.move (base' := base + off) (ab' := .cells (old ++ new) e) hr q1 hx0 rfl hone t1 ⟨cur', rfl, ⟨by
              rw [List.length_append, d1, ← rels_length p1, p2, t2]; omega, fun j x hj => by
            rw [t3]
            have hol := rels_length p1
            by_cases hjo : j < old.length
            · rw [List.getElem?_append_left hjo] at hj
              rw [if_neg (by omega)]
              obtain ⟨v, w1, w2⟩ := rels_get p1 hj
              refine ⟨v, ?_, rel.mono (More.refl μ) hone.grows _ _ w2⟩
              have := p3 j v w1
              rw [addr_add, cell_in k1] at this
              exact this
            · rw [List.getElem?_append_right (by omega)] at hj
              obtain ⟨v, w1, w2⟩ := rels_get v1 hj
              have hlt := (List.getElem?_eq_some_iff.1 w1).1
              refine ⟨v, ?_, rel.mono (More.refl μ) hone.grows _ _ w2⟩
              rw [if_pos (by omega), ← w1]
              congr 1
              omega⟩, fun hb => by rw [bigT_no hT hi c6 c5 (by omega)] at hb; cases hb⟩
          refine ⟨_, _, .slice (some ⟨r, base + off, none⟩) (len + m) c, .inl (by rw [hrun]; rfl), heff, ?_⟩
          unfold rel
          exact .inl ⟨r, base + off, base + off, c, up_same _ _ _, rfl, .inr rfl, hroom, by omega, z0, cur', _, _, t1, by omega⟩
        · have heff : Eff P ρ fl μ h w μ (h.put b .gone) w := Eff.upd hr q1 hx0 rfl ⟨rfl, fun _ _ => rfl, Grows.refl w, ⟨rfl, rfl, rfl⟩⟩ k1 trivial
          have := append_new (ty := ty) hT heff.hr hu hi c3 c2 c6 c4 c5 p4 p1 p2 v1 v2 (by omega)
          rw [n_put] at this
          obtain ⟨μ', w', v', u1, u2, u3⟩ := this
          exact ⟨μ', w', v', u1, heff.trans hr u2, u3⟩
      | kn kc =>
        simp only at ha
        obtain ⟨rfl, _, _⟩ := q3
        cases hroom : Nat.ble (len + m) c with
        | true =>
          rw [hroom] at ha
          simp only [cond_true] at ha
          split at ha
          case h_2 => cases ha
          rename_i l e' hg
          obtain ⟨cur, k1, k2, _⟩ := getB_sound hr q1 hg
          simp only [Option.map_eq_some_iff, Prod.mk.injEq] at ha
          obtain ⟨l', hput, rfl, rfl⟩ := ha
          have hroom := Nat.ble_eq.mp hroom
          obtain rfl : o' = base + off := q2.resolve_left (by omega)
          obtain ⟨f1, f2, f3⟩ := setCells_eff hr q1 hg hput v1
          have hs2 := v2
          rw [← g2] at hs2
          have hrun := run_append_room_src (P := P) w t tx ty e info (und_P hT hu) g1 r (base + off) len c rx m vs hs2 hroom (by rw [g2]; simpa [Nat.add_assoc] using f2) (by rw [g2]; simpa [Nat.add_assoc] using f3)
          refine ⟨μ, _, .slice (some ⟨r, base + off, none⟩) (len + m) c, .inl (by rw [hrun, g2]; simp [Nat.add_assoc]), f1, ?_⟩
          unfold rel
          exact .inl ⟨r, base, base + off, c, q1, rfl, .inr rfl, rfl, hroom, by omega⟩
        | false =>
          rw [hroom] at ha
          simp only [cond_false] at ha
          split at ha
          case h_2 => cases ha
          rename_i l hgR
          split at ha
          case h_2 => cases ha
          rename_i old hcut
          simp only [Option.some.injEq, Prod.mk.injEq] at ha
          obtain ⟨rfl, rfl⟩ := ha
          have hroom : ¬ (len + m ≤ c) := fun hh => by rw [Nat.ble_eq.mpr hh] at hroom; cases hroom
          obtain ⟨ovs, p1, p2, p3, p4⟩ := oldR l old hgR hcut
          exact append_new (ty := ty) hT hr hu hi c3 c2 c6 c4 c5 p4 p1 p2 v1 v2 (by omega)
  · cases ha
end Go.Proofs.YtohbdgddnkoenaaGreat.Ex
end
