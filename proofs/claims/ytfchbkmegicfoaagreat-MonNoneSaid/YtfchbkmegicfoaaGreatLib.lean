/- Lemmas on memory that the proofs of this seat share: what a call keeps, rows of bytes, append. -/
import Derived.WalkKit
import Derived.WalkSpells
import Derived.WalkLawsBesides
import Derived.Handy
import Derived.Deep.AppendSrc
import Derived.Deep.QuietTactic
import Derived.BigQuiet
import Derived.StillTailTactics
import Derived.Lib.Hide
import Derived.Lib.MinMax
import Derived.Test.YtfchbkmegicfoaaGreatRegion
set_option linter.unusedSimpArgs false
set_option linter.unusedVariables false
namespace Go.Proofs.YtfchbkmegicfoaaGreat
open Go.RowKit

/-- All blocks that were there, but for those in F, are as they were. -/
structure Kept (F : Nat → Prop) (w w' : World) : Prop where
  os : w'.os = w.os
  tape : w'.tape = w.tape
  output : w'.output = w.output
  size : w.heap.size ≤ w'.heap.size
  block : ∀ k, k < w.heap.size → ¬ F k → w'.heap[k]? = w.heap[k]?

theorem Kept.refl (F : Nat → Prop) (w : World) : Kept F w w := ⟨rfl, rfl, rfl, Nat.le_refl _, fun _ _ _ => rfl⟩

theorem Kept.trans {F : Nat → Prop} {a b c : World} (h : Kept F a b) (k : Kept F b c) : Kept F a c :=
  ⟨k.os.trans h.os, k.tape.trans h.tape, k.output.trans h.output, Nat.le_trans h.size k.size,
    fun i hi hf => (k.block i (Nat.lt_of_lt_of_le hi h.size) hf).trans (h.block i hi hf)⟩

/-- What is written behind may lie in new blocks too. -/
theorem Kept.transNew {F G : Nat → Prop} {a b c : World} (h : Kept F a b) (k : Kept G b c) (hg : ∀ i, i < a.heap.size → G i → F i) : Kept F a c :=
  ⟨k.os.trans h.os, k.tape.trans h.tape, k.output.trans h.output, Nat.le_trans h.size k.size,
    fun i hi hf => (k.block i (Nat.lt_of_lt_of_le hi h.size) (fun q => hf (hg i hi q))).trans (h.block i hi hf)⟩

theorem Kept.mono {F G : Nat → Prop} {w w' : World} (h : Kept F w w') (hg : ∀ i, i < w.heap.size → F i → G i) : Kept G w w' :=
  ⟨h.os, h.tape, h.output, h.size, fun k hk hn => h.block k hk (fun q => hn (hg k hk q))⟩

theorem Kept.drewN (F : Nat → Prop) (w : World) (n : Nat) : Kept F w (w.drewN n) := ⟨rfl, rfl, rfl, Nat.le_refl _, fun _ _ _ => rfl⟩
theorem Kept.drew (F : Nat → Prop) (w : World) : Kept F w w.drew := ⟨rfl, rfl, rfl, Nat.le_refl _, fun _ _ _ => rfl⟩
theorem Kept.alloc (F : Nat → Prop) (w : World) (o : Obj) : Kept F w (w.alloc o) := ⟨rfl, rfl, rfl, by simp, fun k hk _ => Below.heap_alloc w o k hk⟩
theorem Kept.setCell {F : Nat → Prop} (w : World) (a : Addr) (u : Value) (h : F a.block) : Kept F w (w.setCell a u) :=
  ⟨rfl, rfl, rfl, by simp [World.setCell], fun k _ hn => Below.heap_setCell _ _ _ _ (fun e => hn (e ▸ h))⟩

theorem Kept.dN {F : Nat → Prop} {a w : World} (h : Kept F a w) (n : Nat) : Kept F a (w.drewN n) := h.trans (Kept.drewN _ _ _)
theorem Kept.dr {F : Nat → Prop} {a w : World} (h : Kept F a w) : Kept F a w.drew := h.trans (Kept.drew _ _)
theorem Kept.al {F : Nat → Prop} {a w : World} (h : Kept F a w) (o : Obj) : Kept F a (w.alloc o) := h.trans (Kept.alloc _ _ _)
/-- A store into a block of F, or into a new one. -/
theorem Kept.st {F : Nat → Prop} {a w : World} (h : Kept F a w) {p : Addr} (u : Value) (hp : F p.block ∨ a.heap.size ≤ p.block) : Kept F a (w.setCell p u) :=
  h.transNew (Kept.setCell (F := fun k => k = p.block) w p u rfl) (by rintro i hi rfl; rcases hp with hp | hp; exact hp; omega)

/-- What is written behind lies in F, or is new. -/
theorem Kept.thn {F G : Nat → Prop} {a b c : World} (h : Kept F a b) (k : Kept G b c) (hg : ∀ i, G i → F i ∨ a.heap.size ≤ i) : Kept F a c :=
  h.transNew k (fun i hi q => by rcases hg i q with e | e; exact e; omega)

theorem Kept.below {F : Nat → Prop} {w w' : World} {B : Nat} (h : Kept F w w') (hb : B ≤ w.heap.size) (hf : ∀ k, F k → B ≤ k) : Below B w w' :=
  ⟨h.os, h.tape, h.output, h.size, fun k hk => h.block k (by omega) (fun q => by have := hf k q; omega)⟩

theorem Kept.ofBelow {w w' : World} (h : Below w.heap.size w w') (F : Nat → Prop) : Kept F w w' := ⟨h.os, h.tape, h.output, h.size, fun k hk _ => h.block k hk⟩

theorem Kept.cell {F : Nat → Prop} {w w' : World} (h : Kept F w w') {a : Addr} (hl : a.block < w.heap.size) (hn : ¬ F a.block) : w'.cell? a = w.cell? a :=
  World.cell?_of_block (h.block _ hl hn)

theorem heap_alloc_new' (w : World) (o : Obj) : (w.alloc o).heap[w.heap.size]? = some o := by
  show (w.heap.push o)[w.heap.size]? = _
  simp

/-- Two new blocks. -/
theorem two_new (w : World) (a b : Obj) : Kept (fun _ => False) w ((w.alloc a).alloc b) ∧ ((w.alloc a).alloc b).heap[w.heap.size]? = some a ∧ ((w.alloc a).alloc b).heap[w.heap.size + 1]? = some b := by
  refine ⟨(Kept.alloc _ _ _).al _, (Below.heap_alloc _ _ _ (by simp)).trans (heap_alloc_new' w a), ?_⟩
  have := heap_alloc_new' (w.alloc a) b
  simpa using this

/-- A byte's cell. -/
def bv (b : UInt8) : Value := .int .u8 (b.toNat : Int)

/-- A slice value whose elements, of 'size' cells each, read as the cells l; g: the block in which they lie. -/
def Reads (w : World) (size : Nat) (v : Value) (n : Nat) (l : List Value) (g : Option Nat) : Prop :=
  l.length = n * size ∧ ((∃ a c, v = .slice a 0 c ∧ n = 0) ∨
    ∃ b off c, g = some b ∧ v = .slice (some ⟨b, off, none⟩) n c ∧ n ≤ c ∧ c ≤ maxLen ∧ ∀ j, j < l.length → w.cell? ⟨b, off + j, none⟩ = l[j]?)

/-- A slice value that owns its row: block g, of cells of type e, all of which may be written. -/
def Own (w : World) (e : TypeId) (size : Nat) (v : Value) (n : Nat) (l : List Value) (g : Option Nat) : Prop :=
  l.length = n * size ∧ ((g = none ∧ v = .slice none 0 0 ∧ n = 0) ∨
    ∃ b off c cur, g = some b ∧ v = .slice (some ⟨b, off, none⟩) n c ∧ n ≤ c ∧ c ≤ maxLen ∧ w.heap[b]? = some (.cells cur e (0, 0)) ∧ off + c * size ≤ cur.size ∧ ∀ j, j < l.length → cur[off + j]? = l[j]?)

theorem cell_in {w : World} {g k : Nat} {cur : Array Value} {e : TypeId} {fz : Nat × Nat} (h : w.heap[g]? = some (.cells cur e fz)) : w.cell? ⟨g, k, none⟩ = cur[k]? := by
  simp [World.cell?, h]

theorem frozen_in {w : World} {g k : Nat} {cur : Array Value} {e : TypeId} (h : w.heap[g]? = some (.cells cur e (0, 0))) : w.frozen? ⟨g, k, none⟩ = false := by
  simp [World.frozen?, h]

theorem lt_in {w : World} {g : Nat} {o : Obj} (h : w.heap[g]? = some o) : g < w.heap.size := by simpa using (Array.getElem?_eq_some_iff.1 h).1

theorem heap_setCell_same {w : World} {g o : Nat} {cur : Array Value} {e : TypeId} {fz : Nat × Nat} (h : w.heap[g]? = some (.cells cur e fz)) (u : Value) :
    (w.setCell ⟨g, o, none⟩ u).heap[g]? = some (.cells (cur.setIfInBounds o u) e fz) := by
  simp [World.setCell, Array.getElem?_modify, h]

theorem Own.reads {w : World} {e size n : Nat} {g : Option Nat} {v : Value} {l : List Value} (h : Own w e size v n l g) : Reads w size v n l g := by
  obtain ⟨h0, ⟨rfl, rfl, rfl⟩ | ⟨b, off, c, cur, rfl, rfl, h1, h2, h3, h4, h5⟩⟩ := h
  · exact ⟨h0, .inl ⟨none, 0, rfl, rfl⟩⟩
  · exact ⟨h0, .inr ⟨b, off, c, rfl, rfl, h1, h2, fun j hj => by rw [cell_in h3]; exact h5 j hj⟩⟩

theorem Own.shape {w : World} {e size n : Nat} {g : Option Nat} {v : Value} {l : List Value} (h : Own w e size v n l g) : ∃ a c, v = .slice a n c ∧ n ≤ c ∧ c ≤ maxLen := by
  obtain ⟨h0, ⟨rfl, rfl, rfl⟩ | ⟨b, off, c, cur, rfl, rfl, h1, h2, h3, h4, h5⟩⟩ := h
  · exact ⟨_, _, rfl, Nat.le_refl _, Nat.zero_le _⟩
  · exact ⟨_, _, rfl, h1, h2⟩

/-- A row that is not empty. -/
theorem Own.pos {w : World} {e size n c : Nat} {a : Option Addr} {g : Option Nat} {l : List Value} (h : Own w e size (.slice a n c) n l g) (hn : 0 < n) :
    ∃ b off cur, g = some b ∧ a = some ⟨b, off, none⟩ ∧ n ≤ c ∧ c ≤ maxLen ∧ w.heap[b]? = some (.cells cur e (0, 0)) ∧ off + c * size ≤ cur.size ∧ l.length = n * size ∧ ∀ j, j < l.length → cur[off + j]? = l[j]? := by
  obtain ⟨h0, ⟨rfl, h1, rfl⟩ | ⟨b, off, c', cur, rfl, h1, h2, h3, h4, h5, h6⟩⟩ := h
  · omega
  · simp at h1
    obtain ⟨rfl, rfl⟩ := h1
    exact ⟨b, off, cur, rfl, rfl, h2, h3, h4, h5, h0, h6⟩

theorem Own.lt {w : World} {e size n : Nat} {g : Option Nat} {v : Value} {l : List Value} (h : Own w e size v n l g) : ∀ k, g = some k → k < w.heap.size := by
  obtain ⟨h0, ⟨rfl, rfl, rfl⟩ | ⟨b, off, c, cur, rfl, rfl, h1, h2, h3, h4, h5⟩⟩ := h
  · rintro k ⟨⟩
  · rintro k ⟨⟩; exact lt_in h3

theorem Reads.shape {w : World} {size n : Nat} {g : Option Nat} {v : Value} {l : List Value} (h : Reads w size v n l g) : ∃ a c, v = .slice a n c ∧ n ≤ c := by
  obtain ⟨-, ⟨a, c, rfl, hx⟩ | ⟨b, off, c, -, rfl, h1, -⟩⟩ := h
  · rw [hx]; exact ⟨_, _, rfl, Nat.zero_le _⟩
  · exact ⟨_, _, rfl, h1⟩

/-- An empty row in a new block. -/
theorem own_empty (w : World) (e : TypeId) : Own (w.alloc (.cells #[] e)) e 1 (.slice (some ⟨w.heap.size, 0, none⟩) 0 0) 0 [] (some w.heap.size) :=
  ⟨by simp, .inr ⟨w.heap.size, 0, 0, #[], rfl, rfl, Nat.le_refl _, Nat.zero_le _, heap_alloc_new w _, by simp, fun j hj => by simp at hj⟩⟩

theorem Reads.heap {w w' : World} {size n : Nat} {g : Option Nat} {v : Value} {l : List Value} (h : Reads w size v n l g) (hg : ∀ k, g = some k → l ≠ [] → w'.heap[k]? = w.heap[k]?) : Reads w' size v n l g := by
  obtain ⟨h0, h1 | ⟨b, off, c, rfl, rfl, h1, h2, h3⟩⟩ := h
  · exact ⟨h0, .inl h1⟩
  · refine ⟨h0, .inr ⟨b, off, c, rfl, rfl, h1, h2, fun j hj => ?_⟩⟩
    rw [World.cell?_of_block (a := ⟨b, off + j, none⟩) (hg b rfl (by intro e; subst e; simp at hj))]
    exact h3 j hj

theorem Reads.lt {w : World} {size n : Nat} {g : Option Nat} {v : Value} {l : List Value} (h : Reads w size v n l g) (hl : l ≠ []) : ∀ k, g = some k → k < w.heap.size := by
  obtain ⟨h0, ⟨a, c, rfl, rfl⟩ | ⟨b, off, c, rfl, rfl, h1, h2, h3⟩⟩ := h
  · exact absurd (List.eq_nil_of_length_eq_zero (by simpa using h0)) hl
  · rintro k ⟨⟩
    have hp : 0 < l.length := List.length_pos_iff.2 hl
    have := h3 0 hp
    rw [List.getElem?_eq_getElem hp] at this
    exact World.block_lt_of_cell? _ _ this

theorem Reads.kept {F : Nat → Prop} {w w' : World} {size n : Nat} {g : Option Nat} {v : Value} {l : List Value} (h : Reads w size v n l g) (hk : Kept F w w') (hf : ∀ k, g = some k → ¬ F k) : Reads w' size v n l g :=
  h.heap fun k hg hl => hk.block k (h.lt hl k hg) (hf k hg)

theorem Reads.drewN {w : World} {size n : Nat} {g : Option Nat} {v : Value} {l : List Value} (h : Reads w size v n l g) (m : Nat) : Reads (w.drewN m) size v n l g := h.heap fun _ _ _ => rfl
theorem Reads.drew {w : World} {size n : Nat} {g : Option Nat} {v : Value} {l : List Value} (h : Reads w size v n l g) : Reads w.drew size v n l g := h.heap fun _ _ _ => rfl

theorem Own.heap {w w' : World} {e size n : Nat} {g : Option Nat} {v : Value} {l : List Value} (h : Own w e size v n l g) (hg : ∀ k, g = some k → w'.heap[k]? = w.heap[k]?) : Own w' e size v n l g := by
  obtain ⟨h0, h1 | ⟨b, off, c, cur, rfl, rfl, h1, h2, h3, h4, h5⟩⟩ := h
  · exact ⟨h0, .inl h1⟩
  · exact ⟨h0, .inr ⟨b, off, c, cur, rfl, rfl, h1, h2, (hg b rfl).trans h3, h4, h5⟩⟩

theorem Own.kept {F : Nat → Prop} {w w' : World} {e size n : Nat} {g : Option Nat} {v : Value} {l : List Value} (h : Own w e size v n l g) (hk : Kept F w w') (hf : ∀ k, g = some k → ¬ F k) : Own w' e size v n l g :=
  h.heap fun k hg => hk.block k (h.lt k hg) (hf k hg)

theorem Own.drewN {w : World} {e size n : Nat} {g : Option Nat} {v : Value} {l : List Value} (h : Own w e size v n l g) (m : Nat) : Own (w.drewN m) e size v n l g := h.heap fun _ _ => rfl
theorem Own.drew {w : World} {e size n : Nat} {g : Option Nat} {v : Value} {l : List Value} (h : Own w e size v n l g) : Own w.drew e size v n l g := h.heap fun _ _ => rfl

theorem Own.nil (w : World) (e size : Nat) : Own w e size (.slice none 0 0) 0 [] none := ⟨by simp, .inl ⟨rfl, rfl, rfl⟩⟩

/-- A row lies apart from a block of another type. -/
theorem Own.ne {w : World} {e e' size n p : Nat} {g : Option Nat} {v : Value} {l : List Value} {cs : Array Value} {fz : Nat × Nat} (h : Own w e size v n l g) (hp : w.heap[p]? = some (.cells cs e' fz)) (he : e ≠ e') : ∀ k, g = some k → k ≠ p := by
  obtain ⟨h0, ⟨rfl, rfl, rfl⟩ | ⟨b, off, c, cur, rfl, rfl, h1, h2, h3, h4, h5⟩⟩ := h
  · rintro k ⟨⟩
  · rintro k ⟨⟩ rfl
    rw [h3] at hp
    simp at hp
    exact he hp.2.1

theorem addr_add (b off k : Nat) : (⟨b, off, none⟩ : Addr).add k = ⟨b, off + k, none⟩ := by unfold Addr.add; split <;> simp_all

/-- A part of a row. -/
theorem Reads.sliced {w : World} {size n c : Nat} {a : Option Addr} {g : Option Nat} {l : List Value} (h : Reads w size (.slice a n c) n l g) {lo hi m : Nat} (h1 : lo ≤ hi) (h2 : hi ≤ n) (h3 : hi ≤ m) (h4 : m ≤ c) :
    Reads w size (Go.sliced a lo hi m size) (hi - lo) ((l.drop (lo * size)).take ((hi - lo) * size)) g := by
  obtain ⟨h0, ⟨a', c', e, rfl⟩ | ⟨b, off, c', rfl, e, h5, h6, h7⟩⟩ := h
  · obtain rfl : hi = 0 := by omega
    obtain rfl : lo = 0 := by omega
    exact ⟨by simp, .inl ⟨_, _, rfl, by omega⟩⟩
  · simp at e
    obtain ⟨rfl, rfl⟩ := e
    have hmul : (hi - lo) * size = hi * size - lo * size := Nat.sub_mul _ _ _
    have hmul2 : hi * size ≤ n * size := Nat.mul_le_mul_right _ h2
    have hmul3 : lo * size ≤ hi * size := Nat.mul_le_mul_right _ h1
    refine ⟨by rw [List.length_take, List.length_drop]; omega, .inr ?_⟩
    by_cases hm : m = lo
    · subst hm
      obtain rfl : hi = m := by omega
      refine ⟨b, off, 0, rfl, by simp [Go.sliced], by omega, by omega, fun j hj => ?_⟩
      simp at hj
    · refine ⟨b, off + lo * size, m - lo, rfl, by simp [Go.sliced, hm, addr_add], by omega, by omega, fun j hj => ?_⟩
      rw [List.length_take, List.length_drop] at hj
      rw [List.getElem?_take, if_pos (by omega), List.getElem?_drop, ← h7 _ (by omega), Nat.add_assoc]

theorem Own.sliced {w : World} {e size n c : Nat} {a : Option Addr} {g : Option Nat} {l : List Value} (h : Own w e size (.slice a n c) n l g) {lo hi m : Nat} (h1 : lo ≤ hi) (h2 : hi ≤ n) (h3 : hi ≤ m) (h4 : m ≤ c) :
    Own w e size (Go.sliced a lo hi m size) (hi - lo) ((l.drop (lo * size)).take ((hi - lo) * size)) g := by
  obtain ⟨h0, ⟨rfl, e, rfl⟩ | ⟨b, off, c', cur, rfl, e, h5, h6, h7, h8, h9⟩⟩ := h
  · simp at e
    obtain ⟨rfl, rfl⟩ := e
    obtain rfl : hi = 0 := by omega
    obtain rfl : lo = 0 := by omega
    obtain rfl : m = 0 := by omega
    exact ⟨by simp, .inl ⟨rfl, by simp [Go.sliced], by omega⟩⟩
  · simp at e
    obtain ⟨rfl, rfl⟩ := e
    have hmul : (hi - lo) * size = hi * size - lo * size := Nat.sub_mul _ _ _
    have hmul2 : hi * size ≤ n * size := Nat.mul_le_mul_right _ h2
    have hmul3 : lo * size ≤ hi * size := Nat.mul_le_mul_right _ h1
    have hmul4 : (m - lo) * size = m * size - lo * size := Nat.sub_mul _ _ _
    have hmul5 : m * size ≤ c * size := Nat.mul_le_mul_right _ h4
    have hmul6 : lo * size ≤ m * size := Nat.mul_le_mul_right _ (by omega)
    refine ⟨by rw [List.length_take, List.length_drop]; omega, .inr ?_⟩
    by_cases hm : m = lo
    · subst hm
      obtain rfl : hi = m := by omega
      refine ⟨b, off, 0, cur, rfl, by simp [Go.sliced], by omega, by omega, h7, by omega, fun j hj => ?_⟩
      simp at hj
    · refine ⟨b, off + lo * size, m - lo, cur, rfl, by simp [Go.sliced, hm, addr_add], by omega, by omega, h7, by omega, fun j hj => ?_⟩
      rw [List.length_take, List.length_drop] at hj
      rw [List.getElem?_take, if_pos (by omega), List.getElem?_drop, ← h9 _ (by omega), Nat.add_assoc]

theorem bv_one (l : List UInt8) : ∀ u ∈ l.map bv, u.oneCell' = true := by
  intro u hu
  obtain ⟨_, _, rfl⟩ := List.mem_map.1 hu
  rfl

theorem heap_setCells {g : Nat} {e : TypeId} {fz : Nat × Nat} : ∀ (vs : List Value) (o : Nat) (w : World) (cur : Array Value), w.heap[g]? = some (.cells cur e fz) → o + vs.length ≤ cur.size →
    ∃ cur', (w.setCells g o vs).heap[g]? = some (.cells cur' e fz) ∧ cur'.size = cur.size ∧ ∀ k, cur'[k]? = if o ≤ k ∧ k < o + vs.length then vs[k - o]? else cur[k]?
  | [], o, w, cur, h, _ => ⟨cur, h, rfl, fun k => by rw [if_neg (by simp)]⟩
  | v :: r, o, w, cur, h, hl => by
    have h1 : (w.setCell ⟨g, o, none⟩ v).heap[g]? = some (.cells (cur.setIfInBounds o v) e fz) := by
      simp [World.setCell, Array.getElem?_modify, h]
    simp only [List.length_cons] at hl
    obtain ⟨cur', h2, h3, h4⟩ := heap_setCells r (o + 1) _ _ h1 (by simp; omega)
    refine ⟨cur', h2, by simpa using h3, fun k => ?_⟩
    rw [h4 k]
    simp only [List.length_cons]
    by_cases hk : k = o
    · subst hk
      rw [if_neg (by omega), if_pos (by omega)]
      simp [Array.getElem?_setIfInBounds]
      omega
    · by_cases hk2 : o + 1 ≤ k ∧ k < o + 1 + r.length
      · rw [if_pos hk2, if_pos (by omega), show k - o = (k - (o + 1)) + 1 by omega, List.getElem?_cons_succ]
      · rw [if_neg hk2, if_neg (by omega), Array.getElem?_setIfInBounds, if_neg (by omega)]

theorem size_setCells' (b : Nat) : ∀ (vs : List Value) (o : Nat) (w : World), (w.setCells b o vs).heap.size = w.heap.size
  | [], _, _ => rfl
  | v :: r, o, w => by rw [World.setCells, size_setCells' b r]; simp [World.setCell]

theorem tape_setCells' (b : Nat) : ∀ (vs : List Value) (o : Nat) (w : World), (w.setCells b o vs).tape = w.tape
  | [], _, _ => rfl
  | v :: r, o, w => by rw [World.setCells, tape_setCells' b r]; rfl

theorem other_setCells' (b : Nat) : ∀ (vs : List Value) (o : Nat) (w : World) (k : Nat), k ≠ b → (w.setCells b o vs).heap[k]? = w.heap[k]?
  | [], _, _, _, _ => rfl
  | v :: r, o, w, k, hk => by rw [World.setCells, other_setCells' b r _ _ _ hk]; exact Below.heap_setCell _ _ _ _ hk

theorem os_setCells' (b : Nat) : ∀ (vs : List Value) (o : Nat) (w : World), (w.setCells b o vs).os = w.os ∧ (w.setCells b o vs).output = w.output
  | [], _, _ => ⟨rfl, rfl⟩
  | v :: r, o, w => by rw [World.setCells]; exact os_setCells' b r _ _

theorem Kept.setCells {F : Nat → Prop} (w : World) (b o : Nat) (vs : List Value) (h : F b) : Kept F w (w.setCells b o vs) :=
  ⟨(os_setCells' b vs o w).1, tape_setCells' b vs o w, (os_setCells' b vs o w).2, by rw [size_setCells']; exact Nat.le_refl _,
    fun k _ hn => other_setCells' b vs o w k (fun e => hn (e ▸ h))⟩

section
variable {P : Program}

theorem wp_region_tail {id : Nat} {Q : Exit → Act → World → Prop} {a : Act} {w : World} {l : List Oper} (n : Nat) (hm : P.follows .mixedOrders = true) (hB : Region.lexTailB .any l.toArray n = true)
    (h : wpStill P l.toArray w.drew (fun a' => wpList P l.toArray Q (l.drop n) a' w.drew) (l.take n) a) : (Code.region id l.toArray true).wp P Q a w := wp_region_still_tail n hm hB h

/-- 'x[lo:hi]', as the walk finds it: the value has a name. -/
theorem Reads.slice_run {w : World} {t e size n c : Nat} {a : Option Addr} {g : Option Nat} {l : List Value} (h : Reads w size (.slice a n c) n l g) (ht : P.underlying t = some (.slice e)) (he : (P.info? e).map (·.size) = some size) (hc : n ≤ c) {lo hi : Int} {k : Nat} (h0 : 0 ≤ lo) (h1 : hi = lo + k) (h2 : hi ≤ n) :
    ∃ a' c', (∀ w', (Instr.sliceAt t (.slice a n c) (some (.int .i64 lo)) (some (.int .i64 hi)) none).run P w' = .ok (.slice a' k c') w') ∧ Reads w size (.slice a' k c') k ((l.drop (lo.toNat * size)).take (k * size)) g := by
  obtain ⟨i, hi0, his⟩ : ∃ i, P.info? e = some i ∧ i.size = size := by
    cases hq : P.info? e with
    | none => simp [hq] at he
    | some i => exact ⟨i, rfl, by simpa [hq] using he⟩
  have hh : k = hi.toNat - lo.toNat := by omega
  have := h.sliced (lo := lo.toNat) (hi := hi.toNat) (m := c) (by omega) (by omega) (by omega) (Nat.le_refl _)
  rw [hh]
  refine ⟨_, _, fun w' => ?_, this⟩
  have e2 : (hi.toNat : Int) = hi := Int.toNat_of_nonneg (by omega)
  have e3 : hi ≤ (c : Int) := by omega
  simp [Instr.sliceAt, Instr.slice, run_underlying ht, Instr.sliceBounds, run_sliceBound, sizeOf, typeInfo, hi0, his, h0, (by omega : lo ≤ hi), e3, e2, (by omega : 0 ≤ hi)]

theorem Own.slice3_run {w : World} {t e size n c : Nat} {a : Option Addr} {g : Option Nat} {l : List Value} (h : Own w e size (.slice a n c) n l g) (ht : P.underlying t = some (.slice e)) (he : (P.info? e).map (·.size) = some size) (hc : n ≤ c) {hi : Int} (h0 : 0 ≤ hi) (h2 : hi ≤ n) :
    ∃ a' c', (∀ w', (Instr.sliceAt t (.slice a n c) none (some (.int .i64 hi)) (some (.int .i64 hi))).run P w' = .ok (.slice a' hi.toNat c') w') ∧ Own w e size (.slice a' hi.toNat c') hi.toNat (l.take (hi.toNat * size)) g := by
  obtain ⟨i, hi0, his⟩ : ∃ i, P.info? e = some i ∧ i.size = size := by
    cases hq : P.info? e with
    | none => simp [hq] at he
    | some i => exact ⟨i, rfl, by simpa [hq] using he⟩
  have := h.sliced (lo := 0) (hi := hi.toNat) (m := hi.toNat) (by omega) (by omega) (by omega) (by omega)
  simp only [Nat.zero_mul, List.drop_zero, Nat.sub_zero] at this
  refine ⟨_, _, fun w' => ?_, this⟩
  have e2 : (hi.toNat : Int) = hi := Int.toNat_of_nonneg (by omega)
  have e3 : hi ≤ (c : Int) := by omega
  simp [Instr.sliceAt, Instr.slice, run_underlying ht, Instr.sliceBounds, run_sliceBound, sizeOf, typeInfo, hi0, h0, e3, e2]

theorem Reads.sliceTo_run {w : World} {t e size n c : Nat} {a : Option Addr} {g : Option Nat} {l : List Value} (h : Reads w size (.slice a n c) n l g) (ht : P.underlying t = some (.slice e)) (he : (P.info? e).map (·.size) = some size) (hc : n ≤ c) {hi : Int} {k : Nat} (h1 : hi = k) (h2 : hi ≤ n) :
    ∃ a' c', (∀ w', (Instr.sliceAt t (.slice a n c) none (some (.int .i64 hi)) none).run P w' = .ok (.slice a' k c') w') ∧ Reads w size (.slice a' k c') k (l.take (k * size)) g := by
  obtain ⟨i, hi0, his⟩ : ∃ i, P.info? e = some i ∧ i.size = size := by
    cases hq : P.info? e with
    | none => simp [hq] at he
    | some i => exact ⟨i, rfl, by simpa [hq] using he⟩
  have := h.sliced (lo := 0) (hi := k) (m := c) (by omega) (by omega) (by omega) (Nat.le_refl _)
  simp only [Nat.zero_mul, List.drop_zero, Nat.sub_zero] at this
  refine ⟨_, _, fun w' => ?_, this⟩
  have e1 : hi.toNat = k := by omega
  have e3 : hi ≤ (c : Int) := by omega
  simp [Instr.sliceAt, Instr.slice, run_underlying ht, Instr.sliceBounds, run_sliceBound, sizeOf, typeInfo, hi0, his, e3, e1, (by omega : 0 ≤ hi)]

theorem Reads.sliceFrom_run {w : World} {t e size n c : Nat} {a : Option Addr} {g : Option Nat} {l : List Value} (h : Reads w size (.slice a n c) n l g) (ht : P.underlying t = some (.slice e)) (he : (P.info? e).map (·.size) = some size) (hc : n ≤ c) {lo : Int} (h0 : 0 ≤ lo) (h1 : lo ≤ n) :
    ∃ a' c', (∀ w', (Instr.sliceAt t (.slice a n c) (some (.int .i64 lo)) none none).run P w' = .ok (.slice a' (n - lo.toNat) c') w') ∧ Reads w size (.slice a' (n - lo.toNat) c') (n - lo.toNat) (l.drop (lo.toNat * size)) g := by
  obtain ⟨i, hi0, his⟩ : ∃ i, P.info? e = some i ∧ i.size = size := by
    cases hq : P.info? e with
    | none => simp [hq] at he
    | some i => exact ⟨i, rfl, by simpa [hq] using he⟩
  have := h.sliced (lo := lo.toNat) (hi := n) (m := c) (by omega) (by omega) (by omega) (Nat.le_refl _)
  have hl : l.length = n * size := h.1
  rw [List.take_of_length_le (by rw [List.length_drop, hl, Nat.sub_mul]; exact Nat.le_refl _)] at this
  refine ⟨_, _, fun w' => ?_, this⟩
  simp [Instr.sliceAt, Instr.slice, run_underlying ht, Instr.sliceBounds, run_sliceBound, sizeOf, typeInfo, hi0, his, h0, h1]

theorem Reads.src {w : World} {size n : Nat} {g : Option Nat} {v : Value} {l : List Value} (h : Reads w size v n l g) {tx e' : TypeId} (hk : P.underlying tx = some (.slice e')) (h1 : ∀ u ∈ l, u.oneCell' = true) : Src P size tx v n l w := by
  obtain ⟨h0, ⟨a, c, rfl, rfl⟩ | ⟨b, off, c, rfl, rfl, h2, h3, h4⟩⟩ := h
  · obtain rfl : l = [] := List.eq_nil_of_length_eq_zero (by simpa using h0)
    cases a with
    | none => exact Src.ofNil w hk c
    | some a => exact Src.ofSlice w hk a 0 c [] (by simp) (fun j u hu => by simp at hu) h1
  · refine Src.ofSlice w hk _ n c l h0 (fun j u hu => ?_) h1
    have hj : j < l.length := (List.getElem?_eq_some_iff.1 hu).1
    have hadd : (⟨b, off, none⟩ : Addr).add j = ⟨b, off + j, none⟩ := by unfold Addr.add; split <;> simp_all
    rw [hadd, h4 j hj, hu]

theorem foldl_push_bytes : ∀ (l : List UInt8) (s : ByteArray), (l.map fun b => (b.toNat : Int)).foldl (fun r n => r.push (UInt8.ofNat n.toNat)) s = ⟨s.data ++ l.toArray⟩
  | [], s => by simp
  | b :: r, s => by
    simp only [List.map_cons, List.foldl_cons]
    rw [foldl_push_bytes r]
    have : UInt8.ofNat ((b.toNat : Int)).toNat = b := by simp
    rw [this]
    congr 1
    simp [ByteArray.push]

/-- 'string(b)'. -/
theorem Reads.string_run {w : World} {src dst e n : Nat} {v : Value} {g : Option Nat} {bs : List UInt8} (h : Reads w 1 v n (bs.map bv) g) (hs : P.underlying src = some (.slice e)) (he : P.underlying e = some (.int .u8)) (hd : P.underlying dst = some .string) :
    (convert src dst v).run P w = .ok (.string ⟨bs.toArray⟩) w := by
  obtain ⟨h0, ⟨a, c, rfl, rfl⟩ | ⟨b, off, c, rfl, rfl, h2, h3, h4⟩⟩ := h
  · obtain rfl : bs = [] := List.eq_nil_of_length_eq_zero (by simpa using h0)
    rw [run_convert_bytes_string w src dst e a 0 c hs he hd]
    cases a with
    | none => simp [Conv.bytesToString, ByteArray.empty, ByteArray.emptyWithCapacity]; rfl
    | some a =>
      have hl := run_firstCells_some (P := P) w 1 0 a 0 c [] (by simp) (fun j u hu => by simp at hu)
      simp only [Builtin.firstCells, Nat.mul_one] at hl
      rw [run_bytesToString w _ _ _ [] (by simpa using hl)]
      rfl
  · have hn : n = bs.length := by simpa using h0.symm
    subst hn
    rw [run_convert_bytes_string w src dst e _ _ c hs he hd]
    have hm : bs.map bv = (bs.map fun b => (b.toNat : Int)).map (Value.int .u8) := by simp [bv, Function.comp_def]
    have hl := run_firstCells_some (P := P) w 1 bs.length ⟨b, off, none⟩ bs.length c (bs.map bv) (by simp) (fun j u hu => by
      have hj : j < (bs.map bv).length := (List.getElem?_eq_some_iff.1 hu).1
      rw [addr_add, h4 j hj, hu])
    simp only [Builtin.firstCells, Nat.mul_one] at hl
    rw [hm] at hl
    rw [run_bytesToString w _ _ _ _ hl, foldl_push_bytes]
    simp [ByteArray.empty, ByteArray.emptyWithCapacity]
    rfl

/-- 'append(s, x...)', s a row of the call's own. -/
theorem run_append_Own {w : World} (t tx ty e : TypeId) (i : TypeInfo) (z : Value) (size bytes : Nat) (ht : P.underlying t = some (.slice e)) (hi : P.info? e = some i) (hz : i.zero = some z)
    (hsize : i.size = size) (hby : i.bytes = bytes) (hzs : z.cells.size = size) {v : Value} {n : Nat} {l : List Value} {g : Option Nat} (hown : Own w e size v n l g)
    {x : Value} {m : Nat} {news : List Value} (hs : Src P size tx x m news w) (h63 : n + m ≤ maxLen) (hbytes : (n + m) * bytes ≤ 140737488355328) :
    ∃ v' w' g', (Builtin.append_ #[t, tx] ty #[v, x]).run P w = .ok v' w' ∧ Own w' e size v' (n + m) (l ++ news) g' ∧ Kept (fun k => g = some k) w w' ∧ (∀ k, g' = some k → g = some k ∨ w.heap.size ≤ k) := by
  subst hsize
  subst hby
  have hnl := hs.newsLen
  have hsmall : n + m ≤ 9223372036854775807 := by simp only [maxLen] at h63; omega
  obtain ⟨h0, h⟩ := hown
  have hlen : (l ++ news).length = (n + m) * i.size := by rw [List.length_append, h0, hnl, Nat.add_mul]
  have grow : ∀ (base : Option Addr) (c : Nat), v = .slice base n c → c < n + m → (Builtin.firstCells i.size n (.slice base n c)).run P w.drew = .ok l.toArray w.drew →
      ∃ v' w' g', (Builtin.append_ #[t, tx] ty #[v, x]).run P w = .ok v' w' ∧ Own w' e i.size v' (n + m) (l ++ news) g' ∧ Kept (fun k => g = some k) w w' ∧ (∀ k, g' = some k → g = some k ∨ w.heap.size ≤ k) := by
    rintro base c rfl hc hold
    have hge := grownCap_ge w (n + m) c e
    have hcm : grownCap w (n + m) c e ≤ maxLen := grownCap_le_maxLen w (n + m) c e h63
    refine ⟨_, _, some w.heap.size, run_append_grow_src (P := P) w t tx ty e i z ht hi hz base n c l hold x m news hs hc (by omega) (growslice_fits hc hbytes),
      ⟨hlen, .inr ⟨w.heap.size, 0, _, _, rfl, rfl, hge, hcm, heap_alloc_new w.drew _, ?_, fun j hj => ?_⟩⟩, (Kept.drew _ w).trans (Kept.alloc _ _ _), (by rintro k ⟨⟩; exact .inr (Nat.le_refl _))⟩
    · simp only [Array.size_append, List.size_toArray, size_zeroCells, hzs, hlen, ← Nat.add_mul, Nat.zero_add]
      exact Nat.mul_le_mul_right _ (by omega)
    · rw [Nat.zero_add, Array.getElem?_append_left (by simpa using hj), List.getElem?_toArray]
  rcases h with ⟨rfl, rfl, rfl⟩ | ⟨b, off, c, cur, rfl, rfl, h1, h2, h3, h4, h5⟩
  · obtain rfl : l = [] := List.eq_nil_of_length_eq_zero (by simpa using h0)
    by_cases hm : m = 0
    · subst hm
      obtain rfl : news = [] := List.eq_nil_of_length_eq_zero (by simpa using hnl)
      refine ⟨.slice none 0 0, w, none, ?_, ⟨by simp, .inl ⟨rfl, rfl, rfl⟩⟩, Kept.refl _ _, (by rintro k ⟨⟩)⟩
      rcases hs.kind with ⟨e', hk⟩ | hk <;> simp [Builtin.append_, run_underlying ht, run_underlying hk, sizeOf, typeInfo, hi, hs.len, hs.cells]
    · exact grow none 0 rfl (by omega) (by simpa using run_firstCells_none (P := P) w.drew i.size 0 0 0)
  · by_cases hroom : n + m ≤ c
    · have hsz : (n + m) * i.size ≤ c * i.size := Nat.mul_le_mul_right _ hroom
      rw [Nat.add_mul] at hsz
      have hfit : off + n * i.size + news.length ≤ cur.size := by rw [hnl]; omega
      obtain ⟨cur', c1, c2, c3⟩ := heap_setCells news (off + n * i.size) w cur h3 hfit
      refine ⟨_, _, some b, run_append_room_src (P := P) w t tx ty e i ht hi b off n c x m news hs hroom (fun j hj => ?_) (fun j _ => frozen_in h3),
        ⟨hlen, .inr ⟨b, off, c, cur', rfl, rfl, hroom, h2, c1, by omega, fun j hj => ?_⟩⟩, Kept.setCells _ _ _ _ rfl, fun k hk => .inl hk⟩
      · rw [cell_in h3, Array.getElem?_eq_getElem (by omega)]; rfl
      · rw [c3]
        rw [List.length_append] at hj
        by_cases hjl : j < l.length
        · rw [if_neg (by omega), List.getElem?_append_left hjl]
          exact h5 j hjl
        · rw [if_pos (by omega), List.getElem?_append_right (by omega), h0]
          congr 1
          omega
    · refine grow _ c rfl (by omega) (run_firstCells_some (P := P) w.drew i.size n ⟨b, off, none⟩ n c l h0 (fun j u hu => ?_))
      have hj : j < l.length := (List.getElem?_eq_some_iff.1 hu).1
      have hadd : (⟨b, off, none⟩ : Addr).add j = ⟨b, off + j, none⟩ := by unfold Addr.add; split <;> simp_all
      rw [hadd, World.cell?_drew, cell_in h3, h5 j hj, hu]

theorem wpList_append_Own {w : World} {ops : Array Oper} {rest : List Oper} {o : Oper} {a : Act} {Q : Exit → Act → World → Prop} (hgd : o.guard = none) (s x : Operand) (t tx : TypeId)
    (ho : o.op = .call { callee := .builtin .append, args := #[s, x], argTypes := #[t, tx] })
    (e : TypeId) (i : TypeInfo) (z : Value) (size bytes : Nat) (ht : P.underlying t = some (.slice e)) (hi : P.info? e = some i) (hz : i.zero = some z)
    (hsize : i.size = size) (hby : i.bytes = bytes) (hzs : z.cells.size = size) {v : Value} {n : Nat} {l : List Value} {g : Option Nat} (hv : a.eval s = v) (hown : Own w e size v n l g)
    {y : Value} {m : Nat} {news : List Value} (hy : a.eval x = y) (hs : Src P size tx y m news w) (h63 : n + m ≤ maxLen) (hbytes : (n + m) * bytes ≤ 140737488355328)
    (h : ∀ a' c' w' g', Own w' e size (.slice a' (n + m) c') (n + m) (l ++ news) g' → Kept (fun k => g = some k) w w' → (∀ k, g' = some k → g = some k ∨ w.heap.size ≤ k) → wpList P ops Q rest (a.put o.dst (.slice a' (n + m) c')) w') : wpList P ops Q (o :: rest) a w := by
  obtain ⟨v', w', g', hr, h2, h3, h4⟩ := run_append_Own (P := P) t tx o.type e i z size bytes ht hi hz hsize hby hzs hown hs h63 hbytes
  obtain ⟨a', c', rfl, -, -⟩ := h2.shape
  refine wpList_plain hgd fun _ hK => ?_
  unfold Oper.wp execOp
  simp only [ho, resolve, invoke, builtin, Sem.run_bind, Sem.run_pure, Result.andThen_ok, List.map_toArray, List.map_cons, List.map_nil, hv, hy, hr]
  exact hK _ _ (h _ _ w' g' h2 h3 h4)

/-- The same, where a guard has said yes. -/
theorem wpList_append_OwnG {w : World} {ops : Array Oper} {rest : List Oper} {o : Oper} {a : Act} {Q : Exit → Act → World → Prop} (hgd : Region.wanted o (yielded ops a.tmps) = true) (s x : Operand) (t tx : TypeId)
    (ho : o.op = .call { callee := .builtin .append, args := #[s, x], argTypes := #[t, tx] })
    (e : TypeId) (i : TypeInfo) (z : Value) (size bytes : Nat) (ht : P.underlying t = some (.slice e)) (hi : P.info? e = some i) (hz : i.zero = some z)
    (hsize : i.size = size) (hby : i.bytes = bytes) (hzs : z.cells.size = size) {v : Value} {n : Nat} {l : List Value} {g : Option Nat} (hv : a.eval s = v) (hown : Own w e size v n l g)
    {y : Value} {m : Nat} {news : List Value} (hy : a.eval x = y) (hs : Src P size tx y m news w) (h63 : n + m ≤ maxLen) (hbytes : (n + m) * bytes ≤ 140737488355328)
    (h : ∀ a' c' w' g', Own w' e size (.slice a' (n + m) c') (n + m) (l ++ news) g' → Kept (fun k => g = some k) w w' → (∀ k, g' = some k → g = some k ∨ w.heap.size ≤ k) → wpList P ops Q rest (a.put o.dst (.slice a' (n + m) c')) w') : wpList P ops Q (o :: rest) a w := by
  obtain ⟨v', w', g', hr, h2, h3, h4⟩ := run_append_Own (P := P) t tx o.type e i z size bytes ht hi hz hsize hby hzs hown hs h63 hbytes
  obtain ⟨a', c', rfl, -, -⟩ := h2.shape
  refine BigFrame.wpList_want hgd fun _ hK => ?_
  unfold Oper.wp execOp
  simp only [ho, resolve, invoke, builtin, Sem.run_bind, Sem.run_pure, Result.andThen_ok, List.map_toArray, List.map_cons, List.map_nil, hv, hy, hr]
  exact hK _ _ (h _ _ w' g' h2 h3 h4)


end
end Go.Proofs.YtfchbkmegicfoaaGreat
