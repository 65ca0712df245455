/- How values of the program's structs stand in memory, and in bytes. -/
import Derived.Test.YtanmfldgillodaaGreatPut0
set_option linter.unusedSimpArgs false
set_option linter.unusedVariables false
namespace Go.Proofs.YtanmfldgillodaaGreat
open Go.RowKit

/-- Does it fit 64 bits? -/
def in64 (n : Int) : Prop := -9223372036854775808 ≤ n ∧ n ≤ 9223372036854775807

/-- A slice of things of 'size' cells each: every one lies in a block of S. -/
def ListIs {α : Type} (size : Nat) (R : World → (Nat → Prop) → List Value → α → Prop) (w : World) (S : Nat → Prop) (v : Value) (xs : List α) : Prop :=
  ∃ a c, v = .slice a xs.length c ∧ xs.length ≤ c ∧ c ≤ maxLen ∧ ∀ (k : Nat) (x : α), xs[k]? = some x → ∃ b off cs, a = some ⟨b, off, none⟩ ∧ S b ∧ cs.length = size ∧ (∀ f, f < size → w.cell? ⟨b, off + k * size + f, none⟩ = cs[f]?) ∧ R w S cs x

theorem ListIs.heap {α : Type} {size : Nat} {R : World → (Nat → Prop) → List Value → α → Prop} {w w' : World} {S S' : Nat → Prop} {v : Value} {xs : List α} (hR : ∀ cs x, R w S cs x → R w' S' cs x) (hS : ∀ k, S k → S' k) (h : ListIs size R w S v xs) (hk : ∀ k, S k → w'.heap[k]? = w.heap[k]?) : ListIs size R w' S' v xs := by
  obtain ⟨a, c, rfl, h1, h2, h3⟩ := h
  refine ⟨a, c, rfl, h1, h2, fun k x hx => ?_⟩
  obtain ⟨b, off, cs, ha, hb, hl, hc, hr⟩ := h3 k x hx
  refine ⟨b, off, cs, ha, hS b hb, hl, fun f hf => ?_, hR _ _ hr⟩
  rw [← hc f hf]
  unfold World.cell?
  rw [hk b hb]

/-- The element of a number. -/
theorem ListIs.at {α : Type} {size : Nat} {R : World → (Nat → Prop) → List Value → α → Prop} {w : World} {S : Nat → Prop} {a : Option Addr} {c : Nat} {xs : List α} (h : ListIs size R w S (.slice a xs.length c) xs) {k : Nat} (hk : k < xs.length) :
    ∃ b off cs, a = some ⟨b, off, none⟩ ∧ S b ∧ cs.length = size ∧ (∀ f, f < size → w.cell? ⟨b, off + k * size + f, none⟩ = cs[f]?) ∧ R w S cs xs[k] := by
  obtain ⟨a', c', he, h1, h2, h3⟩ := h
  simp only [Value.slice.injEq, true_and] at he
  obtain ⟨rfl, rfl⟩ := he
  exact h3 k xs[k] (List.getElem?_eq_getElem hk)

theorem ListIs.shape {α : Type} {size : Nat} {R : World → (Nat → Prop) → List Value → α → Prop} {w : World} {S : Nat → Prop} {v : Value} {xs : List α} (h : ListIs size R w S v xs) : ∃ a c, v = .slice a xs.length c ∧ xs.length ≤ c := by
  obtain ⟨a, c, rfl, h1, -⟩ := h
  exact ⟨a, c, rfl, h1⟩

theorem ListIs.small {α : Type} {size : Nat} {R : World → (Nat → Prop) → List Value → α → Prop} {w : World} {S : Nat → Prop} {v : Value} {xs : List α} (h : ListIs size R w S v xs) : xs.length ≤ 9223372036854775807 := by
  obtain ⟨a, c, rfl, h1, h2, -⟩ := h
  unfold maxLen at h2
  omega

/-- A number. -/
def intIs (w : World) (S : Nat → Prop) (cs : List Value) (x : Int) : Prop := cs = [.int .i64 x] ∧ in64 x
theorem intIs.heap {w w' : World} {S S' : Nat → Prop} {cs : List Value} {x : Int} (h : intIs w S cs x) : intIs w' S' cs x := h

/-- A list in bytes. -/
def encL {α : Type} (e : α → List UInt8) (xs : List α) : List UInt8 := leB 4 xs.length ++ xs.flatMap e

theorem flatMap_take {α : Type} (e : α → List UInt8) (xs : List α) (k : Nat) (hk : k < xs.length) : (xs.take (k + 1)).flatMap e = (xs.take k).flatMap e ++ e xs[k] := by
  rw [List.take_succ_eq_append_getElem hk, List.flatMap_append]
  simp

theorem flatMap_le {α : Type} (e : α → List UInt8) (xs : List α) (k : Nat) : ((xs.take k).flatMap e).length ≤ (xs.flatMap e).length := by
  have h : xs.flatMap e = (xs.take k).flatMap e ++ (xs.drop k).flatMap e := by rw [← List.flatMap_append, List.take_append_drop]
  rw [h, List.length_append]
  omega

/-- Grown once more. -/
theorem Grew.more {w w1 w2 : World} {v1 v2 : Value} {out m1 m2 : List UInt8} {g : Option Nat} (g1 : Option Nat) (hk1 : Kept (fun k => g = some k) w w1) (hg1 : ∀ k, g1 = some k → g = some k ∨ w.heap.size ≤ k) (h2 : Grew w1 w2 v2 (out ++ m1) g1 m2) : Grew w w2 v2 out g (m1 ++ m2) := by
  obtain ⟨g2, o2, k2, hg2⟩ := h2
  have h0 := hk1.size
  refine ⟨g2, by rw [← List.append_assoc]; exact o2, hk1.thn k2 (fun i hi => ?_), fun k hk => ?_⟩
  · rcases hg1 i hi with h | h
    · exact .inl h
    · exact .inr h
  · rcases hg2 k hk with h | h
    · exact hg1 k h
    · exact .inr (by omega)

/-- What stands in old blocks stays. -/
theorem Grew.old {w w' : World} {v : Value} {out m : List UInt8} {g : Option Nat} (h : Grew w w' v out g m) : ∀ k, k < w.heap.size → g ≠ some k → w'.heap[k]? = w.heap[k]? := by
  obtain ⟨g', -, hk, -⟩ := h
  exact fun k hl hg => hk.block k hl hg

/-- Where a writer stands: it has written 'more' behind 'out', L in all. -/
structure Out (w w' : World) (v : Value) (out : List UInt8) (g : Option Nat) (more L : List UInt8) (g' : Option Nat) : Prop where
  own : Own w' 5 1 v L.length (L.map bv) g'
  eq : L = out ++ more
  kept : Kept (fun k => g = some k) w w'
  new : ∀ k, g' = some k → g = some k ∨ w.heap.size ≤ k

theorem Out.start {w : World} {v : Value} {out : List UInt8} {g : Option Nat} (h : Own w 5 1 v out.length (out.map bv) g) : Out w w v out g [] out g :=
  ⟨h, by simp, Kept.refl _ _, fun k hk => .inl hk⟩

theorem Out.alloc {w w' : World} {v : Value} {out more L : List UInt8} {g g' : Option Nat} (h : Out w w' v out g more L g') (o : Obj) : Out w (w'.alloc o) v out g more L g' :=
  ⟨h.own.kept (Kept.alloc (fun _ => False) _ _) (fun _ _ h => h), h.eq, h.kept.al o, h.new⟩

theorem Out.then {w w1 w2 : World} {v1 v2 : Value} {out m1 m2 L1 : List UInt8} {g g1 : Option Nat} (h : Out w w1 v1 out g m1 L1 g1) (h2 : Grew w1 w2 v2 L1 g1 m2) : ∃ L2 g2, Out w w2 v2 out g (m1 ++ m2) L2 g2 := by
  obtain ⟨g2, o2, k2, hg2⟩ := h2
  have h0 := h.kept.size
  refine ⟨L1 ++ m2, g2, o2, by rw [h.eq, List.append_assoc], h.kept.thn k2 (fun i hi => ?_), fun k hk => ?_⟩
  · rcases h.new i hi with h | h
    · exact .inl h
    · exact .inr h
  · rcases hg2 k hk with h' | h'
    · exact h.new k h'
    · exact .inr (by omega)

theorem Out.done {w w' : World} {v : Value} {out more L : List UInt8} {g g' : Option Nat} (h : Out w w' v out g more L g') : Grew w w' v out g more :=
  ⟨g', by rw [← h.eq]; exact h.own, h.kept, h.new⟩

theorem Out.len {w w' : World} {v : Value} {out more L : List UInt8} {g g' : Option Nat} (h : Out w w' v out g more L g') : L.length = out.length + more.length := by
  rw [h.eq, List.length_append]

theorem Out.cast {w w' : World} {v : Value} {out more more' L : List UInt8} {g g' : Option Nat} (h : Out w w' v out g more L g') (e : more = more') : Out w w' v out g more' L g' := by rw [← e]; exact h

theorem Out.data {w w' : World} {v : Value} {out more L : List UInt8} {g g' : Option Nat} (h : Out w w' v out g more L g') {S : Nat → Prop} (hS : ∀ k, S k → k < w.heap.size ∧ g ≠ some k) : ∀ k, S k → w'.heap[k]? = w.heap[k]? :=
  fun k hk => h.kept.block k (hS k hk).1 (hS k hk).2

theorem encI_length (n : Int) : (encI n).length = 8 := leB_length 8 _
theorem bB_length (b : Bool) : (bB b).length = 1 := rfl

end Go.Proofs.YtanmfldgillodaaGreat
