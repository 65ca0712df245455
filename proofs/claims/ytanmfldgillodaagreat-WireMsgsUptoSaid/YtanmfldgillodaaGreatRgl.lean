/- Where the reader of a list stands. -/
import Derived.Test.YtanmfldgillodaaGreatRg0
import Derived.Test.YtanmfldgillodaaGreatFlat
import Derived.Test.YtanmfldgillodaaGreatCw1
set_option linter.unusedSimpArgs false
set_option linter.unusedVariables false
namespace Go.Proofs.YtanmfldgillodaaGreat
open Go.RowKit

/-- Cells from place o on are put, the others stay. -/
structure Put (cur : Array Value) (o : Nat) (cs : List Value) (cur' : Array Value) : Prop where
  size : cur'.size = cur.size
  at_ : ∀ f, f < cs.length → cur'[o + f]? = cs[f]?
  other : ∀ j, (j < o ∨ o + cs.length ≤ j) → cur'[j]? = cur[j]?

theorem Put.nil (cur : Array Value) (o : Nat) : Put cur o [] cur := ⟨rfl, fun f hf => by simp at hf, fun _ _ => rfl⟩
theorem Put.one (cur : Array Value) (o : Nat) (v : Value) (h : o < cur.size) : Put cur o [v] (cur.setIfInBounds o v) := by
  refine ⟨by simp, fun f hf => ?_, fun j hj => ?_⟩
  · simp at hf
    subst hf
    simp [h]
  · simp at hj
    rw [Array.getElem?_setIfInBounds_ne (by omega)]
theorem Put.same {cur : Array Value} {o : Nat} {v : Value} (h : cur[o]? = some v) : Put cur o [v] cur :=
  ⟨rfl, fun f hf => by simp at hf; subst hf; simpa using h, fun _ _ => rfl⟩
theorem Put.append {c0 c1 c2 : Array Value} {o : Nat} {a b : List Value} (h1 : Put c0 o a c1) (h2 : Put c1 (o + a.length) b c2) : Put c0 o (a ++ b) c2 := by
  refine ⟨h2.size.trans h1.size, fun f hf => ?_, fun j hj => ?_⟩
  · rw [List.length_append] at hf
    by_cases hfa : f < a.length
    · rw [h2.other _ (by omega), h1.at_ f hfa, List.getElem?_append_left hfa]
    · have := h2.at_ (f - a.length) (by omega)
      rw [show o + a.length + (f - a.length) = o + f by omega] at this
      rw [this, List.getElem?_append_right (by omega)]
  · rw [List.length_append] at hj
    rw [h2.other j (by omega), h1.other j (by omega)]
/-- Put anew. -/
theorem Put.over {c0 c1 : Array Value} {o : Nat} {v u : Value} (h : Put c0 o [v] c1) : Put c0 o [u] (c1.setIfInBounds o u) := by
  have h0 := h.at_ 0 (by simp)
  simp only [Nat.add_zero, List.getElem?_cons_zero] at h0
  have hl : o < c1.size := (Array.getElem?_eq_some_iff.1 h0).1
  refine ⟨by simp [h.size], fun f hf => ?_, fun j hj => ?_⟩
  · simp at hf
    subst hf
    simp [hl]
  · simp at hj
    rw [Array.getElem?_setIfInBounds_ne (by omega)]
    exact h.other j (by simpa using hj)

/-- What a call has made anew. -/
def New (w w' : World) (k : Nat) : Prop := w.heap.size ≤ k ∧ k < w'.heap.size

/-- What is so of blocks stays so while they stay. -/
def Stable {α : Type} (R : World → (Nat → Prop) → List Value → α → Prop) : Prop :=
  ∀ (w w' : World) (S S' : Nat → Prop) (cs : List Value) (x : α), R w S cs x → (∀ k, S k → S' k) → (∀ k, S k → w'.heap[k]? = w.heap[k]?) → R w' S' cs x

theorem ListIs.stable {α : Type} {R : World → (Nat → Prop) → List Value → α → Prop} (hR : Stable R) {size : Nat} {w w' : World} {S S' : Nat → Prop} {v : Value} {xs : List α} (h : ListIs size R w S v xs) (hS : ∀ k, S k → S' k) (hk : ∀ k, S k → w'.heap[k]? = w.heap[k]?) : ListIs size R w' S' v xs :=
  h.heap (fun cs x hr => hR w w' S S' cs x hr hS hk) hS hk

/-- Where a list's reader stands: it has read xs. -/
structure Lst {α : Type} (R : World → (Nat → Prop) → List Value → α → Prop) (size : Nat) (e : TypeId) (w w' : World) (c p o : Nat) (g : Option Nat) (cur : Array Value) (t : TypeId) (v : Value) (xs : List α) (Ls : List (List Value)) (g' : Option Nat) : Prop where
  blk : ∃ cur', Blk w' p cur' t c g ∧ Put cur o [v] cur'
  own : Own w' e size v xs.length Ls.flatten g'
  lens : ∀ l ∈ Ls, l.length = size
  data : ∀ (i : Nat) (x : α), xs[i]? = some x → ∃ cs, Ls[i]? = some cs ∧ R w' (fun k => w.heap.size ≤ k ∧ k < w'.heap.size ∧ g' ≠ some k) cs x
  len : Ls.length = xs.length
  new : ∀ b, g' = some b → w.heap.size ≤ b
  kept : Kept (fun k => k = c ∨ k = p) w w'

theorem Lst.start {α : Type} (R : World → (Nat → Prop) → List Value → α → Prop) (size : Nat) (e : TypeId) {w w' : World} {c p o : Nat} {g : Option Nat} {cur : Array Value} {t : TypeId} (hb : Blk w' p cur t c g) (hz : cur[o]? = some (.slice none 0 0)) (hk : Kept (· = c) w w') : Lst R size e w w' c p o g cur t (.slice none 0 0) ([] : List α) [] none :=
  ⟨⟨cur, hb, Put.same hz⟩, Own.nil w' e size, by simp, (fun i x h => by simp at h), rfl, (fun b h => by cases h), hk.mono (fun _ _ h => .inl h)⟩

theorem Lst.cell {α : Type} {R : World → (Nat → Prop) → List Value → α → Prop} {size : Nat} {e : TypeId} {w w' : World} {c p o : Nat} {g g' : Option Nat} {cur : Array Value} {t : TypeId} {v : Value} {xs : List α} {Ls : List (List Value)} (h : Lst R size e w w' c p o g cur t v xs Ls g') : ∃ cur', w'.heap[p]? = some (.cells cur' t) ∧ cur'[o]? = some v := by
  obtain ⟨cur', h1, h2⟩ := h.blk
  exact ⟨cur', h1.heap, by simpa using h2.at_ 0 (by simp)⟩

theorem Lst.was {α : Type} {R : World → (Nat → Prop) → List Value → α → Prop} {size : Nat} {e : TypeId} {w w' : World} {c p o : Nat} {g g' : Option Nat} {cur : Array Value} {t : TypeId} {v : Value} {xs : List α} {Ls : List (List Value)} (h : Lst R size e w w' c p o g cur t v xs Ls g') : Was w' p t cur.size := by
  obtain ⟨cur', h1, h2⟩ := h.blk
  exact ⟨cur', h1.heap, h2.size⟩
theorem Was.kept {w w1 w2 : World} {p : Nat} {t : TypeId} {n : Nat} {F G : Nat → Prop} (h : Was w p t n) (k1 : Kept F w w1) (k2 : Kept G w1 w2) (h1 : ¬ F p) (h2 : ¬ G p) : Was w2 p t n := by
  obtain ⟨cur, hh, hs⟩ := h
  have := (k1.block p (lt_in hh) h1).trans hh
  exact ⟨cur, (k2.block p (lt_in this) h2).trans this, hs⟩

theorem Lst.grow {α : Type} {R : World → (Nat → Prop) → List Value → α → Prop} (hR : Stable R) {size : Nat} {e : TypeId} {w wr w3 w4 : World} {c p o : Nat} {g g' g4 : Option Nat} {cur : Array Value} {t : TypeId} {v v4 : Value} {xs : List α} {Ls : List (List Value)} {cs : List Value} {x : α}
    (L : Lst R size e w wr c p o g cur t v xs Ls g') (hpl : p < w.heap.size) (hcl : c < w.heap.size) (k3 : Kept (· = c) wr w3) (hx : R w3 (New wr w3) cs x) (hcs : cs.length = size)
    (o4 : Own w4 e size v4 (xs.length + 1) (Ls.flatten ++ cs) g4) (k4 : Kept (fun k => g' = some k) w3 w4) (hg4 : ∀ k, g4 = some k → g' = some k ∨ w3.heap.size ≤ k) :
    Lst R size e w (w4.setCell ⟨p, o, none⟩ v4) c p o g cur t v4 (xs ++ [x]) (Ls ++ [cs]) g4 := by
  obtain ⟨cur', hb, hput⟩ := L.blk
  have s0 := L.kept.size
  have s3 := k3.size
  have s4 := k4.size
  have s5 : (w4.setCell ⟨p, o, none⟩ v4).heap.size = w4.heap.size := by simp [World.setCell]
  have ks : Kept (· = p) w4 (w4.setCell ⟨p, o, none⟩ v4) := Kept.setCell _ _ _ rfl
  have hgp : g' ≠ some p := fun h => by have := L.new p h; omega
  have hgr : ∀ k, g' = some k → k < wr.heap.size := L.own.lt
  have hg4w : ∀ k, g4 = some k → w.heap.size ≤ k := fun k hk => by
    rcases hg4 k hk with h | h
    · exact L.new k h
    · omega
  have hb3 := hb.kept k3 hb.ne
  have hb4 := hb3.kept k4 hgp
  refine ⟨⟨_, ⟨heap_setCell_same hb4.heap v4, hb.ne, hb.neg⟩, hput.over⟩, ?_, ?_, ?_, ?_, hg4w, ?_⟩
  · have := o4.kept ks (fun k hk e => by have := hg4w k hk; omega)
    rw [List.length_append, List.length_singleton, List.flatten_append]
    simpa using this
  · intro l hl
    rcases List.mem_append.1 hl with h | h
    · exact L.lens l h
    · simp at h; rw [h]; exact hcs
  · intro i y hy
    by_cases hi : i < xs.length
    · rw [List.getElem?_append_left hi] at hy
      obtain ⟨ds, h1, h2⟩ := L.data i y hy
      refine ⟨ds, by rw [List.getElem?_append_left (by rw [L.len]; exact hi)]; exact h1, hR _ _ _ _ _ _ h2 ?_ ?_⟩
      · rintro k ⟨q1, q2, q3⟩
        refine ⟨q1, by omega, fun h => ?_⟩
        rcases hg4 k h with h' | h'
        · exact q3 h'
        · omega
      · rintro k ⟨q1, q2, q3⟩
        rw [ks.block k (by omega) (by omega), k4.block k (by omega) q3, k3.block k q2 (by omega)]
    · rw [List.getElem?_append_right (by omega)] at hy
      have hi2 : i - xs.length = 0 := by
        have := (List.getElem?_eq_some_iff.1 hy).1
        simp at this
        omega
      rw [hi2] at hy
      simp at hy
      subst hy
      refine ⟨cs, by rw [List.getElem?_append_right (by rw [L.len]; omega), L.len, hi2]; rfl, hR _ _ _ _ _ _ hx ?_ ?_⟩
      · rintro k ⟨q1, q2⟩
        refine ⟨by omega, by omega, fun h => ?_⟩
        rcases hg4 k h with h' | h'
        · have := hgr k h'; omega
        · omega
      · rintro k ⟨q1, q2⟩
        rw [ks.block k (by omega) (by omega), k4.block k (by omega) (fun h => by have := hgr k h; omega)]
  · rw [List.length_append, List.length_append, L.len]; rfl
  · exact ((L.kept.thn k3 (fun i hi => .inl (.inl hi))).thn k4 (fun i hi => .inr (L.new i hi))).trans (ks.mono (fun _ _ h => .inr h))

/-- The reader's own state behind such a round. -/
theorem Lst.rd {α : Type} {R : World → (Nat → Prop) → List Value → α → Prop} {size : Nat} {e : TypeId} {w wr w2 w3 w4 : World} {c p o : Nat} {g g' : Option Nat} {cur : Array Value} {t : TypeId} {v v4 : Value} {xs : List α} {Ls : List (List Value)} {r : List UInt8}
    (L : Lst R size e w wr c p o g cur t v xs Ls g') (hcl : c < w.heap.size) (hgl : ∀ k, g = some k → k < w.heap.size) (h : Rd w3 c r g) (k4 : Kept (fun k => g' = some k) w3 w4) : Rd (w4.setCell ⟨p, o, none⟩ v4) c r g := by
  obtain ⟨cur', hb, -⟩ := L.blk
  have h4 := h.kept k4 (fun h => by have := L.new c h; omega) (fun k hk h => by have := L.new k h; have := hgl k hk; omega)
  exact h4.kept (Kept.setCell (F := (· = p)) _ _ _ rfl) (fun e => hb.ne e.symm) (fun k hk e => hb.neg (by rw [hk, e]))

theorem Lst.done {α : Type} {R : World → (Nat → Prop) → List Value → α → Prop} (hR : Stable R) {size : Nat} (h0 : 0 < size) {e : TypeId} {w w' : World} {c p o : Nat} {g g' : Option Nat} {cur : Array Value} {t : TypeId} {v : Value} {xs : List α} {Ls : List (List Value)} (L : Lst R size e w w' c p o g cur t v xs Ls g') : ListIs size R w' (New w w') v xs := by
  obtain ⟨a, cp, rfl, h1, h2⟩ := L.own.shape
  refine ⟨a, cp, rfl, h1, h2, fun k x hx => ?_⟩
  have hk : k < xs.length := (List.getElem?_eq_some_iff.1 hx).1
  obtain ⟨b, off, cu, hg, ha, -, -, hh, hsz, hll, hel⟩ := L.own.pos (by omega)
  obtain ⟨cs, hc1, hc2⟩ := L.data k x hx
  have hcl : cs.length = size := L.lens cs (List.mem_of_getElem? hc1)
  refine ⟨b, off, cs, ha, ⟨L.new b hg, lt_in hh⟩, hcl, fun f hf => ?_, hR _ _ _ _ _ _ hc2 (fun k hk => ⟨hk.1, hk.2.1⟩) (fun _ _ => rfl)⟩
  have hfg := flatten_get L.lens hc1 f hf
  have hfl : k * size + f < Ls.flatten.length := by
    rw [flatten_len L.lens, L.len]
    have : k * size + size ≤ xs.length * size := by rw [← Nat.succ_mul]; exact Nat.mul_le_mul_right _ hk
    omega
  rw [cell_in hh, Nat.add_assoc, hel _ hfl, hfg]

/-- Behind one item more. -/
theorem pN_next {α : Type} {p : Pr α} {n k : Nat} {bs r r2 : List UInt8} {xs : List α} {x : α} (hk : k < n) (h : pN p n bs = (pN p (n - k) r).bind (fun z => some (xs ++ z.1, z.2))) (hp : p r = some (x, r2)) : pN p n bs = (pN p (n - (k + 1)) r2).bind (fun z => some ((xs ++ [x]) ++ z.1, z.2)) := by
  rw [h, show n - k = (n - (k + 1)) + 1 by omega]
  simp only [pN]
  rw [hp]
  simp only [Option.bind_some]
  cases pN p (n - (k + 1)) r2 with
  | none => rfl
  | some z => simp
theorem pN_stop {α : Type} {p : Pr α} {n k : Nat} {bs r : List UInt8} {xs : List α} (hk : k < n) (h : pN p n bs = (pN p (n - k) r).bind (fun z => some (xs ++ z.1, z.2))) (hp : p r = none) : pN p n bs = none := by
  rw [h, show n - k = (n - (k + 1)) + 1 by omega]
  simp only [pN]
  rw [hp]
  rfl
theorem pN_end {α : Type} {p : Pr α} {n : Nat} {bs r : List UInt8} {xs : List α} (h : pN p n bs = (pN p (n - n) r).bind (fun z => some (xs ++ z.1, z.2))) : pN p n bs = some (xs, r) := by
  rw [h, Nat.sub_self]
  simp [pN]

theorem intIs_stable : Stable intIs := fun _ _ _ _ _ _ h _ _ => h

/-- What a reader's call comes to. -/
def Got {α : Type} (R : World → (Nat → Prop) → List Value → α → Prop) (p : Pr α) (bs : List UInt8) (w : World) (c q o : Nat) (g : Option Nat) (cur : Array Value) (t : TypeId) (e : Ending) (w' : World) : Prop :=
  Kept (fun k => k = c ∨ k = q) w w' ∧ ((p bs = none ∧ e = .panicked wrongP ∧ Was w' q t cur.size) ∨ ∃ x r cur' cs, p bs = some (x, r) ∧ e = .returned (.tuple #[]) ∧ Rd w' c r g ∧ Blk w' q cur' t c g ∧ Put cur o cs cur' ∧ R w' (New w w') cs x)

def flagIs (w : World) (S : Nat → Prop) (cs : List Value) (b : Bool) : Prop := cs = [.bool b]
def numsIs (w : World) (S : Nat → Prop) (cs : List Value) (ns : List Int) : Prop := cs = ns.map (Value.int .i64)
def sliceIs {α : Type} (size : Nat) (R : World → (Nat → Prop) → List Value → α → Prop) (w : World) (S : Nat → Prop) (cs : List Value) (xs : List α) : Prop := ∃ v, cs = [v] ∧ ListIs size R w S v xs

theorem numI_c {w : World} {c p o : Nat} {bs : List UInt8} {g : Option Nat} {cur : Array Value} {t : TypeId} {m : Int} (h : Rd w c bs g) (hb : Blk w p cur t c g) (hm : cur[o]? = some (.int .i64 m)) :
    Calls Tryz.prog 63 #[.pointer (some ⟨c, 0, none⟩), .pointer (some ⟨p, o, none⟩)] w (Got intIs pI bs w c p o g cur t) := by
  refine (numG_c m h hb hm).mono ?_
  rintro e w' ⟨k, ⟨n, r, hp, he, h1, h2⟩ | h⟩
  · exact ⟨k, .inr ⟨n, r, _, _, hp, he, h1, h2, Put.one _ _ _ (Array.getElem?_eq_some_iff.1 hm).1, rfl, (lawI.dec _ _ _ hp).2⟩⟩
  · exact ⟨k, .inl h⟩

theorem flagI_c {w : World} {c p o : Nat} {bs : List UInt8} {g : Option Nat} {cur : Array Value} {t : TypeId} (h : Rd w c bs g) (hb : Blk w p cur t c g) (hm : cur[o]? = some (.bool false)) :
    Calls Tryz.prog 142 #[.pointer (some ⟨c, 0, none⟩), .pointer (some ⟨p, o, none⟩)] w (Got flagIs pF bs w c p o g cur t) := by
  refine (flagG_c h hb hm).mono ?_
  rintro e w' ⟨k, ⟨n, r, hp, he, h1, h2⟩ | h⟩
  · exact ⟨k, .inr ⟨n, r, _, _, hp, he, h1, h2, Put.one _ _ _ (Array.getElem?_eq_some_iff.1 hm).1, rfl⟩⟩
  · exact ⟨k, .inl h⟩

theorem fills_put : ∀ (m o : Nat) (ns : List Int) (cur : Array Value), ns.length = m → o + m ≤ cur.size → Put cur o (ns.map (Value.int .i64)) (fills (List.range' o m) ns cur)
  | 0, o, [], cur, _, _ => Put.nil _ _
  | m + 1, o, n :: ns, cur, hl, hs => by
    simp only [List.range'_succ, fills, List.map_cons]
    have h1 := Put.one cur o (.int .i64 n) (by omega)
    have h2 := fills_put m (o + 1) ns (cur.setIfInBounds o (.int .i64 n)) (by simpa using hl) (by simp; omega)
    exact h1.append h2

theorem numsI_c {w : World} {c p o m : Nat} {bs : List UInt8} {g : Option Nat} {cur : Array Value} {t : TypeId} (h : Rd w c bs g) (hb : Blk w p cur t c g) {v : Value} {gp : Option Nat} (hr : Reads w 1 v m ((List.range' o m).map (fun o => Value.pointer (some ⟨p, o, none⟩))) gp) (hgp : ∀ k, gp = some k → k ≠ c ∧ k ≠ p) (hi : ∀ f, f < m → ∃ n, cur[o + f]? = some (.int .i64 n)) (hl : m ≤ 100) :
    Calls Tryz.prog 65 #[.pointer (some ⟨c, 0, none⟩), v] w (Got numsIs (pN pI m) bs w c p o g cur t) := by
  have hlen : (List.range' o m).length = m := by simp
  have hs : 0 < m → o + m ≤ cur.size := fun h0 => by
    obtain ⟨n, hn⟩ := hi (m - 1) (by omega)
    have := (Array.getElem?_eq_some_iff.1 hn).1
    omega
  refine (numsG_c (List.range' o m) h hb (by rw [hlen]; exact hr) hgp ?_ (by rw [hlen]; exact hl)).mono ?_
  · intro q hq
    obtain ⟨h1, h2⟩ := List.mem_range'_1.1 hq
    obtain ⟨n, hn⟩ := hi (q - o) (by omega)
    exact ⟨n, by rw [← hn]; congr 1; omega⟩
  · rw [hlen]
    rintro e w' ⟨k, ⟨ns, r, hp, he, h1, h2⟩ | h⟩
    · refine ⟨k, .inr ⟨ns, r, _, _, hp, he, h1, h2, ?_, rfl⟩⟩
      have hn := (pN_dec lawI _ _ _ _ hp).2.1
      by_cases h0 : 0 < m
      · exact fills_put m o ns cur hn (hs h0)
      · obtain rfl : m = 0 := by omega
        obtain rfl : ns = [] := List.eq_nil_of_length_eq_zero hn
        exact Put.nil _ _
    · exact ⟨k, .inl h⟩

/-- The data of a part, at the end of the whole. -/
theorem ListIs.late {α : Type} {R : World → (Nat → Prop) → List Value → α → Prop} (hR : Stable R) {size c p : Nat} {w w1 w2 w3 : World} {v : Value} {xs : List α} (h : ListIs size R w2 (New w1 w2) v xs) (k1 : w.heap.size ≤ w1.heap.size) (k3 : Kept (fun k => k = c ∨ k = p) w2 w3) (hc : c < w.heap.size) (hp : p < w.heap.size) : ListIs size R w3 (New w w3) v xs := by
  have s3 := k3.size
  exact h.stable hR (fun k hk => ⟨Nat.le_trans k1 hk.1, Nat.lt_of_lt_of_le hk.2 s3⟩) (fun k hk => k3.block k hk.2 (fun e => by have := hk.1; omega))

theorem kept_alloc2 {c p : Nat} {w y z : World} (j : Kept (fun _ => False) w y) (k : Kept (fun k => k = c ∨ k = p) y z) : Kept (fun k => k = c ∨ k = p) w z := (j.mono (fun _ _ h => h.elim)).trans k

end Go.Proofs.YtanmfldgillodaaGreat
