/- Part 2 of the proof: Pr, ReadStr, Rg0, Open, Flat, Cw1, Rgl, Fork, Awake, Dr0, Dr1, Dr2, Pr1. -/
import Derived.Recover
import Derived.Test.YtmbjealliinpdaaGreatRows
import Derived.ProofKit
import Derived.OpenShut
import Derived.ShutString
import Derived.ChangeOld
import Derived.SizedLaws
import Derived.Laws.MakeOwn
import Derived.Test.YtmbjealliinpdaaGreatM1
set_option linter.unusedSimpArgs false
set_option linter.unusedVariables false
set_option maxRecDepth 100000
set_option maxHeartbeats 16000000
section

namespace Go.Proofs.YtmbjealliinpdaaGreat
open Go.RowKit
/-- A parser: a value and what is left, or none. -/
abbrev Pr (α : Type) := List UInt8 → Option (α × List UInt8)
def pW (n : Nat) : Pr Nat := fun bs => if n ≤ bs.length then some (leN (bs.take n), bs.drop n) else none
def pI : Pr Int := fun bs => (pW 8 bs).bind fun y => some (IntKind.i64.wrap (y.1 : Int), y.2)
def pF : Pr Bool := fun bs => (pW 1 bs).bind fun y => if y.1 ≤ 1 then some (decide (y.1 = 1), y.2) else none
/-- A count: of no more than there is. -/
def pC : Pr Nat := fun bs => (pW 4 bs).bind fun y => if y.1 ≤ y.2.length then some y else none
def pN {α : Type} (p : Pr α) : Nat → Pr (List α)
  | 0 => fun bs => some ([], bs)
  | n + 1 => fun bs => (p bs).bind fun y => (pN p n y.2).bind fun z => some (y.1 :: z.1, z.2)
def pL {α : Type} (p : Pr α) : Pr (List α) := fun bs => (pC bs).bind fun y => pN p y.1 y.2
def pB : Pr (List UInt8) := fun bs => (pC bs).bind fun y => some (y.2.take y.1, y.2.drop y.1)
/-- A parser and a writer that fit one another. -/
structure Law {α : Type} (p : Pr α) (e : α → List UInt8) (ok : α → Prop) : Prop where
  enc : ∀ x rest, ok x → p (e x ++ rest) = some (x, rest)
  dec : ∀ bs x rest, p bs = some (x, rest) → bs = e x ++ rest ∧ ok x
  pos : ∀ x, 0 < (e x).length
def okL {α : Type} (ok : α → Prop) (xs : List α) : Prop := xs.length < 4294967296 ∧ ∀ x ∈ xs, ok x
theorem pW_app {n : Nat} (a rest : List UInt8) (h : a.length = n) : pW n (a ++ rest) = some (leN a, rest) := by
  unfold pW
  rw [if_pos (by rw [List.length_append]; omega), List.take_left' h, List.drop_left' h]
theorem pW_some {n : Nat} {bs : List UInt8} {V : Nat} {r : List UInt8} (h : pW n bs = some (V, r)) : ∃ a, a.length = n ∧ bs = a ++ r ∧ V = leN a := by
  unfold pW at h
  split at h
  · rename_i hl
    simp only [Option.some.injEq, Prod.mk.injEq] at h
    exact ⟨bs.take n, by rw [List.length_take]; omega, by rw [← h.2, List.take_append_drop], h.1.symm⟩
  · cases h
theorem leB_leN : ∀ (a : List UInt8), leB a.length (leN a) = a
  | [] => rfl
  | b :: r => by
    have hb := UInt8.toNat_lt b
    have h1 : (b.toNat + 256 * leN r) % 256 = b.toNat := by omega
    have h2 : (b.toNat + 256 * leN r) / 256 = leN r := by omega
    simp only [List.length_cons, leN, leB]
    rw [h1, h2, leB_leN r]
    simp
theorem leB_of {n : Nat} {a : List UInt8} (h : a.length = n) : leB n (leN a) = a := by rw [← h]; exact leB_leN a
theorem i64_wrap_in (V : Nat) (h : V < 18446744073709551616) : in64 (IntKind.i64.wrap (V : Int)) ∧ u64 (IntKind.i64.wrap (V : Int)) = V := by
  have e : IntKind.i64.wrap (V : Int) = if V < 9223372036854775808 then (V : Int) else (V : Int) - 18446744073709551616 := by
    by_cases hV : V < 9223372036854775808
    · rw [if_pos hV]
      exact IntWalk.i64_in _ (by omega)
    · rw [if_neg hV]
      have h2 := wrap_u64 ((V : Int) - 18446744073709551616) ⟨by omega, by omega⟩
      rwa [show ((V : Int) - 18446744073709551616) % 18446744073709551616 = V by omega] at h2
  rw [e]
  unfold in64 u64
  split <;> omega
theorem lawI : Law pI encI in64 := by
  refine ⟨fun x rest hx => ?_, fun bs x rest h => ?_, fun x => by rw [encI_length]; omega⟩
  · unfold pI
    rw [pW_app _ _ (encI_length x)]
    have : leN (encI x) = u64 x := by
      unfold encI
      rw [leN_leB]
      exact Nat.mod_eq_of_lt (u64_lt x)
    simp only [Option.bind_some, this]
    rw [u64_eq, wrap_u64 x hx]
  · unfold pI at h
    obtain ⟨⟨V, r⟩, h1, h2⟩ := Option.bind_eq_some_iff.1 h
    simp only [Option.some.injEq, Prod.mk.injEq] at h2
    obtain ⟨rfl, rfl⟩ := h2
    obtain ⟨a, ha, rfl, rfl⟩ := pW_some h1
    have hlt := leN_lt a
    rw [ha] at hlt
    obtain ⟨h3, h4⟩ := i64_wrap_in (leN a) (by omega)
    refine ⟨?_, h3⟩
    unfold encI
    rw [h4, leB_of ha]
theorem lawF : Law pF bB (fun _ => True) := by
  refine ⟨fun x rest hx => ?_, fun bs x rest h => ?_, fun x => by rw [bB_length]; omega⟩
  · unfold pF
    rw [pW_app _ _ (bB_length x)]
    cases x <;> rfl
  · unfold pF at h
    obtain ⟨⟨V, r⟩, h1, h2⟩ := Option.bind_eq_some_iff.1 h
    split at h2
    · rename_i hle
      simp only [Option.some.injEq, Prod.mk.injEq] at h2
      obtain ⟨rfl, rfl⟩ := h2
      obtain ⟨a, ha, rfl, rfl⟩ := pW_some h1
      refine ⟨?_, trivial⟩
      congr 1
      have := leB_of ha
      simp only at hle ⊢
      generalize leN a = V at *
      obtain rfl | rfl : V = 0 ∨ V = 1 := by omega
      · rw [← this]; rfl
      · rw [← this]; rfl
    · cases h2
theorem pC_app (n : Nat) (rest : List UInt8) (hn : n < 4294967296) (h : n ≤ rest.length) : pC (leB 4 n ++ rest) = some (n, rest) := by
  unfold pC
  rw [pW_app _ _ (leB_length 4 n), leN_leB, Nat.mod_eq_of_lt (by omega : n < 256 ^ 4)]
  simp [h]
theorem pC_some {bs : List UInt8} {n : Nat} {r : List UInt8} (h : pC bs = some (n, r)) : bs = leB 4 n ++ r ∧ n < 4294967296 ∧ n ≤ r.length := by
  unfold pC at h
  obtain ⟨⟨V, r'⟩, h1, h2⟩ := Option.bind_eq_some_iff.1 h
  split at h2
  · rename_i hle
    simp only [Option.some.injEq, Prod.mk.injEq] at h2
    obtain ⟨rfl, rfl⟩ := h2
    obtain ⟨a, ha, rfl, rfl⟩ := pW_some h1
    have hlt := leN_lt a
    rw [ha] at hlt
    exact ⟨by rw [leB_of ha], by omega, hle⟩
  · cases h2
theorem flat_len_le {α : Type} {e : α → List UInt8} (hp : ∀ x, 0 < (e x).length) (xs : List α) : xs.length ≤ (xs.flatMap e).length := by
  induction xs with
  | nil => simp
  | cons a r ih =>
    have := hp a
    rw [List.flatMap_cons, List.length_append, List.length_cons]
    omega
theorem pN_enc {α : Type} {p : Pr α} {e : α → List UInt8} {ok : α → Prop} (h : Law p e ok) : ∀ (xs : List α) (rest : List UInt8), (∀ x ∈ xs, ok x) → pN p xs.length (xs.flatMap e ++ rest) = some (xs, rest)
  | [], rest, _ => rfl
  | a :: r, rest, hok => by
    rw [List.flatMap_cons, List.append_assoc, List.length_cons]
    simp only [pN]
    rw [h.enc a _ (hok a (by simp))]
    simp only [Option.bind_some]
    rw [pN_enc h r rest (fun x hx => hok x (by simp [hx]))]
    rfl
theorem pN_dec {α : Type} {p : Pr α} {e : α → List UInt8} {ok : α → Prop} (h : Law p e ok) : ∀ (n : Nat) (bs : List UInt8) (xs : List α) (rest : List UInt8), pN p n bs = some (xs, rest) → bs = xs.flatMap e ++ rest ∧ xs.length = n ∧ ∀ x ∈ xs, ok x
  | 0, bs, xs, rest, hp => by
    simp only [pN, Option.some.injEq, Prod.mk.injEq] at hp
    obtain ⟨rfl, rfl⟩ := hp
    simp
  | n + 1, bs, xs, rest, hp => by
    simp only [pN] at hp
    obtain ⟨⟨x, r⟩, h1, h2⟩ := Option.bind_eq_some_iff.1 hp
    obtain ⟨⟨ys, r'⟩, h3, h4⟩ := Option.bind_eq_some_iff.1 h2
    simp only [Option.some.injEq, Prod.mk.injEq] at h4
    obtain ⟨rfl, rfl⟩ := h4
    obtain ⟨rfl, hx⟩ := h.dec _ _ _ h1
    obtain ⟨h5, rfl, h6⟩ := pN_dec h n _ _ _ h3
    simp only at h5
    refine ⟨by rw [h5, List.flatMap_cons, List.append_assoc], by simp, ?_⟩
    intro y hy
    rcases List.mem_cons.1 hy with rfl | hy
    · exact hx
    · exact h6 y hy
theorem pL_enc {α : Type} {p : Pr α} {e : α → List UInt8} {ok : α → Prop} (h : Law p e ok) (xs : List α) (rest : List UInt8) (hok : okL ok xs) : pL p (leB 4 xs.length ++ (xs.flatMap e ++ rest)) = some (xs, rest) := by
  unfold pL
  rw [pC_app _ _ hok.1 (by have := flat_len_le h.pos xs; rw [List.length_append]; omega)]
  simp only [Option.bind_some]
  exact pN_enc h xs rest hok.2
theorem pL_dec {α : Type} {p : Pr α} {e : α → List UInt8} {ok : α → Prop} (h : Law p e ok) {bs : List UInt8} {xs : List α} {rest : List UInt8} (hp : pL p bs = some (xs, rest)) : bs = leB 4 xs.length ++ (xs.flatMap e ++ rest) ∧ okL ok xs := by
  unfold pL at hp
  obtain ⟨⟨n, r⟩, h1, h2⟩ := Option.bind_eq_some_iff.1 hp
  obtain ⟨rfl, hn, -⟩ := pC_some h1
  obtain ⟨h3, rfl, h4⟩ := pN_dec h _ _ _ _ h2
  simp only at h3
  exact ⟨by rw [h3], hn, h4⟩
/-- Bytes: their count ahead. -/
def encBy (b : List UInt8) : List UInt8 := leB 4 b.length ++ b
theorem lawB : Law pB encBy (fun b => b.length < 4294967296) := by
  refine ⟨fun x rest hx => ?_, fun bs x rest h => ?_, fun x => by unfold encBy; rw [List.length_append, leB_length]; omega⟩
  · unfold pB encBy
    rw [List.append_assoc, pC_app _ _ hx (by rw [List.length_append]; omega)]
    simp
  · unfold pB at h
    obtain ⟨⟨n, r⟩, h1, h2⟩ := Option.bind_eq_some_iff.1 h
    simp only [Option.some.injEq, Prod.mk.injEq] at h2
    obtain ⟨rfl, rfl⟩ := h2
    obtain ⟨rfl, hn, hle⟩ := pC_some h1
    have hl : (r.take n).length = n := by rw [List.length_take]; omega
    refine ⟨?_, by rw [hl]; exact hn⟩
    unfold encBy
    rw [hl, List.append_assoc, List.take_append_drop]
/-- Numbers one by one. -/
theorem pN2_some {bs : List UInt8} {ns : List Int} {r : List UInt8} (h : pN pI 2 bs = some (ns, r)) : ∃ n0 r0 n1, pI bs = some (n0, r0) ∧ pI r0 = some (n1, r) ∧ ns = [n0, n1] := by
  simp only [pN] at h
  obtain ⟨⟨n0, r0⟩, h1, h2⟩ := Option.bind_eq_some_iff.1 h
  obtain ⟨⟨ys, r'⟩, h3, h4⟩ := Option.bind_eq_some_iff.1 h2
  obtain ⟨⟨n1, r1⟩, h5, h6⟩ := Option.bind_eq_some_iff.1 h3
  simp at h4 h6
  obtain ⟨rfl, rfl⟩ := h4
  obtain ⟨rfl, rfl⟩ := h6
  exact ⟨n0, r0, n1, h1, h5, rfl⟩
theorem pN3_some {bs : List UInt8} {ns : List Int} {r : List UInt8} (h : pN pI 3 bs = some (ns, r)) : ∃ n0 r0 n1 r1 n2, pI bs = some (n0, r0) ∧ pI r0 = some (n1, r1) ∧ pI r1 = some (n2, r) ∧ ns = [n0, n1, n2] := by
  have h' : ((pI bs).bind fun y => (pN pI 2 y.2).bind fun z => some (y.1 :: z.1, z.2)) = some (ns, r) := h
  obtain ⟨⟨n0, r0⟩, h1, h2⟩ := Option.bind_eq_some_iff.1 h'
  obtain ⟨⟨ys, r'⟩, h3, h4⟩ := Option.bind_eq_some_iff.1 h2
  simp at h4
  obtain ⟨rfl, rfl⟩ := h4
  obtain ⟨n1, r1, n2, h5, h6, rfl⟩ := pN2_some h3
  exact ⟨n0, r0, n1, r1, n2, h1, h5, h6, rfl⟩
theorem pN4_some {bs : List UInt8} {ns : List Int} {r : List UInt8} (h : pN pI 4 bs = some (ns, r)) : ∃ n0 r0 n1 r1 n2 r2 n3, pI bs = some (n0, r0) ∧ pI r0 = some (n1, r1) ∧ pI r1 = some (n2, r2) ∧ pI r2 = some (n3, r) ∧ ns = [n0, n1, n2, n3] := by
  have h' : ((pI bs).bind fun y => (pN pI 3 y.2).bind fun z => some (y.1 :: z.1, z.2)) = some (ns, r) := h
  obtain ⟨⟨n0, r0⟩, h1, h2⟩ := Option.bind_eq_some_iff.1 h'
  obtain ⟨⟨ys, r'⟩, h3, h4⟩ := Option.bind_eq_some_iff.1 h2
  simp at h4
  obtain ⟨rfl, rfl⟩ := h4
  obtain ⟨n1, r1, n2, r2, n3, h5, h6, h7, rfl⟩ := pN3_some h3
  exact ⟨n0, r0, n1, r1, n2, r2, n3, h1, h5, h6, h7, rfl⟩
theorem pN_none_step {β : Type} {m : Nat} {bs : List UInt8} (h : pN pI (m + 1) bs = none) (k : Int × List UInt8 → Option β) (hk : ∀ n r, pI bs = some (n, r) → pN pI m r = none → k (n, r) = none) : (pI bs).bind k = none := by
  simp only [pN] at h
  cases h0 : pI bs with
  | none => rfl
  | some y =>
    obtain ⟨n, r⟩ := y
    rw [h0] at h
    simp only [Option.bind_some] at h ⊢
    refine hk n r h0 ?_
    cases h1 : pN pI m r with
    | none => rfl
    | some z => rw [h1] at h; simp at h
theorem pN2_none {β : Type} {bs : List UInt8} (h : pN pI 2 bs = none) (k : Int × List UInt8 → Int × List UInt8 → Option β) : ((pI bs).bind fun y0 => (pI y0.2).bind fun y1 => k y0 y1) = none :=
  pN_none_step h _ fun n r _ h1 => pN_none_step h1 _ fun n' r' _ h2 => by simp [pN] at h2
theorem pN3_none {β : Type} {bs : List UInt8} (h : pN pI 3 bs = none) (k : Int × List UInt8 → Int × List UInt8 → Int × List UInt8 → Option β) : ((pI bs).bind fun y0 => (pI y0.2).bind fun y1 => (pI y1.2).bind fun y2 => k y0 y1 y2) = none :=
  pN_none_step h _ fun n r _ h1 => pN2_none h1 (fun y1 y2 => k (n, r) y1 y2)
theorem pN4_none {β : Type} {bs : List UInt8} (h : pN pI 4 bs = none) (k : Int × List UInt8 → Int × List UInt8 → Int × List UInt8 → Int × List UInt8 → Option β) : ((pI bs).bind fun y0 => (pI y0.2).bind fun y1 => (pI y1.2).bind fun y2 => (pI y2.2).bind fun y3 => k y0 y1 y2 y3) = none :=
  pN_none_step h _ fun n r _ h1 => pN3_none h1 (fun y1 y2 y3 => k (n, r) y1 y2 y3)
end Go.Proofs.YtmbjealliinpdaaGreat
end

section

namespace Go.Proofs.YtmbjealliinpdaaGreat
open Go.RowKit
/-- The panic of bytes that no call wrote. -/
def wrongP : List PanicEntry := [{ v := .iface 135 (.agg #[]), recovered := false }]
theorem countRead_bad {w : World} {c : Nat} {vo vi : Value} {xs ys : List UInt8} {g : Option Nat} (n : Int) (hn : 0 ≤ n) (hn2 : n ≤ 9223372036854775807) (h : w.heap[c]? = some (.cells #[vo, vi, .bool true] 138)) (hr : Reads w 1 vi (xs ++ ys).length ((xs ++ ys).map bv) g) (hg : ∀ k, g = some k → k ≠ c) (hx : xs.length = 4) (hbad : ys.length < leN xs) (hm : (xs ++ ys).length ≤ 140737488351232) :
    Calls Tryz.prog 138 #[.pointer (some ⟨c, 0, none⟩), .int .i64 n] w fun e w' => e = .panicked wrongP ∧ Kept (· = c) w w' := by
  have e1 : n % 18446744073709551616 = n := by omega
  obtain ⟨N, hN⟩ : ∃ N, N = leN xs := ⟨_, rfl⟩
  have hN32 : N < 4294967296 := by have := leN_lt xs; rw [hx] at this; omega
  have e2 : IntKind.i64.wrap (N : Int) = (N : Int) := IntWalk.i64_in _ (by omega)
  go_enter Tryz.func138, Tryz.ntmps138
  go_wp2_with fail
  refine (wordRead_c (xs := xs) (ys := ys) n h hr hg 4 (by rw [hx]; rfl) (by omega) hm).mono ?_
  rintro e w1 ⟨rfl, vi1, h1, r1, k1⟩
  rw [← hN]
  rw [← hN] at hbad
  obtain ⟨a1, c1, rfl, -⟩ := r1.shape
  have z1 : w1.cell? ⟨c, 1, none⟩ = some (.slice a1 ys.length c1) := cell_in h1
  have z2 : w1.cell? ⟨c, 2, none⟩ = some (.bool true) := cell_in h1
  have hl := lt_in h1
  have hgt : (ys.length : Int) < (N : Int) := by omega
  clear h h1 hr hN
  go_wp2
  exact ⟨rfl, rfl, k1⟩
theorem listRead_bad {w : World} {c p : Nat} {vo vi : Value} {xs ys : List UInt8} {g : Option Nat} (h : w.heap[c]? = some (.cells #[vo, vi, .bool true] 138)) (hp : w.heap[p]? = some (.cells #[.slice none 0 0] 46)) (hr : Reads w 1 vi (xs ++ ys).length ((xs ++ ys).map bv) g) (hg : ∀ k, g = some k → k ≠ c) (hx : xs.length = 4) (hbad : ys.length < leN xs) (hm : (xs ++ ys).length ≤ 140737488351232) (f : Value) :
    Calls Tryz.prog 77 #[.pointer (some ⟨c, 0, none⟩), .pointer (some ⟨p, 0, none⟩), f] w fun e w' => e = .panicked wrongP ∧ Kept (· = c) w w' := by
  have p0 : w.cell? ⟨p, 0, none⟩ = some (.slice none 0 0) := cell_in hp
  have hlp := lt_in hp
  clear hp
  go_enter Tryz.func77, Tryz.ntmps77
  go_wp2_with fail
  refine (countRead_bad 0 (by omega) (by omega) h hr hg hx hbad hm).mono ?_
  rintro e w1 ⟨rfl, k1⟩
  exact ⟨rfl, rfl, k1⟩
theorem textsRead_bad {w : World} {c p : Nat} {vo vi : Value} {xs ys : List UInt8} {g : Option Nat} (h : w.heap[c]? = some (.cells #[vo, vi, .bool true] 138)) (hp : w.heap[p]? = some (.cells #[.slice none 0 0] 46)) (hr : Reads w 1 vi (xs ++ ys).length ((xs ++ ys).map bv) g) (hg : ∀ k, g = some k → k ≠ c) (hx : xs.length = 4) (hbad : ys.length < leN xs) (hm : (xs ++ ys).length ≤ 140737488351232) :
    Calls Tryz.prog 56 #[.pointer (some ⟨c, 0, none⟩), .pointer (some ⟨p, 0, none⟩)] w fun e w' => e = .panicked wrongP ∧ Kept (· = c) w w' := by
  have hmf : ∀ (fn : Fn) (first cap : Array Value) (w : World), (Instr.makeFunc fn first cap).run Tryz.prog w = .ok (.func fn first cap) w := fun _ _ _ _ => rfl
  go_enter Tryz.func56, Tryz.ntmps56
  go_wp2_with fail
  refine (listRead_bad h hp hr hg hx hbad hm _).mono ?_
  rintro e w1 ⟨rfl, k1⟩
  exact ⟨rfl, rfl, k1⟩
/-- The deferred closure, in a frame that panics so. -/
theorem catch_bad {w : World} (p q : Nat) {v : Value} {n : Int} (hp : w.heap[p]? = some (.cells #[v] 46)) (hq : w.heap[q]? = some (.cells #[.int .i64 n] 39)) :
    CallsD Tryz.prog 130 #[.pointer (some ⟨p, 0, none⟩), .pointer (some ⟨q, 0, none⟩)] (.panicking wrongP) w fun e u' w' =>
      e = .returned (.tuple #[]) ∧ u' = .panicking [{ v := .iface 135 (.agg #[]), recovered := true }] ∧ w'.heap[p]? = some (.cells #[.slice none 0 0] 46) ∧ w'.heap[q]? = some (.cells #[.int .i64 74] 39) ∧ Kept (fun k => k = p ∨ k = q) w w' := by
  refine callsD_of_wpS Tryz.func130 rfl fun c₀ cs hu => ?_
  have z0 : w.cell? ⟨p, 0, none⟩ = some v := cell_in hp
  have z1 : w.cell? ⟨q, 0, none⟩ = some (.int .i64 n) := cell_in hq
  have f0 : w.frozen? ⟨p, 0, none⟩ = false := frozen_in hp
  have f1 : w.frozen? ⟨q, 0, none⟩ = false := frozen_in hq
  have lp := lt_in hp
  have lq := lt_in hq
  have hpq : p ≠ q := fun e => by
    subst e
    rw [hp] at hq
    have := congrArg (fun o => match o with | some (Obj.cells _ t _) => t | _ => 0) hq
    simp at this
  have HP := Lib.hid hp
  have HQ := Lib.hid hq
  clear hp hq
  apply wpS_seq
  apply wpS_region
  simp [wpOpsS, go_sem, recoverD, hu, wrongP, Tryz.ntmps130, Exit.thenS]
  have hT : (#[Value.pointer (some ⟨p, 0, none⟩), Value.pointer (some ⟨q, 0, none⟩)] ++ ((Array.replicate 16 undef).setIfInBounds 4 (Value.iface 135 (Value.agg #[]))).setIfInBounds 0 (Value.iface 135 (Value.agg #[])) : Array Value) = #[Value.pointer (some ⟨p, 0, none⟩), Value.pointer (some ⟨q, 0, none⟩), (Value.iface 135 (Value.agg #[])), undef, undef, undef, (Value.iface 135 (Value.agg #[])), undef, undef, undef, undef, undef, undef, undef, undef, undef, undef, undef] := rfl
  rw [hT]
  have hta : ∀ w, (Instr.typeAssert (Value.iface 135 (Value.agg #[])) 20 135 true).run Tryz.prog w = .ok (.tuple #[.agg #[], .bool true]) w := fun _ => by kernel_rfl
  refine wpS_of_wp ?_
  go_wp2
  have h1 : (w.setCell ⟨p, 0, none⟩ (.slice none 0 0)).heap[p]? = _ := heap_setCell_same (o := 0) HP.out (.slice none 0 0)
  have h2 : (w.setCell ⟨p, 0, none⟩ (.slice none 0 0)).heap[q]? = _ := ((Kept.setCell (F := (· = p)) w ⟨p, 0, none⟩ (.slice none 0 0) rfl).block q lq (fun h => hpq h.symm)).trans HQ.out
  have h3 := heap_setCell_same (o := 0) h2 (.int .i64 74)
  have h4 : ((w.setCell ⟨p, 0, none⟩ (.slice none 0 0)).setCell ⟨q, 0, none⟩ (.int .i64 74)).heap[p]? = _ := ((Kept.setCell (F := (· = q)) _ ⟨q, 0, none⟩ (.int .i64 74) rfl).block p (lt_in h1) (fun h => hpq h)).trans h1
  have y1 : (((w.setCell ⟨p, 0, none⟩ (.slice none 0 0)).setCell ⟨q, 0, none⟩ (.int .i64 74)).alloc (Obj.cells #[] 135)).heap[p]? = _ := (Below.heap_alloc _ _ _ (lt_in h4)).trans h4
  have y2 : (((w.setCell ⟨p, 0, none⟩ (.slice none 0 0)).setCell ⟨q, 0, none⟩ (.int .i64 74)).alloc (Obj.cells #[] 135)).heap[q]? = _ := (Below.heap_alloc _ _ _ (lt_in h3)).trans h3
  have yk : Kept (fun k => k = p ∨ k = q) w (((w.setCell ⟨p, 0, none⟩ (.slice none 0 0)).setCell ⟨q, 0, none⟩ (.int .i64 74)).alloc (Obj.cells #[] 135)) := (((Kept.refl _ w).st _ (.inl (.inl rfl))).st _ (.inl (.inr rfl))).al _
  generalize ((w.setCell ⟨p, 0, none⟩ (.slice none 0 0)).setCell ⟨q, 0, none⟩ (.int .i64 74)).alloc (Obj.cells #[] 135) = w3 at y1 y2 yk ⊢
  clear h1 h2 h3 h4 hT hta
  simp only [bodyPostS, results, Tryz.results130]
  simp
  exact ⟨y1, y2, yk⟩
theorem readStrings_bad {w : World} {v : Value} {xs ys : List UInt8} {g : Option Nat} (hr : Reads w 1 v (xs ++ ys).length ((xs ++ ys).map bv) g) (hgl : ∀ k, g = some k → k < w.heap.size) (hx : xs.length = 4) (hbad : ys.length < leN xs) (hm : (xs ++ ys).length ≤ 140737488351232) :
    Calls Tryz.prog 55 #[v, .func (.func 56) #[] #[]] w fun e w' => e = .returned (.tuple #[.slice none 0 0, .int .i64 74]) ∧ Kept (fun _ => False) w w' := by
  obtain ⟨bs, hbs⟩ : ∃ bs, bs = xs ++ ys := ⟨_, rfl⟩
  obtain ⟨a, cp, rfl, hc⟩ := hr.shape
  have hmf : ∀ (fn : Fn) (first cap : Array Value) (w : World), (Instr.makeFunc fn first cap).run Tryz.prog w = .ok (.func fn first cap) w := fun _ _ _ _ => rfl
  have HB := Lib.hid hbs
  rw [← hbs]
  clear hbs
  go_enter_defers Tryz.func55, Tryz.ntmps55
  go_wp2_with fail
  obtain ⟨K0, x1, x2⟩ := two_new w (Obj.cells #[Value.slice none 0 0] 46) (Obj.cells #[Value.int IntKind.i64 0] 39)
  have x3 : (((w.alloc (Obj.cells #[Value.slice none 0 0] 46)).alloc (Obj.cells #[Value.int IntKind.i64 0] 39)).alloc (Obj.cells #[Value.slice none 0 0, Value.slice a bs.length cp, Value.bool true] 138)).heap[((w.alloc (Obj.cells #[Value.slice none 0 0] 46)).alloc (Obj.cells #[Value.int IntKind.i64 0] 39)).heap.size]? = some (Obj.cells #[Value.slice none 0 0, Value.slice a bs.length cp, Value.bool true] 138) := heap_alloc_new' _ _
  have hs0 : ((w.alloc (Obj.cells #[Value.slice none 0 0] 46)).alloc (Obj.cells #[Value.int IntKind.i64 0] 39)).heap.size = w.heap.size + 1 + 1 := by simp
  rw [hs0] at x3
  have y1 : (((w.alloc (Obj.cells #[Value.slice none 0 0] 46)).alloc (Obj.cells #[Value.int IntKind.i64 0] 39)).alloc (Obj.cells #[Value.slice none 0 0, Value.slice a bs.length cp, Value.bool true] 138)).heap[w.heap.size]? = _ := (Below.heap_alloc _ _ _ (lt_in x1)).trans x1
  have y2 : (((w.alloc (Obj.cells #[Value.slice none 0 0] 46)).alloc (Obj.cells #[Value.int IntKind.i64 0] 39)).alloc (Obj.cells #[Value.slice none 0 0, Value.slice a bs.length cp, Value.bool true] 138)).heap[w.heap.size + 1]? = _ := (Below.heap_alloc _ _ _ (lt_in x2)).trans x2
  have K1 := K0.al (Obj.cells #[Value.slice none 0 0, Value.slice a bs.length cp, Value.bool true] 138)
  generalize ((w.alloc (Obj.cells #[Value.slice none 0 0] 46)).alloc (Obj.cells #[Value.int IntKind.i64 0] 39)).alloc (Obj.cells #[Value.slice none 0 0, Value.slice a bs.length cp, Value.bool true] 138) = w0 at x3 y1 y2 K1 ⊢
  clear x1 x2
  have r0 := hr.kept K1 (fun _ _ h => h)
  rw [HB.out] at x3
  refine (textsRead_bad (xs := xs) (ys := ys) x3 y1 r0 (fun k hk => by have := hgl k hk; omega) hx hbad hm).mono ?_
  rintro e w1 ⟨rfl, k1⟩
  have z1 : w1.heap[w.heap.size]? = _ := (k1.block _ (lt_in y1) (fun h => by omega)).trans y1
  have z2 : w1.heap[w.heap.size + 1]? = _ := (k1.block _ (lt_in y2) (fun h => by omega)).trans y2
  have K2 := K1.thn k1 (fun i hi => .inr (by omega))
  clear x3 y1 y2 r0
  refine leaves_cons (f := 130) (args := #[.pointer (some ⟨w.heap.size, 0, none⟩), .pointer (some ⟨w.heap.size + 1, 0, none⟩)]) (by simp) (by simp [go_sem]) ?_
  refine (catch_bad w.heap.size (w.heap.size + 1) z1 z2).mono ?_
  rintro e u' w2 ⟨rfl, rfl, q1, q2, k2⟩
  have c1 : w2.cell? ⟨w.heap.size, 0, none⟩ = some (.slice none 0 0) := cell_in q1
  have c2 : w2.cell? ⟨w.heap.size + 1, 0, none⟩ = some (.int .i64 74) := cell_in q2
  have K3 : Kept (fun _ => False) w w2 := K2.thn k2 (fun i hi => .inr (by omega))
  simp [Leaves, settle, results, Tryz.results55, go_sem, c1, c2]
  exact K3
theorem readStrings_c {w : World} {v : Value} {xs ys : List UInt8} {g : Option Nat} (hr : Reads w 1 v (xs ++ ys).length ((xs ++ ys).map bv) g) (hgl : ∀ k, g = some k → k < w.heap.size) (hx : xs.length = 4) (hbad : ys.length < leN xs) (hm : (xs ++ ys).length ≤ 140737488351232) :
    Calls Tryz.prog 26 #[v] w fun e w' => e = .returned (.tuple #[.slice none 0 0, .int .i64 74]) ∧ Kept (fun _ => False) w w' := by
  go_enter Tryz.func26, Tryz.ntmps26
  go_wp2_with fail
  refine (readStrings_bad hr hgl hx hbad hm).mono ?_
  rintro e w1 ⟨rfl, k1⟩
  go_wp2
  go_ret2
  exact ⟨rfl, k1⟩
end Go.Proofs.YtmbjealliinpdaaGreat
end

section

namespace Go.Proofs.YtmbjealliinpdaaGreat
open Go.RowKit
/-- A codec that reads: what is left. -/
structure Rd (w : World) (c : Nat) (rest : List UInt8) (g : Option Nat) : Prop where
  ex : ∃ vi, w.heap[c]? = some (.cells #[.slice none 0 0, vi, .bool true] 138) ∧ Reads w 1 vi rest.length (rest.map bv) g
  ne : ∀ k, g = some k → k ≠ c
  small : rest.length ≤ 140737488351232
theorem Rd.kept {F : Nat → Prop} {w w' : World} {c : Nat} {rest : List UInt8} {g : Option Nat} (h : Rd w c rest g) (hk : Kept F w w') (hc : ¬ F c := by exact fun h => h) (hg : ∀ k, g = some k → ¬ F k := by exact fun _ _ h => h) : Rd w' c rest g := by
  obtain ⟨vi, h1, h2⟩ := h.ex
  exact ⟨⟨vi, (hk.block _ (lt_in h1) hc).trans h1, h2.kept hk hg⟩, h.ne, h.small⟩
theorem Rd.lt {w : World} {c : Nat} {rest : List UInt8} {g : Option Nat} (h : Rd w c rest g) : c < w.heap.size := by
  obtain ⟨vi, h1, -⟩ := h.ex
  exact lt_in h1
/-- A block is there, of so many cells. -/
def Was (w : World) (p : Nat) (t : TypeId) (n : Nat) : Prop := ∃ cur, w.heap[p]? = some (.cells cur t) ∧ cur.size = n
theorem Was.cast {w : World} {p : Nat} {t : TypeId} {n m : Nat} (h : Was w p t n) (e : n = m) : Was w p t m := e ▸ h
/-- A variable's block. -/
structure Blk (w : World) (p : Nat) (cur : Array Value) (t : TypeId) (c : Nat) (g : Option Nat) : Prop where
  heap : w.heap[p]? = some (.cells cur t)
  ne : p ≠ c
  neg : g ≠ some p
theorem Blk.kept {F : Nat → Prop} {w w' : World} {p : Nat} {cur : Array Value} {t : TypeId} {c : Nat} {g : Option Nat} (h : Blk w p cur t c g) (hk : Kept F w w') (hp : ¬ F p) : Blk w' p cur t c g :=
  ⟨(hk.block _ (lt_in h.heap) hp).trans h.heap, h.ne, h.neg⟩
theorem Blk.was {w : World} {p : Nat} {cur : Array Value} {t : TypeId} {c : Nat} {g : Option Nat} (h : Blk w p cur t c g) : Was w p t cur.size := ⟨cur, h.heap, rfl⟩
theorem wordG_c {w : World} {c : Nat} {bs : List UInt8} {g : Option Nat} (v0 : Int) (n : Nat) (hn8 : n ≤ 8) (h : Rd w c bs g) :
    Calls Tryz.prog 137 #[.pointer (some ⟨c, 0, none⟩), .int .u64 v0, .int .i64 n] w fun e w' => Kept (· = c) w w' ∧ ((∃ V r, pW n bs = some (V, r) ∧ e = .returned (.int .u64 (V : Nat)) ∧ Rd w' c r g) ∨ (pW n bs = none ∧ e = .panicked wrongP)) := by
  obtain ⟨vi, h1, h2⟩ := h.ex
  by_cases hl : n ≤ bs.length
  · have hb : bs.take n ++ bs.drop n = bs := List.take_append_drop n bs
    have hln : (bs.take n).length = n := by rw [List.length_take]; omega
    refine (wordRead_c (xs := bs.take n) (ys := bs.drop n) v0 h1 (by rw [hb]; exact h2) h.ne n (by rw [hln]) (by omega) (by rw [hb]; exact h.small)).mono ?_
    rintro e w1 ⟨rfl, vi1, h3, h4, k1⟩
    refine ⟨k1, .inl ⟨_, _, ?_, rfl, ⟨vi1, h3, h4⟩, h.ne, ?_⟩⟩
    · unfold pW
      rw [if_pos hl]
    · have := h.small
      rw [List.length_drop]
      omega
  · have hlt : (bs.length : Int) < (n : Int) := by omega
    have hp : pW n bs = none := by unfold pW; rw [if_neg hl]
    obtain ⟨a, cp, rfl, hc⟩ := h2.shape
    have c1 : w.cell? ⟨c, 1, none⟩ = some (.slice a bs.length cp) := cell_in h1
    have c2 : w.cell? ⟨c, 2, none⟩ = some (.bool true) := cell_in h1
    have hl := lt_in h1
    clear h1 h2
    go_enter Tryz.func137, Tryz.ntmps137
    go_wp2
    exact ⟨rfl, Kept.refl _ _, .inr ⟨hp, rfl⟩⟩
theorem numG_c {w : World} {c p o : Nat} {bs : List UInt8} {g : Option Nat} {cur : Array Value} {t : TypeId} (m : Int) (h : Rd w c bs g) (hb : Blk w p cur t c g) (hm : cur[o]? = some (.int .i64 m)) :
    Calls Tryz.prog 62 #[.pointer (some ⟨c, 0, none⟩), .pointer (some ⟨p, o, none⟩)] w fun e w' => Kept (fun k => k = c ∨ k = p) w w' ∧ ((∃ n r, pI bs = some (n, r) ∧ e = .returned (.tuple #[]) ∧ Rd w' c r g ∧ Blk w' p (cur.setIfInBounds o (.int .i64 n)) t c g) ∨ (pI bs = none ∧ e = .panicked wrongP ∧ Was w' p t cur.size)) := by
  have z0 : w.cell? ⟨p, o, none⟩ = some (.int .i64 m) := (cell_in hb.heap).trans hm
  have hlp := lt_in hb.heap
  obtain ⟨M, hM⟩ : ∃ M : Int, m % 18446744073709551616 = M := ⟨_, rfl⟩
  have hM' : IntKind.u64.wrap m = M := by rw [← hM]; simp [IntKind.wrap, IntKind.bits, IntKind.signed]
  go_enter Tryz.func62, Tryz.ntmps62
  go_wp2_with fail
  refine (wordG_c M 8 (by omega) h).mono ?_
  rintro e w1 ⟨k1, ⟨V, r, hp, rfl, H1⟩ | ⟨hp, rfl⟩⟩
  · have hb1 := hb.kept k1 hb.ne
    have z1 : w1.cell? ⟨p, o, none⟩ = some (.int .i64 m) := (cell_in hb1.heap).trans hm
    have f1 : w1.frozen? ⟨p, o, none⟩ = false := frozen_in hb1.heap
    have l1 := lt_in hb1.heap
    obtain ⟨N, hN⟩ : ∃ N, N = IntKind.i64.wrap (V : Int) := ⟨_, rfl⟩
    have hpI : pI bs = some (N, r) := by unfold pI; rw [hp, hN]; rfl
    have hN' := hN.symm
    clear z0 hM hM' hN
    go_wp2
    have ks : Kept (· = p) w1 (w1.setCell ⟨p, o, none⟩ (.int .i64 N)) := Kept.setCell _ _ _ rfl
    exact bodyPost_end (v := .tuple #[]) (by simp [results, Tryz.results62]) rfl ⟨(k1.mono (fun _ _ e => .inl e)).trans (ks.mono (fun _ _ e => .inr e)), .inl ⟨N, r, hpI, rfl, H1.kept ks (fun e => hb.ne e.symm) (fun k hk e => hb.neg (by rw [hk, e])), ⟨heap_setCell_same hb1.heap _, hb.ne, hb.neg⟩⟩⟩
  · have hpI : pI bs = none := by unfold pI; rw [hp]; rfl
    exact ⟨rfl, k1.mono (fun _ _ e => .inl e), .inr ⟨hpI, rfl, (hb.kept k1 hb.ne).was⟩⟩
theorem bind_eta {α : Type} (x : Option (List α × List UInt8)) : (x.bind fun z => some ([] ++ z.1, z.2)) = x := by cases x <;> rfl
/-- Numbers, put at places. -/
def fills : List Nat → List Int → Array Value → Array Value
  | o :: os, n :: ns, cur => fills os ns (cur.setIfInBounds o (.int .i64 n))
  | _, _, cur => cur
theorem fills_int : ∀ (os : List Nat) (ns : List Int) (cur : Array Value) (o : Nat), (∃ m, cur[o]? = some (.int .i64 m)) → ∃ m, (fills os ns cur)[o]? = some (.int .i64 m)
  | [], _, cur, o, h => by unfold fills; exact h
  | _ :: _, [], cur, o, h => by unfold fills; exact h
  | q :: os, n :: ns, cur, o, h => by
    unfold fills
    refine fills_int os ns _ o ?_
    obtain ⟨m, hm⟩ := h
    by_cases he : q = o
    · subst he
      have hl : q < cur.size := (Array.getElem?_eq_some_iff.1 hm).1
      exact ⟨n, Array.getElem?_setIfInBounds_self_of_lt hl⟩
    · exact ⟨m, by rw [Array.getElem?_setIfInBounds_ne he]; exact hm⟩
theorem fills_size : ∀ (os : List Nat) (ns : List Int) (cur : Array Value), (fills os ns cur).size = cur.size
  | [], _, cur => by unfold fills; rfl
  | _ :: _, [], cur => by unfold fills; rfl
  | q :: os, n :: ns, cur => by
    unfold fills
    rw [fills_size os ns _]
    simp
theorem fills_snoc : ∀ (os : List Nat) (ns : List Int) (cur : Array Value) (o : Nat) (n : Int), os.length = ns.length → fills (os ++ [o]) (ns ++ [n]) cur = (fills os ns cur).setIfInBounds o (.int .i64 n)
  | [], [], cur, o, n, _ => rfl
  | _ :: os, _ :: ns, cur, o, n, h => by
    simp only [List.cons_append, fills]
    exact fills_snoc os ns _ o n (by simpa using h)
theorem numsG_c {w : World} {c p : Nat} {bs : List UInt8} {g : Option Nat} {cur : Array Value} {t : TypeId} (os : List Nat) (h : Rd w c bs g) (hb : Blk w p cur t c g) {v : Value} {gp : Option Nat} (hr : Reads w 1 v os.length (os.map (fun o => Value.pointer (some ⟨p, o, none⟩))) gp) (hgp : ∀ k, gp = some k → k ≠ c ∧ k ≠ p) (hi : ∀ o ∈ os, ∃ m, cur[o]? = some (.int .i64 m)) (hl : os.length ≤ 100) :
    Calls Tryz.prog 64 #[.pointer (some ⟨c, 0, none⟩), v] w fun e w' => Kept (fun k => k = c ∨ k = p) w w' ∧ ((∃ ns r, pN pI os.length bs = some (ns, r) ∧ e = .returned (.tuple #[]) ∧ Rd w' c r g ∧ Blk w' p (fills os ns cur) t c g) ∨ (pN pI os.length bs = none ∧ e = .panicked wrongP ∧ Was w' p t cur.size)) := by
  obtain ⟨a, cp, rfl, hc⟩ := hr.shape
  go_enter Tryz.func64, Tryz.ntmps64
  go_wp2
  go_loopw [8] (fun i w' => ∃ (k : Nat) (ns : List Int) (r : List UInt8), k ≤ os.length ∧ i = .int .i64 k ∧ ns.length = k ∧ pN pI os.length bs = (pN pI (os.length - k) r).bind (fun z => some (ns ++ z.1, z.2)) ∧ Rd w' c r g ∧ Blk w' p (fills (os.take k) ns cur) t c g ∧ Kept (fun k => k = c ∨ k = p) w w') (fun i _ => os.length - (intOf i).toNat)
  case atStart => exact ⟨0, [], bs, by omega, rfl, rfl, by rw [Nat.sub_zero]; exact (bind_eta _).symm, h, by simpa [fills] using hb, Kept.refl _ _⟩
  case round =>
    obtain ⟨k, ns, r, hk, rfl, hns, hpar, h1, hb1, k1⟩ := hrel
    by_cases hk2 : k < os.length
    · have hki : (k : Int) < (os.length : Int) := by omega
      have r1 := hr.kept k1 (fun k hk e => by rcases e with e | e; exact (hgp k hk).1 e; exact (hgp k hk).2 e)
      obtain ⟨b, off, rfl, rfl, hcell⟩ := r1.one hk2
      obtain ⟨o, ho⟩ : ∃ o, o = os[k] := ⟨_, rfl⟩
      have hom : o ∈ os := by rw [ho]; exact List.getElem_mem hk2
      have htk : os.take (k + 1) = os.take k ++ [o] := by rw [ho]; exact List.take_succ_eq_append_getElem hk2
      rw [← ho] at hcell
      obtain ⟨m, hm⟩ := fills_int (os.take k) ns cur o (hi o hom)
      have hpar' : pN pI os.length bs = (pI r).bind (fun y => (pN pI (os.length - (k + 1)) y.2).bind fun z => some (ns ++ y.1 :: z.1, z.2)) := by
        rw [hpar, show os.length - k = (os.length - (k + 1)) + 1 by omega]
        simp only [pN]
        cases h0 : pI r with
        | none => rfl
        | some y =>
          simp only [Option.bind_some]
          cases h9 : pN pI (os.length - (k + 1)) y.2 with
          | none => rfl
          | some z => rfl
      have HT := Lib.hid htk
      have HP := Lib.hid hpar'
      have HN := Lib.hid hns
      clear ho hom htk hpar' hpar hns
      go_wp2_with fail
      refine (numG_c m h1 hb1 hm).mono ?_
      rintro e w2 ⟨k2, ⟨n, r2, hp, rfl, h2, hb2⟩ | ⟨hp, rfl, hw2⟩⟩
      · have hb3 : Blk w2 p (fills (os.take (k + 1)) (ns ++ [n]) cur) t c g := by
          rw [HT.out, fills_snoc _ _ _ _ _ (by rw [HN.out, List.length_take]; omega)]
          exact hb2
        have K2 := k1.trans k2
        have HB3 := Lib.hid hb3
        have HH2 := Lib.hid h2
        have HP2 : Hid (pN pI os.length bs = (pN pI (os.length - (k + 1)) r2).bind (fun z => some ((ns ++ [n]) ++ z.1, z.2))) := Lib.hid (by
          rw [HP.out, hp]
          simp)
        have HN2 : Hid ((ns ++ [n]).length = k + 1) := Lib.hid (by rw [List.length_append, HN.out]; rfl)
        clear hb2 hb3 h2 hp
        go_wp2
        exact ⟨⟨k + 1, ns ++ [n], r2, by omega, by simp, HN2.out, HP2.out, HH2.out, HB3.out, K2⟩, by simp [intOf]; omega⟩
      · exact ⟨rfl, k1.trans k2, .inr ⟨by rw [HP.out, hp]; rfl, rfl, hw2.cast (fills_size _ _ _)⟩⟩
    · obtain rfl : k = os.length := by omega
      go_wp2
      rw [List.take_length] at hb1
      rw [Nat.sub_self] at hpar
      refine bodyPost_end (v := .tuple #[]) (by simp [results, Tryz.results64]) rfl ⟨k1, .inl ⟨ns, r, ?_, rfl, h1, hb1⟩⟩
      rw [hpar]
      simp [pN]
theorem flagG_c {w : World} {c p o : Nat} {bs : List UInt8} {g : Option Nat} {cur : Array Value} {t : TypeId} (h : Rd w c bs g) (hb : Blk w p cur t c g) (hm : cur[o]? = some (.bool false)) :
    Calls Tryz.prog 140 #[.pointer (some ⟨c, 0, none⟩), .pointer (some ⟨p, o, none⟩)] w fun e w' => Kept (fun k => k = c ∨ k = p) w w' ∧ ((∃ b r, pF bs = some (b, r) ∧ e = .returned (.tuple #[]) ∧ Rd w' c r g ∧ Blk w' p (cur.setIfInBounds o (.bool b)) t c g) ∨ (pF bs = none ∧ e = .panicked wrongP ∧ Was w' p t cur.size)) := by
  have z0 : w.cell? ⟨p, o, none⟩ = some (.bool false) := (cell_in hb.heap).trans hm
  have hlp := lt_in hb.heap
  go_enter Tryz.func140, Tryz.ntmps140
  go_wp2_with fail
  refine (wordG_c 0 1 (by omega) h).mono ?_
  rintro e w1 ⟨k1, ⟨V, r, hp, rfl, H1⟩ | ⟨hp, rfl⟩⟩
  · have hb1 := hb.kept k1 hb.ne
    have z1 : w1.cell? ⟨p, o, none⟩ = some (.bool false) := (cell_in hb1.heap).trans hm
    have f1 : w1.frozen? ⟨p, o, none⟩ = false := frozen_in hb1.heap
    have l1 := lt_in hb1.heap
    have ks : ∀ b, Kept (· = p) w1 (w1.setCell ⟨p, o, none⟩ (.bool b)) := fun b => Kept.setCell _ _ _ rfl
    have hfin : ∀ b, pF bs = some (b, r) → Kept (fun k => k = c ∨ k = p) w (w1.setCell ⟨p, o, none⟩ (.bool b)) ∧ ((∃ b r, pF bs = some (b, r) ∧ (Sum.inl (Value.tuple #[]) : Value ⊕ Unit) = .inl (.tuple #[]) ∧ Rd (w1.setCell ⟨p, o, none⟩ (.bool b)) c r g ∧ Blk (w1.setCell ⟨p, o, none⟩ (.bool b)) p (cur.setIfInBounds o (.bool b)) t c g)) := fun b hpb =>
      ⟨(k1.mono (fun _ _ e => .inl e)).trans ((ks b).mono (fun _ _ e => .inr e)), b, r, hpb, rfl, H1.kept (ks b) (fun e => hb.ne e.symm) (fun k hk e => hb.neg (by rw [hk, e])), ⟨heap_setCell_same hb1.heap _, hb.ne, hb.neg⟩⟩
    have HB := Lib.hid hb1
    clear z0 hb1
    by_cases hV : V ≤ 1
    · have hVi : ¬ ((1 : Int) < (V : Int)) := by omega
      have hpF : pF bs = some (decide (V = 1), r) := by unfold pF; rw [hp]; simp [hV]
      have HF := Lib.hid hfin
      clear hp hfin
      obtain rfl | rfl : V = 0 ∨ V = 1 := by omega
      · go_wp2
        obtain ⟨q1, b, r', q2, -, q4, q5⟩ := HF.out false hpF
        rw [hpF] at q2
        simp at q2
        obtain ⟨rfl, rfl⟩ := q2
        exact bodyPost_end (v := .tuple #[]) (by simp [results, Tryz.results140]) rfl ⟨q1, .inl ⟨_, _, hpF, rfl, q4, q5⟩⟩
      · go_wp2
        obtain ⟨q1, b, r', q2, -, q4, q5⟩ := HF.out true hpF
        rw [hpF] at q2
        simp at q2
        obtain ⟨rfl, rfl⟩ := q2
        exact bodyPost_end (v := .tuple #[]) (by simp [results, Tryz.results140]) rfl ⟨q1, .inl ⟨_, _, hpF, rfl, q4, q5⟩⟩
    · have hVi : (1 : Int) < (V : Int) := by omega
      have hpF : pF bs = none := by unfold pF; rw [hp]; simp [hV]
      clear hfin
      go_wp2
      exact ⟨rfl, k1.mono (fun _ _ e => .inl e), .inr ⟨hpF, rfl, (hb.kept k1 hb.ne).was⟩⟩
  · have hpF : pF bs = none := by unfold pF; rw [hp]; rfl
    exact ⟨rfl, k1.mono (fun _ _ e => .inl e), .inr ⟨hpF, rfl, (hb.kept k1 hb.ne).was⟩⟩
theorem countG_c {w : World} {c : Nat} {bs : List UInt8} {g : Option Nat} (h : Rd w c bs g) :
    Calls Tryz.prog 138 #[.pointer (some ⟨c, 0, none⟩), .int .i64 0] w fun e w' => Kept (· = c) w w' ∧ ((∃ n r, pC bs = some (n, r) ∧ e = .returned (.int .i64 (n : Nat)) ∧ Rd w' c r g) ∨ (pC bs = none ∧ e = .panicked wrongP)) := by
  go_enter Tryz.func138, Tryz.ntmps138
  go_wp2_with fail
  refine (wordG_c 0 4 (by omega) h).mono ?_
  rintro e w1 ⟨k1, ⟨V, r, hp, rfl, H1⟩ | ⟨hp, rfl⟩⟩
  · obtain ⟨vi, h3, h4⟩ := H1.ex
    obtain ⟨a1, c1, rfl, -⟩ := h4.shape
    have hV : V < 4294967296 := by
      obtain ⟨a, ha, -, rfl⟩ := pW_some hp
      have := leN_lt a
      rw [ha] at this
      omega
    have e2 : IntKind.i64.wrap (V : Int) = (V : Int) := IntWalk.i64_in _ (by omega)
    have z1 : w1.cell? ⟨c, 1, none⟩ = some (.slice a1 r.length c1) := cell_in h3
    have z2 : w1.cell? ⟨c, 2, none⟩ = some (.bool true) := cell_in h3
    have hl := lt_in h3
    have H3 := Lib.hid h3
    clear h3 h4
    by_cases hgt : (r.length : Int) < (V : Int)
    · have hpC : pC bs = none := by
        unfold pC
        rw [hp, Option.bind_some, if_neg]
        show ¬ V ≤ r.length
        omega
      clear hp
      go_wp2
      exact ⟨rfl, k1, .inr ⟨hpC, rfl⟩⟩
    · have hpC : pC bs = some (V, r) := by
        unfold pC
        rw [hp, Option.bind_some, if_pos]
        show V ≤ r.length
        omega
      clear hp
      go_wp2
      go_ret
      exact ⟨k1, .inl ⟨V, r, hpC, rfl, H1⟩⟩
  · have hpC : pC bs = none := by unfold pC; rw [hp]; rfl
    exact ⟨rfl, k1, .inr ⟨hpC, rfl⟩⟩
end Go.Proofs.YtmbjealliinpdaaGreat
end

section

namespace Go.Proofs.YtmbjealliinpdaaGreat
open Go.RowKit Go.ChangeShapes Go.WideShapes Go.ChangeAt
open Go.ChangeMaps (open_string shut_string)
theorem own : ownKnob Tryz.prog.godebug = none := by kernel_rfl
theorem laidOut : laidOutB Tryz.prog = true := by kernel_rfl
section
variable {H : Type} {enc : TypeId × Value → H} {P : Program} {W W' : World}
theorem below_trodAll (hl : laidOutB P = true) (hb : Below W.heap.size W W') : ∀ {ts : List TypeId} {vs : List Value} {ds : List (DataW H)} {ps : List MemPlace},
    ts.all (fun t => P.readableRec t && decide (t < P.types.size)) = true → DataW.TrodAll enc P W 0 (fun _ => true) true ts vs ds ps → DataW.TrodAll enc P W' 0 (fun b => decide (b < W.heap.size)) true ts vs ds ps
  | [], _, _, _, _, h => by obtain ⟨rfl, rfl, rfl⟩ := trodAll_nil h; exact trodAll_mk0
  | t :: ts, vs, ds, ps, hr, h => by
    obtain ⟨v, vs', d, ds', p, q, rfl, rfl, rfl, h1, h2⟩ := trodAll_cons h
    simp only [List.all_cons, Bool.and_eq_true, decide_eq_true_eq] at hr
    refine trodAll_cons_mk (Below.trod hl hr.1.1 hr.1.2 h1 hb ?_) (below_trodAll hl hb (by simpa using hr.2) h2)
    obtain ⟨m, hm⟩ := h1
    exact DataW.trod_lt m _ _ _ hm
/-- A slice of bytes, out of a reading. -/
theorem bytes_of_trod {base fuel : Nat} {t e : TypeId} {cs : List Value} {x : DataW H × List MemPlace} (ht : P.underlying t = some (.slice e)) (he : P.underlying e = some (.int .u8)) (hc : P.cellsOf e = 1) (hb : P.bytesOf e = 1)
    (hf : DataW.trod enc P W base (fun _ => true) true fuel t cs = some x) (hw : ∀ n ∈ x.1.weights P t, n ≤ reachBytes) :
    ∃ (v : Value) (bs : List UInt8) (g : Option Nat), cs = [v] ∧ Reads W 1 v bs.length (bs.map bv) g ∧ (∀ k, g = some k → bs ≠ [] → k < W.heap.size) ∧ bs.length ≤ 140737488351232 := by
  rcases open_ints ht he hc hf with ⟨hcs, hx⟩ | ⟨y, len0, cap0, zs, hcs, _, hl, hm, hz, hx, hcell, hwz⟩
  · exact ⟨_, [], none, hcs, ⟨by simp, .inl ⟨_, 0, rfl, rfl⟩⟩, (fun k e => by cases e), by simp⟩
  · simp only [if_true] at hz
    have hs : (len0 + (cap0 - len0)) * 1 ≤ reachBytes := by
      refine hw _ ?_
      rw [hx]
      simp only [DataW.weights, ht, List.mem_cons]
      left
      rw [hb]
      simp only [lits, List.length_map, List.length_take, List.length_drop]
      omega
    simp only [reachBytes] at hs
    obtain ⟨b, off, spot⟩ := y
    have hlen : ((zs.take len0).map fun n => UInt8.ofNat n.toNat).length = len0 := by rw [List.length_map, List.length_take]; omega
    by_cases h0 : len0 = 0
    · subst h0
      exact ⟨_, [], none, hcs, ⟨by simp, .inl ⟨_, _, rfl, rfl⟩⟩, (fun k e => by cases e), by simp⟩
    · have hsp : spot = none := by
        have := hcell 0 (by omega)
        simpa [Addr.add] using World.cell?_spot this
      subst hsp
      refine ⟨_, (zs.take len0).map fun n => UInt8.ofNat n.toNat, some b, hcs, ⟨by rw [List.length_map, Nat.mul_one], .inr ⟨b, off, cap0, rfl, by rw [hlen], by rw [hlen]; exact hl, hm, fun j hj => ?_⟩⟩, ?_, by rw [hlen]; omega⟩
      · rw [List.length_map, hlen] at hj
        have h1 := hcell j (by omega)
        rw [addr_add] at h1
        have hzj : zs.getD j 0 ∈ zs := by
          rw [List.getD_eq_getElem?_getD, List.getElem?_eq_getElem (by omega)]
          exact List.getElem_mem _
        have hw := hwz _ hzj
        simp only [Lit.wf, IntKind.min, IntKind.max, IntKind.signed, IntKind.bits] at hw
        simp at hw
        rw [h1, List.getElem?_map, List.getElem?_map, List.getElem?_take, if_pos hj, List.getElem?_eq_getElem (by omega)]
        simp only [Option.map_some, bv]
        rw [List.getD_eq_getElem?_getD]
        rw [List.getElem?_eq_getElem (by omega)] at hw ⊢
        simp only [Option.getD_some] at hw ⊢
        congr 2
        rw [UInt8.toNat_ofNat']
        omega
      · rintro k ⟨⟩ _
        exact World.block_lt_of_cell? _ _ (hcell 0 (by omega))
theorem weights_le {ts : List TypeId} {ds : List (DataW H)} (hsz : (DataW.weightsEach P ts ds).all (· ≤ reachBytes) = true) {j : Nat} {t : TypeId} {d : DataW H} (hj : ts[j]? = some t) (hd : ds[j]? = some d) : ∀ n ∈ d.weights P t, n ≤ reachBytes := fun n hn => by
  have := List.all_eq_true.1 hsz n (DataW.weights_mem_each hj hd n hn)
  simpa using this
/-- A slice of bytes that came in. -/
theorem open_bytes {r : Reach} {b0 : Nat} {t e : TypeId} {v : Value} {d : DataW H} {p : List MemPlace} (ht : P.underlying t = some (.slice e)) (he : P.underlying e = some (.int .u8)) (hc : P.cellsOf e = 1) (hb : P.bytesOf e = 1)
    (hv : Value.okWide P W r b0 t v) (h : DataW.Trod enc P W 0 (fun _ => true) true t v d p) {ts : List TypeId} {ds : List (DataW H)} (hsz : (DataW.weightsEach P ts ds).all (· ≤ reachBytes) = true) {j : Nat} (hj : ts[j]? = some t) (hd : ds[j]? = some d) :
    ∃ (bs : List UInt8) (g : Option Nat), Reads W 1 v bs.length (bs.map bv) g ∧ (∀ k, g = some k → bs ≠ [] → k < W.heap.size) ∧ bs.length ≤ 140737488351232 := by
  obtain ⟨a0, len0, cap0, rfl⟩ := okWide_slice ht hv
  obtain ⟨fuel, hf⟩ := h
  obtain ⟨v, bs, g, hcs, h1, h2, h3⟩ := bytes_of_trod ht he hc hb hf (weights_le hsz hj hd)
  simp [Value.cells] at hcs
  subst hcs
  exact ⟨bs, g, h1, h2, h3⟩
end
end Go.Proofs.YtmbjealliinpdaaGreat
end

section

namespace Go.Proofs.YtmbjealliinpdaaGreat
open Go.RowKit Go.ChangeShapes Go.WideShapes Go.ChangeAt
/-- The kind of a cell. -/
inductive CK where
  | int (k : IntKind)
  | bool
def CK.ty : CK → TypeDesc
  | .int k => .int k
  | .bool => .bool
def CK.ok : CK → Value → Prop
  | .int k, v => ∃ n, v = .int k n ∧ (Lit.int k n).wf = true
  | .bool, v => ∃ b, v = .bool b
section
variable {H : Type} {enc : TypeId × Value → H} {P : Program} {W : World}
theorem flatten_get {m : Nat} : ∀ {L : List (List Value)}, (∀ l ∈ L, l.length = m) → ∀ {i : Nat} {l : List Value}, L[i]? = some l → ∀ f, f < m → L.flatten[i * m + f]? = l[f]?
  | [], _, i, l, h, f, hf => by simp at h
  | a :: r, hm, 0, l, h, f, hf => by
    simp at h
    subst h
    have := hm a (by simp)
    rw [List.flatten_cons, List.getElem?_append_left (by omega)]
    simp
  | a :: r, hm, i + 1, l, h, f, hf => by
    simp only [List.getElem?_cons_succ] at h
    have := hm a (by simp)
    have e : (i + 1) * m = i * m + m := by rw [Nat.add_mul, Nat.one_mul]
    rw [List.flatten_cons, List.getElem?_append_right (by omega), show (i + 1) * m + f - a.length = i * m + f by omega]
    exact flatten_get (fun l hl => hm l (by simp [hl])) h f hf
theorem flatten_len {m : Nat} : ∀ {L : List (List Value)}, (∀ l ∈ L, l.length = m) → L.flatten.length = L.length * m
  | [], _ => by simp
  | a :: r, h => by
    have h1 := h a (by simp)
    have h2 := flatten_len (L := r) (fun l hl => h l (by simp [hl]))
    rw [List.flatten_cons, List.length_append, h2, h1, List.length_cons, Nat.add_mul, Nat.one_mul]
    omega
end
end Go.Proofs.YtmbjealliinpdaaGreat
end

section

namespace Go.Proofs.YtmbjealliinpdaaGreat
open Go.RowKit
theorem Wrote.start {w : World} {c : Nat} {out : List UInt8} {g : Option Nat} (h : Writes w c out g) : Wrote w w c out g [] := ⟨g, by simpa using h, Kept.refl _ _, fun k hk => .inl hk⟩
/-- Where a writer stands. -/
structure Cod (w w' : World) (c : Nat) (out : List UInt8) (g : Option Nat) (more L : List UInt8) (g' : Option Nat) : Prop where
  writes : Writes w' c L g'
  eq : L = out ++ more
  kept : Kept (fun k => k = c ∨ g = some k) w w'
  new : ∀ k, g' = some k → g = some k ∨ w.heap.size ≤ k
theorem Cod.start {w : World} {c : Nat} {out : List UInt8} {g : Option Nat} (h : Writes w c out g) : Cod w w c out g [] out g := ⟨h, by simp, Kept.refl _ _, fun k hk => .inl hk⟩
theorem Writes.al {w : World} {c : Nat} {out : List UInt8} {g : Option Nat} (h : Writes w c out g) (o : Obj) : Writes (w.alloc o) c out g := h.kept (Kept.alloc (fun _ => False) _ _) (fun h => h) (fun _ _ h => h)
theorem Writes.dN {w : World} {c : Nat} {out : List UInt8} {g : Option Nat} (h : Writes w c out g) (n : Nat) : Writes (w.drewN n) c out g := h.kept (Kept.drewN (fun _ => False) _ _) (fun h => h) (fun _ _ h => h)
theorem Cod.alloc {w w' : World} {c : Nat} {out more L : List UInt8} {g g' : Option Nat} (h : Cod w w' c out g more L g') (o : Obj) : Cod w (w'.alloc o) c out g more L g' := ⟨h.writes.al o, h.eq, h.kept.al o, h.new⟩
theorem Cod.dN {w w' : World} {c : Nat} {out more L : List UInt8} {g g' : Option Nat} (h : Cod w w' c out g more L g') (n : Nat) : Cod w (w'.drewN n) c out g more L g' := ⟨h.writes.dN n, h.eq, h.kept.dN n, h.new⟩
theorem Cod.then {w w1 w2 : World} {c : Nat} {out m1 m2 L1 : List UInt8} {g g1 : Option Nat} (h : Cod w w1 c out g m1 L1 g1) (h2 : Wrote w1 w2 c L1 g1 m2) : ∃ L2 g2, Cod w w2 c out g (m1 ++ m2) L2 g2 := by
  rw [h.eq] at h2
  obtain ⟨g2, o2, k2, hg2⟩ := Wrote.more h.kept h.new h2
  exact ⟨_, g2, o2, rfl, k2, hg2⟩
theorem Cod.cast {w w' : World} {c : Nat} {out more more' L : List UInt8} {g g' : Option Nat} (h : Cod w w' c out g more L g') (e : more = more') : Cod w w' c out g more' L g' := by rw [← e]; exact h
theorem Cod.done {w w' : World} {c : Nat} {out more L : List UInt8} {g g' : Option Nat} (h : Cod w w' c out g more L g') : Wrote w w' c out g more := ⟨g', by rw [← h.eq]; exact h.writes, h.kept, h.new⟩
theorem Cod.len {w w' : World} {c : Nat} {out more L : List UInt8} {g g' : Option Nat} (h : Cod w w' c out g more L g') : L.length = out.length + more.length := by rw [h.eq, List.length_append]
theorem Cod.data {w w' : World} {c : Nat} {out more L : List UInt8} {g g' : Option Nat} (h : Cod w w' c out g more L g') {S : Nat → Prop} (hS : ∀ k, S k → k < w.heap.size ∧ k ≠ c ∧ g ≠ some k) : ∀ k, S k → w'.heap[k]? = w.heap[k]? :=
  fun k hk => h.kept.block k (hS k hk).1 (fun e => by rcases e with e | e; exact (hS k hk).2.1 e; exact (hS k hk).2.2 e)
theorem Cod.sets {w w' : World} {c : Nat} {out more L : List UInt8} {g g' : Option Nat} (h : Cod w w' c out g more L g') {S : Nat → Prop} (hS : ∀ k, S k → k < w.heap.size ∧ k ≠ c ∧ g ≠ some k) : ∀ k, S k → k < w'.heap.size ∧ k ≠ c ∧ g' ≠ some k :=
  fun k hk => ⟨Nat.lt_of_lt_of_le (hS k hk).1 h.kept.size, (hS k hk).2.1, fun e => by rcases h.new k e with e | e; exact (hS k hk).2.2 e; exact absurd (hS k hk).1 (by omega)⟩
theorem Cod.var {w w' : World} {c p o : Nat} {out more L : List UInt8} {g g' : Option Nat} {cs : List Value} (h : Cod w w' c out g more L g') (hw : Writes w c out g) (hv : Var w p o cs) : Var w' p o cs := hv.wrote (more := []) hw h.kept
theorem var_new (w : World) (cs : Array Value) (t : TypeId) (h1 : t ≠ 138) (h2 : t ≠ 5) : Var (w.alloc (.cells cs t)) w.heap.size 0 cs.toList :=
  ⟨cs, t, heap_alloc_new' _ _, h1, h2, fun f hf => by simp⟩
theorem osdWrite_c {w : World} {c p o : Nat} {out : List UInt8} {g : Option Nat} (h : Writes w c out g) (x : OsdT) (hi : in64 x.weight ∧ in64 x.boot ∧ in64 x.upFrom ∧ in64 x.upThru) (hv : Var w p o [Value.bool x.ex, Value.bool x.up, Value.int IntKind.i64 x.weight, Value.int IntKind.i64 x.boot, Value.int IntKind.i64 x.upFrom, Value.int IntKind.i64 x.upThru]) (hm : out.length + x.enc.length ≤ 140737488352000) :
    Calls Tryz.prog 105 #[.pointer (some ⟨c, 0, none⟩), .pointer (some ⟨p, o, none⟩)] w fun e w' => e = .returned (.tuple #[]) ∧ Wrote w w' c out g x.enc := by
  have hmf : ∀ (fn : Fn) (first cap : Array Value) (w : World), (Instr.makeFunc fn first cap).run Tryz.prog w = .ok (.func fn first cap) w := fun _ _ _ _ => rfl
  obtain ⟨i0, i1, i2, i3⟩ := hi
  simp only [OsdT.enc, List.length_append, List.length_nil, encI_length, bB_length, leB_length] at hm
  simp only [OsdT.enc]
  have hlp := hv.lt
  have S0 := Cod.start h
  go_enter Tryz.func105, Tryz.ntmps105
  have hv0 : Var w p (o) [Value.bool x.ex] := (S0.var h hv).sub (i := 0) (by intro f hf; simp at hf; subst hf; simp)
  have lv0 := hv0.lt
  go_wp2_with fail
  refine (flagWrite_c S0.writes x.ex hv0 (by have := S0.len; simp only [List.length_append, List.length_nil, encI_length, bB_length, leB_length] at this; omega)).mono ?_
  rintro _ w1 ⟨rfl, hW1⟩
  obtain ⟨L1, g1, S1⟩ := S0.then hW1
  have hv1 : Var w1 p (o + 1) [Value.bool x.up] := (S1.var h hv).sub (i := 1) (by intro f hf; simp at hf; subst hf; simp)
  have lv1 := hv1.lt
  go_wp2_with fail
  refine (flagWrite_c S1.writes x.up hv1 (by have := S1.len; simp only [List.length_append, List.length_nil, encI_length, bB_length, leB_length] at this; omega)).mono ?_
  rintro _ w2 ⟨rfl, hW2⟩
  obtain ⟨L2, g2, S2⟩ := S1.then hW2
  have lv2 := (S2.var h hv).lt
  go_wp2
  refine wp_region_ord [1, 2, 3, 4, 5, 6, 7, 8, 9, 10, 11, 12] [0] [13, 14] (by kernel_rfl) (by kernel_rfl) (fun _ _ d _ _ h => by cases d <;> exact h) ?_
  simp only [sel, List.filterMap_cons, List.filterMap_nil, List.getElem?_cons_zero, List.getElem?_cons_succ]
  repeat (quiet_step (fail))
  refine wpQuiet_nil ?_
  refine wpIdle_step (fun K hK => ?_)
  go_simp
  refine hK _ ?_
  clear hK
  refine wpIdle_nil ?_
  rintro _ ⟨nr, rfl⟩
  have T2 := S2.dN nr
  generalize w2.drewN nr = y2 at T2 ⊢
  go_wp2_with fail
  have U2 := T2.alloc (Obj.cells #[Value.pointer (some ⟨p, o + 2, none⟩), Value.pointer (some ⟨p, o + 3, none⟩), Value.pointer (some ⟨p, o + 4, none⟩), Value.pointer (some ⟨p, o + 5, none⟩)] 141)
  have r2 := (own_alloc y2 [Value.pointer (some ⟨p, o + 2, none⟩), Value.pointer (some ⟨p, o + 3, none⟩), Value.pointer (some ⟨p, o + 4, none⟩), Value.pointer (some ⟨p, o + 5, none⟩)] 141 4 rfl (by decide)).reads
  generalize y2.alloc (Obj.cells #[Value.pointer (some ⟨p, o + 2, none⟩), Value.pointer (some ⟨p, o + 3, none⟩), Value.pointer (some ⟨p, o + 4, none⟩), Value.pointer (some ⟨p, o + 5, none⟩)] 141) = z2 at U2 r2 ⊢
  have hq2 : ∀ q ∈ ([⟨p, o + 2, x.weight⟩, ⟨p, o + 3, x.boot⟩, ⟨p, o + 4, x.upFrom⟩, ⟨p, o + 5, x.upThru⟩] : List Place), Var z2 q.p q.o [.int .i64 q.n] ∧ in64 q.n := by
    intro q hq
    simp only [List.mem_cons, List.not_mem_nil, or_false] at hq
    rcases hq with rfl | rfl | rfl | rfl
    · exact ⟨(U2.var h hv).sub (i := 2) (by intro f hf; simp at hf; subst hf; simp), i0⟩
    · exact ⟨(U2.var h hv).sub (i := 3) (by intro f hf; simp at hf; subst hf; simp), i1⟩
    · exact ⟨(U2.var h hv).sub (i := 4) (by intro f hf; simp at hf; subst hf; simp), i2⟩
    · exact ⟨(U2.var h hv).sub (i := 5) (by intro f hf; simp at hf; subst hf; simp), i3⟩
  have hyc2 : y2.heap.size ≠ c ∧ g2 ≠ some y2.heap.size := by
    obtain ⟨vo, h1, h2⟩ := T2.writes.ex
    exact ⟨Nat.ne_of_gt (lt_in h1), fun e => absurd (h2.lt _ e) (by omega)⟩
  refine (numsWrite_c (ps := [⟨p, o + 2, x.weight⟩, ⟨p, o + 3, x.boot⟩, ⟨p, o + 4, x.upFrom⟩, ⟨p, o + 5, x.upThru⟩]) U2.writes (gp := some y2.heap.size) r2 (fun k hk => by cases hk; exact hyc2) hq2 (by simp) (by have := U2.len; simp only [List.length_append, List.length_nil, encI_length, bB_length, leB_length] at this; omega)).mono ?_
  rintro _ w3 ⟨rfl, hW3⟩
  obtain ⟨L3, g3, Q3⟩ := U2.then hW3
  have S3 := Q3.cast (more' := [] ++ bB x.ex ++ bB x.up ++ encI x.weight ++ encI x.boot ++ encI x.upFrom ++ encI x.upThru) (by simp [Place.enc])
  clear Q3
  go_wp2
  exact bodyPost_end (v := .tuple #[]) (by simp [results, Tryz.results105]) rfl ⟨rfl, S3.done⟩
theorem listOsdWrite_c {w : World} {c p o : Nat} {out : List UInt8} {g : Option Nat} (h : Writes w c out g) {S : Nat → Prop} (hS : ∀ k, S k → k < w.heap.size ∧ k ≠ c ∧ g ≠ some k) {v : Value} (xs : List OsdT) (hl : ListIs 6 OsdT.Is w S v xs) (hv : Var w p o [v]) (hm : out.length + (leB 4 xs.length ++ xs.flatMap OsdT.enc).length ≤ 140737488352000) :
    Calls Tryz.prog 104 #[.pointer (some ⟨c, 0, none⟩), .pointer (some ⟨p, o, none⟩), .func (.func 105) #[.pointer (some ⟨c, 0, none⟩)] #[]] w fun e w' => e = .returned (.tuple #[]) ∧ Wrote w w' c out g (leB 4 xs.length ++ xs.flatMap OsdT.enc) := by
  obtain ⟨a, cp, rfl, hc⟩ := hl.shape
  have hnl := hl.small
  have p0 : w.cell? ⟨p, o, none⟩ = some (.slice a xs.length cp) := hv.cell (f := 0) (by simp)
  have hlp := hv.lt
  simp only [List.length_append, leB_length] at hm
  go_enter Tryz.func104, Tryz.ntmps104
  go_wp2_with fail
  refine (countWrite_c h xs.length (by omega) (by omega)).mono ?_
  rintro e w1 ⟨rfl, hW1⟩
  obtain ⟨L1, g1, S1⟩ := (Cod.start h).then hW1
  have c2 : w1.cell? ⟨c, 2, none⟩ = some (.bool false) := by
    obtain ⟨vo, h1, -⟩ := S1.writes.ex
    exact cell_in h1
  have hl1 : c < w1.heap.size := by
    obtain ⟨vo, h1, -⟩ := S1.writes.ex
    exact lt_in h1
  clear p0
  go_wp2
  go_loopw [22] (fun i w' => ∃ (k : Nat) (L : List UInt8) (gL : Option Nat), k ≤ xs.length ∧ i = .int .i64 k ∧ Cod w w' c out g (leB 4 xs.length ++ (xs.take k).flatMap OsdT.enc) L gL) (fun i _ => xs.length - (intOf i).toNat)
  case atStart => exact ⟨0, L1, g1, by omega, rfl, S1.cast (by simp)⟩
  case round =>
    obtain ⟨k, L, gL, hk, rfl, SL⟩ := hrel
    by_cases hk2 : k < xs.length
    · have hki : (k : Int) < (xs.length : Int) := by omega
      have hd := SL.data hS
      obtain ⟨b, off, cs, rfl, hb, hcl, hcell, hr⟩ := (hl.heap (fun _ _ h => OsdT.Is.heap h) (fun _ h => h) hd).at hk2
      have hfl := flatMap_le OsdT.enc xs (k + 1)
      have hft := flatMap_take OsdT.enc xs k hk2
      rw [hft, List.length_append] at hfl
      obtain ⟨e, he⟩ : ∃ e, e = xs[k] := ⟨_, rfl⟩
      rw [← he] at hr hft hfl
      have HFT := Lib.hid hft
      clear hft he hcl
      have hvr := SL.var h hv
      have p0 : wr.cell? ⟨p, o, none⟩ = some (.slice (some ⟨b, off, none⟩) xs.length cp) := hvr.cell (f := 0) (by simp)
      have l2 := hvr.lt
      have hr0 := hr
      obtain ⟨rfl, -⟩ := hr
      have y0 : wr.cell? ⟨b, off + k * 6, none⟩ = some (Value.bool e.ex) := hcell 0 (by omega)
      have y1 : wr.cell? ⟨b, off + k * 6 + 1, none⟩ = some (Value.bool e.up) := hcell 1 (by omega)
      have y2 : wr.cell? ⟨b, off + k * 6 + 2, none⟩ = some (Value.int IntKind.i64 e.weight) := hcell 2 (by omega)
      have y3 : wr.cell? ⟨b, off + k * 6 + 3, none⟩ = some (Value.int IntKind.i64 e.boot) := hcell 3 (by omega)
      have y4 : wr.cell? ⟨b, off + k * 6 + 4, none⟩ = some (Value.int IntKind.i64 e.upFrom) := hcell 4 (by omega)
      have y5 : wr.cell? ⟨b, off + k * 6 + 5, none⟩ = some (Value.int IntKind.i64 e.upThru) := hcell 5 (by omega)
      go_wp2_with fail
      have SA := SL.alloc (Obj.cells #[Value.bool e.ex, Value.bool e.up, Value.int IntKind.i64 e.weight, Value.int IntKind.i64 e.boot, Value.int IntKind.i64 e.upFrom, Value.int IntKind.i64 e.upThru] 208)
      have vA := var_new wr #[Value.bool e.ex, Value.bool e.up, Value.int IntKind.i64 e.weight, Value.int IntKind.i64 e.boot, Value.int IntKind.i64 e.upFrom, Value.int IntKind.i64 e.upThru] 208 (by decide) (by decide)
      have hrA : OsdT.Is (wr.alloc (Obj.cells #[Value.bool e.ex, Value.bool e.up, Value.int IntKind.i64 e.weight, Value.int IntKind.i64 e.boot, Value.int IntKind.i64 e.upFrom, Value.int IntKind.i64 e.upThru] 208)) S _ e := OsdT.Is.heap hr0
      generalize wr.alloc (Obj.cells #[Value.bool e.ex, Value.bool e.up, Value.int IntKind.i64 e.weight, Value.int IntKind.i64 e.boot, Value.int IntKind.i64 e.upFrom, Value.int IntKind.i64 e.upThru] 208) = wa at SA hrA vA ⊢
      have hbnd := SA.len
      simp only [List.length_append, leB_length] at hbnd
      refine (osdWrite_c SA.writes e hrA.2 vA (by omega)).mono ?_
      rintro _ w9 ⟨rfl, hG⟩
      obtain ⟨L9, g9, S9⟩ := SA.then hG
      have HS9 := Lib.hid (S9.cast (more' := leB 4 xs.length ++ (xs.take (k + 1)).flatMap OsdT.enc) (by rw [HFT.out, List.append_assoc]))
      clear S9 hG
      go_wp2
      exact ⟨⟨k + 1, L9, g9, by omega, by simp, HS9.out⟩, by simp [intOf]; omega⟩
    · obtain rfl : k = xs.length := by omega
      go_wp2
      rw [List.take_length] at SL
      exact bodyPost_ret (v := .tuple #[]) (by simp [results, Tryz.results104]) rfl ⟨rfl, SL.done⟩
theorem poolWrite_c {w : World} {c p o : Nat} {out : List UInt8} {g : Option Nat} (h : Writes w c out g) (x : PoolT) (hi : in64 x.id ∧ in64 x.size ∧ in64 x.min ∧ in64 x.pgs) (hv : Var w p o [Value.int IntKind.i64 x.id, Value.int IntKind.i64 x.size, Value.int IntKind.i64 x.min, Value.int IntKind.i64 x.pgs]) (hm : out.length + x.enc.length ≤ 140737488352000) :
    Calls Tryz.prog 107 #[.pointer (some ⟨c, 0, none⟩), .pointer (some ⟨p, o, none⟩)] w fun e w' => e = .returned (.tuple #[]) ∧ Wrote w w' c out g x.enc := by
  have hmf : ∀ (fn : Fn) (first cap : Array Value) (w : World), (Instr.makeFunc fn first cap).run Tryz.prog w = .ok (.func fn first cap) w := fun _ _ _ _ => rfl
  obtain ⟨i0, i1, i2, i3⟩ := hi
  simp only [PoolT.enc, List.length_append, List.length_nil, encI_length, bB_length, leB_length] at hm
  simp only [PoolT.enc]
  have hlp := hv.lt
  have S0 := Cod.start h
  go_enter Tryz.func107, Tryz.ntmps107
  have lv0 := (S0.var h hv).lt
  go_wp2
  refine wp_region_ord [1, 2, 3, 4, 5, 6, 7, 8, 9, 10, 11, 12] [0] [13, 14] (by kernel_rfl) (by kernel_rfl) (fun _ _ d _ _ h => by cases d <;> exact h) ?_
  simp only [sel, List.filterMap_cons, List.filterMap_nil, List.getElem?_cons_zero, List.getElem?_cons_succ]
  repeat (quiet_step (fail))
  refine wpQuiet_nil ?_
  refine wpIdle_step (fun K hK => ?_)
  go_simp
  refine hK _ ?_
  clear hK
  refine wpIdle_nil ?_
  rintro _ ⟨nr, rfl⟩
  have T0 := S0.dN nr
  generalize w.drewN nr = y0 at T0 ⊢
  go_wp2_with fail
  have U0 := T0.alloc (Obj.cells #[Value.pointer (some ⟨p, o, none⟩), Value.pointer (some ⟨p, o + 1, none⟩), Value.pointer (some ⟨p, o + 2, none⟩), Value.pointer (some ⟨p, o + 3, none⟩)] 141)
  have r0 := (own_alloc y0 [Value.pointer (some ⟨p, o, none⟩), Value.pointer (some ⟨p, o + 1, none⟩), Value.pointer (some ⟨p, o + 2, none⟩), Value.pointer (some ⟨p, o + 3, none⟩)] 141 4 rfl (by decide)).reads
  generalize y0.alloc (Obj.cells #[Value.pointer (some ⟨p, o, none⟩), Value.pointer (some ⟨p, o + 1, none⟩), Value.pointer (some ⟨p, o + 2, none⟩), Value.pointer (some ⟨p, o + 3, none⟩)] 141) = z0 at U0 r0 ⊢
  have hq0 : ∀ q ∈ ([⟨p, o, x.id⟩, ⟨p, o + 1, x.size⟩, ⟨p, o + 2, x.min⟩, ⟨p, o + 3, x.pgs⟩] : List Place), Var z0 q.p q.o [.int .i64 q.n] ∧ in64 q.n := by
    intro q hq
    simp only [List.mem_cons, List.not_mem_nil, or_false] at hq
    rcases hq with rfl | rfl | rfl | rfl
    · exact ⟨(U0.var h hv).sub (i := 0) (by intro f hf; simp at hf; subst hf; simp), i0⟩
    · exact ⟨(U0.var h hv).sub (i := 1) (by intro f hf; simp at hf; subst hf; simp), i1⟩
    · exact ⟨(U0.var h hv).sub (i := 2) (by intro f hf; simp at hf; subst hf; simp), i2⟩
    · exact ⟨(U0.var h hv).sub (i := 3) (by intro f hf; simp at hf; subst hf; simp), i3⟩
  have hyc0 : y0.heap.size ≠ c ∧ g ≠ some y0.heap.size := by
    obtain ⟨vo, h1, h2⟩ := T0.writes.ex
    exact ⟨Nat.ne_of_gt (lt_in h1), fun e => absurd (h2.lt _ e) (by omega)⟩
  refine (numsWrite_c (ps := [⟨p, o, x.id⟩, ⟨p, o + 1, x.size⟩, ⟨p, o + 2, x.min⟩, ⟨p, o + 3, x.pgs⟩]) U0.writes (gp := some y0.heap.size) r0 (fun k hk => by cases hk; exact hyc0) hq0 (by simp) (by have := U0.len; simp only [List.length_append, List.length_nil, encI_length, bB_length, leB_length] at this; omega)).mono ?_
  rintro _ w1 ⟨rfl, hW1⟩
  obtain ⟨L1, g1, Q1⟩ := U0.then hW1
  have S1 := Q1.cast (more' := [] ++ encI x.id ++ encI x.size ++ encI x.min ++ encI x.pgs) (by simp [Place.enc])
  clear Q1
  go_wp2
  exact bodyPost_end (v := .tuple #[]) (by simp [results, Tryz.results107]) rfl ⟨rfl, S1.done⟩
theorem listPoolWrite_c {w : World} {c p o : Nat} {out : List UInt8} {g : Option Nat} (h : Writes w c out g) {S : Nat → Prop} (hS : ∀ k, S k → k < w.heap.size ∧ k ≠ c ∧ g ≠ some k) {v : Value} (xs : List PoolT) (hl : ListIs 4 PoolT.Is w S v xs) (hv : Var w p o [v]) (hm : out.length + (leB 4 xs.length ++ xs.flatMap PoolT.enc).length ≤ 140737488352000) :
    Calls Tryz.prog 106 #[.pointer (some ⟨c, 0, none⟩), .pointer (some ⟨p, o, none⟩), .func (.func 107) #[.pointer (some ⟨c, 0, none⟩)] #[]] w fun e w' => e = .returned (.tuple #[]) ∧ Wrote w w' c out g (leB 4 xs.length ++ xs.flatMap PoolT.enc) := by
  obtain ⟨a, cp, rfl, hc⟩ := hl.shape
  have hnl := hl.small
  have p0 : w.cell? ⟨p, o, none⟩ = some (.slice a xs.length cp) := hv.cell (f := 0) (by simp)
  have hlp := hv.lt
  simp only [List.length_append, leB_length] at hm
  go_enter Tryz.func106, Tryz.ntmps106
  go_wp2_with fail
  refine (countWrite_c h xs.length (by omega) (by omega)).mono ?_
  rintro e w1 ⟨rfl, hW1⟩
  obtain ⟨L1, g1, S1⟩ := (Cod.start h).then hW1
  have c2 : w1.cell? ⟨c, 2, none⟩ = some (.bool false) := by
    obtain ⟨vo, h1, -⟩ := S1.writes.ex
    exact cell_in h1
  have hl1 : c < w1.heap.size := by
    obtain ⟨vo, h1, -⟩ := S1.writes.ex
    exact lt_in h1
  clear p0
  go_wp2
  go_loopw [22] (fun i w' => ∃ (k : Nat) (L : List UInt8) (gL : Option Nat), k ≤ xs.length ∧ i = .int .i64 k ∧ Cod w w' c out g (leB 4 xs.length ++ (xs.take k).flatMap PoolT.enc) L gL) (fun i _ => xs.length - (intOf i).toNat)
  case atStart => exact ⟨0, L1, g1, by omega, rfl, S1.cast (by simp)⟩
  case round =>
    obtain ⟨k, L, gL, hk, rfl, SL⟩ := hrel
    by_cases hk2 : k < xs.length
    · have hki : (k : Int) < (xs.length : Int) := by omega
      have hd := SL.data hS
      obtain ⟨b, off, cs, rfl, hb, hcl, hcell, hr⟩ := (hl.heap (fun _ _ h => PoolT.Is.heap h) (fun _ h => h) hd).at hk2
      have hfl := flatMap_le PoolT.enc xs (k + 1)
      have hft := flatMap_take PoolT.enc xs k hk2
      rw [hft, List.length_append] at hfl
      obtain ⟨e, he⟩ : ∃ e, e = xs[k] := ⟨_, rfl⟩
      rw [← he] at hr hft hfl
      have HFT := Lib.hid hft
      clear hft he hcl
      have hvr := SL.var h hv
      have p0 : wr.cell? ⟨p, o, none⟩ = some (.slice (some ⟨b, off, none⟩) xs.length cp) := hvr.cell (f := 0) (by simp)
      have l2 := hvr.lt
      have hr0 := hr
      obtain ⟨rfl, -⟩ := hr
      have y0 : wr.cell? ⟨b, off + k * 4, none⟩ = some (Value.int IntKind.i64 e.id) := hcell 0 (by omega)
      have y1 : wr.cell? ⟨b, off + k * 4 + 1, none⟩ = some (Value.int IntKind.i64 e.size) := hcell 1 (by omega)
      have y2 : wr.cell? ⟨b, off + k * 4 + 2, none⟩ = some (Value.int IntKind.i64 e.min) := hcell 2 (by omega)
      have y3 : wr.cell? ⟨b, off + k * 4 + 3, none⟩ = some (Value.int IntKind.i64 e.pgs) := hcell 3 (by omega)
      go_wp2_with fail
      have SA := SL.alloc (Obj.cells #[Value.int IntKind.i64 e.id, Value.int IntKind.i64 e.size, Value.int IntKind.i64 e.min, Value.int IntKind.i64 e.pgs] 156)
      have vA := var_new wr #[Value.int IntKind.i64 e.id, Value.int IntKind.i64 e.size, Value.int IntKind.i64 e.min, Value.int IntKind.i64 e.pgs] 156 (by decide) (by decide)
      have hrA : PoolT.Is (wr.alloc (Obj.cells #[Value.int IntKind.i64 e.id, Value.int IntKind.i64 e.size, Value.int IntKind.i64 e.min, Value.int IntKind.i64 e.pgs] 156)) S _ e := PoolT.Is.heap hr0
      generalize wr.alloc (Obj.cells #[Value.int IntKind.i64 e.id, Value.int IntKind.i64 e.size, Value.int IntKind.i64 e.min, Value.int IntKind.i64 e.pgs] 156) = wa at SA hrA vA ⊢
      have hbnd := SA.len
      simp only [List.length_append, leB_length] at hbnd
      refine (poolWrite_c SA.writes e hrA.2 vA (by omega)).mono ?_
      rintro _ w9 ⟨rfl, hG⟩
      obtain ⟨L9, g9, S9⟩ := SA.then hG
      have HS9 := Lib.hid (S9.cast (more' := leB 4 xs.length ++ (xs.take (k + 1)).flatMap PoolT.enc) (by rw [HFT.out, List.append_assoc]))
      clear S9 hG
      go_wp2
      exact ⟨⟨k + 1, L9, g9, by omega, by simp, HS9.out⟩, by simp [intOf]; omega⟩
    · obtain rfl : k = xs.length := by omega
      go_wp2
      rw [List.take_length] at SL
      exact bodyPost_ret (v := .tuple #[]) (by simp [results, Tryz.results106]) rfl ⟨rfl, SL.done⟩
theorem listintWrite_c {w : World} {c p o : Nat} {out : List UInt8} {g : Option Nat} (h : Writes w c out g) {S : Nat → Prop} (hS : ∀ k, S k → k < w.heap.size ∧ k ≠ c ∧ g ≠ some k) {v : Value} (xs : List Int) (hl : ListIs 1 intIs w S v xs) (hv : Var w p o [v]) (hm : out.length + (leB 4 xs.length ++ xs.flatMap encI).length ≤ 140737488352000) :
    Calls Tryz.prog 145 #[.pointer (some ⟨c, 0, none⟩), .pointer (some ⟨p, o, none⟩), .func (.func 62) #[.pointer (some ⟨c, 0, none⟩)] #[]] w fun e w' => e = .returned (.tuple #[]) ∧ Wrote w w' c out g (leB 4 xs.length ++ xs.flatMap encI) := by
  obtain ⟨a, cp, rfl, hc⟩ := hl.shape
  have hnl := hl.small
  have p0 : w.cell? ⟨p, o, none⟩ = some (.slice a xs.length cp) := hv.cell (f := 0) (by simp)
  have hlp := hv.lt
  simp only [List.length_append, leB_length] at hm
  go_enter Tryz.func145, Tryz.ntmps145
  go_wp2_with fail
  refine (countWrite_c h xs.length (by omega) (by omega)).mono ?_
  rintro e w1 ⟨rfl, hW1⟩
  obtain ⟨L1, g1, S1⟩ := (Cod.start h).then hW1
  have c2 : w1.cell? ⟨c, 2, none⟩ = some (.bool false) := by
    obtain ⟨vo, h1, -⟩ := S1.writes.ex
    exact cell_in h1
  have hl1 : c < w1.heap.size := by
    obtain ⟨vo, h1, -⟩ := S1.writes.ex
    exact lt_in h1
  clear p0
  go_wp2
  go_loopw [22] (fun i w' => ∃ (k : Nat) (L : List UInt8) (gL : Option Nat), k ≤ xs.length ∧ i = .int .i64 k ∧ Cod w w' c out g (leB 4 xs.length ++ (xs.take k).flatMap encI) L gL) (fun i _ => xs.length - (intOf i).toNat)
  case atStart => exact ⟨0, L1, g1, by omega, rfl, S1.cast (by simp)⟩
  case round =>
    obtain ⟨k, L, gL, hk, rfl, SL⟩ := hrel
    by_cases hk2 : k < xs.length
    · have hki : (k : Int) < (xs.length : Int) := by omega
      have hd := SL.data hS
      obtain ⟨b, off, cs, rfl, hb, hcl, hcell, hr⟩ := (hl.heap (fun _ _ h => intIs.heap h) (fun _ h => h) hd).at hk2
      have hfl := flatMap_le encI xs (k + 1)
      have hft := flatMap_take encI xs k hk2
      rw [hft, List.length_append] at hfl
      obtain ⟨e, he⟩ : ∃ e, e = xs[k] := ⟨_, rfl⟩
      rw [← he] at hr hft hfl
      have HFT := Lib.hid hft
      clear hft he hcl
      have hvr := SL.var h hv
      have p0 : wr.cell? ⟨p, o, none⟩ = some (.slice (some ⟨b, off, none⟩) xs.length cp) := hvr.cell (f := 0) (by simp)
      have l2 := hvr.lt
      have hr0 := hr
      obtain ⟨rfl, hin⟩ := hr
      have y0 := hcell 0 (by omega)
      simp only [Nat.mul_one, Nat.add_zero, List.getElem?_cons_zero] at y0
      go_wp2_with fail
      have SA := SL.alloc (Obj.cells #[Value.int IntKind.i64 e] 3)
      have vA := var_new wr #[Value.int IntKind.i64 e] 3 (by decide) (by decide)
      generalize wr.alloc (Obj.cells #[Value.int IntKind.i64 e] 3) = wa at SA vA ⊢
      have hbnd := SA.len
      simp only [List.length_append, leB_length] at hbnd
      refine (numWrite_c SA.writes e hin vA (by omega)).mono ?_
      rintro _ w9 ⟨rfl, hG⟩
      obtain ⟨L9, g9, S9⟩ := SA.then hG
      have HS9 := Lib.hid (S9.cast (more' := leB 4 xs.length ++ (xs.take (k + 1)).flatMap encI) (by rw [HFT.out, List.append_assoc]))
      clear S9 hG
      go_wp2
      exact ⟨⟨k + 1, L9, g9, by omega, by simp, HS9.out⟩, by simp [intOf]; omega⟩
    · obtain rfl : k = xs.length := by omega
      go_wp2
      rw [List.take_length] at SL
      exact bodyPost_ret (v := .tuple #[]) (by simp [results, Tryz.results145]) rfl ⟨rfl, SL.done⟩
theorem bucketWrite_c {w : World} {c p o : Nat} {out : List UInt8} {g : Option Nat} (h : Writes w c out g) {S : Nat → Prop} (hS : ∀ k, S k → k < w.heap.size ∧ k ≠ c ∧ g ≠ some k) (x : BucketT) {cs : List Value} (hx : BucketT.Is w S cs x) (hv : Var w p o cs) (hm : out.length + x.enc.length ≤ 140737488352000) :
    Calls Tryz.prog 109 #[.pointer (some ⟨c, 0, none⟩), .pointer (some ⟨p, o, none⟩)] w fun e w' => e = .returned (.tuple #[]) ∧ Wrote w w' c out g x.enc := by
  have hmf : ∀ (fn : Fn) (first cap : Array Value) (w : World), (Instr.makeFunc fn first cap).run Tryz.prog w = .ok (.func fn first cap) w := fun _ _ _ _ => rfl
  obtain ⟨v_items, v_weights, rfl, i0, i1, l0, l1⟩ := hx
  simp only [BucketT.enc, List.length_append, List.length_nil, encI_length, bB_length, leB_length] at hm
  simp only [BucketT.enc]
  have hlp := hv.lt
  have S0 := Cod.start h
  go_enter Tryz.func109, Tryz.ntmps109
  have lv0 := (S0.var h hv).lt
  go_wp2
  refine wp_region_ord [1, 2, 3, 4, 5, 6] [0] [7, 8] (by kernel_rfl) (by kernel_rfl) (fun _ _ d _ _ h => by cases d <;> exact h) ?_
  simp only [sel, List.filterMap_cons, List.filterMap_nil, List.getElem?_cons_zero, List.getElem?_cons_succ]
  repeat (quiet_step (fail))
  refine wpQuiet_nil ?_
  refine wpIdle_step (fun K hK => ?_)
  go_simp
  refine hK _ ?_
  clear hK
  refine wpIdle_nil ?_
  rintro _ ⟨nr, rfl⟩
  have T0 := S0.dN nr
  generalize w.drewN nr = y0 at T0 ⊢
  go_wp2_with fail
  have U0 := T0.alloc (Obj.cells #[Value.pointer (some ⟨p, o, none⟩), Value.pointer (some ⟨p, o + 1, none⟩)] 141)
  have r0 := (own_alloc y0 [Value.pointer (some ⟨p, o, none⟩), Value.pointer (some ⟨p, o + 1, none⟩)] 141 2 rfl (by decide)).reads
  generalize y0.alloc (Obj.cells #[Value.pointer (some ⟨p, o, none⟩), Value.pointer (some ⟨p, o + 1, none⟩)] 141) = z0 at U0 r0 ⊢
  have hq0 : ∀ q ∈ ([⟨p, o, x.id⟩, ⟨p, o + 1, x.kind⟩] : List Place), Var z0 q.p q.o [.int .i64 q.n] ∧ in64 q.n := by
    intro q hq
    simp only [List.mem_cons, List.not_mem_nil, or_false] at hq
    rcases hq with rfl | rfl
    · exact ⟨(U0.var h hv).sub (i := 0) (by intro f hf; simp at hf; subst hf; simp), i0⟩
    · exact ⟨(U0.var h hv).sub (i := 1) (by intro f hf; simp at hf; subst hf; simp), i1⟩
  have hyc0 : y0.heap.size ≠ c ∧ g ≠ some y0.heap.size := by
    obtain ⟨vo, h1, h2⟩ := T0.writes.ex
    exact ⟨Nat.ne_of_gt (lt_in h1), fun e => absurd (h2.lt _ e) (by omega)⟩
  refine (numsWrite_c (ps := [⟨p, o, x.id⟩, ⟨p, o + 1, x.kind⟩]) U0.writes (gp := some y0.heap.size) r0 (fun k hk => by cases hk; exact hyc0) hq0 (by simp) (by have := U0.len; simp only [List.length_append, List.length_nil, encI_length, bB_length, leB_length] at this; omega)).mono ?_
  rintro _ w1 ⟨rfl, hW1⟩
  obtain ⟨L1, g1, Q1⟩ := U0.then hW1
  have S1 := Q1.cast (more' := [] ++ encI x.id ++ encI x.kind) (by simp [Place.enc])
  clear Q1
  have hv1 : Var w1 p (o + 2) [v_items] := (S1.var h hv).sub (i := 2) (by intro f hf; simp at hf; subst hf; simp)
  have lv1 := hv1.lt
  have hd1 := S1.data hS
  go_wp2_with fail
  refine (listintWrite_c S1.writes (S1.sets hS) x.items (l0.heap (fun _ _ h => intIs.heap h) (fun _ h => h) hd1) hv1 (by have := S1.len; simp only [List.length_append, List.length_nil, encI_length, bB_length, leB_length] at this ⊢; omega)).mono ?_
  rintro _ w2 ⟨rfl, hW2⟩
  obtain ⟨L2, g2, Q2⟩ := S1.then hW2
  have S2 := Q2.cast (more' := [] ++ encI x.id ++ encI x.kind ++ leB 4 x.items.length ++ x.items.flatMap encI) (by simp only [List.append_assoc])
  clear Q2
  have hv2 : Var w2 p (o + 3) [v_weights] := (S2.var h hv).sub (i := 3) (by intro f hf; simp at hf; subst hf; simp)
  have lv2 := hv2.lt
  have hd2 := S2.data hS
  go_wp2_with fail
  refine (listintWrite_c S2.writes (S2.sets hS) x.weights (l1.heap (fun _ _ h => intIs.heap h) (fun _ h => h) hd2) hv2 (by have := S2.len; simp only [List.length_append, List.length_nil, encI_length, bB_length, leB_length] at this ⊢; omega)).mono ?_
  rintro _ w3 ⟨rfl, hW3⟩
  obtain ⟨L3, g3, Q3⟩ := S2.then hW3
  have S3 := Q3.cast (more' := [] ++ encI x.id ++ encI x.kind ++ leB 4 x.items.length ++ x.items.flatMap encI ++ leB 4 x.weights.length ++ x.weights.flatMap encI) (by simp only [List.append_assoc])
  clear Q3
  go_wp2
  exact bodyPost_end (v := .tuple #[]) (by simp [results, Tryz.results109]) rfl ⟨rfl, S3.done⟩
theorem listBucketWrite_c {w : World} {c p o : Nat} {out : List UInt8} {g : Option Nat} (h : Writes w c out g) {S : Nat → Prop} (hS : ∀ k, S k → k < w.heap.size ∧ k ≠ c ∧ g ≠ some k) {v : Value} (xs : List BucketT) (hl : ListIs 4 BucketT.Is w S v xs) (hv : Var w p o [v]) (hm : out.length + (leB 4 xs.length ++ xs.flatMap BucketT.enc).length ≤ 140737488352000) :
    Calls Tryz.prog 108 #[.pointer (some ⟨c, 0, none⟩), .pointer (some ⟨p, o, none⟩), .func (.func 109) #[.pointer (some ⟨c, 0, none⟩)] #[]] w fun e w' => e = .returned (.tuple #[]) ∧ Wrote w w' c out g (leB 4 xs.length ++ xs.flatMap BucketT.enc) := by
  obtain ⟨a, cp, rfl, hc⟩ := hl.shape
  have hnl := hl.small
  have p0 : w.cell? ⟨p, o, none⟩ = some (.slice a xs.length cp) := hv.cell (f := 0) (by simp)
  have hlp := hv.lt
  simp only [List.length_append, leB_length] at hm
  go_enter Tryz.func108, Tryz.ntmps108
  go_wp2_with fail
  refine (countWrite_c h xs.length (by omega) (by omega)).mono ?_
  rintro e w1 ⟨rfl, hW1⟩
  obtain ⟨L1, g1, S1⟩ := (Cod.start h).then hW1
  have c2 : w1.cell? ⟨c, 2, none⟩ = some (.bool false) := by
    obtain ⟨vo, h1, -⟩ := S1.writes.ex
    exact cell_in h1
  have hl1 : c < w1.heap.size := by
    obtain ⟨vo, h1, -⟩ := S1.writes.ex
    exact lt_in h1
  clear p0
  go_wp2
  go_loopw [22] (fun i w' => ∃ (k : Nat) (L : List UInt8) (gL : Option Nat), k ≤ xs.length ∧ i = .int .i64 k ∧ Cod w w' c out g (leB 4 xs.length ++ (xs.take k).flatMap BucketT.enc) L gL) (fun i _ => xs.length - (intOf i).toNat)
  case atStart => exact ⟨0, L1, g1, by omega, rfl, S1.cast (by simp)⟩
  case round =>
    obtain ⟨k, L, gL, hk, rfl, SL⟩ := hrel
    by_cases hk2 : k < xs.length
    · have hki : (k : Int) < (xs.length : Int) := by omega
      have hd := SL.data hS
      obtain ⟨b, off, cs, rfl, hb, hcl, hcell, hr⟩ := (hl.heap (fun _ _ h => BucketT.Is.heap h (fun _ h => h) hd) (fun _ h => h) hd).at hk2
      have hfl := flatMap_le BucketT.enc xs (k + 1)
      have hft := flatMap_take BucketT.enc xs k hk2
      rw [hft, List.length_append] at hfl
      obtain ⟨e, he⟩ : ∃ e, e = xs[k] := ⟨_, rfl⟩
      rw [← he] at hr hft hfl
      have HFT := Lib.hid hft
      clear hft he hcl
      have hvr := SL.var h hv
      have p0 : wr.cell? ⟨p, o, none⟩ = some (.slice (some ⟨b, off, none⟩) xs.length cp) := hvr.cell (f := 0) (by simp)
      have l2 := hvr.lt
      have hr0 := hr
      obtain ⟨uv_items, uv_weights, rfl, -, -, m0, m1⟩ := hr
      obtain ⟨au0, cu0, rfl, -⟩ := m0.shape
      obtain ⟨au1, cu1, rfl, -⟩ := m1.shape
      have y0 : wr.cell? ⟨b, off + k * 4, none⟩ = some (Value.int IntKind.i64 e.id) := hcell 0 (by omega)
      have y1 : wr.cell? ⟨b, off + k * 4 + 1, none⟩ = some (Value.int IntKind.i64 e.kind) := hcell 1 (by omega)
      have y2 : wr.cell? ⟨b, off + k * 4 + 2, none⟩ = some (Value.slice au0 e.items.length cu0) := hcell 2 (by omega)
      have y3 : wr.cell? ⟨b, off + k * 4 + 3, none⟩ = some (Value.slice au1 e.weights.length cu1) := hcell 3 (by omega)
      go_wp2_with fail
      have SA := SL.alloc (Obj.cells #[Value.int IntKind.i64 e.id, Value.int IntKind.i64 e.kind, Value.slice au0 e.items.length cu0, Value.slice au1 e.weights.length cu1] 159)
      have vA := var_new wr #[Value.int IntKind.i64 e.id, Value.int IntKind.i64 e.kind, Value.slice au0 e.items.length cu0, Value.slice au1 e.weights.length cu1] 159 (by decide) (by decide)
      have hrA : BucketT.Is (wr.alloc (Obj.cells #[Value.int IntKind.i64 e.id, Value.int IntKind.i64 e.kind, Value.slice au0 e.items.length cu0, Value.slice au1 e.weights.length cu1] 159)) S _ e := BucketT.Is.heap hr0 (fun _ h => h) (fun k hk => Below.heap_alloc _ _ _ (SL.sets hS k hk).1)
      generalize wr.alloc (Obj.cells #[Value.int IntKind.i64 e.id, Value.int IntKind.i64 e.kind, Value.slice au0 e.items.length cu0, Value.slice au1 e.weights.length cu1] 159) = wa at SA hrA vA ⊢
      have hbnd := SA.len
      simp only [List.length_append, leB_length] at hbnd
      refine (bucketWrite_c SA.writes (SA.sets hS) e hrA vA (by omega)).mono ?_
      rintro _ w9 ⟨rfl, hG⟩
      obtain ⟨L9, g9, S9⟩ := SA.then hG
      have HS9 := Lib.hid (S9.cast (more' := leB 4 xs.length ++ (xs.take (k + 1)).flatMap BucketT.enc) (by rw [HFT.out, List.append_assoc]))
      clear S9 hG
      go_wp2
      exact ⟨⟨k + 1, L9, g9, by omega, by simp, HS9.out⟩, by simp [intOf]; omega⟩
    · obtain rfl : k = xs.length := by omega
      go_wp2
      rw [List.take_length] at SL
      exact bodyPost_ret (v := .tuple #[]) (by simp [results, Tryz.results108]) rfl ⟨rfl, SL.done⟩
theorem changeWrite_c {w : World} {c p o : Nat} {out : List UInt8} {g : Option Nat} (h : Writes w c out g) {S : Nat → Prop} (hS : ∀ k, S k → k < w.heap.size ∧ k ≠ c ∧ g ≠ some k) (x : ChangeT) {cs : List Value} (hx : ChangeT.Is w S cs x) (hv : Var w p o cs) (hm : out.length + x.enc.length ≤ 140737488352000) :
    Calls Tryz.prog 70 #[.pointer (some ⟨c, 0, none⟩), .pointer (some ⟨p, o, none⟩)] w fun e w' => e = .returned (.tuple #[]) ∧ Wrote w w' c out g x.enc := by
  have hmf : ∀ (fn : Fn) (first cap : Array Value) (w : World), (Instr.makeFunc fn first cap).run Tryz.prog w = .ok (.func fn first cap) w := fun _ _ _ _ => rfl
  obtain ⟨v_bucket_items, v_bucket_weights, rfl, i0, i1, i2, i3, i4, i5, i6, i7, i8, l0, l1⟩ := hx
  simp only [ChangeT.enc, List.length_append, List.length_nil, encI_length, bB_length, leB_length] at hm
  simp only [ChangeT.enc]
  have hlp := hv.lt
  have S0 := Cod.start h
  go_enter Tryz.func70, Tryz.ntmps70
  have lv0 := (S0.var h hv).lt
  go_wp2
  refine wp_region_ord [1, 2, 3, 4, 5, 6, 7, 8, 9] [0] [10, 11] (by kernel_rfl) (by kernel_rfl) (fun _ _ d _ _ h => by cases d <;> exact h) ?_
  simp only [sel, List.filterMap_cons, List.filterMap_nil, List.getElem?_cons_zero, List.getElem?_cons_succ]
  repeat (quiet_step (fail))
  refine wpQuiet_nil ?_
  refine wpIdle_step (fun K hK => ?_)
  go_simp
  refine hK _ ?_
  clear hK
  refine wpIdle_nil ?_
  rintro _ ⟨nr, rfl⟩
  have T0 := S0.dN nr
  generalize w.drewN nr = y0 at T0 ⊢
  go_wp2_with fail
  have U0 := T0.alloc (Obj.cells #[Value.pointer (some ⟨p, o, none⟩), Value.pointer (some ⟨p, o + 1, none⟩), Value.pointer (some ⟨p, o + 2, none⟩)] 141)
  have r0 := (own_alloc y0 [Value.pointer (some ⟨p, o, none⟩), Value.pointer (some ⟨p, o + 1, none⟩), Value.pointer (some ⟨p, o + 2, none⟩)] 141 3 rfl (by decide)).reads
  generalize y0.alloc (Obj.cells #[Value.pointer (some ⟨p, o, none⟩), Value.pointer (some ⟨p, o + 1, none⟩), Value.pointer (some ⟨p, o + 2, none⟩)] 141) = z0 at U0 r0 ⊢
  have hq0 : ∀ q ∈ ([⟨p, o, x.kind⟩, ⟨p, o + 1, x.osd⟩, ⟨p, o + 2, x.value⟩] : List Place), Var z0 q.p q.o [.int .i64 q.n] ∧ in64 q.n := by
    intro q hq
    simp only [List.mem_cons, List.not_mem_nil, or_false] at hq
    rcases hq with rfl | rfl | rfl
    · exact ⟨(U0.var h hv).sub (i := 0) (by intro f hf; simp at hf; subst hf; simp), i0⟩
    · exact ⟨(U0.var h hv).sub (i := 1) (by intro f hf; simp at hf; subst hf; simp), i1⟩
    · exact ⟨(U0.var h hv).sub (i := 2) (by intro f hf; simp at hf; subst hf; simp), i2⟩
  have hyc0 : y0.heap.size ≠ c ∧ g ≠ some y0.heap.size := by
    obtain ⟨vo, h1, h2⟩ := T0.writes.ex
    exact ⟨Nat.ne_of_gt (lt_in h1), fun e => absurd (h2.lt _ e) (by omega)⟩
  refine (numsWrite_c (ps := [⟨p, o, x.kind⟩, ⟨p, o + 1, x.osd⟩, ⟨p, o + 2, x.value⟩]) U0.writes (gp := some y0.heap.size) r0 (fun k hk => by cases hk; exact hyc0) hq0 (by simp) (by have := U0.len; simp only [List.length_append, List.length_nil, encI_length, bB_length, leB_length] at this; omega)).mono ?_
  rintro _ w1 ⟨rfl, hW1⟩
  obtain ⟨L1, g1, Q1⟩ := U0.then hW1
  have S1 := Q1.cast (more' := [] ++ encI x.kind ++ encI x.osd ++ encI x.value) (by simp [Place.enc])
  clear Q1
  have hv1 : Var w1 p (o + 3) [Value.int IntKind.i64 x.pool.id, Value.int IntKind.i64 x.pool.size, Value.int IntKind.i64 x.pool.min, Value.int IntKind.i64 x.pool.pgs] := (S1.var h hv).sub (i := 3) (by
    intro f hf
    simp only [List.length_cons, List.length_nil] at hf
    have : f = 0 ∨ f = 1 ∨ f = 2 ∨ f = 3 := by omega
    rcases this with rfl | rfl | rfl | rfl <;> simp)
  have lv1 := hv1.lt
  go_wp2_with fail
  refine (poolWrite_c S1.writes x.pool ⟨i3, i4, i5, i6⟩ hv1 (by have := S1.len; simp only [List.length_append, List.length_nil, encI_length, bB_length, leB_length] at this; omega)).mono ?_
  rintro _ w2 ⟨rfl, hW2⟩
  obtain ⟨L2, g2, S2⟩ := S1.then hW2
  have hv2 : Var w2 p (o + 7) [Value.int IntKind.i64 x.bucket.id, Value.int IntKind.i64 x.bucket.kind, v_bucket_items, v_bucket_weights] := (S2.var h hv).sub (i := 7) (by
    intro f hf
    simp only [List.length_cons, List.length_nil] at hf
    have : f = 0 ∨ f = 1 ∨ f = 2 ∨ f = 3 := by omega
    rcases this with rfl | rfl | rfl | rfl <;> simp)
  have lv2 := hv2.lt
  go_wp2_with fail
  have hd2 := S2.data hS
  have hx2 : BucketT.Is w2 S [Value.int IntKind.i64 x.bucket.id, Value.int IntKind.i64 x.bucket.kind, v_bucket_items, v_bucket_weights] x.bucket := ⟨_, _, rfl, i7, i8, l0.heap (fun _ _ h => intIs.heap h) (fun _ h => h) hd2, l1.heap (fun _ _ h => intIs.heap h) (fun _ h => h) hd2⟩
  refine (bucketWrite_c S2.writes (S2.sets hS) x.bucket hx2 hv2 (by have := S2.len; simp only [List.length_append, List.length_nil, encI_length, bB_length, leB_length] at this; omega)).mono ?_
  rintro _ w3 ⟨rfl, hW3⟩
  obtain ⟨L3, g3, S3⟩ := S2.then hW3
  go_wp2
  exact bodyPost_end (v := .tuple #[]) (by simp [results, Tryz.results70]) rfl ⟨rfl, S3.done⟩
theorem listChangeWrite_c {w : World} {c p o : Nat} {out : List UInt8} {g : Option Nat} (h : Writes w c out g) {S : Nat → Prop} (hS : ∀ k, S k → k < w.heap.size ∧ k ≠ c ∧ g ≠ some k) {v : Value} (xs : List ChangeT) (hl : ListIs 11 ChangeT.Is w S v xs) (hv : Var w p o [v]) (hm : out.length + (leB 4 xs.length ++ xs.flatMap ChangeT.enc).length ≤ 140737488352000) :
    Calls Tryz.prog 69 #[.pointer (some ⟨c, 0, none⟩), .pointer (some ⟨p, o, none⟩), .func (.func 70) #[.pointer (some ⟨c, 0, none⟩)] #[]] w fun e w' => e = .returned (.tuple #[]) ∧ Wrote w w' c out g (leB 4 xs.length ++ xs.flatMap ChangeT.enc) := by
  obtain ⟨a, cp, rfl, hc⟩ := hl.shape
  have hnl := hl.small
  have p0 : w.cell? ⟨p, o, none⟩ = some (.slice a xs.length cp) := hv.cell (f := 0) (by simp)
  have hlp := hv.lt
  simp only [List.length_append, leB_length] at hm
  go_enter Tryz.func69, Tryz.ntmps69
  go_wp2_with fail
  refine (countWrite_c h xs.length (by omega) (by omega)).mono ?_
  rintro e w1 ⟨rfl, hW1⟩
  obtain ⟨L1, g1, S1⟩ := (Cod.start h).then hW1
  have c2 : w1.cell? ⟨c, 2, none⟩ = some (.bool false) := by
    obtain ⟨vo, h1, -⟩ := S1.writes.ex
    exact cell_in h1
  have hl1 : c < w1.heap.size := by
    obtain ⟨vo, h1, -⟩ := S1.writes.ex
    exact lt_in h1
  clear p0
  go_wp2
  go_loopw [22] (fun i w' => ∃ (k : Nat) (L : List UInt8) (gL : Option Nat), k ≤ xs.length ∧ i = .int .i64 k ∧ Cod w w' c out g (leB 4 xs.length ++ (xs.take k).flatMap ChangeT.enc) L gL) (fun i _ => xs.length - (intOf i).toNat)
  case atStart => exact ⟨0, L1, g1, by omega, rfl, S1.cast (by simp)⟩
  case round =>
    obtain ⟨k, L, gL, hk, rfl, SL⟩ := hrel
    by_cases hk2 : k < xs.length
    · have hki : (k : Int) < (xs.length : Int) := by omega
      have hd := SL.data hS
      obtain ⟨b, off, cs, rfl, hb, hcl, hcell, hr⟩ := (hl.heap (fun _ _ h => ChangeT.Is.heap h (fun _ h => h) hd) (fun _ h => h) hd).at hk2
      have hfl := flatMap_le ChangeT.enc xs (k + 1)
      have hft := flatMap_take ChangeT.enc xs k hk2
      rw [hft, List.length_append] at hfl
      obtain ⟨e, he⟩ : ∃ e, e = xs[k] := ⟨_, rfl⟩
      rw [← he] at hr hft hfl
      have HFT := Lib.hid hft
      clear hft he hcl
      have hvr := SL.var h hv
      have p0 : wr.cell? ⟨p, o, none⟩ = some (.slice (some ⟨b, off, none⟩) xs.length cp) := hvr.cell (f := 0) (by simp)
      have l2 := hvr.lt
      have hr0 := hr
      obtain ⟨uv_bucket_items, uv_bucket_weights, rfl, -, -, -, -, -, -, -, -, -, m0, m1⟩ := hr
      obtain ⟨au0, cu0, rfl, -⟩ := m0.shape
      obtain ⟨au1, cu1, rfl, -⟩ := m1.shape
      have y0 : wr.cell? ⟨b, off + k * 11, none⟩ = some (Value.int IntKind.i64 e.kind) := hcell 0 (by omega)
      have y1 : wr.cell? ⟨b, off + k * 11 + 1, none⟩ = some (Value.int IntKind.i64 e.osd) := hcell 1 (by omega)
      have y2 : wr.cell? ⟨b, off + k * 11 + 2, none⟩ = some (Value.int IntKind.i64 e.value) := hcell 2 (by omega)
      have y3 : wr.cell? ⟨b, off + k * 11 + 3, none⟩ = some (Value.int IntKind.i64 e.pool.id) := hcell 3 (by omega)
      have y4 : wr.cell? ⟨b, off + k * 11 + 4, none⟩ = some (Value.int IntKind.i64 e.pool.size) := hcell 4 (by omega)
      have y5 : wr.cell? ⟨b, off + k * 11 + 5, none⟩ = some (Value.int IntKind.i64 e.pool.min) := hcell 5 (by omega)
      have y6 : wr.cell? ⟨b, off + k * 11 + 6, none⟩ = some (Value.int IntKind.i64 e.pool.pgs) := hcell 6 (by omega)
      have y7 : wr.cell? ⟨b, off + k * 11 + 7, none⟩ = some (Value.int IntKind.i64 e.bucket.id) := hcell 7 (by omega)
      have y8 : wr.cell? ⟨b, off + k * 11 + 8, none⟩ = some (Value.int IntKind.i64 e.bucket.kind) := hcell 8 (by omega)
      have y9 : wr.cell? ⟨b, off + k * 11 + 9, none⟩ = some (Value.slice au0 e.bucket.items.length cu0) := hcell 9 (by omega)
      have y10 : wr.cell? ⟨b, off + k * 11 + 10, none⟩ = some (Value.slice au1 e.bucket.weights.length cu1) := hcell 10 (by omega)
      go_wp2_with fail
      have SA := SL.alloc (Obj.cells #[Value.int IntKind.i64 e.kind, Value.int IntKind.i64 e.osd, Value.int IntKind.i64 e.value, Value.int IntKind.i64 e.pool.id, Value.int IntKind.i64 e.pool.size, Value.int IntKind.i64 e.pool.min, Value.int IntKind.i64 e.pool.pgs, Value.int IntKind.i64 e.bucket.id, Value.int IntKind.i64 e.bucket.kind, Value.slice au0 e.bucket.items.length cu0, Value.slice au1 e.bucket.weights.length cu1] 161)
      have vA := var_new wr #[Value.int IntKind.i64 e.kind, Value.int IntKind.i64 e.osd, Value.int IntKind.i64 e.value, Value.int IntKind.i64 e.pool.id, Value.int IntKind.i64 e.pool.size, Value.int IntKind.i64 e.pool.min, Value.int IntKind.i64 e.pool.pgs, Value.int IntKind.i64 e.bucket.id, Value.int IntKind.i64 e.bucket.kind, Value.slice au0 e.bucket.items.length cu0, Value.slice au1 e.bucket.weights.length cu1] 161 (by decide) (by decide)
      have hrA : ChangeT.Is (wr.alloc (Obj.cells #[Value.int IntKind.i64 e.kind, Value.int IntKind.i64 e.osd, Value.int IntKind.i64 e.value, Value.int IntKind.i64 e.pool.id, Value.int IntKind.i64 e.pool.size, Value.int IntKind.i64 e.pool.min, Value.int IntKind.i64 e.pool.pgs, Value.int IntKind.i64 e.bucket.id, Value.int IntKind.i64 e.bucket.kind, Value.slice au0 e.bucket.items.length cu0, Value.slice au1 e.bucket.weights.length cu1] 161)) S _ e := ChangeT.Is.heap hr0 (fun _ h => h) (fun k hk => Below.heap_alloc _ _ _ (SL.sets hS k hk).1)
      generalize wr.alloc (Obj.cells #[Value.int IntKind.i64 e.kind, Value.int IntKind.i64 e.osd, Value.int IntKind.i64 e.value, Value.int IntKind.i64 e.pool.id, Value.int IntKind.i64 e.pool.size, Value.int IntKind.i64 e.pool.min, Value.int IntKind.i64 e.pool.pgs, Value.int IntKind.i64 e.bucket.id, Value.int IntKind.i64 e.bucket.kind, Value.slice au0 e.bucket.items.length cu0, Value.slice au1 e.bucket.weights.length cu1] 161) = wa at SA hrA vA ⊢
      have hbnd := SA.len
      simp only [List.length_append, leB_length] at hbnd
      refine (changeWrite_c SA.writes (SA.sets hS) e hrA vA (by omega)).mono ?_
      rintro _ w9 ⟨rfl, hG⟩
      obtain ⟨L9, g9, S9⟩ := SA.then hG
      have HS9 := Lib.hid (S9.cast (more' := leB 4 xs.length ++ (xs.take (k + 1)).flatMap ChangeT.enc) (by rw [HFT.out, List.append_assoc]))
      clear S9 hG
      go_wp2
      exact ⟨⟨k + 1, L9, g9, by omega, by simp, HS9.out⟩, by simp [intOf]; omega⟩
    · obtain rfl : k = xs.length := by omega
      go_wp2
      rw [List.take_length] at SL
      exact bodyPost_ret (v := .tuple #[]) (by simp [results, Tryz.results69]) rfl ⟨rfl, SL.done⟩
theorem clusterWrite_c {w : World} {c p o : Nat} {out : List UInt8} {g : Option Nat} (h : Writes w c out g) {S : Nat → Prop} (hS : ∀ k, S k → k < w.heap.size ∧ k ≠ c ∧ g ≠ some k) (x : MapT) {cs : List Value} (hx : MapT.Is w S cs x) (hv : Var w p o cs) (hm : out.length + x.enc.length ≤ 140737488352000) :
    Calls Tryz.prog 41 #[.pointer (some ⟨c, 0, none⟩), .pointer (some ⟨p, o, none⟩)] w fun e w' => e = .returned (.tuple #[]) ∧ Wrote w w' c out g x.enc := by
  have hmf : ∀ (fn : Fn) (first cap : Array Value) (w : World), (Instr.makeFunc fn first cap).run Tryz.prog w = .ok (.func fn first cap) w := fun _ _ _ _ => rfl
  obtain ⟨v_osds, v_pools, v_buckets, rfl, i0, i1, l0, l1, l2⟩ := hx
  simp only [MapT.enc, List.length_append, List.length_nil, encI_length, bB_length, leB_length] at hm
  simp only [MapT.enc]
  have hlp := hv.lt
  have S0 := Cod.start h
  go_enter Tryz.func41, Tryz.ntmps41
  have hv0 : Var w p (o) [Value.int IntKind.i64 x.epoch] := (S0.var h hv).sub (i := 0) (by intro f hf; simp at hf; subst hf; simp)
  have lv0 := hv0.lt
  go_wp2_with fail
  refine (numWrite_c S0.writes x.epoch i0 hv0 (by have := S0.len; simp only [List.length_append, List.length_nil, encI_length, bB_length, leB_length] at this; omega)).mono ?_
  rintro _ w1 ⟨rfl, hW1⟩
  obtain ⟨L1, g1, S1⟩ := S0.then hW1
  have hv1 : Var w1 p (o + 1) [v_osds] := (S1.var h hv).sub (i := 1) (by intro f hf; simp at hf; subst hf; simp)
  have lv1 := hv1.lt
  have hd1 := S1.data hS
  go_wp2_with fail
  refine (listOsdWrite_c S1.writes (S1.sets hS) x.osds (l0.heap (fun _ _ h => OsdT.Is.heap h) (fun _ h => h) hd1) hv1 (by have := S1.len; simp only [List.length_append, List.length_nil, encI_length, bB_length, leB_length] at this ⊢; omega)).mono ?_
  rintro _ w2 ⟨rfl, hW2⟩
  obtain ⟨L2, g2, Q2⟩ := S1.then hW2
  have S2 := Q2.cast (more' := [] ++ encI x.epoch ++ leB 4 x.osds.length ++ x.osds.flatMap OsdT.enc) (by simp only [List.append_assoc])
  clear Q2
  have hv2 : Var w2 p (o + 2) [v_pools] := (S2.var h hv).sub (i := 2) (by intro f hf; simp at hf; subst hf; simp)
  have lv2 := hv2.lt
  have hd2 := S2.data hS
  go_wp2_with fail
  refine (listPoolWrite_c S2.writes (S2.sets hS) x.pools (l1.heap (fun _ _ h => PoolT.Is.heap h) (fun _ h => h) hd2) hv2 (by have := S2.len; simp only [List.length_append, List.length_nil, encI_length, bB_length, leB_length] at this ⊢; omega)).mono ?_
  rintro _ w3 ⟨rfl, hW3⟩
  obtain ⟨L3, g3, Q3⟩ := S2.then hW3
  have S3 := Q3.cast (more' := [] ++ encI x.epoch ++ leB 4 x.osds.length ++ x.osds.flatMap OsdT.enc ++ leB 4 x.pools.length ++ x.pools.flatMap PoolT.enc) (by simp only [List.append_assoc])
  clear Q3
  have hv3 : Var w3 p (o + 3) [v_buckets] := (S3.var h hv).sub (i := 3) (by intro f hf; simp at hf; subst hf; simp)
  have lv3 := hv3.lt
  have hd3 := S3.data hS
  go_wp2_with fail
  refine (listBucketWrite_c S3.writes (S3.sets hS) x.buckets (l2.heap (fun _ _ h => BucketT.Is.heap h (fun _ h => h) hd3) (fun _ h => h) hd3) hv3 (by have := S3.len; simp only [List.length_append, List.length_nil, encI_length, bB_length, leB_length] at this ⊢; omega)).mono ?_
  rintro _ w4 ⟨rfl, hW4⟩
  obtain ⟨L4, g4, Q4⟩ := S3.then hW4
  have S4 := Q4.cast (more' := [] ++ encI x.epoch ++ leB 4 x.osds.length ++ x.osds.flatMap OsdT.enc ++ leB 4 x.pools.length ++ x.pools.flatMap PoolT.enc ++ leB 4 x.buckets.length ++ x.buckets.flatMap BucketT.enc) (by simp only [List.append_assoc])
  clear Q4
  have hv4 : Var w4 p (o + 4) [Value.int IntKind.i64 x.leaf] := (S4.var h hv).sub (i := 4) (by intro f hf; simp at hf; subst hf; simp)
  have lv4 := hv4.lt
  go_wp2_with fail
  refine (numWrite_c S4.writes x.leaf i1 hv4 (by have := S4.len; simp only [List.length_append, List.length_nil, encI_length, bB_length, leB_length] at this; omega)).mono ?_
  rintro _ w5 ⟨rfl, hW5⟩
  obtain ⟨L5, g5, S5⟩ := S4.then hW5
  go_wp2
  exact bodyPost_end (v := .tuple #[]) (by simp [results, Tryz.results41]) rfl ⟨rfl, S5.done⟩
theorem incWrite_c {w : World} {c p o : Nat} {out : List UInt8} {g : Option Nat} (h : Writes w c out g) {S : Nat → Prop} (hS : ∀ k, S k → k < w.heap.size ∧ k ≠ c ∧ g ≠ some k) (x : IncT) {cs : List Value} (hx : IncT.Is w S cs x) (hv : Var w p o cs) (hm : out.length + x.enc.length ≤ 140737488352000) :
    Calls Tryz.prog 36 #[.pointer (some ⟨c, 0, none⟩), .pointer (some ⟨p, o, none⟩)] w fun e w' => e = .returned (.tuple #[]) ∧ Wrote w w' c out g x.enc := by
  have hmf : ∀ (fn : Fn) (first cap : Array Value) (w : World), (Instr.makeFunc fn first cap).run Tryz.prog w = .ok (.func fn first cap) w := fun _ _ _ _ => rfl
  obtain ⟨v_changes, rfl, i0, l0⟩ := hx
  simp only [IncT.enc, List.length_append, List.length_nil, encI_length, bB_length, leB_length] at hm
  simp only [IncT.enc]
  have hlp := hv.lt
  have S0 := Cod.start h
  go_enter Tryz.func36, Tryz.ntmps36
  have hv0 : Var w p (o) [Value.int IntKind.i64 x.epoch] := (S0.var h hv).sub (i := 0) (by intro f hf; simp at hf; subst hf; simp)
  have lv0 := hv0.lt
  go_wp2_with fail
  refine (numWrite_c S0.writes x.epoch i0 hv0 (by have := S0.len; simp only [List.length_append, List.length_nil, encI_length, bB_length, leB_length] at this; omega)).mono ?_
  rintro _ w1 ⟨rfl, hW1⟩
  obtain ⟨L1, g1, S1⟩ := S0.then hW1
  have hv1 : Var w1 p (o + 1) [v_changes] := (S1.var h hv).sub (i := 1) (by intro f hf; simp at hf; subst hf; simp)
  have lv1 := hv1.lt
  have hd1 := S1.data hS
  go_wp2_with fail
  refine (listChangeWrite_c S1.writes (S1.sets hS) x.changes (l0.heap (fun _ _ h => ChangeT.Is.heap h (fun _ h => h) hd1) (fun _ h => h) hd1) hv1 (by have := S1.len; simp only [List.length_append, List.length_nil, encI_length, bB_length, leB_length] at this ⊢; omega)).mono ?_
  rintro _ w2 ⟨rfl, hW2⟩
  obtain ⟨L2, g2, Q2⟩ := S1.then hW2
  have S2 := Q2.cast (more' := [] ++ encI x.epoch ++ leB 4 x.changes.length ++ x.changes.flatMap ChangeT.enc) (by simp only [List.append_assoc])
  clear Q2
  go_wp2
  exact bodyPost_end (v := .tuple #[]) (by simp [results, Tryz.results36]) rfl ⟨rfl, S2.done⟩
end Go.Proofs.YtmbjealliinpdaaGreat
end

section

namespace Go.Proofs.YtmbjealliinpdaaGreat
open Go.RowKit
/-- Cells from place o on are put, the others stay. -/
structure Put (cur : Array Value) (o : Nat) (cs : List Value) (cur' : Array Value) : Prop where
  size : cur'.size = cur.size
  at_ : ∀ f, f < cs.length → cur'[o + f]? = cs[f]?
  other : ∀ j, (j < o ∨ o + cs.length ≤ j) → cur'[j]? = cur[j]?
theorem Put.nil (cur : Array Value) (o : Nat) : Put cur o [] cur := ⟨rfl, fun f hf => by simp at hf, fun _ _ => rfl⟩
theorem Put.one (cur : Array Value) (o : Nat) (v : Value) (h : o < cur.size) : Put cur o [v] (cur.setIfInBounds o v) := by
  refine ⟨by simp, fun f hf => ?_, fun j hj => ?_⟩
  · simp at hf
    subst hf
    simp [h]
  · simp at hj
    rw [Array.getElem?_setIfInBounds_ne (by omega)]
theorem Put.same {cur : Array Value} {o : Nat} {v : Value} (h : cur[o]? = some v) : Put cur o [v] cur :=
  ⟨rfl, fun f hf => by simp at hf; subst hf; simpa using h, fun _ _ => rfl⟩
theorem Put.append {c0 c1 c2 : Array Value} {o : Nat} {a b : List Value} (h1 : Put c0 o a c1) (h2 : Put c1 (o + a.length) b c2) : Put c0 o (a ++ b) c2 := by
  refine ⟨h2.size.trans h1.size, fun f hf => ?_, fun j hj => ?_⟩
  · rw [List.length_append] at hf
    by_cases hfa : f < a.length
    · rw [h2.other _ (by omega), h1.at_ f hfa, List.getElem?_append_left hfa]
    · have := h2.at_ (f - a.length) (by omega)
      rw [show o + a.length + (f - a.length) = o + f by omega] at this
      rw [this, List.getElem?_append_right (by omega)]
  · rw [List.length_append] at hj
    rw [h2.other j (by omega), h1.other j (by omega)]
/-- Put anew. -/
theorem Put.over {c0 c1 : Array Value} {o : Nat} {v u : Value} (h : Put c0 o [v] c1) : Put c0 o [u] (c1.setIfInBounds o u) := by
  have h0 := h.at_ 0 (by simp)
  simp only [Nat.add_zero, List.getElem?_cons_zero] at h0
  have hl : o < c1.size := (Array.getElem?_eq_some_iff.1 h0).1
  refine ⟨by simp [h.size], fun f hf => ?_, fun j hj => ?_⟩
  · simp at hf
    subst hf
    simp [hl]
  · simp at hj
    rw [Array.getElem?_setIfInBounds_ne (by omega)]
    exact h.other j (by simpa using hj)
/-- What a call has made anew. -/
def New (w w' : World) (k : Nat) : Prop := w.heap.size ≤ k ∧ k < w'.heap.size
/-- What is so of blocks stays so while they stay. -/
def Stable {α : Type} (R : World → (Nat → Prop) → List Value → α → Prop) : Prop :=
  ∀ (w w' : World) (S S' : Nat → Prop) (cs : List Value) (x : α), R w S cs x → (∀ k, S k → S' k) → (∀ k, S k → w'.heap[k]? = w.heap[k]?) → R w' S' cs x
theorem ListIs.stable {α : Type} {R : World → (Nat → Prop) → List Value → α → Prop} (hR : Stable R) {size : Nat} {w w' : World} {S S' : Nat → Prop} {v : Value} {xs : List α} (h : ListIs size R w S v xs) (hS : ∀ k, S k → S' k) (hk : ∀ k, S k → w'.heap[k]? = w.heap[k]?) : ListIs size R w' S' v xs :=
  h.heap (fun cs x hr => hR w w' S S' cs x hr hS hk) hS hk
/-- Where a list's reader stands: it has read xs. -/
structure Lst {α : Type} (R : World → (Nat → Prop) → List Value → α → Prop) (size : Nat) (e : TypeId) (w w' : World) (c p o : Nat) (g : Option Nat) (cur : Array Value) (t : TypeId) (v : Value) (xs : List α) (Ls : List (List Value)) (g' : Option Nat) : Prop where
  blk : ∃ cur', Blk w' p cur' t c g ∧ Put cur o [v] cur'
  own : Own w' e size v xs.length Ls.flatten g'
  lens : ∀ l ∈ Ls, l.length = size
  data : ∀ (i : Nat) (x : α), xs[i]? = some x → ∃ cs, Ls[i]? = some cs ∧ R w' (fun k => w.heap.size ≤ k ∧ k < w'.heap.size ∧ g' ≠ some k) cs x
  len : Ls.length = xs.length
  new : ∀ b, g' = some b → w.heap.size ≤ b
  kept : Kept (fun k => k = c ∨ k = p) w w'
theorem Lst.start {α : Type} (R : World → (Nat → Prop) → List Value → α → Prop) (size : Nat) (e : TypeId) {w w' : World} {c p o : Nat} {g : Option Nat} {cur : Array Value} {t : TypeId} (hb : Blk w' p cur t c g) (hz : cur[o]? = some (.slice none 0 0)) (hk : Kept (· = c) w w') : Lst R size e w w' c p o g cur t (.slice none 0 0) ([] : List α) [] none :=
  ⟨⟨cur, hb, Put.same hz⟩, Own.nil w' e size, by simp, (fun i x h => by simp at h), rfl, (fun b h => by cases h), hk.mono (fun _ _ h => .inl h)⟩
theorem Lst.cell {α : Type} {R : World → (Nat → Prop) → List Value → α → Prop} {size : Nat} {e : TypeId} {w w' : World} {c p o : Nat} {g g' : Option Nat} {cur : Array Value} {t : TypeId} {v : Value} {xs : List α} {Ls : List (List Value)} (h : Lst R size e w w' c p o g cur t v xs Ls g') : ∃ cur', w'.heap[p]? = some (.cells cur' t) ∧ cur'[o]? = some v := by
  obtain ⟨cur', h1, h2⟩ := h.blk
  exact ⟨cur', h1.heap, by simpa using h2.at_ 0 (by simp)⟩
theorem Lst.was {α : Type} {R : World → (Nat → Prop) → List Value → α → Prop} {size : Nat} {e : TypeId} {w w' : World} {c p o : Nat} {g g' : Option Nat} {cur : Array Value} {t : TypeId} {v : Value} {xs : List α} {Ls : List (List Value)} (h : Lst R size e w w' c p o g cur t v xs Ls g') : Was w' p t cur.size := by
  obtain ⟨cur', h1, h2⟩ := h.blk
  exact ⟨cur', h1.heap, h2.size⟩
theorem Was.kept {w w1 w2 : World} {p : Nat} {t : TypeId} {n : Nat} {F G : Nat → Prop} (h : Was w p t n) (k1 : Kept F w w1) (k2 : Kept G w1 w2) (h1 : ¬ F p) (h2 : ¬ G p) : Was w2 p t n := by
  obtain ⟨cur, hh, hs⟩ := h
  have := (k1.block p (lt_in hh) h1).trans hh
  exact ⟨cur, (k2.block p (lt_in this) h2).trans this, hs⟩
theorem Lst.grow {α : Type} {R : World → (Nat → Prop) → List Value → α → Prop} (hR : Stable R) {size : Nat} {e : TypeId} {w wr w3 w4 : World} {c p o : Nat} {g g' g4 : Option Nat} {cur : Array Value} {t : TypeId} {v v4 : Value} {xs : List α} {Ls : List (List Value)} {cs : List Value} {x : α}
    (L : Lst R size e w wr c p o g cur t v xs Ls g') (hpl : p < w.heap.size) (hcl : c < w.heap.size) (k3 : Kept (· = c) wr w3) (hx : R w3 (New wr w3) cs x) (hcs : cs.length = size)
    (o4 : Own w4 e size v4 (xs.length + 1) (Ls.flatten ++ cs) g4) (k4 : Kept (fun k => g' = some k) w3 w4) (hg4 : ∀ k, g4 = some k → g' = some k ∨ w3.heap.size ≤ k) :
    Lst R size e w (w4.setCell ⟨p, o, none⟩ v4) c p o g cur t v4 (xs ++ [x]) (Ls ++ [cs]) g4 := by
  obtain ⟨cur', hb, hput⟩ := L.blk
  have s0 := L.kept.size
  have s3 := k3.size
  have s4 := k4.size
  have s5 : (w4.setCell ⟨p, o, none⟩ v4).heap.size = w4.heap.size := by simp [World.setCell]
  have ks : Kept (· = p) w4 (w4.setCell ⟨p, o, none⟩ v4) := Kept.setCell _ _ _ rfl
  have hgp : g' ≠ some p := fun h => by have := L.new p h; omega
  have hgr : ∀ k, g' = some k → k < wr.heap.size := L.own.lt
  have hg4w : ∀ k, g4 = some k → w.heap.size ≤ k := fun k hk => by
    rcases hg4 k hk with h | h
    · exact L.new k h
    · omega
  have hb3 := hb.kept k3 hb.ne
  have hb4 := hb3.kept k4 hgp
  refine ⟨⟨_, ⟨heap_setCell_same hb4.heap v4, hb.ne, hb.neg⟩, hput.over⟩, ?_, ?_, ?_, ?_, hg4w, ?_⟩
  · have := o4.kept ks (fun k hk e => by have := hg4w k hk; omega)
    rw [List.length_append, List.length_singleton, List.flatten_append]
    simpa using this
  · intro l hl
    rcases List.mem_append.1 hl with h | h
    · exact L.lens l h
    · simp at h; rw [h]; exact hcs
  · intro i y hy
    by_cases hi : i < xs.length
    · rw [List.getElem?_append_left hi] at hy
      obtain ⟨ds, h1, h2⟩ := L.data i y hy
      refine ⟨ds, by rw [List.getElem?_append_left (by rw [L.len]; exact hi)]; exact h1, hR _ _ _ _ _ _ h2 ?_ ?_⟩
      · rintro k ⟨q1, q2, q3⟩
        refine ⟨q1, by omega, fun h => ?_⟩
        rcases hg4 k h with h' | h'
        · exact q3 h'
        · omega
      · rintro k ⟨q1, q2, q3⟩
        rw [ks.block k (by omega) (by omega), k4.block k (by omega) q3, k3.block k q2 (by omega)]
    · rw [List.getElem?_append_right (by omega)] at hy
      have hi2 : i - xs.length = 0 := by
        have := (List.getElem?_eq_some_iff.1 hy).1
        simp at this
        omega
      rw [hi2] at hy
      simp at hy
      subst hy
      refine ⟨cs, by rw [List.getElem?_append_right (by rw [L.len]; omega), L.len, hi2]; rfl, hR _ _ _ _ _ _ hx ?_ ?_⟩
      · rintro k ⟨q1, q2⟩
        refine ⟨by omega, by omega, fun h => ?_⟩
        rcases hg4 k h with h' | h'
        · have := hgr k h'; omega
        · omega
      · rintro k ⟨q1, q2⟩
        rw [ks.block k (by omega) (by omega), k4.block k (by omega) (fun h => by have := hgr k h; omega)]
  · rw [List.length_append, List.length_append, L.len]; rfl
  · exact ((L.kept.thn k3 (fun i hi => .inl (.inl hi))).thn k4 (fun i hi => .inr (L.new i hi))).trans (ks.mono (fun _ _ h => .inr h))
/-- The reader's own state behind such a round. -/
theorem Lst.rd {α : Type} {R : World → (Nat → Prop) → List Value → α → Prop} {size : Nat} {e : TypeId} {w wr w2 w3 w4 : World} {c p o : Nat} {g g' : Option Nat} {cur : Array Value} {t : TypeId} {v v4 : Value} {xs : List α} {Ls : List (List Value)} {r : List UInt8}
    (L : Lst R size e w wr c p o g cur t v xs Ls g') (hcl : c < w.heap.size) (hgl : ∀ k, g = some k → k < w.heap.size) (h : Rd w3 c r g) (k4 : Kept (fun k => g' = some k) w3 w4) : Rd (w4.setCell ⟨p, o, none⟩ v4) c r g := by
  obtain ⟨cur', hb, -⟩ := L.blk
  have h4 := h.kept k4 (fun h => by have := L.new c h; omega) (fun k hk h => by have := L.new k h; have := hgl k hk; omega)
  exact h4.kept (Kept.setCell (F := (· = p)) _ _ _ rfl) (fun e => hb.ne e.symm) (fun k hk e => hb.neg (by rw [hk, e]))
theorem Lst.done {α : Type} {R : World → (Nat → Prop) → List Value → α → Prop} (hR : Stable R) {size : Nat} (h0 : 0 < size) {e : TypeId} {w w' : World} {c p o : Nat} {g g' : Option Nat} {cur : Array Value} {t : TypeId} {v : Value} {xs : List α} {Ls : List (List Value)} (L : Lst R size e w w' c p o g cur t v xs Ls g') : ListIs size R w' (New w w') v xs := by
  obtain ⟨a, cp, rfl, h1, h2⟩ := L.own.shape
  refine ⟨a, cp, rfl, h1, h2, fun k x hx => ?_⟩
  have hk : k < xs.length := (List.getElem?_eq_some_iff.1 hx).1
  obtain ⟨b, off, cu, hg, ha, -, -, hh, hsz, hll, hel⟩ := L.own.pos (by omega)
  obtain ⟨cs, hc1, hc2⟩ := L.data k x hx
  have hcl : cs.length = size := L.lens cs (List.mem_of_getElem? hc1)
  refine ⟨b, off, cs, ha, ⟨L.new b hg, lt_in hh⟩, hcl, fun f hf => ?_, hR _ _ _ _ _ _ hc2 (fun k hk => ⟨hk.1, hk.2.1⟩) (fun _ _ => rfl)⟩
  have hfg := flatten_get L.lens hc1 f hf
  have hfl : k * size + f < Ls.flatten.length := by
    rw [flatten_len L.lens, L.len]
    have : k * size + size ≤ xs.length * size := by rw [← Nat.succ_mul]; exact Nat.mul_le_mul_right _ hk
    omega
  rw [cell_in hh, Nat.add_assoc, hel _ hfl, hfg]
/-- Behind one item more. -/
theorem pN_next {α : Type} {p : Pr α} {n k : Nat} {bs r r2 : List UInt8} {xs : List α} {x : α} (hk : k < n) (h : pN p n bs = (pN p (n - k) r).bind (fun z => some (xs ++ z.1, z.2))) (hp : p r = some (x, r2)) : pN p n bs = (pN p (n - (k + 1)) r2).bind (fun z => some ((xs ++ [x]) ++ z.1, z.2)) := by
  rw [h, show n - k = (n - (k + 1)) + 1 by omega]
  simp only [pN]
  rw [hp]
  simp only [Option.bind_some]
  cases pN p (n - (k + 1)) r2 with
  | none => rfl
  | some z => simp
theorem pN_stop {α : Type} {p : Pr α} {n k : Nat} {bs r : List UInt8} {xs : List α} (hk : k < n) (h : pN p n bs = (pN p (n - k) r).bind (fun z => some (xs ++ z.1, z.2))) (hp : p r = none) : pN p n bs = none := by
  rw [h, show n - k = (n - (k + 1)) + 1 by omega]
  simp only [pN]
  rw [hp]
  rfl
theorem pN_end {α : Type} {p : Pr α} {n : Nat} {bs r : List UInt8} {xs : List α} (h : pN p n bs = (pN p (n - n) r).bind (fun z => some (xs ++ z.1, z.2))) : pN p n bs = some (xs, r) := by
  rw [h, Nat.sub_self]
  simp [pN]
theorem intIs_stable : Stable intIs := fun _ _ _ _ _ _ h _ _ => h
/-- What a reader's call comes to. -/
def Got {α : Type} (R : World → (Nat → Prop) → List Value → α → Prop) (p : Pr α) (bs : List UInt8) (w : World) (c q o : Nat) (g : Option Nat) (cur : Array Value) (t : TypeId) (e : Ending) (w' : World) : Prop :=
  Kept (fun k => k = c ∨ k = q) w w' ∧ ((p bs = none ∧ e = .panicked wrongP ∧ Was w' q t cur.size) ∨ ∃ x r cur' cs, p bs = some (x, r) ∧ e = .returned (.tuple #[]) ∧ Rd w' c r g ∧ Blk w' q cur' t c g ∧ Put cur o cs cur' ∧ R w' (New w w') cs x)
def flagIs (w : World) (S : Nat → Prop) (cs : List Value) (b : Bool) : Prop := cs = [.bool b]
def numsIs (w : World) (S : Nat → Prop) (cs : List Value) (ns : List Int) : Prop := cs = ns.map (Value.int .i64)
def sliceIs {α : Type} (size : Nat) (R : World → (Nat → Prop) → List Value → α → Prop) (w : World) (S : Nat → Prop) (cs : List Value) (xs : List α) : Prop := ∃ v, cs = [v] ∧ ListIs size R w S v xs
theorem numI_c {w : World} {c p o : Nat} {bs : List UInt8} {g : Option Nat} {cur : Array Value} {t : TypeId} {m : Int} (h : Rd w c bs g) (hb : Blk w p cur t c g) (hm : cur[o]? = some (.int .i64 m)) :
    Calls Tryz.prog 62 #[.pointer (some ⟨c, 0, none⟩), .pointer (some ⟨p, o, none⟩)] w (Got intIs pI bs w c p o g cur t) := by
  refine (numG_c m h hb hm).mono ?_
  rintro e w' ⟨k, ⟨n, r, hp, he, h1, h2⟩ | h⟩
  · exact ⟨k, .inr ⟨n, r, _, _, hp, he, h1, h2, Put.one _ _ _ (Array.getElem?_eq_some_iff.1 hm).1, rfl, (lawI.dec _ _ _ hp).2⟩⟩
  · exact ⟨k, .inl h⟩
theorem flagI_c {w : World} {c p o : Nat} {bs : List UInt8} {g : Option Nat} {cur : Array Value} {t : TypeId} (h : Rd w c bs g) (hb : Blk w p cur t c g) (hm : cur[o]? = some (.bool false)) :
    Calls Tryz.prog 140 #[.pointer (some ⟨c, 0, none⟩), .pointer (some ⟨p, o, none⟩)] w (Got flagIs pF bs w c p o g cur t) := by
  refine (flagG_c h hb hm).mono ?_
  rintro e w' ⟨k, ⟨n, r, hp, he, h1, h2⟩ | h⟩
  · exact ⟨k, .inr ⟨n, r, _, _, hp, he, h1, h2, Put.one _ _ _ (Array.getElem?_eq_some_iff.1 hm).1, rfl⟩⟩
  · exact ⟨k, .inl h⟩
theorem fills_put : ∀ (m o : Nat) (ns : List Int) (cur : Array Value), ns.length = m → o + m ≤ cur.size → Put cur o (ns.map (Value.int .i64)) (fills (List.range' o m) ns cur)
  | 0, o, [], cur, _, _ => Put.nil _ _
  | m + 1, o, n :: ns, cur, hl, hs => by
    simp only [List.range'_succ, fills, List.map_cons]
    have h1 := Put.one cur o (.int .i64 n) (by omega)
    have h2 := fills_put m (o + 1) ns (cur.setIfInBounds o (.int .i64 n)) (by simpa using hl) (by simp; omega)
    exact h1.append h2
theorem numsI_c {w : World} {c p o m : Nat} {bs : List UInt8} {g : Option Nat} {cur : Array Value} {t : TypeId} (h : Rd w c bs g) (hb : Blk w p cur t c g) {v : Value} {gp : Option Nat} (hr : Reads w 1 v m ((List.range' o m).map (fun o => Value.pointer (some ⟨p, o, none⟩))) gp) (hgp : ∀ k, gp = some k → k ≠ c ∧ k ≠ p) (hi : ∀ f, f < m → ∃ n, cur[o + f]? = some (.int .i64 n)) (hl : m ≤ 100) :
    Calls Tryz.prog 64 #[.pointer (some ⟨c, 0, none⟩), v] w (Got numsIs (pN pI m) bs w c p o g cur t) := by
  have hlen : (List.range' o m).length = m := by simp
  have hs : 0 < m → o + m ≤ cur.size := fun h0 => by
    obtain ⟨n, hn⟩ := hi (m - 1) (by omega)
    have := (Array.getElem?_eq_some_iff.1 hn).1
    omega
  refine (numsG_c (List.range' o m) h hb (by rw [hlen]; exact hr) hgp ?_ (by rw [hlen]; exact hl)).mono ?_
  · intro q hq
    obtain ⟨h1, h2⟩ := List.mem_range'_1.1 hq
    obtain ⟨n, hn⟩ := hi (q - o) (by omega)
    exact ⟨n, by rw [← hn]; congr 1; omega⟩
  · rw [hlen]
    rintro e w' ⟨k, ⟨ns, r, hp, he, h1, h2⟩ | h⟩
    · refine ⟨k, .inr ⟨ns, r, _, _, hp, he, h1, h2, ?_, rfl⟩⟩
      have hn := (pN_dec lawI _ _ _ _ hp).2.1
      by_cases h0 : 0 < m
      · exact fills_put m o ns cur hn (hs h0)
      · obtain rfl : m = 0 := by omega
        obtain rfl : ns = [] := List.eq_nil_of_length_eq_zero hn
        exact Put.nil _ _
    · exact ⟨k, .inl h⟩
/-- The data of a part, at the end of the whole. -/
theorem ListIs.late {α : Type} {R : World → (Nat → Prop) → List Value → α → Prop} (hR : Stable R) {size c p : Nat} {w w1 w2 w3 : World} {v : Value} {xs : List α} (h : ListIs size R w2 (New w1 w2) v xs) (k1 : w.heap.size ≤ w1.heap.size) (k3 : Kept (fun k => k = c ∨ k = p) w2 w3) (hc : c < w.heap.size) (hp : p < w.heap.size) : ListIs size R w3 (New w w3) v xs := by
  have s3 := k3.size
  exact h.stable hR (fun k hk => ⟨Nat.le_trans k1 hk.1, Nat.lt_of_lt_of_le hk.2 s3⟩) (fun k hk => k3.block k hk.2 (fun e => by have := hk.1; omega))
theorem kept_alloc2 {c p : Nat} {w y z : World} (j : Kept (fun _ => False) w y) (k : Kept (fun k => k = c ∨ k = p) y z) : Kept (fun k => k = c ∨ k = p) w z := (j.mono (fun _ _ h => h.elim)).trans k
end Go.Proofs.YtmbjealliinpdaaGreat
end

section

namespace Go.Proofs.YtmbjealliinpdaaGreat
open Go.RowKit
section
variable {P : Program} {ops : Array Oper} {md : Region.Mode} {Q : Exit → Act → World → Prop}
theorem wpOp_of_list {i : Nat} {o : Oper} {K : Act → World → Prop} {a : Act} {w : World} (ho : ops[i]? = some o) (h : wpList P ops (Exit.then K Q) [o] a w) : wpOp P ops Q i K a w := by
  have h1 : wpOp P ops (Exit.then K Q) i (wpList P ops (Exit.then K Q) []) a w := by unfold wpOp; simp only [ho]; exact h
  exact wpOp_mono (fun a' w' h' => h') (wpOp_then h1)
theorem wpList_nil_then {K : Act → World → Prop} {a : Act} {w : World} (h : K a w) : wpList P ops (Exit.then K Q) [] a w := h
theorem wpAny_step {f : Nat} {listed : Array Bool} {a : Act} {w : World} (R : List Nat) (hR : Region.ready md ops listed = R) (hne : R ≠ []) (h : ∀ i ∈ R, wpOp P ops Q i (wpAny P md ops Q f (listed.setIfInBounds i true)) a w) : wpAny P md ops Q (f + 1) listed a w :=
  ⟨fun h0 => absurd (hR.symm.trans h0) hne, fun i hi => h i (by rw [← hR]; exact hi)⟩
/-- i ahead of j, and k anywhere. -/
theorem wpAny_fork3 {f i j k : Nat} {listed : Array Bool} {a : Act} {w : World} (G : Act → World → Prop)
    (h1 : Region.ready md ops listed = [i, k]) (h2 : Region.ready md ops (listed.setIfInBounds i true) = [j, k]) (h3 : Region.ready md ops ((listed.setIfInBounds i true).setIfInBounds j true) = [k])
    (h4 : Region.ready md ops ((listed.setIfInBounds i true).setIfInBounds k true) = [j]) (h5 : Region.ready md ops (listed.setIfInBounds k true) = [i]) (h6 : Region.ready md ops ((listed.setIfInBounds k true).setIfInBounds i true) = [j])
    (hij : i ≠ j) (hik : i ≠ k) (hjk : j ≠ k)
    (rest : ∀ a' w', G a' w' → wpAny P md ops Q f (((listed.setIfInBounds i true).setIfInBounds j true).setIfInBounds k true) a' w')
    (p1 : wpOp P ops Q i (fun a1 w1 => wpOp P ops Q j (fun a2 w2 => wpOp P ops Q k G a2 w2) a1 w1 ∧ wpOp P ops Q k (fun a2 w2 => wpOp P ops Q j G a2 w2) a1 w1) a w)
    (p2 : wpOp P ops Q k (fun a1 w1 => wpOp P ops Q i (fun a2 w2 => wpOp P ops Q j G a2 w2) a1 w1) a w) : wpAny P md ops Q (f + 3) listed a w := by
  have e1 : ((listed.setIfInBounds i true).setIfInBounds k true).setIfInBounds j true = ((listed.setIfInBounds i true).setIfInBounds j true).setIfInBounds k true := Array.setIfInBounds_comm _ _ (Ne.symm hjk)
  have e2 : ((listed.setIfInBounds k true).setIfInBounds i true).setIfInBounds j true = ((listed.setIfInBounds i true).setIfInBounds j true).setIfInBounds k true := by
    rw [Array.setIfInBounds_comm _ _ (Ne.symm hik), e1]
  refine wpAny_step [i, k] h1 (by simp) fun x hx => ?_
  simp only [List.mem_cons, List.not_mem_nil, or_false] at hx
  rcases hx with rfl | rfl
  · refine wpOp_mono (fun a1 w1 h => ?_) p1
    refine wpAny_step [j, k] h2 (by simp) fun x hx => ?_
    simp only [List.mem_cons, List.not_mem_nil, or_false] at hx
    rcases hx with rfl | rfl
    · refine wpOp_mono (fun a2 w2 h' => ?_) h.1
      refine wpAny_step [k] h3 (by simp) fun x hx => ?_
      simp only [List.mem_cons, List.not_mem_nil, or_false] at hx
      subst hx
      exact wpOp_mono (fun a3 w3 h'' => rest _ _ h'') h'
    · refine wpOp_mono (fun a2 w2 h' => ?_) h.2
      refine wpAny_step [j] h4 (by simp) fun x hx => ?_
      simp only [List.mem_cons, List.not_mem_nil, or_false] at hx
      subst hx
      refine wpOp_mono (fun a3 w3 h'' => ?_) h'
      rw [e1]
      exact rest _ _ h''
  · refine wpOp_mono (fun a1 w1 h => ?_) p2
    refine wpAny_step [i] h5 (by simp) fun y hy => ?_
    simp only [List.mem_cons, List.not_mem_nil, or_false] at hy
    subst hy
    refine wpOp_mono (fun a2 w2 h' => ?_) h
    refine wpAny_step [j] h6 (by simp) fun y hy => ?_
    simp only [List.mem_cons, List.not_mem_nil, or_false] at hy
    subst hy
    refine wpOp_mono (fun a3 w3 h'' => ?_) h'
    rw [e2]
    exact rest _ _ h''
/-- i and k, in either order. -/
theorem wpAny_fork2 {f i k : Nat} {listed : Array Bool} {a : Act} {w : World} (G : Act → World → Prop)
    (h1 : Region.ready md ops listed = [i, k]) (h2 : Region.ready md ops (listed.setIfInBounds i true) = [k]) (h3 : Region.ready md ops (listed.setIfInBounds k true) = [i]) (hik : i ≠ k)
    (rest : ∀ a' w', G a' w' → wpAny P md ops Q f ((listed.setIfInBounds i true).setIfInBounds k true) a' w')
    (p1 : wpOp P ops Q i (fun a1 w1 => wpOp P ops Q k G a1 w1) a w) (p2 : wpOp P ops Q k (fun a1 w1 => wpOp P ops Q i G a1 w1) a w) : wpAny P md ops Q (f + 2) listed a w := by
  refine wpAny_step [i, k] h1 (by simp) fun x hx => ?_
  simp only [List.mem_cons, List.not_mem_nil, or_false] at hx
  rcases hx with rfl | rfl
  · refine wpOp_mono (fun a1 w1 h => ?_) p1
    refine wpAny_step [k] h2 (by simp) fun x hx => ?_
    simp only [List.mem_cons, List.not_mem_nil, or_false] at hx
    subst hx
    exact wpOp_mono (fun a3 w3 h'' => rest _ _ h'') h
  · refine wpOp_mono (fun a1 w1 h => ?_) p2
    refine wpAny_step [i] h3 (by simp) fun y hy => ?_
    simp only [List.mem_cons, List.not_mem_nil, or_false] at hy
    subst hy
    refine wpOp_mono (fun a3 w3 h'' => ?_) h
    rw [Array.setIfInBounds_comm _ _ (Ne.symm hik)]
    exact rest _ _ h''
/-- Some that come up one by one; then more. -/
def seqPre (md : Region.Mode) (ops : Array Oper) : List Nat → Array Bool → Bool
  | [], _ => true
  | i :: r, listed => decide (Region.ready md ops listed = [i]) && seqPre md ops r (listed.setIfInBounds i true)
def setAll (listed : Array Bool) : List Nat → Array Bool
  | [] => listed
  | i :: r => setAll (listed.setIfInBounds i true) r
theorem wpAny_pre {f : Nat} {l : List Oper} (hl : ops = l.toArray) {G : Act → World → Prop} : ∀ (T : List Nat) (listed : Array Bool) (a : Act) (w : World), seqPre md ops T listed = true →
    (∀ a' w', G a' w' → wpAny P md ops Q f (setAll listed T) a' w') → wpList P ops (Exit.then G Q) (sel l T) a w → wpAny P md ops Q (f + T.length) listed a w
  | [], _, _, _, _, rest, h => rest _ _ h
  | i :: r, listed, a, w, hB, rest, h => by
    simp only [seqPre, Bool.and_eq_true, decide_eq_true_eq] at hB
    have hmem : i ∈ Region.ready md ops listed := by rw [hB.1]; simp
    obtain ⟨_, o, ho, _⟩ := mem_ready.1 hmem
    have ho' : l[i]? = some o := by subst hl; simpa using ho
    refine wpAny_step [i] hB.1 (by simp) fun k hk => ?_
    have hki : k = i := by simpa using hk
    subst hki
    have h' : wpList P ops (Exit.then G Q) (o :: sel l r) a w := by simpa [sel, ho'] using h
    have hw : wpOp P ops (Exit.then G Q) k (wpList P ops (Exit.then G Q) (sel l r)) a w := by unfold wpOp; simp only [ho]; exact h'
    exact wpOp_mono (fun a' w' h'' => wpAny_pre hl r _ a' w' hB.2 rest h'') (wpOp_then hw)
end
end Go.Proofs.YtmbjealliinpdaaGreat
end

section

namespace Go.Proofs.YtmbjealliinpdaaGreat
open Go.RowKit
theorem same_c {w : World} {v u : Value} {bs : List UInt8} {n m : Nat} {g k : Option Nat} (h1 : Reads w 1 v n (bs.map bv) g) (h2 : Reads w 1 u m (bs.map bv) k) :
    Calls Tryz.prog 7 #[v, u] w fun e w' => e = .returned (.bool true) ∧ w' = w := by
  have s1 := Reads.string_run (P := Tryz.prog) h1 Tryz.underlying22 Tryz.underlying5 Tryz.underlying9
  have s2 := Reads.string_run (P := Tryz.prog) h2 Tryz.underlying22 Tryz.underlying5 Tryz.underlying9
  go_enter Tryz.func7, Tryz.ntmps7
  go_wp2
  go_ret
  exact ⟨rfl, rfl⟩
theorem num_c {w : World} (n : Int) : Calls Tryz.prog 6 #[.int .i64 n] w fun e w' => e = .returned (.int .i64 n) ∧ w' = w := by
  go_enter Tryz.func6, Tryz.ntmps6
  go_wp2
  go_ret
  exact ⟨rfl, rfl⟩
theorem ownSS (w : World) : Own (w.alloc (Obj.cells #[Value.string ⟨#[97]⟩, Value.string ⟨#[]⟩] 9)) 9 1 (.slice (some ⟨w.heap.size, 0, none⟩) 2 2) 2 (([⟨#[97]⟩, ⟨#[]⟩] : List ByteArray).map Value.string) (some w.heap.size) := own_alloc w _ _ 2 rfl (by decide)
theorem b13 : ([2, 0, 0, 0, 1, 0, 0, 0, 97, 0, 0, 0, 0] : List UInt8).map bv = [Value.int IntKind.u8 2, Value.int IntKind.u8 0, Value.int IntKind.u8 0, Value.int IntKind.u8 0, Value.int IntKind.u8 1, Value.int IntKind.u8 0, Value.int IntKind.u8 0, Value.int IntKind.u8 0, Value.int IntKind.u8 97, Value.int IntKind.u8 0, Value.int IntKind.u8 0, Value.int IntKind.u8 0, Value.int IntKind.u8 0] := by simp [bv]
theorem ownBB (w : World) : Own (w.alloc (Obj.cells #[Value.int IntKind.u8 2, Value.int IntKind.u8 0, Value.int IntKind.u8 0, Value.int IntKind.u8 0, Value.int IntKind.u8 1, Value.int IntKind.u8 0, Value.int IntKind.u8 0, Value.int IntKind.u8 0, Value.int IntKind.u8 97, Value.int IntKind.u8 0, Value.int IntKind.u8 0, Value.int IntKind.u8 0, Value.int IntKind.u8 0] 5)) 5 1 (.slice (some ⟨w.heap.size, 0, none⟩) 13 13) 13 (([2, 0, 0, 0, 1, 0, 0, 0, 97, 0, 0, 0, 0] : List UInt8).map bv) (some w.heap.size) := by
  rw [b13]
  exact own_alloc w _ _ 13 rfl (by decide)
theorem strs : leB 4 2 ++ encTs [⟨#[97]⟩, ⟨#[]⟩] = [2, 0, 0, 0, 1, 0, 0, 0, 97, 0, 0, 0, 0] := by decide
theorem z8 : ([0, 0, 0, 0, 0, 0, 0, 0] : List UInt8).map bv = [Value.int IntKind.u8 0, Value.int IntKind.u8 0, Value.int IntKind.u8 0, Value.int IntKind.u8 0, Value.int IntKind.u8 0, Value.int IntKind.u8 0, Value.int IntKind.u8 0, Value.int IntKind.u8 0] := by simp [bv]
theorem ownZZ (w : World) : Own (w.alloc (Obj.cells #[Value.int IntKind.u8 0, Value.int IntKind.u8 0, Value.int IntKind.u8 0, Value.int IntKind.u8 0, Value.int IntKind.u8 0, Value.int IntKind.u8 0, Value.int IntKind.u8 0, Value.int IntKind.u8 0] 5)) 5 1 (.slice (some ⟨w.heap.size, 0, none⟩) 8 8) 8 (([0, 0, 0, 0, 0, 0, 0, 0] : List UInt8).map bv) (some w.heap.size) := by
  rw [z8]
  exact own_alloc w _ _ 8 rfl (by decide)
theorem frame0 : frameB [] = [0, 0, 0, 0, 0, 0, 0, 0] := by decide
theorem make8 (w : World) : (Instr.makeSlice 22 (.int .i64 8) (.int .i64 8)).run Tryz.prog w = .ok (.slice (some ⟨w.heap.size, 0, none⟩) 8 8) (w.alloc (Obj.cells #[Value.int IntKind.u8 0, Value.int IntKind.u8 0, Value.int IntKind.u8 0, Value.int IntKind.u8 0, Value.int IntKind.u8 0, Value.int IntKind.u8 0, Value.int IntKind.u8 0, Value.int IntKind.u8 0] 5)) := by
  obtain ⟨i0, hi, hz0, hz1, hz2⟩ := info_all u8info
  rw [run_make w 22 5 i0 (.int .u8 0) Tryz.underlying22 hi hz0 .i64 .i64 8 8 (by decide) (by decide) (by rw [hz2]; decide) (by decide), hz1, show madeCells (Value.int IntKind.u8 0).cells ((8 : Int).toNat * 1) = #[Value.int IntKind.u8 0, Value.int IntKind.u8 0, Value.int IntKind.u8 0, Value.int IntKind.u8 0, Value.int IntKind.u8 0, Value.int IntKind.u8 0, Value.int IntKind.u8 0, Value.int IntKind.u8 0] by kernel_rfl]
  rfl
/-- Behind the first operations. -/
def AwG1 (w : World) (x4 : Value) (a' : Act) (w' : World) : Prop := ∃ v8 v9 v10 g9 g10, a' = ⟨#[Value.bool false, Value.slice none 0 0, Value.int IntKind.i64 74, Value.tuple #[Value.slice none 0 0, Value.int IntKind.i64 74], x4, Value.tuple #[Value.slice none 0 0, Value.int IntKind.i64 74], Value.slice none 0 0, Value.int IntKind.i64 74, v8, v9, v10, undef, undef, undef, undef, undef, undef, undef, undef, undef, undef, undef], []⟩ ∧ Reads w' 1 v9 13 (([2, 0, 0, 0, 1, 0, 0, 0, 97, 0, 0, 0, 0] : List UInt8).map bv) g9 ∧ Reads w' 1 v10 13 (([2, 0, 0, 0, 1, 0, 0, 0, 97, 0, 0, 0, 0] : List UInt8).map bv) g10 ∧ Kept (fun _ => False) w w'
def AwG2 (w : World) (x4 v8 v9 v10 : Value) (a' : Act) (w' : World) : Prop := ∃ v13 v14 g13 g14, a' = ⟨#[Value.bool false, Value.slice none 0 0, Value.int IntKind.i64 74, Value.tuple #[Value.slice none 0 0, Value.int IntKind.i64 74], x4, Value.tuple #[Value.slice none 0 0, Value.int IntKind.i64 74], Value.slice none 0 0, Value.int IntKind.i64 74, v8, v9, v10, .bool true, .bool true, v13, v14, undef, undef, undef, undef, undef, undef, undef], []⟩ ∧ Reads w' 1 v13 8 (([0, 0, 0, 0, 0, 0, 0, 0] : List UInt8).map bv) g13 ∧ Reads w' 1 v14 8 (([0, 0, 0, 0, 0, 0, 0, 0] : List UInt8).map bv) g14 ∧ Kept (fun _ => False) w w'
theorem awake_c {w : World} : Calls Tryz.prog 29 #[] w fun e w' => e = .returned (.bool true) ∧ Kept (fun _ => False) w w' := by
  go_enter Tryz.func29, Tryz.ntmps29
  go_wp2_with fail
  have e4 : ([1, 0, 0, 0] : List UInt8).map bv = [Value.int IntKind.u8 1, Value.int IntKind.u8 0, Value.int IntKind.u8 0, Value.int IntKind.u8 0] := by simp [bv]
  have o1 := own_alloc w (([1, 0, 0, 0] : List UInt8).map bv) 5 4 rfl (by decide)
  have k1 := Kept.alloc (fun _ => False) w (.cells (([1, 0, 0, 0] : List UInt8).map bv).toArray 5)
  rw [e4] at o1 k1
  generalize w.alloc (.cells ([Value.int IntKind.u8 1, Value.int IntKind.u8 0, Value.int IntKind.u8 0, Value.int IntKind.u8 0] : List Value).toArray 5) = w1 at o1 k1 ⊢
  rw [← e4] at o1
  refine (readStrings_c (xs := [1, 0, 0, 0]) (ys := []) o1.reads (fun k hk => o1.lt k hk) rfl (by decide) (by decide)).mono ?_
  rintro e w2 ⟨rfl, k2⟩
  have K2 := k1.trans k2
  clear o1 k1 k2 e4
  generalize Value.slice (some ⟨w.heap.size, 0, none⟩) 4 4 = x4
  go_wp2
  refine wp_region_any (by kernel_rfl) ?_
  change wpAny _ _ _ _ _ _ _ (w2.drewN 1)
  have K3 := K2.dN 1
  generalize w2.drewN 1 = w3 at K3 ⊢
  refine wpAny_fork3 (f := 12) (i := 0) (j := 1) (k := 2) (AwG1 w x4) (by kernel_rfl) (by kernel_rfl) (by kernel_rfl) (by kernel_rfl) (by kernel_rfl) (by kernel_rfl) (by decide) (by decide) (by decide) ?_ ?_ ?_
  · rintro _ w4 ⟨v8, v9, v10, g9, g10, rfl, r9, r10, K4⟩
    refine wpAny_pre (f := 10) (T := [3, 4]) rfl _ _ _ (by kernel_rfl) (G := fun a' w' => a' = ⟨#[Value.bool false, Value.slice none 0 0, Value.int IntKind.i64 74, Value.tuple #[Value.slice none 0 0, Value.int IntKind.i64 74], x4, Value.tuple #[Value.slice none 0 0, Value.int IntKind.i64 74], Value.slice none 0 0, Value.int IntKind.i64 74, v8, v9, v10, .bool true, .bool true, undef, undef, undef, undef, undef, undef, undef, undef, undef], []⟩ ∧ w' = w4) ?_ ?_
    · rintro _ w4 ⟨rfl, rfl⟩
      refine wpAny_fork2 (f := 8) (i := 5) (k := 6) (AwG2 w x4 v8 v9 v10) (by kernel_rfl) (by kernel_rfl) (by kernel_rfl) (by decide) ?_ ?_ ?_
      · rintro _ w5 ⟨v13, v14, g13, g14, rfl, r13, r14, K5⟩
        refine wpAny_of_seqOn (T := [7, 8, 9, 10, 11, 12, 13, 14]) rfl _ _ _ (by kernel_rfl) ?_
        simp only [sel, List.filterMap_cons, List.filterMap_nil, List.getElem?_cons_zero, List.getElem?_cons_succ]
        refine wpList_step (fun K hK => ?_)
        go_simp
        go_wp2_with fail
        refine (same_c r13 r14).mono ?_
        rintro e w6 ⟨rfl, rfl⟩
        refine hK _ _ ?_
        clear hK
        refine wpList_step (fun K hK => ?_)
        go_simp
        refine hK _ _ ?_
        clear hK
        refine wpList_step (fun K hK => ?_)
        go_simp
        refine hK _ _ ?_
        clear hK
        refine wpList_step (fun K hK => ?_)
        go_simp
        refine hK _ _ ?_
        clear hK
        refine wpList_step (fun K hK => ?_)
        go_simp
        go_wp2_with fail
        refine (num_c 74).mono ?_
        rintro e w7 ⟨rfl, rfl⟩
        refine hK _ _ ?_
        clear hK
        refine wpList_step (fun K hK => ?_)
        go_simp
        refine hK _ _ ?_
        clear hK
        refine wpList_step (fun K hK => ?_)
        go_simp
        refine hK _ _ ?_
        clear hK
        refine wpList_step (fun K hK => ?_)
        go_simp
        refine hK _ _ ?_
        clear hK
        refine wpList_nil ?_
        go_wp2
        go_ret
        exact ⟨rfl, K5⟩
      · refine wpOp_of_list rfl ?_
        refine wpList_step (fun K hK => ?_)
        go_simp
        go_wp2_with fail
        refine (frame_c (bs := []) (g := none) ⟨by simp, .inl ⟨_, _, rfl, rfl⟩⟩ (fun k hk => by cases hk) (by decide)).mono ?_
        rintro e w5 ⟨⟨v13, rfl, g13, o13, -⟩, k13⟩
        rw [frame0] at o13
        refine hK _ _ ?_
        clear hK
        refine wpList_nil_then ?_
        refine wpOp_of_list rfl ?_
        refine wpList_step (fun K hK => ?_)
        have hmk := make8 w5
        go_simp
        refine hK _ _ ?_
        clear hK
        refine wpList_nil_then ?_
        have K5 := (K4.trans k13).al (Obj.cells #[Value.int IntKind.u8 0, Value.int IntKind.u8 0, Value.int IntKind.u8 0, Value.int IntKind.u8 0, Value.int IntKind.u8 0, Value.int IntKind.u8 0, Value.int IntKind.u8 0, Value.int IntKind.u8 0] 5)
        exact ⟨_, _, _, _, rfl, o13.reads.kept (Kept.alloc (fun _ => False) w5 (Obj.cells #[Value.int IntKind.u8 0, Value.int IntKind.u8 0, Value.int IntKind.u8 0, Value.int IntKind.u8 0, Value.int IntKind.u8 0, Value.int IntKind.u8 0, Value.int IntKind.u8 0, Value.int IntKind.u8 0] 5)) (fun _ _ h => h), (ownZZ w5).reads, K5⟩
      · refine wpOp_of_list rfl ?_
        refine wpList_step (fun K hK => ?_)
        have hmk := make8 w4
        go_simp
        refine hK _ _ ?_
        clear hK
        have o14 := ownZZ w4
        have K5 := K4.al (Obj.cells #[Value.int IntKind.u8 0, Value.int IntKind.u8 0, Value.int IntKind.u8 0, Value.int IntKind.u8 0, Value.int IntKind.u8 0, Value.int IntKind.u8 0, Value.int IntKind.u8 0, Value.int IntKind.u8 0] 5)
        generalize w4.alloc (Obj.cells #[Value.int IntKind.u8 0, Value.int IntKind.u8 0, Value.int IntKind.u8 0, Value.int IntKind.u8 0, Value.int IntKind.u8 0, Value.int IntKind.u8 0, Value.int IntKind.u8 0, Value.int IntKind.u8 0] 5) = w5 at o14 K5 ⊢
        refine wpList_nil_then ?_
        refine wpOp_of_list rfl ?_
        refine wpList_step (fun K hK => ?_)
        go_simp
        go_wp2_with fail
        refine (frame_c (bs := []) (g := none) ⟨by simp, .inl ⟨_, _, rfl, rfl⟩⟩ (fun k hk => by cases hk) (by decide)).mono ?_
        rintro e w6 ⟨⟨v13, rfl, g13, o13, -⟩, k13⟩
        rw [frame0] at o13
        refine hK _ _ ?_
        clear hK
        refine wpList_nil_then ?_
        exact ⟨_, _, _, _, rfl, o13.reads, o14.reads.kept k13 (fun _ _ h => h), K5.trans k13⟩
    · simp only [sel, List.filterMap_cons, List.filterMap_nil, List.getElem?_cons_zero, List.getElem?_cons_succ]
      go_wp2_with fail
      refine (same_c r9 r10).mono ?_
      rintro e w5 ⟨rfl, rfl⟩
      go_wp2
      exact ⟨by first | rfl | trivial, by first | rfl | trivial⟩
  · refine wpOp_of_list rfl ?_
    go_wp2_with fail
    have oa := ownSS w3
    have ka := K3.al (Obj.cells #[Value.string ⟨#[97]⟩, Value.string ⟨#[]⟩] 9)
    have ja := Kept.alloc (fun _ => False) w3 (Obj.cells #[Value.string ⟨#[97]⟩, Value.string ⟨#[]⟩] 9)
    generalize w3.alloc (Obj.cells #[Value.string ⟨#[97]⟩, Value.string ⟨#[]⟩] 9) = wa at oa ka ja ⊢
    constructor
    · refine wpOp_of_list rfl ?_
      go_wp2_with fail
      refine (strings_c (ss := [⟨#[97]⟩, ⟨#[]⟩]) oa.reads (fun k hk => oa.lt k hk) (by decide) (by decide)).mono ?_
      rintro e wc ⟨⟨v9, rfl, g9, o9, -⟩, k9⟩
      rw [List.length_cons, List.length_cons, List.length_nil, strs] at o9
      have K9 := ka.trans k9
      go_wp2_with fail
      refine wpOp_of_list rfl ?_
      go_wp2_with fail
      have od := ownBB wc
      have kd := K9.al (Obj.cells #[Value.int IntKind.u8 2, Value.int IntKind.u8 0, Value.int IntKind.u8 0, Value.int IntKind.u8 0, Value.int IntKind.u8 1, Value.int IntKind.u8 0, Value.int IntKind.u8 0, Value.int IntKind.u8 0, Value.int IntKind.u8 97, Value.int IntKind.u8 0, Value.int IntKind.u8 0, Value.int IntKind.u8 0, Value.int IntKind.u8 0] 5)
      have jd := Kept.alloc (fun _ => False) wc (Obj.cells #[Value.int IntKind.u8 2, Value.int IntKind.u8 0, Value.int IntKind.u8 0, Value.int IntKind.u8 0, Value.int IntKind.u8 1, Value.int IntKind.u8 0, Value.int IntKind.u8 0, Value.int IntKind.u8 0, Value.int IntKind.u8 97, Value.int IntKind.u8 0, Value.int IntKind.u8 0, Value.int IntKind.u8 0, Value.int IntKind.u8 0] 5)
      generalize wc.alloc (Obj.cells #[Value.int IntKind.u8 2, Value.int IntKind.u8 0, Value.int IntKind.u8 0, Value.int IntKind.u8 0, Value.int IntKind.u8 1, Value.int IntKind.u8 0, Value.int IntKind.u8 0, Value.int IntKind.u8 0, Value.int IntKind.u8 97, Value.int IntKind.u8 0, Value.int IntKind.u8 0, Value.int IntKind.u8 0, Value.int IntKind.u8 0] 5) = wd at od kd jd ⊢
      exact ⟨_, _, _, _, _, rfl, o9.reads.kept jd (fun _ _ h => h), od.reads, kd⟩
    · refine wpOp_of_list rfl ?_
      go_wp2_with fail
      have ob := ownBB wa
      have kb := ka.al (Obj.cells #[Value.int IntKind.u8 2, Value.int IntKind.u8 0, Value.int IntKind.u8 0, Value.int IntKind.u8 0, Value.int IntKind.u8 1, Value.int IntKind.u8 0, Value.int IntKind.u8 0, Value.int IntKind.u8 0, Value.int IntKind.u8 97, Value.int IntKind.u8 0, Value.int IntKind.u8 0, Value.int IntKind.u8 0, Value.int IntKind.u8 0] 5)
      have jb := Kept.alloc (fun _ => False) wa (Obj.cells #[Value.int IntKind.u8 2, Value.int IntKind.u8 0, Value.int IntKind.u8 0, Value.int IntKind.u8 0, Value.int IntKind.u8 1, Value.int IntKind.u8 0, Value.int IntKind.u8 0, Value.int IntKind.u8 0, Value.int IntKind.u8 97, Value.int IntKind.u8 0, Value.int IntKind.u8 0, Value.int IntKind.u8 0, Value.int IntKind.u8 0] 5)
      generalize wa.alloc (Obj.cells #[Value.int IntKind.u8 2, Value.int IntKind.u8 0, Value.int IntKind.u8 0, Value.int IntKind.u8 0, Value.int IntKind.u8 1, Value.int IntKind.u8 0, Value.int IntKind.u8 0, Value.int IntKind.u8 0, Value.int IntKind.u8 97, Value.int IntKind.u8 0, Value.int IntKind.u8 0, Value.int IntKind.u8 0, Value.int IntKind.u8 0] 5) = wb at ob kb jb ⊢
      refine wpOp_of_list rfl ?_
      go_wp2_with fail
      refine (strings_c (ss := [⟨#[97]⟩, ⟨#[]⟩]) (oa.kept jb (fun _ _ h => h)).reads (fun k hk => (oa.kept jb (fun _ _ h => h)).lt k hk) (by decide) (by decide)).mono ?_
      rintro e wc ⟨⟨v9, rfl, g9, o9, -⟩, k9⟩
      rw [List.length_cons, List.length_cons, List.length_nil, strs] at o9
      have K9 := kb.trans k9
      go_wp2_with fail
      exact ⟨_, _, _, _, _, rfl, o9.reads, ob.reads.kept k9 (fun _ _ h => h), K9⟩
  · refine wpOp_of_list rfl ?_
    go_wp2_with fail
    have oa := ownBB w3
    have ka := K3.al (Obj.cells #[Value.int IntKind.u8 2, Value.int IntKind.u8 0, Value.int IntKind.u8 0, Value.int IntKind.u8 0, Value.int IntKind.u8 1, Value.int IntKind.u8 0, Value.int IntKind.u8 0, Value.int IntKind.u8 0, Value.int IntKind.u8 97, Value.int IntKind.u8 0, Value.int IntKind.u8 0, Value.int IntKind.u8 0, Value.int IntKind.u8 0] 5)
    have ja := Kept.alloc (fun _ => False) w3 (Obj.cells #[Value.int IntKind.u8 2, Value.int IntKind.u8 0, Value.int IntKind.u8 0, Value.int IntKind.u8 0, Value.int IntKind.u8 1, Value.int IntKind.u8 0, Value.int IntKind.u8 0, Value.int IntKind.u8 0, Value.int IntKind.u8 97, Value.int IntKind.u8 0, Value.int IntKind.u8 0, Value.int IntKind.u8 0, Value.int IntKind.u8 0] 5)
    generalize w3.alloc (Obj.cells #[Value.int IntKind.u8 2, Value.int IntKind.u8 0, Value.int IntKind.u8 0, Value.int IntKind.u8 0, Value.int IntKind.u8 1, Value.int IntKind.u8 0, Value.int IntKind.u8 0, Value.int IntKind.u8 0, Value.int IntKind.u8 97, Value.int IntKind.u8 0, Value.int IntKind.u8 0, Value.int IntKind.u8 0, Value.int IntKind.u8 0] 5) = wa at oa ka ja ⊢
    refine wpOp_of_list rfl ?_
    go_wp2_with fail
    have ob := ownSS wa
    have kb := ka.al (Obj.cells #[Value.string ⟨#[97]⟩, Value.string ⟨#[]⟩] 9)
    have jb := Kept.alloc (fun _ => False) wa (Obj.cells #[Value.string ⟨#[97]⟩, Value.string ⟨#[]⟩] 9)
    generalize wa.alloc (Obj.cells #[Value.string ⟨#[97]⟩, Value.string ⟨#[]⟩] 9) = wb at ob kb jb ⊢
    refine wpOp_of_list rfl ?_
    go_wp2_with fail
    refine (strings_c (ss := [⟨#[97]⟩, ⟨#[]⟩]) ob.reads (fun k hk => ob.lt k hk) (by decide) (by decide)).mono ?_
    rintro e wc ⟨⟨v9, rfl, g9, o9, -⟩, k9⟩
    rw [List.length_cons, List.length_cons, List.length_nil, strs] at o9
    have K9 := kb.trans k9
    go_wp2_with fail
    exact ⟨_, _, _, _, _, rfl, o9.reads, (oa.reads.kept jb (fun _ _ h => h)).kept k9 (fun _ _ h => h), K9⟩
end Go.Proofs.YtmbjealliinpdaaGreat
end

section

namespace Go.Proofs.YtmbjealliinpdaaGreat
open Go.RowKit
/-- The document's reader: what is left, or that the bytes were bad. -/
structure Dr (w : World) (q : Nat) (o : Option (List UInt8)) (g : Option Nat) : Prop where
  ex : ∃ a n c, w.heap[q]? = some (.cells #[.slice a n c, .bool o.isNone] 99) ∧ ∀ bs, o = some bs → Reads w 1 (.slice a n c) bs.length (bs.map bv) g
  ne : ∀ k, g = some k → k ≠ q
  small : ∀ bs, o = some bs → bs.length ≤ 140737488351232
theorem Dr.kept {F : Nat → Prop} {w w' : World} {q : Nat} {o : Option (List UInt8)} {g : Option Nat} (h : Dr w q o g) (hk : Kept F w w') (hc : ¬ F q := by exact fun h => h) (hg : ∀ k, g = some k → ¬ F k := by exact fun _ _ h => h) : Dr w' q o g := by
  obtain ⟨a, n, c, h1, h2⟩ := h.ex
  exact ⟨⟨a, n, c, (hk.block _ (lt_in h1) hc).trans h1, fun bs e => (h2 bs e).kept hk hg⟩, h.ne, h.small⟩
theorem Dr.lt {w : World} {q : Nat} {o : Option (List UInt8)} {g : Option Nat} (h : Dr w q o g) : q < w.heap.size := by
  obtain ⟨a, n, c, h1, -⟩ := h.ex
  exact lt_in h1
theorem takeBad_c {w : World} {q : Nat} {a : Option Addr} {m c : Nat} {b : Bool} (h : w.heap[q]? = some (.cells #[.slice a m c, .bool b] 99)) (n : Nat) (hb : b = true ∨ m < n) :
    Calls Tryz.prog 132 #[.pointer (some ⟨q, 0, none⟩), .int .i64 n] w fun e w' => Kept (· = q) w w' ∧ w'.heap[q]? = some (.cells #[.slice a m c, .bool true] 99) ∧ ∃ v g', e = .returned v ∧ Reads w' 1 v 8 (([0, 0, 0, 0, 0, 0, 0, 0] : List UInt8).map bv) g' := by
  have c0 : w.cell? ⟨q, 0, none⟩ = some (.slice a m c) := cell_in h
  have c1 : w.cell? ⟨q, 1, none⟩ = some (.bool b) := cell_in h
  have f1 : w.frozen? ⟨q, 1, none⟩ = false := frozen_in h
  have hl := lt_in h
  have HH : Hid ((w.setCell ⟨q, 1, none⟩ (.bool true)).heap[q]? = some (.cells #[.slice a m c, .bool true] 99)) := Lib.hid (by rw [heap_setCell_same (o := 1) h]; rfl)
  have m8 := make8
  have z8 := (ownZZ (w.setCell ⟨q, 1, none⟩ (.bool true))).reads
  rw [show (w.setCell ⟨q, 1, none⟩ (.bool true)).heap.size = w.heap.size by simp [World.setCell]] at z8
  have HZ := Lib.hid z8
  clear z8
  have k1 : Kept (· = q) w (w.setCell ⟨q, 1, none⟩ (.bool true)) := Kept.setCell _ _ _ rfl
  clear h
  go_enter Tryz.func132, Tryz.ntmps132
  rcases hb with rfl | hb
  · go_wp2
    go_ret
    refine ⟨k1.al _, (Below.heap_alloc _ _ _ (lt_in HH.out)).trans HH.out, _, _, rfl, HZ.out⟩
  · cases b
    · have hi : (m : Int) < (n : Int) := by omega
      go_wp2
      go_ret
      refine ⟨k1.al _, (Below.heap_alloc _ _ _ (lt_in HH.out)).trans HH.out, _, _, rfl, HZ.out⟩
    · go_wp2
      go_ret
      refine ⟨k1.al _, (Below.heap_alloc _ _ _ (lt_in HH.out)).trans HH.out, _, _, rfl, HZ.out⟩
theorem takeD_c {w : World} {q : Nat} {o : Option (List UInt8)} {g : Option Nat} (h : Dr w q o g) (n : Nat) :
    Calls Tryz.prog 132 #[.pointer (some ⟨q, 0, none⟩), .int .i64 n] w fun e w' => Kept (· = q) w w' ∧ ((∃ bs v, o = some bs ∧ n ≤ bs.length ∧ e = .returned v ∧ Reads w' 1 v n ((bs.take n).map bv) g ∧ Dr w' q (some (bs.drop n)) g) ∨ ((∀ bs, o = some bs → bs.length < n) ∧ (∃ v g', e = .returned v ∧ Reads w' 1 v 8 (([0, 0, 0, 0, 0, 0, 0, 0] : List UInt8).map bv) g') ∧ Dr w' q none g)) := by
  obtain ⟨a, m, c, h1, h2⟩ := h.ex
  cases o with
  | none =>
    refine (takeBad_c h1 n (.inl rfl)).mono ?_
    rintro e w' ⟨k, hh, hv⟩
    exact ⟨k, .inr ⟨fun bs e => (by cases e), hv, ⟨a, m, c, hh, fun bs e => (by cases e)⟩, h.ne, fun bs e => (by cases e)⟩⟩
  | some bs =>
    have hr := h2 bs rfl
    have hm := h.small bs rfl
    obtain ⟨a', c', he, -⟩ := hr.shape
    simp only [Value.slice.injEq] at he
    obtain ⟨-, rfl, -⟩ := he
    by_cases hn : n ≤ bs.length
    · have hb : bs.take n ++ bs.drop n = bs := List.take_append_drop n bs
      have hln : (bs.take n).length = n := by rw [List.length_take]; omega
      refine (take_c (xs := bs.take n) (ys := bs.drop n) h1 (by rw [hb]; exact hr) h.ne n (by rw [hln]) (by rw [hb]; exact hm)).mono ?_
      rintro e w' ⟨⟨v, rfl, hv⟩, vi, hh, hr2, k⟩
      rw [hln] at hv
      obtain ⟨a2, c2, rfl, -⟩ := hr2.shape
      refine ⟨k, .inl ⟨bs, v, rfl, hn, rfl, hv, ⟨a2, _, c2, hh, fun bs' e => by cases e; exact hr2⟩, h.ne, fun bs' e => ?_⟩⟩
      cases e
      rw [List.length_drop]
      omega
    · refine (takeBad_c h1 n (.inr (by omega))).mono ?_
      rintro e w' ⟨k, hh, hv⟩
      exact ⟨k, .inr ⟨fun bs' e => (by cases e; omega), hv, ⟨a, _, c, hh, fun bs e => (by cases e)⟩, h.ne, fun bs e => (by cases e)⟩⟩
/-- What is left behind a parser. -/
def After {α : Type} (o : Option (List UInt8)) (p : Pr α) : Option (List UInt8) := (o.bind p).map (·.2)
theorem zeros_le (n : Nat) (hn : n ≤ 8) : leN (([0, 0, 0, 0, 0, 0, 0, 0] : List UInt8).take n) = 0 := by
  have : n = 0 ∨ n = 1 ∨ n = 2 ∨ n = 3 ∨ n = 4 ∨ n = 5 ∨ n = 6 ∨ n = 7 ∨ n = 8 := by omega
  rcases this with h | h | h | h | h | h | h | h | h <;> subst h <;> decide
theorem takeU_c {w : World} {q : Nat} {o : Option (List UInt8)} {g : Option Nat} (h : Dr w q o g) (n : Nat) (hn : n ≤ 8) :
    Calls Tryz.prog 132 #[.pointer (some ⟨q, 0, none⟩), .int .i64 n] w fun e w' => Kept (· = q) w w' ∧ ∃ (v : Value) (l : List UInt8) (g' : Option Nat), e = .returned v ∧ n ≤ l.length ∧ Reads w' 1 v l.length (l.map bv) g' ∧ Dr w' q (After o (pW n)) g ∧ (∀ x r, o.bind (pW n) = some (x, r) → leN (l.take n) = x) ∧ (o.bind (pW n) = none → leN (l.take n) = 0) := by
  refine (takeD_c h n).mono ?_
  rintro e w' ⟨k, ⟨bs, v, rfl, hl, rfl, hr, hd⟩ | ⟨hl, ⟨v, g', rfl, hr⟩, hd⟩⟩
  · have hp : (some bs).bind (pW n) = some (leN (bs.take n), bs.drop n) := by
      show pW n bs = _
      unfold pW
      rw [if_pos hl]
    have hln : (bs.take n).length = n := by rw [List.length_take]; omega
    refine ⟨k, v, bs.take n, g, rfl, by omega, by rw [hln]; exact hr, by unfold After; rw [hp]; exact hd, fun x r hy => ?_, fun hy => ?_⟩
    · rw [hp] at hy
      cases hy
      rw [List.take_of_length_le (by omega)]
    · rw [hp] at hy; cases hy
  · have hp : o.bind (pW n) = none := by
      cases o with
      | none => rfl
      | some bs =>
        have := hl bs rfl
        show pW n bs = _
        unfold pW
        rw [if_neg (by omega)]
    refine ⟨k, v, [0, 0, 0, 0, 0, 0, 0, 0], g', rfl, hn, hr, by unfold After; rw [hp]; exact hd, fun x r hy => ?_, fun _ => zeros_le n hn⟩
    rw [hp] at hy; cases hy
theorem leN_lt_of {l : List UInt8} {n : Nat} (h : l.length ≤ n) : leN l < 256 ^ n := Nat.lt_of_lt_of_le (leN_lt l) (Nat.pow_le_pow_right (by decide) h)
theorem add_high8 (V B k : Nat) (hV : V < 256 ^ k) (hB : B < 256) (hk : k < 8) : IntKind.u64.wrap ((V : Int) + IntKind.u64.wrap ((B : Int) * 2 ^ (8 * k))) = ((V + B * 256 ^ k : Nat) : Int) := by
  have hp : (256 : Nat) ^ k = 2 ^ (8 * k) := by rw [Nat.pow_mul]
  have h8 : 256 ^ (k + 1) ≤ 256 ^ 8 := Nat.pow_le_pow_right (by decide) (by omega)
  have hBk : B * 256 ^ k + 256 ^ k ≤ 256 ^ (k + 1) := by rw [Nat.pow_succ, Nat.mul_comm (256 ^ k) 256, ← Nat.succ_mul]; exact Nat.mul_le_mul_right _ hB
  have h64 : (256 : Nat) ^ 8 = 18446744073709551616 := by decide
  have e : (B : Int) * 2 ^ (8 * k) = ((B * 256 ^ k : Nat) : Int) := by rw [hp]; push_cast; rfl
  have hw : ∀ n : Int, IntKind.u64.wrap n = n % 18446744073709551616 := fun n => by simp [IntKind.wrap, IntKind.bits, IntKind.signed]
  rw [e, hw, hw]
  omega
theorem wordD_c {w : World} {q : Nat} {o : Option (List UInt8)} {g : Option Nat} (h : Dr w q o g) :
    Calls Tryz.prog 131 #[.pointer (some ⟨q, 0, none⟩)] w fun e w' => Kept (· = q) w w' ∧ ∃ V : Nat, V < 4294967296 ∧ e = .returned (.int .u32 V) ∧ Dr w' q (After o (pW 4)) g ∧ (∀ x r, o.bind (pW 4) = some (x, r) → V = x) ∧ (o.bind (pW 4) = none → V = 0) := by
  go_enter Tryz.func131, Tryz.ntmps131
  go_wp2_with fail
  refine (takeU_c h 4 (by omega)).mono ?_
  rintro e w1 ⟨k1, v, xs, g', rfl, hx, rx, hd, hg1, hb1⟩
  obtain ⟨a, cp, rfl, hc⟩ := rx.shape
  have HD := Lib.hid hd
  have HG := Lib.hid hg1
  have HB := Lib.hid hb1
  clear h hd hg1 hb1
  have hx4 : 4 ≤ xs.length := hx
  clear hx
  go_wp2
  go_loopw [8, 4] (fun i x w' => (∃ k V : Nat, k ≤ 4 ∧ i = .int .i64 k ∧ x = .int .u32 V ∧ V < 256 ^ k ∧ Hid (V = leN (xs.take k))) ∧ w' = w1) (fun i _ _ => 4 - (intOf i).toNat)
  case atStart => exact ⟨⟨0, 0, by omega, rfl, rfl, by decide, Lib.hid rfl⟩, rfl⟩
  case round =>
    obtain ⟨⟨k, V, hk, rfl, rfl, hV, hVr⟩, rfl⟩ := hrel
    by_cases hk2 : k < 4
    · have hki : (k : Int) < 4 := by omega
      have hkl : k < xs.length := by omega
      have hkl2 : (k : Int) < (xs.length : Int) := by omega
      obtain ⟨b, off, rfl, rfl, hcell⟩ := rx.byte hkl
      obtain ⟨B, hB⟩ : ∃ B : Nat, B = xs[k].toNat := ⟨_, rfl⟩
      have hBl : B < 256 := by rw [hB]; exact UInt8.toNat_lt _
      rw [← hB] at hcell
      have e1 := add_high V B k hV hBl hk2
      obtain ⟨U, hU⟩ : ∃ U : Nat, U = V + B * 256 ^ k := ⟨_, rfl⟩
      have hUl : U < 256 ^ (k + 1) := by
        have : B * 256 ^ k + 256 ^ k ≤ 256 ^ (k + 1) := by rw [Nat.pow_succ, Nat.mul_comm (256 ^ k) 256, ← Nat.succ_mul]; exact Nat.mul_le_mul_right _ hBl
        omega
      rw [← hU] at e1
      have HU : Hid (U = leN (xs.take (k + 1))) := Lib.hid (by rw [leN_take xs k hkl, ← hVr.out, ← hB, hU])
      clear hB hU hV
      have e2 : ((V : Int) + (B : Int) * 2 ^ (8 * k)) % 4294967296 = (U : Int) := by
        rw [← e1, IntKind.wrap_u32, IntKind.wrap_u32]
        generalize (B : Int) * 2 ^ (8 * k) = Z
        omega
      go_wp2
      refine ⟨⟨⟨k + 1, U, by omega, by simp, by simp [e2], hUl, HU⟩, trivial⟩, by simp [intOf]; omega⟩
    · obtain rfl : k = 4 := by omega
      clear hV
      obtain rfl : V = leN (xs.take 4) := hVr.out
      go_wp2
      go_ret
      have h4 := leN_lt_of (l := xs.take 4) (n := 4) (by rw [List.length_take]; omega)
      exact ⟨k1, _, Nat.lt_of_lt_of_le h4 (by decide), rfl, HD.out, HG.out, fun hh => HB.out (Option.bind_eq_none_iff.2 hh)⟩
theorem wrap_u64' (n : Int) : IntKind.u64.wrap n = n % 18446744073709551616 := by simp [IntKind.wrap, IntKind.bits, IntKind.signed]
theorem intD_c {w : World} {q : Nat} {o : Option (List UInt8)} {g : Option Nat} (h : Dr w q o g) :
    Calls Tryz.prog 80 #[.pointer (some ⟨q, 0, none⟩)] w fun e w' => Kept (· = q) w w' ∧ ∃ N : Int, e = .returned (.int .i64 N) ∧ Dr w' q (After o pI) g ∧ (∀ x r, o.bind pI = some (x, r) → N = x) := by
  go_enter Tryz.func80, Tryz.ntmps80
  go_wp2_with fail
  refine (takeU_c h 8 (by omega)).mono ?_
  rintro e w1 ⟨k1, v, xs, g', rfl, hx, rx, hd, hg1, hb1⟩
  obtain ⟨a, cp, rfl, hc⟩ := rx.shape
  have HD := Lib.hid hd
  have HG := Lib.hid hg1
  have HB := Lib.hid hb1
  clear h hd hg1 hb1
  have hx4 : 8 ≤ xs.length := hx
  clear hx
  go_wp2
  go_loopw [8, 4] (fun i x w' => (∃ k V : Nat, k ≤ 8 ∧ i = .int .i64 k ∧ x = .int .u64 V ∧ V < 256 ^ k ∧ Hid (V = leN (xs.take k))) ∧ w' = w1) (fun i _ _ => 8 - (intOf i).toNat)
  case atStart => exact ⟨⟨0, 0, by omega, rfl, rfl, by decide, Lib.hid rfl⟩, rfl⟩
  case round =>
    obtain ⟨⟨k, V, hk, rfl, rfl, hV, hVr⟩, rfl⟩ := hrel
    by_cases hk2 : k < 8
    · have hki : (k : Int) < 8 := by omega
      have hkl : k < xs.length := by omega
      have hkl2 : (k : Int) < (xs.length : Int) := by omega
      obtain ⟨b, off, rfl, rfl, hcell⟩ := rx.byte hkl
      obtain ⟨B, hB⟩ : ∃ B : Nat, B = xs[k].toNat := ⟨_, rfl⟩
      have hBl : B < 256 := by rw [hB]; exact UInt8.toNat_lt _
      rw [← hB] at hcell
      have e1 := add_high8 V B k hV hBl hk2
      obtain ⟨U, hU⟩ : ∃ U : Nat, U = V + B * 256 ^ k := ⟨_, rfl⟩
      have hUl : U < 256 ^ (k + 1) := by
        have : B * 256 ^ k + 256 ^ k ≤ 256 ^ (k + 1) := by rw [Nat.pow_succ, Nat.mul_comm (256 ^ k) 256, ← Nat.succ_mul]; exact Nat.mul_le_mul_right _ hBl
        omega
      rw [← hU] at e1
      have HU : Hid (U = leN (xs.take (k + 1))) := Lib.hid (by rw [leN_take xs k hkl, ← hVr.out, ← hB, hU])
      clear hB hU hV
      have e2 : ((V : Int) + (B : Int) * 2 ^ (8 * k)) % 18446744073709551616 = (U : Int) := by
        rw [← e1, wrap_u64', wrap_u64']
        generalize (B : Int) * 2 ^ (8 * k) = Z
        omega
      go_wp2
      refine ⟨⟨⟨k + 1, U, by omega, by simp, by simp [e2], hUl, HU⟩, trivial⟩, by simp [intOf]; omega⟩
    · obtain rfl : k = 8 := by omega
      clear hV
      obtain rfl : V = leN (xs.take 8) := hVr.out
      obtain ⟨N, hN⟩ : ∃ N, IntKind.i64.wrap ((leN (xs.take 8) : Nat) : Int) = N := ⟨_, rfl⟩
      go_wp2
      go_ret
      refine ⟨k1, N, rfl, ?_, fun x r hy => ?_⟩
      · have := HD.out
        unfold After at this ⊢
        have e : o.bind pI = (o.bind (pW 8)).map fun y => (IntKind.i64.wrap (y.1 : Int), y.2) := by
          cases o with
          | none => rfl
          | some bs => show pI bs = _; unfold pI; show _ = (pW 8 bs).map _; cases pW 8 bs <;> rfl
        rw [e, Option.map_map]
        exact this
      · obtain ⟨bs, ho, hq⟩ := Option.bind_eq_some_iff.1 hy
        unfold pI at hq
        obtain ⟨⟨z, r'⟩, hz, hv⟩ := Option.bind_eq_some_iff.1 hq
        simp only [Option.some.injEq, Prod.mk.injEq] at hv
        rw [← hN, HG.out _ _ (Option.bind_eq_some_iff.2 ⟨bs, ho, hz⟩)]
        exact hv.1
end Go.Proofs.YtmbjealliinpdaaGreat
end

section

namespace Go.Proofs.YtmbjealliinpdaaGreat
open Go.RowKit
theorem Dr.bad {w : World} {q : Nat} {o : Option (List UInt8)} {g : Option Nat} (h : Dr w q o g) : Dr (w.setCell ⟨q, 1, none⟩ (.bool true)) q none g := by
  obtain ⟨a, n, c, h1, h2⟩ := h.ex
  exact ⟨⟨a, n, c, by rw [heap_setCell_same (o := 1) h1]; rfl, fun bs e => (by cases e)⟩, h.ne, fun bs e => (by cases e)⟩
theorem Dr.cells {w : World} {q : Nat} {o : Option (List UInt8)} {g : Option Nat} (h : Dr w q o g) : ∃ a n c, w.cell? ⟨q, 0, none⟩ = some (.slice a n c) ∧ w.cell? ⟨q, 1, none⟩ = some (.bool o.isNone) ∧ w.frozen? ⟨q, 1, none⟩ = false ∧ q < w.heap.size ∧ ∀ bs, o = some bs → n = bs.length := by
  obtain ⟨a, n, c, h1, h2⟩ := h.ex
  refine ⟨a, n, c, cell_in h1, cell_in h1, frozen_in h1, lt_in h1, fun bs e => ?_⟩
  obtain ⟨a', c', he, -⟩ := (h2 bs e).shape
  simp only [Value.slice.injEq] at he
  exact he.2.1
theorem pF_of {o : Option (List UInt8)} : o.bind pF = (o.bind (pW 1)).bind fun y => if y.1 ≤ 1 then some (decide (y.1 = 1), y.2) else none := by
  cases o <;> rfl
theorem pC_of {o : Option (List UInt8)} : o.bind pC = (o.bind (pW 4)).bind fun y => if y.1 ≤ y.2.length then some y else none := by
  cases o <;> rfl
theorem one_le {l : List UInt8} (h : 1 ≤ l.length) : leN (l.take 1) = (l[0]'h).toNat := by
  match l, h with
  | a :: r, _ => simp [leN]
theorem boolD_c {w : World} {q : Nat} {o : Option (List UInt8)} {g : Option Nat} (h : Dr w q o g) :
    Calls Tryz.prog 142 #[.pointer (some ⟨q, 0, none⟩)] w fun e w' => Kept (· = q) w w' ∧ ∃ b : Bool, e = .returned (.bool b) ∧ Dr w' q (After o pF) g ∧ (∀ x r, o.bind pF = some (x, r) → b = x) := by
  go_enter Tryz.func142, Tryz.ntmps142
  go_wp2_with fail
  refine (takeU_c h 1 (by omega)).mono ?_
  rintro e w1 ⟨k1, v, xs, g', rfl, hx, rx, hd, hg1, hb1⟩
  obtain ⟨a, cp, rfl, hc⟩ := rx.shape
  obtain ⟨b, off, rfl, rfl, hcell⟩ := rx.byte (k := 0) hx
  have hx2 : (0 : Int) < (xs.length : Int) := by omega
  obtain ⟨B, hB⟩ : ∃ B : Nat, B = (xs[0]'hx).toNat := ⟨_, rfl⟩
  rw [one_le hx, ← hB] at hg1 hb1
  rw [← hB, Nat.add_zero] at hcell
  obtain ⟨d0, d1, d2, -, e1, f1, l1, -⟩ := hd.cells
  have KF : ∀ u, Kept (· = q) w1 (w1.setCell ⟨q, 1, none⟩ u) := fun u => Kept.setCell _ _ _ rfl
  have HBad := Lib.hid hd.bad
  have HD := Lib.hid hd
  have HP := Lib.hid (pF_of (o := o))
  have HG := Lib.hid hg1
  clear h hd hg1 hx hB hb1
  by_cases hV : B ≤ 1
  · have hVi : ¬ ((1 : Int) < (B : Int)) := by omega
    have fin : Hid (Dr w1 q (After o pF) g ∧ ∀ x r, o.bind pF = some (x, r) → decide (B = 1) = x) := by
      refine Lib.hid ⟨?_, fun x r hy => ?_⟩
      · have h1 := HD.out
        have h2 := HP.out
        unfold After at h1 ⊢
        rw [h2]
        cases hq : o.bind (pW 1) with
        | none => rw [hq] at h1; exact h1
        | some y =>
          have := HG.out y.1 y.2 hq
          rw [hq] at h1
          simp only [Option.bind_some, Option.map_some] at h1 ⊢
          rw [if_pos (by omega)]
          exact h1
      · rw [HP.out] at hy
        obtain ⟨⟨V, r'⟩, h1, h2⟩ := Option.bind_eq_some_iff.1 hy
        have := HG.out _ _ h1
        simp only at h2
        rw [if_pos (by omega)] at h2
        simp only [Option.some.injEq, Prod.mk.injEq] at h2
        rw [this]
        exact h2.1
    obtain rfl | rfl : B = 0 ∨ B = 1 := by omega
    · go_wp2
      go_ret
      exact ⟨k1, false, rfl, fin.out.1, fin.out.2⟩
    · go_wp2
      go_ret
      exact ⟨k1, true, rfl, fin.out.1, fin.out.2⟩
  · have hVi : (1 : Int) < (B : Int) := by omega
    have hV1 : ¬ ((B : Int) = 1) := by omega
    have pn : o.bind pF = none := by
      rw [HP.out]
      cases hq : o.bind (pW 1) with
      | none => rfl
      | some y =>
        have := HG.out y.1 y.2 hq
        simp only [Option.bind_some]
        rw [if_neg (by omega)]
    have HN := Lib.hid pn
    clear pn
    go_wp2
    go_ret
    refine ⟨k1.trans (KF _), _, rfl, by unfold After; rw [HN.out]; exact HBad.out, fun x r hy => ?_⟩
    rw [HN.out] at hy
    cases hy
theorem countD_c {w : World} {q : Nat} {o : Option (List UInt8)} {g : Option Nat} (h : Dr w q o g) :
    Calls Tryz.prog 57 #[.pointer (some ⟨q, 0, none⟩)] w fun e w' => Kept (· = q) w w' ∧ ∃ n : Nat, n < 4294967296 ∧ e = .returned (.int .i64 n) ∧ Dr w' q (After o pC) g ∧ (∀ x r, o.bind pC = some (x, r) → n = x) ∧ (o.bind pC = none → n = 0) := by
  go_enter Tryz.func57, Tryz.ntmps57
  go_wp2_with fail
  refine (wordD_c h).mono ?_
  rintro e w1 ⟨k1, V, hV, rfl, hd, hg1, hb1⟩
  obtain ⟨a, m, c, e0, e1, f1, l1, hm⟩ := hd.cells
  have KF : ∀ u, Kept (· = q) w1 (w1.setCell ⟨q, 1, none⟩ u) := fun u => Kept.setCell _ _ _ rfl
  have hw : IntKind.i64.wrap (V : Int) = V := IntWalk.i64_in _ (by omega)
  have HBad := Lib.hid hd.bad
  have HP := Lib.hid (pC_of (o := o))
  by_cases hle : V ≤ m
  · have hi : ¬ ((m : Int) < (V : Int)) := by omega
    have fin : Hid (Dr w1 q (After o pC) g ∧ (∀ x r, o.bind pC = some (x, r) → V = x) ∧ (o.bind pC = none → V = 0)) := by
      refine Lib.hid ?_
      unfold After at hd hm ⊢
      rw [HP.out]
      cases hq : o.bind (pW 4) with
      | none =>
        rw [hq] at hd
        exact ⟨hd, fun x r hy => (by cases hy), fun _ => hb1 hq⟩
      | some y =>
        have h1 := hg1 y.1 y.2 hq
        rw [hq] at hd hm
        have h2 := hm y.2 rfl
        simp only [Option.bind_some, Option.map_some] at hd ⊢
        rw [if_pos (by omega)]
        exact ⟨hd, fun x r hy => (by cases hy; exact h1), fun hy => (by cases hy)⟩
    clear h hd hg1 hb1 hm
    go_wp2
    go_ret
    exact ⟨k1, V, hV, rfl, fin.out.1, fin.out.2.1, fin.out.2.2⟩
  · have hi : (m : Int) < (V : Int) := by omega
    have pn : o.bind pC = none := by
      unfold After at hd hm
      rw [HP.out]
      cases hq : o.bind (pW 4) with
      | none => rfl
      | some y =>
        have h1 := hg1 y.1 y.2 hq
        rw [hq] at hm
        have h2 := hm y.2 rfl
        simp only [Option.bind_some]
        rw [if_neg (by omega)]
    have HN := Lib.hid pn
    clear h hd hg1 hb1 hm pn
    go_wp2
    go_ret
    refine ⟨k1.trans (KF _), 0, by omega, rfl, by unfold After; rw [HN.out]; exact HBad.out, fun x r hy => ?_, fun _ => rfl⟩
    rw [HN.out] at hy
    cases hy
end Go.Proofs.YtmbjealliinpdaaGreat
end

section

namespace Go.Proofs.YtmbjealliinpdaaGreat
open Go.RowKit
theorem pB_of {o : Option (List UInt8)} : o.bind pB = (o.bind pC).bind fun y => some (y.2.take y.1, y.2.drop y.1) := by
  cases o <;> rfl
theorem bytesD_c {w : World} {q : Nat} {o : Option (List UInt8)} {g : Option Nat} (h : Dr w q o g) (hgl : ∀ k, g = some k → k < w.heap.size) :
    Calls Tryz.prog 58 #[.pointer (some ⟨q, 0, none⟩)] w fun e w' => Kept (· = q) w w' ∧ ∃ (v : Value) (l : List UInt8) (g' : Option Nat), e = .returned v ∧ Own w' 5 1 v l.length (l.map bv) g' ∧ (∀ k, g' = some k → w.heap.size ≤ k) ∧ Dr w' q (After o pB) g ∧ (∀ x r, o.bind pB = some (x, r) → l = x) := by
  obtain ⟨i0, hi, hz0, hz1, hz2⟩ := info_all u8info
  go_enter Tryz.func58, Tryz.ntmps58
  go_wp2_with fail
  refine (countD_c h).mono ?_
  rintro e w1 ⟨k1, n, hn, rfl, hd, hg1, hb1⟩
  obtain ⟨a, m, c, e0, e1, f1, l1, hm⟩ := hd.cells
  have HP := Lib.hid (pB_of (o := o))
  have s1 := k1.size
  by_cases h0 : n = 0
  · subst h0
    have fin : Hid (Dr w1 q (After o pB) g ∧ (∀ x r, o.bind pB = some (x, r) → [] = x)) := by
      refine Lib.hid ?_
      unfold After at hd ⊢
      rw [HP.out]
      cases hq : o.bind pC with
      | none =>
        rw [hq] at hd
        exact ⟨hd, fun x r hy => (by cases hy)⟩
      | some y =>
        have h1 := hg1 y.1 y.2 hq
        rw [hq] at hd
        simp only [Option.bind_some, Option.map_some, ← h1, List.take_zero, List.drop_zero] at hd ⊢
        exact ⟨hd, fun x r hy => (by cases hy; rfl)⟩
    clear h hd hg1 hb1 hm HP
    go_wp2
    go_ret
    exact ⟨k1, _, [], none, rfl, Own.nil _ _ _, fun k e => (by cases e), fin.out.1, fin.out.2⟩
  · have hn0 : ¬ ((n : Int) = 0) := by omega
    obtain ⟨rest, hq⟩ : ∃ rest, o.bind pC = some (n, rest) := by
      cases hq : o.bind pC with
      | none => exact absurd (hb1 hq) h0
      | some y => exact ⟨y.2, by rw [hg1 y.1 y.2 hq]⟩
    have hpb : o.bind pB = some (rest.take n, rest.drop n) := by rw [HP.out, hq]; rfl
    have hle : n ≤ rest.length := by
      obtain ⟨bs, -, hc⟩ := Option.bind_eq_some_iff.1 hq
      exact (pC_some hc).2.2
    have ha : After o pC = some rest := by unfold After; rw [hq]; rfl
    rw [ha] at hd e1
    have hsm := hd.small rest rfl
    have e1' : w1.cell? ⟨q, 1, none⟩ = some (.bool false) := e1
    clear h hg1 hb1 hm HP e1 ha
    have HD := Lib.hid hd
    have ka := Kept.alloc (fun _ => False) w1 (Obj.cells #[] 5)
    have hal : (w1.alloc (Obj.cells #[] 5)).heap.size = w1.heap.size + 1 := by simp
    have HD2 := Lib.hid (HD.out.kept ka)
    have HO2 := Lib.hid (own_none w1 5)
    clear hd
    go_wp2_with fail
    generalize w1.alloc (Obj.cells #[] 5) = w2 at ka hal HD2 HO2 ⊢
    refine (takeD_c HD2.out n).mono ?_
    rintro e w3 ⟨k3, ⟨bs, v, hbs, hl, rfl, hr, hd3⟩ | ⟨hl, -⟩⟩
    rotate_left
    · exact absurd (hl rest rfl) (by omega)
    cases hbs
    have hln : (rest.take n).length = n := by rw [List.length_take]; omega
    have ho3 := HO2.out.kept k3 (fun k hk e => by simp at hk; have := HD.out.lt; omega)
    have HD3 := Lib.hid hd3
    have s3 := k3.size
    have HR := Lib.hid hr
    clear hd3 hr
    go_wp2_with (at_builtin; refine wpList_append_Own rfl _ _ 22 22 rfl 5 i0 (.int .u8 0) 1 1 Tryz.underlying22 hi hz0 hz1 hz2 rfl rfl ho3 rfl (by exact Reads.src HR.out Tryz.underlying22 (bv_one _)) (by unfold maxLen; omega) (by omega) ?_; intro a6 k6 w6 g6 hown6 hk6 hg6; simp only [Nat.zero_add, List.nil_append] at hown6 ⊢)
    go_ret
    have hne : ∀ k, some w1.heap.size = some k → ¬ (k = q) := fun k hk e => by simp at hk; have := HD.out.lt; omega
    have K3 : Kept (· = q) w w3 := (k1.trans (ka.mono (fun _ _ h => h.elim))).trans k3
    refine ⟨K3.thn hk6 (fun i hi => .inr (by simp at hi; omega)), _, rest.take n, g6, rfl, by rw [hln]; exact hown6, fun k hk => ?_, ?_, fun x r hy => ?_⟩
    · rcases hg6 k hk with h | h
      · simp at h; omega
      · omega
    · unfold After
      rw [hpb]
      exact HD3.out.kept hk6 (fun e => hne q e rfl) (fun k hk e => by have := hgl k hk; simp at e; omega)
    · rw [hpb] at hy; cases hy; rfl
end Go.Proofs.YtmbjealliinpdaaGreat
end

section

namespace Go.Proofs.YtmbjealliinpdaaGreat
open Go.RowKit
theorem flat_mem_le {α : Type} {e : α → List UInt8} {xs : List α} {x : α} (h : x ∈ xs) : (e x).length ≤ (xs.flatMap e).length := by
  induction xs with
  | nil => cases h
  | cons a r ih =>
    rw [List.flatMap_cons, List.length_append]
    rcases List.mem_cons.1 h with rfl | h
    · omega
    · have := ih h; omega
theorem okL_of {α : Type} {size : Nat} {R : World → (Nat → Prop) → List Value → α → Prop} {ok : α → Prop} {e : α → List UInt8} {w : World} {S : Nat → Prop} {v : Value} {xs : List α} (h : ListIs size R w S v xs) (hR : ∀ cs x, R w S cs x → (e x).length < 4294967296 → ok x) (hp : ∀ x, 0 < (e x).length) (hl : (xs.flatMap e).length < 4294967296) : okL ok xs := by
  obtain ⟨a, c, rfl, h1, h2, h3⟩ := h
  refine ⟨by have := flat_len_le hp xs; omega, fun x hx => ?_⟩
  obtain ⟨k, hk⟩ := List.getElem?_of_mem hx
  obtain ⟨b, off, cs, -, -, -, -, hr⟩ := h3 k x hk
  exact hR cs x hr (by have := flat_mem_le (e := e) hx; omega)
def pOsd : Pr OsdT := fun bs => (pF bs).bind fun y0 => (pF y0.2).bind fun y1 => (pI y1.2).bind fun y2 => (pI y2.2).bind fun y3 => (pI y3.2).bind fun y4 => (pI y4.2).bind fun y5 => some (⟨y0.1, y1.1, y2.1, y3.1, y4.1, y5.1⟩, y5.2)
def OsdT.ok (x : OsdT) : Prop := in64 x.weight ∧ in64 x.boot ∧ in64 x.upFrom ∧ in64 x.upThru
theorem lawOsd : Law pOsd OsdT.enc OsdT.ok := by
  refine ⟨fun x rest hok => ?_, fun bs x rest h => ?_, fun x => by simp only [OsdT.enc, List.length_append, List.length_nil, encI_length, bB_length, leB_length]; omega⟩
  · obtain ⟨o2, o3, o4, o5⟩ := hok
    simp only [pOsd, OsdT.enc, List.nil_append, List.append_assoc]
    rw [lawF.enc _ _ trivial]
    simp only [Option.bind_some]
    rw [lawF.enc _ _ trivial]
    simp only [Option.bind_some]
    rw [lawI.enc _ _ o2]
    simp only [Option.bind_some]
    rw [lawI.enc _ _ o3]
    simp only [Option.bind_some]
    rw [lawI.enc _ _ o4]
    simp only [Option.bind_some]
    rw [lawI.enc _ _ o5]
    simp only [Option.bind_some]
  · simp only [pOsd] at h
    obtain ⟨⟨x0, r0⟩, h0, h⟩ := Option.bind_eq_some_iff.1 h
    obtain ⟨⟨x1, r1⟩, h1, h⟩ := Option.bind_eq_some_iff.1 h
    obtain ⟨⟨x2, r2⟩, h2, h⟩ := Option.bind_eq_some_iff.1 h
    obtain ⟨⟨x3, r3⟩, h3, h⟩ := Option.bind_eq_some_iff.1 h
    obtain ⟨⟨x4, r4⟩, h4, h⟩ := Option.bind_eq_some_iff.1 h
    obtain ⟨⟨x5, r5⟩, h5, h⟩ := Option.bind_eq_some_iff.1 h
    simp only [Option.some.injEq, Prod.mk.injEq] at h
    obtain ⟨rfl, rfl⟩ := h
    obtain ⟨e0, o0⟩ := lawF.dec _ _ _ h0
    obtain ⟨e1, o1⟩ := lawF.dec _ _ _ h1
    obtain ⟨e2, o2⟩ := lawI.dec _ _ _ h2
    obtain ⟨e3, o3⟩ := lawI.dec _ _ _ h3
    obtain ⟨e4, o4⟩ := lawI.dec _ _ _ h4
    obtain ⟨e5, o5⟩ := lawI.dec _ _ _ h5
    simp only at e1 e2 e3 e4 e5
    exact ⟨by rw [e0, e1, e2, e3, e4, e5]; simp only [OsdT.enc, List.nil_append, List.append_assoc], o2, o3, o4, o5⟩
theorem OsdT.stable : Stable OsdT.Is := fun _ _ _ _ _ _ h _ _ => OsdT.Is.heap h
theorem OsdT.Is.ok {w : World} {S : Nat → Prop} {cs : List Value} {x : OsdT} (h : OsdT.Is w S cs x) (hl : x.enc.length < 4294967296) : x.ok := by
  obtain ⟨rfl, i0, i1, i2, i3⟩ := h
  simp only [OsdT.enc, List.length_append] at hl
  exact ⟨i0, i1, i2, i3⟩
def pPool : Pr PoolT := fun bs => (pI bs).bind fun y0 => (pI y0.2).bind fun y1 => (pI y1.2).bind fun y2 => (pI y2.2).bind fun y3 => some (⟨y0.1, y1.1, y2.1, y3.1⟩, y3.2)
def PoolT.ok (x : PoolT) : Prop := in64 x.id ∧ in64 x.size ∧ in64 x.min ∧ in64 x.pgs
theorem lawPool : Law pPool PoolT.enc PoolT.ok := by
  refine ⟨fun x rest hok => ?_, fun bs x rest h => ?_, fun x => by simp only [PoolT.enc, List.length_append, List.length_nil, encI_length, bB_length, leB_length]; omega⟩
  · obtain ⟨o0, o1, o2, o3⟩ := hok
    simp only [pPool, PoolT.enc, List.nil_append, List.append_assoc]
    rw [lawI.enc _ _ o0]
    simp only [Option.bind_some]
    rw [lawI.enc _ _ o1]
    simp only [Option.bind_some]
    rw [lawI.enc _ _ o2]
    simp only [Option.bind_some]
    rw [lawI.enc _ _ o3]
    simp only [Option.bind_some]
  · simp only [pPool] at h
    obtain ⟨⟨x0, r0⟩, h0, h⟩ := Option.bind_eq_some_iff.1 h
    obtain ⟨⟨x1, r1⟩, h1, h⟩ := Option.bind_eq_some_iff.1 h
    obtain ⟨⟨x2, r2⟩, h2, h⟩ := Option.bind_eq_some_iff.1 h
    obtain ⟨⟨x3, r3⟩, h3, h⟩ := Option.bind_eq_some_iff.1 h
    simp only [Option.some.injEq, Prod.mk.injEq] at h
    obtain ⟨rfl, rfl⟩ := h
    obtain ⟨e0, o0⟩ := lawI.dec _ _ _ h0
    obtain ⟨e1, o1⟩ := lawI.dec _ _ _ h1
    obtain ⟨e2, o2⟩ := lawI.dec _ _ _ h2
    obtain ⟨e3, o3⟩ := lawI.dec _ _ _ h3
    simp only at e1 e2 e3
    exact ⟨by rw [e0, e1, e2, e3]; simp only [PoolT.enc, List.nil_append, List.append_assoc], o0, o1, o2, o3⟩
theorem PoolT.stable : Stable PoolT.Is := fun _ _ _ _ _ _ h _ _ => PoolT.Is.heap h
theorem PoolT.Is.ok {w : World} {S : Nat → Prop} {cs : List Value} {x : PoolT} (h : PoolT.Is w S cs x) (hl : x.enc.length < 4294967296) : x.ok := by
  obtain ⟨rfl, i0, i1, i2, i3⟩ := h
  simp only [PoolT.enc, List.length_append] at hl
  exact ⟨i0, i1, i2, i3⟩
def pBucket : Pr BucketT := fun bs => (pI bs).bind fun y0 => (pI y0.2).bind fun y1 => (pL pI y1.2).bind fun y2 => (pL pI y2.2).bind fun y3 => some (⟨y0.1, y1.1, y2.1, y3.1⟩, y3.2)
def BucketT.ok (x : BucketT) : Prop := in64 x.id ∧ in64 x.kind ∧ okL in64 x.items ∧ okL in64 x.weights
theorem lawBucket : Law pBucket BucketT.enc BucketT.ok := by
  refine ⟨fun x rest hok => ?_, fun bs x rest h => ?_, fun x => by simp only [BucketT.enc, List.length_append, List.length_nil, encI_length, bB_length, leB_length]; omega⟩
  · obtain ⟨o0, o1, o2, o3⟩ := hok
    simp only [pBucket, BucketT.enc, List.nil_append, List.append_assoc]
    rw [lawI.enc _ _ o0]
    simp only [Option.bind_some]
    rw [lawI.enc _ _ o1]
    simp only [Option.bind_some]
    rw [pL_enc lawI _ _ o2]
    simp only [Option.bind_some]
    rw [pL_enc lawI _ _ o3]
    simp only [Option.bind_some]
  · simp only [pBucket] at h
    obtain ⟨⟨x0, r0⟩, h0, h⟩ := Option.bind_eq_some_iff.1 h
    obtain ⟨⟨x1, r1⟩, h1, h⟩ := Option.bind_eq_some_iff.1 h
    obtain ⟨⟨x2, r2⟩, h2, h⟩ := Option.bind_eq_some_iff.1 h
    obtain ⟨⟨x3, r3⟩, h3, h⟩ := Option.bind_eq_some_iff.1 h
    simp only [Option.some.injEq, Prod.mk.injEq] at h
    obtain ⟨rfl, rfl⟩ := h
    obtain ⟨e0, o0⟩ := lawI.dec _ _ _ h0
    obtain ⟨e1, o1⟩ := lawI.dec _ _ _ h1
    obtain ⟨e2, o2⟩ := pL_dec lawI h2
    obtain ⟨e3, o3⟩ := pL_dec lawI h3
    simp only at e1 e2 e3
    exact ⟨by rw [e0, e1, e2, e3]; simp only [BucketT.enc, List.nil_append, List.append_assoc], o0, o1, o2, o3⟩
theorem BucketT.stable : Stable BucketT.Is := fun _ _ _ _ _ _ h h1 h2 => BucketT.Is.heap h h1 h2
theorem BucketT.Is.ok {w : World} {S : Nat → Prop} {cs : List Value} {x : BucketT} (h : BucketT.Is w S cs x) (hl : x.enc.length < 4294967296) : x.ok := by
  obtain ⟨v_items, v_weights, rfl, i0, i1, l0, l1⟩ := h
  simp only [BucketT.enc, List.length_append] at hl
  exact ⟨i0, i1, okL_of l0 (fun _ _ h _ => h.2) lawI.pos (by omega), okL_of l1 (fun _ _ h _ => h.2) lawI.pos (by omega)⟩
def pChange : Pr ChangeT := fun bs => (pI bs).bind fun y0 => (pI y0.2).bind fun y1 => (pI y1.2).bind fun y2 => (pPool y2.2).bind fun y3 => (pBucket y3.2).bind fun y4 => some (⟨y0.1, y1.1, y2.1, y3.1, y4.1⟩, y4.2)
def ChangeT.ok (x : ChangeT) : Prop := in64 x.kind ∧ in64 x.osd ∧ in64 x.value ∧ PoolT.ok x.pool ∧ BucketT.ok x.bucket
theorem lawChange : Law pChange ChangeT.enc ChangeT.ok := by
  refine ⟨fun x rest hok => ?_, fun bs x rest h => ?_, fun x => by simp only [ChangeT.enc, List.length_append, List.length_nil, encI_length, bB_length, leB_length]; omega⟩
  · obtain ⟨o0, o1, o2, o3, o4⟩ := hok
    simp only [pChange, ChangeT.enc, List.nil_append, List.append_assoc]
    rw [lawI.enc _ _ o0]
    simp only [Option.bind_some]
    rw [lawI.enc _ _ o1]
    simp only [Option.bind_some]
    rw [lawI.enc _ _ o2]
    simp only [Option.bind_some]
    rw [lawPool.enc _ _ o3]
    simp only [Option.bind_some]
    rw [lawBucket.enc _ _ o4]
    simp only [Option.bind_some]
  · simp only [pChange] at h
    obtain ⟨⟨x0, r0⟩, h0, h⟩ := Option.bind_eq_some_iff.1 h
    obtain ⟨⟨x1, r1⟩, h1, h⟩ := Option.bind_eq_some_iff.1 h
    obtain ⟨⟨x2, r2⟩, h2, h⟩ := Option.bind_eq_some_iff.1 h
    obtain ⟨⟨x3, r3⟩, h3, h⟩ := Option.bind_eq_some_iff.1 h
    obtain ⟨⟨x4, r4⟩, h4, h⟩ := Option.bind_eq_some_iff.1 h
    simp only [Option.some.injEq, Prod.mk.injEq] at h
    obtain ⟨rfl, rfl⟩ := h
    obtain ⟨e0, o0⟩ := lawI.dec _ _ _ h0
    obtain ⟨e1, o1⟩ := lawI.dec _ _ _ h1
    obtain ⟨e2, o2⟩ := lawI.dec _ _ _ h2
    obtain ⟨e3, o3⟩ := lawPool.dec _ _ _ h3
    obtain ⟨e4, o4⟩ := lawBucket.dec _ _ _ h4
    simp only at e1 e2 e3 e4
    exact ⟨by rw [e0, e1, e2, e3, e4]; simp only [ChangeT.enc, List.nil_append, List.append_assoc], o0, o1, o2, o3, o4⟩
theorem ChangeT.stable : Stable ChangeT.Is := fun _ _ _ _ _ _ h h1 h2 => ChangeT.Is.heap h h1 h2
theorem ChangeT.Is.ok {w : World} {S : Nat → Prop} {cs : List Value} {x : ChangeT} (h : ChangeT.Is w S cs x) (hl : x.enc.length < 4294967296) : x.ok := by
  obtain ⟨v_bucket_items, v_bucket_weights, rfl, i0, i1, i2, i3, i4, i5, i6, i7, i8, l0, l1⟩ := h
  simp only [ChangeT.enc, PoolT.enc, BucketT.enc, List.length_append] at hl
  exact ⟨i0, i1, i2, ⟨i3, i4, i5, i6⟩, ⟨i7, i8, okL_of l0 (fun _ _ h _ => h.2) lawI.pos (by omega), okL_of l1 (fun _ _ h _ => h.2) lawI.pos (by omega)⟩⟩
def pMap : Pr MapT := fun bs => (pI bs).bind fun y0 => (pL pOsd y0.2).bind fun y1 => (pL pPool y1.2).bind fun y2 => (pL pBucket y2.2).bind fun y3 => (pI y3.2).bind fun y4 => some (⟨y0.1, y1.1, y2.1, y3.1, y4.1⟩, y4.2)
def MapT.ok (x : MapT) : Prop := in64 x.epoch ∧ okL OsdT.ok x.osds ∧ okL PoolT.ok x.pools ∧ okL BucketT.ok x.buckets ∧ in64 x.leaf
theorem lawMap : Law pMap MapT.enc MapT.ok := by
  refine ⟨fun x rest hok => ?_, fun bs x rest h => ?_, fun x => by simp only [MapT.enc, List.length_append, List.length_nil, encI_length, bB_length, leB_length]; omega⟩
  · obtain ⟨o0, o1, o2, o3, o4⟩ := hok
    simp only [pMap, MapT.enc, List.nil_append, List.append_assoc]
    rw [lawI.enc _ _ o0]
    simp only [Option.bind_some]
    rw [pL_enc lawOsd _ _ o1]
    simp only [Option.bind_some]
    rw [pL_enc lawPool _ _ o2]
    simp only [Option.bind_some]
    rw [pL_enc lawBucket _ _ o3]
    simp only [Option.bind_some]
    rw [lawI.enc _ _ o4]
    simp only [Option.bind_some]
  · simp only [pMap] at h
    obtain ⟨⟨x0, r0⟩, h0, h⟩ := Option.bind_eq_some_iff.1 h
    obtain ⟨⟨x1, r1⟩, h1, h⟩ := Option.bind_eq_some_iff.1 h
    obtain ⟨⟨x2, r2⟩, h2, h⟩ := Option.bind_eq_some_iff.1 h
    obtain ⟨⟨x3, r3⟩, h3, h⟩ := Option.bind_eq_some_iff.1 h
    obtain ⟨⟨x4, r4⟩, h4, h⟩ := Option.bind_eq_some_iff.1 h
    simp only [Option.some.injEq, Prod.mk.injEq] at h
    obtain ⟨rfl, rfl⟩ := h
    obtain ⟨e0, o0⟩ := lawI.dec _ _ _ h0
    obtain ⟨e1, o1⟩ := pL_dec lawOsd h1
    obtain ⟨e2, o2⟩ := pL_dec lawPool h2
    obtain ⟨e3, o3⟩ := pL_dec lawBucket h3
    obtain ⟨e4, o4⟩ := lawI.dec _ _ _ h4
    simp only at e1 e2 e3 e4
    exact ⟨by rw [e0, e1, e2, e3, e4]; simp only [MapT.enc, List.nil_append, List.append_assoc], o0, o1, o2, o3, o4⟩
theorem MapT.stable : Stable MapT.Is := fun _ _ _ _ _ _ h h1 h2 => MapT.Is.heap h h1 h2
theorem MapT.Is.ok {w : World} {S : Nat → Prop} {cs : List Value} {x : MapT} (h : MapT.Is w S cs x) (hl : x.enc.length < 4294967296) : x.ok := by
  obtain ⟨v_osds, v_pools, v_buckets, rfl, i0, i1, l0, l1, l2⟩ := h
  simp only [MapT.enc, List.length_append] at hl
  exact ⟨i0, okL_of l0 (fun _ _ h hl => OsdT.Is.ok h hl) lawOsd.pos (by omega), okL_of l1 (fun _ _ h hl => PoolT.Is.ok h hl) lawPool.pos (by omega), okL_of l2 (fun _ _ h hl => BucketT.Is.ok h hl) lawBucket.pos (by omega), i1⟩
def pInc : Pr IncT := fun bs => (pI bs).bind fun y0 => (pL pChange y0.2).bind fun y1 => some (⟨y0.1, y1.1⟩, y1.2)
def IncT.ok (x : IncT) : Prop := in64 x.epoch ∧ okL ChangeT.ok x.changes
theorem lawInc : Law pInc IncT.enc IncT.ok := by
  refine ⟨fun x rest hok => ?_, fun bs x rest h => ?_, fun x => by simp only [IncT.enc, List.length_append, List.length_nil, encI_length, bB_length, leB_length]; omega⟩
  · obtain ⟨o0, o1⟩ := hok
    simp only [pInc, IncT.enc, List.nil_append, List.append_assoc]
    rw [lawI.enc _ _ o0]
    simp only [Option.bind_some]
    rw [pL_enc lawChange _ _ o1]
    simp only [Option.bind_some]
  · simp only [pInc] at h
    obtain ⟨⟨x0, r0⟩, h0, h⟩ := Option.bind_eq_some_iff.1 h
    obtain ⟨⟨x1, r1⟩, h1, h⟩ := Option.bind_eq_some_iff.1 h
    simp only [Option.some.injEq, Prod.mk.injEq] at h
    obtain ⟨rfl, rfl⟩ := h
    obtain ⟨e0, o0⟩ := lawI.dec _ _ _ h0
    obtain ⟨e1, o1⟩ := pL_dec lawChange h1
    simp only at e1
    exact ⟨by rw [e0, e1]; simp only [IncT.enc, List.nil_append, List.append_assoc], o0, o1⟩
theorem IncT.stable : Stable IncT.Is := fun _ _ _ _ _ _ h h1 h2 => IncT.Is.heap h h1 h2
theorem IncT.Is.ok {w : World} {S : Nat → Prop} {cs : List Value} {x : IncT} (h : IncT.Is w S cs x) (hl : x.enc.length < 4294967296) : x.ok := by
  obtain ⟨v_changes, rfl, i0, l0⟩ := h
  simp only [IncT.enc, List.length_append] at hl
  exact ⟨i0, okL_of l0 (fun _ _ h hl => ChangeT.Is.ok h hl) lawChange.pos (by omega)⟩
end Go.Proofs.YtmbjealliinpdaaGreat
end
