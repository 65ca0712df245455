/- Reading values of bytes, in plain Lean: parsers, and that they are the writers' inverses. -/
import Derived.Test.YtanmfldgillodaaGreatCw0
set_option linter.unusedSimpArgs false
set_option linter.unusedVariables false
namespace Go.Proofs.YtanmfldgillodaaGreat
open Go.RowKit

/-- A parser: a value and what is left, or none. -/
abbrev Pr (α : Type) := List UInt8 → Option (α × List UInt8)

def pW (n : Nat) : Pr Nat := fun bs => if n ≤ bs.length then some (leN (bs.take n), bs.drop n) else none
def pI : Pr Int := fun bs => (pW 8 bs).bind fun y => some (IntKind.i64.wrap (y.1 : Int), y.2)
def pF : Pr Bool := fun bs => (pW 1 bs).bind fun y => if y.1 ≤ 1 then some (decide (y.1 = 1), y.2) else none
/-- A count: of no more than there is. -/
def pC : Pr Nat := fun bs => (pW 4 bs).bind fun y => if y.1 ≤ y.2.length then some y else none
def pN {α : Type} (p : Pr α) : Nat → Pr (List α)
  | 0 => fun bs => some ([], bs)
  | n + 1 => fun bs => (p bs).bind fun y => (pN p n y.2).bind fun z => some (y.1 :: z.1, z.2)
def pL {α : Type} (p : Pr α) : Pr (List α) := fun bs => (pC bs).bind fun y => pN p y.1 y.2
def pB : Pr (List UInt8) := fun bs => (pC bs).bind fun y => some (y.2.take y.1, y.2.drop y.1)

/-- A parser and a writer that fit one another. -/
structure Law {α : Type} (p : Pr α) (e : α → List UInt8) (ok : α → Prop) : Prop where
  enc : ∀ x rest, ok x → p (e x ++ rest) = some (x, rest)
  dec : ∀ bs x rest, p bs = some (x, rest) → bs = e x ++ rest ∧ ok x
  pos : ∀ x, 0 < (e x).length

def okL {α : Type} (ok : α → Prop) (xs : List α) : Prop := xs.length < 4294967296 ∧ ∀ x ∈ xs, ok x

theorem pW_app {n : Nat} (a rest : List UInt8) (h : a.length = n) : pW n (a ++ rest) = some (leN a, rest) := by
  unfold pW
  rw [if_pos (by rw [List.length_append]; omega), List.take_left' h, List.drop_left' h]

theorem pW_some {n : Nat} {bs : List UInt8} {V : Nat} {r : List UInt8} (h : pW n bs = some (V, r)) : ∃ a, a.length = n ∧ bs = a ++ r ∧ V = leN a := by
  unfold pW at h
  split at h
  · rename_i hl
    simp only [Option.some.injEq, Prod.mk.injEq] at h
    exact ⟨bs.take n, by rw [List.length_take]; omega, by rw [← h.2, List.take_append_drop], h.1.symm⟩
  · cases h

theorem leB_leN : ∀ (a : List UInt8), leB a.length (leN a) = a
  | [] => rfl
  | b :: r => by
    have hb := UInt8.toNat_lt b
    have h1 : (b.toNat + 256 * leN r) % 256 = b.toNat := by omega
    have h2 : (b.toNat + 256 * leN r) / 256 = leN r := by omega
    simp only [List.length_cons, leN, leB]
    rw [h1, h2, leB_leN r]
    simp

theorem leB_of {n : Nat} {a : List UInt8} (h : a.length = n) : leB n (leN a) = a := by rw [← h]; exact leB_leN a

theorem i64_wrap_in (V : Nat) (h : V < 18446744073709551616) : in64 (IntKind.i64.wrap (V : Int)) ∧ u64 (IntKind.i64.wrap (V : Int)) = V := by
  have e : IntKind.i64.wrap (V : Int) = if V < 9223372036854775808 then (V : Int) else (V : Int) - 18446744073709551616 := by
    by_cases hV : V < 9223372036854775808
    · rw [if_pos hV]
      exact IntWalk.i64_in _ (by omega)
    · rw [if_neg hV]
      have h2 := wrap_u64 ((V : Int) - 18446744073709551616) ⟨by omega, by omega⟩
      rwa [show ((V : Int) - 18446744073709551616) % 18446744073709551616 = V by omega] at h2
  rw [e]
  unfold in64 u64
  split <;> omega

theorem lawI : Law pI encI in64 := by
  refine ⟨fun x rest hx => ?_, fun bs x rest h => ?_, fun x => by rw [encI_length]; omega⟩
  · unfold pI
    rw [pW_app _ _ (encI_length x)]
    have : leN (encI x) = u64 x := by
      unfold encI
      rw [leN_leB]
      exact Nat.mod_eq_of_lt (u64_lt x)
    simp only [Option.bind_some, this]
    rw [u64_eq, wrap_u64 x hx]
  · unfold pI at h
    obtain ⟨⟨V, r⟩, h1, h2⟩ := Option.bind_eq_some_iff.1 h
    simp only [Option.some.injEq, Prod.mk.injEq] at h2
    obtain ⟨rfl, rfl⟩ := h2
    obtain ⟨a, ha, rfl, rfl⟩ := pW_some h1
    have hlt := leN_lt a
    rw [ha] at hlt
    obtain ⟨h3, h4⟩ := i64_wrap_in (leN a) (by omega)
    refine ⟨?_, h3⟩
    unfold encI
    rw [h4, leB_of ha]

theorem lawF : Law pF bB (fun _ => True) := by
  refine ⟨fun x rest hx => ?_, fun bs x rest h => ?_, fun x => by rw [bB_length]; omega⟩
  · unfold pF
    rw [pW_app _ _ (bB_length x)]
    cases x <;> rfl
  · unfold pF at h
    obtain ⟨⟨V, r⟩, h1, h2⟩ := Option.bind_eq_some_iff.1 h
    split at h2
    · rename_i hle
      simp only [Option.some.injEq, Prod.mk.injEq] at h2
      obtain ⟨rfl, rfl⟩ := h2
      obtain ⟨a, ha, rfl, rfl⟩ := pW_some h1
      refine ⟨?_, trivial⟩
      congr 1
      have := leB_of ha
      simp only at hle ⊢
      generalize leN a = V at *
      obtain rfl | rfl : V = 0 ∨ V = 1 := by omega
      · rw [← this]; rfl
      · rw [← this]; rfl
    · cases h2

theorem pC_app (n : Nat) (rest : List UInt8) (hn : n < 4294967296) (h : n ≤ rest.length) : pC (leB 4 n ++ rest) = some (n, rest) := by
  unfold pC
  rw [pW_app _ _ (leB_length 4 n), leN_leB, Nat.mod_eq_of_lt (by omega : n < 256 ^ 4)]
  simp [h]

theorem pC_some {bs : List UInt8} {n : Nat} {r : List UInt8} (h : pC bs = some (n, r)) : bs = leB 4 n ++ r ∧ n < 4294967296 ∧ n ≤ r.length := by
  unfold pC at h
  obtain ⟨⟨V, r'⟩, h1, h2⟩ := Option.bind_eq_some_iff.1 h
  split at h2
  · rename_i hle
    simp only [Option.some.injEq, Prod.mk.injEq] at h2
    obtain ⟨rfl, rfl⟩ := h2
    obtain ⟨a, ha, rfl, rfl⟩ := pW_some h1
    have hlt := leN_lt a
    rw [ha] at hlt
    exact ⟨by rw [leB_of ha], by omega, hle⟩
  · cases h2

theorem flat_len_le {α : Type} {e : α → List UInt8} (hp : ∀ x, 0 < (e x).length) (xs : List α) : xs.length ≤ (xs.flatMap e).length := by
  induction xs with
  | nil => simp
  | cons a r ih =>
    have := hp a
    rw [List.flatMap_cons, List.length_append, List.length_cons]
    omega

theorem pN_enc {α : Type} {p : Pr α} {e : α → List UInt8} {ok : α → Prop} (h : Law p e ok) : ∀ (xs : List α) (rest : List UInt8), (∀ x ∈ xs, ok x) → pN p xs.length (xs.flatMap e ++ rest) = some (xs, rest)
  | [], rest, _ => rfl
  | a :: r, rest, hok => by
    rw [List.flatMap_cons, List.append_assoc, List.length_cons]
    simp only [pN]
    rw [h.enc a _ (hok a (by simp))]
    simp only [Option.bind_some]
    rw [pN_enc h r rest (fun x hx => hok x (by simp [hx]))]
    rfl

theorem pN_dec {α : Type} {p : Pr α} {e : α → List UInt8} {ok : α → Prop} (h : Law p e ok) : ∀ (n : Nat) (bs : List UInt8) (xs : List α) (rest : List UInt8), pN p n bs = some (xs, rest) → bs = xs.flatMap e ++ rest ∧ xs.length = n ∧ ∀ x ∈ xs, ok x
  | 0, bs, xs, rest, hp => by
    simp only [pN, Option.some.injEq, Prod.mk.injEq] at hp
    obtain ⟨rfl, rfl⟩ := hp
    simp
  | n + 1, bs, xs, rest, hp => by
    simp only [pN] at hp
    obtain ⟨⟨x, r⟩, h1, h2⟩ := Option.bind_eq_some_iff.1 hp
    obtain ⟨⟨ys, r'⟩, h3, h4⟩ := Option.bind_eq_some_iff.1 h2
    simp only [Option.some.injEq, Prod.mk.injEq] at h4
    obtain ⟨rfl, rfl⟩ := h4
    obtain ⟨rfl, hx⟩ := h.dec _ _ _ h1
    obtain ⟨h5, rfl, h6⟩ := pN_dec h n _ _ _ h3
    simp only at h5
    refine ⟨by rw [h5, List.flatMap_cons, List.append_assoc], by simp, ?_⟩
    intro y hy
    rcases List.mem_cons.1 hy with rfl | hy
    · exact hx
    · exact h6 y hy

theorem pL_enc {α : Type} {p : Pr α} {e : α → List UInt8} {ok : α → Prop} (h : Law p e ok) (xs : List α) (rest : List UInt8) (hok : okL ok xs) : pL p (leB 4 xs.length ++ (xs.flatMap e ++ rest)) = some (xs, rest) := by
  unfold pL
  rw [pC_app _ _ hok.1 (by have := flat_len_le h.pos xs; rw [List.length_append]; omega)]
  simp only [Option.bind_some]
  exact pN_enc h xs rest hok.2

theorem pL_dec {α : Type} {p : Pr α} {e : α → List UInt8} {ok : α → Prop} (h : Law p e ok) {bs : List UInt8} {xs : List α} {rest : List UInt8} (hp : pL p bs = some (xs, rest)) : bs = leB 4 xs.length ++ (xs.flatMap e ++ rest) ∧ okL ok xs := by
  unfold pL at hp
  obtain ⟨⟨n, r⟩, h1, h2⟩ := Option.bind_eq_some_iff.1 hp
  obtain ⟨rfl, hn, -⟩ := pC_some h1
  obtain ⟨h3, rfl, h4⟩ := pN_dec h _ _ _ _ h2
  simp only at h3
  exact ⟨by rw [h3], hn, h4⟩

theorem lawL {α : Type} {p : Pr α} {e : α → List UInt8} {ok : α → Prop} (h : Law p e ok) : Law (pL p) (encL e) (okL ok) :=
  ⟨fun xs rest hok => by unfold encL; rw [List.append_assoc]; exact pL_enc h xs rest hok,
   fun bs xs rest hp => by unfold encL; rw [List.append_assoc]; exact pL_dec h hp,
   fun xs => by unfold encL; rw [List.length_append, leB_length]; omega⟩

/-- Bytes: their count ahead. -/
def encBy (b : List UInt8) : List UInt8 := leB 4 b.length ++ b
theorem lawB : Law pB encBy (fun b => b.length < 4294967296) := by
  refine ⟨fun x rest hx => ?_, fun bs x rest h => ?_, fun x => by unfold encBy; rw [List.length_append, leB_length]; omega⟩
  · unfold pB encBy
    rw [List.append_assoc, pC_app _ _ hx (by rw [List.length_append]; omega)]
    simp
  · unfold pB at h
    obtain ⟨⟨n, r⟩, h1, h2⟩ := Option.bind_eq_some_iff.1 h
    simp only [Option.some.injEq, Prod.mk.injEq] at h2
    obtain ⟨rfl, rfl⟩ := h2
    obtain ⟨rfl, hn, hle⟩ := pC_some h1
    have hl : (r.take n).length = n := by rw [List.length_take]; omega
    refine ⟨?_, by rw [hl]; exact hn⟩
    unfold encBy
    rw [hl, List.append_assoc, List.take_append_drop]

/-- Numbers one by one. -/
theorem pN2_some {bs : List UInt8} {ns : List Int} {r : List UInt8} (h : pN pI 2 bs = some (ns, r)) : ∃ n0 r0 n1, pI bs = some (n0, r0) ∧ pI r0 = some (n1, r) ∧ ns = [n0, n1] := by
  simp only [pN] at h
  obtain ⟨⟨n0, r0⟩, h1, h2⟩ := Option.bind_eq_some_iff.1 h
  obtain ⟨⟨ys, r'⟩, h3, h4⟩ := Option.bind_eq_some_iff.1 h2
  obtain ⟨⟨n1, r1⟩, h5, h6⟩ := Option.bind_eq_some_iff.1 h3
  simp at h4 h6
  obtain ⟨rfl, rfl⟩ := h4
  obtain ⟨rfl, rfl⟩ := h6
  exact ⟨n0, r0, n1, h1, h5, rfl⟩
theorem pN3_some {bs : List UInt8} {ns : List Int} {r : List UInt8} (h : pN pI 3 bs = some (ns, r)) : ∃ n0 r0 n1 r1 n2, pI bs = some (n0, r0) ∧ pI r0 = some (n1, r1) ∧ pI r1 = some (n2, r) ∧ ns = [n0, n1, n2] := by
  have h' : ((pI bs).bind fun y => (pN pI 2 y.2).bind fun z => some (y.1 :: z.1, z.2)) = some (ns, r) := h
  obtain ⟨⟨n0, r0⟩, h1, h2⟩ := Option.bind_eq_some_iff.1 h'
  obtain ⟨⟨ys, r'⟩, h3, h4⟩ := Option.bind_eq_some_iff.1 h2
  simp at h4
  obtain ⟨rfl, rfl⟩ := h4
  obtain ⟨n1, r1, n2, h5, h6, rfl⟩ := pN2_some h3
  exact ⟨n0, r0, n1, r1, n2, h1, h5, h6, rfl⟩
theorem pN4_some {bs : List UInt8} {ns : List Int} {r : List UInt8} (h : pN pI 4 bs = some (ns, r)) : ∃ n0 r0 n1 r1 n2 r2 n3, pI bs = some (n0, r0) ∧ pI r0 = some (n1, r1) ∧ pI r1 = some (n2, r2) ∧ pI r2 = some (n3, r) ∧ ns = [n0, n1, n2, n3] := by
  have h' : ((pI bs).bind fun y => (pN pI 3 y.2).bind fun z => some (y.1 :: z.1, z.2)) = some (ns, r) := h
  obtain ⟨⟨n0, r0⟩, h1, h2⟩ := Option.bind_eq_some_iff.1 h'
  obtain ⟨⟨ys, r'⟩, h3, h4⟩ := Option.bind_eq_some_iff.1 h2
  simp at h4
  obtain ⟨rfl, rfl⟩ := h4
  obtain ⟨n1, r1, n2, r2, n3, h5, h6, h7, rfl⟩ := pN3_some h3
  exact ⟨n0, r0, n1, r1, n2, r2, n3, h1, h5, h6, h7, rfl⟩

theorem pN_none_step {β : Type} {m : Nat} {bs : List UInt8} (h : pN pI (m + 1) bs = none) (k : Int × List UInt8 → Option β) (hk : ∀ n r, pI bs = some (n, r) → pN pI m r = none → k (n, r) = none) : (pI bs).bind k = none := by
  simp only [pN] at h
  cases h0 : pI bs with
  | none => rfl
  | some y =>
    obtain ⟨n, r⟩ := y
    rw [h0] at h
    simp only [Option.bind_some] at h ⊢
    refine hk n r h0 ?_
    cases h1 : pN pI m r with
    | none => rfl
    | some z => rw [h1] at h; simp at h
theorem pN2_none {β : Type} {bs : List UInt8} (h : pN pI 2 bs = none) (k : Int × List UInt8 → Int × List UInt8 → Option β) : ((pI bs).bind fun y0 => (pI y0.2).bind fun y1 => k y0 y1) = none :=
  pN_none_step h _ fun n r _ h1 => pN_none_step h1 _ fun n' r' _ h2 => by simp [pN] at h2
theorem pN3_none {β : Type} {bs : List UInt8} (h : pN pI 3 bs = none) (k : Int × List UInt8 → Int × List UInt8 → Int × List UInt8 → Option β) : ((pI bs).bind fun y0 => (pI y0.2).bind fun y1 => (pI y1.2).bind fun y2 => k y0 y1 y2) = none :=
  pN_none_step h _ fun n r _ h1 => pN2_none h1 (fun y1 y2 => k (n, r) y1 y2)
theorem pN4_none {β : Type} {bs : List UInt8} (h : pN pI 4 bs = none) (k : Int × List UInt8 → Int × List UInt8 → Int × List UInt8 → Int × List UInt8 → Option β) : ((pI bs).bind fun y0 => (pI y0.2).bind fun y1 => (pI y1.2).bind fun y2 => (pI y2.2).bind fun y3 => k y0 y1 y2 y3) = none :=
  pN_none_step h _ fun n r _ h1 => pN3_none h1 (fun y1 y2 y3 => k (n, r) y1 y2 y3)

end Go.Proofs.YtanmfldgillodaaGreat
