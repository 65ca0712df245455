/- The contracts of both Unframe. -/
import Derived.Test.YtanmfldgillodaaGreatCodec
set_option linter.unusedSimpArgs false
set_option linter.unusedVariables false
namespace Go.Proofs.YtanmfldgillodaaGreat
open Go.RowKit

theorem u8info : (Tryz.prog.info? 5).map (fun i => (i.zero, i.size, i.bytes)) = some (some (.int .u8 0), 1, 1) := by kernel_rfl

theorem info_all {P : Program} {t : TypeId} {z : Value} {n b : Nat} (h : (P.info? t).map (fun i => (i.zero, i.size, i.bytes)) = some (some z, n, b)) : ∃ i, P.info? t = some i ∧ i.zero = some z ∧ i.size = n ∧ i.bytes = b := by
  obtain ⟨i, h1, h2⟩ := Option.map_eq_some_iff.1 h
  simp at h2
  exact ⟨i, h1, h2.1, h2.2.1, h2.2.2⟩

theorem eng0_ex : ∃ cs : Array Value, cs.size = 260 ∧ cs[0]? = some (.int .u32 0) ∧ cs[1]? = some (.int .i32 0) ∧ cs[259]? = some (.int .i64 0) ∧ ∀ w, Sem.run Tryz.prog (zeroValue 287) w = .ok (.agg cs) w :=
  ⟨match ((Tryz.prog.info? 287).bind (fun i => i.zero)) with
  | some (.agg c) => c
  | _ => #[], by kernel_rfl, by kernel_rfl, by kernel_rfl, by kernel_rfl, fun w => by kernel_rfl⟩

/-- An engine that is new. -/
structure Eng0 (w : World) (e : Nat) : Prop where
  ex : ∃ cs, Eng w e cs ∧ cs[0]? = some (.int .u32 0) ∧ cs[1]? = some (.int .i32 0) ∧ cs[259]? = some (.int .i64 0)

theorem new_c {w : World} : Calls Tryz.prog 96 #[] w fun e w' => e = .returned (.pointer (some ⟨w.heap.size, 0, none⟩)) ∧ Eng0 w' w.heap.size ∧ Kept (fun _ => False) w w' := by
  obtain ⟨cs, hs, h0, h1, h2, z⟩ := eng0_ex
  have z1 : ¬ cs = #[] := by intro h; rw [h] at hs; cases hs
  go_enter Tryz.func96, Tryz.ntmps96
  go_wp2
  go_ret
  exact ⟨rfl, ⟨cs, ⟨heap_alloc_new' _ _, hs⟩, h0, h1, h2⟩, Kept.alloc _ _ _⟩

theorem crc0_c {w : World} {e : Nat} (h : Eng0 w e) {v : Value} {bs : List UInt8} {g : Option Nat} (hr : Reads w 1 v bs.length (bs.map bv) g) (hg : ∀ k, g = some k → k ≠ e) (hm : bs.length ≤ 140737488351232) :
    Calls Tryz.prog 97 #[.pointer (some ⟨e, 0, none⟩), v] w fun x w' => x = .returned (.int .u32 (crcN bs)) ∧ Kept (· = e) w w' := by
  obtain ⟨cs, h1, h2, h3, h4⟩ := h.ex
  exact crc_c h1 h2 h3 h4 hr hg hm

/-- What Unframe answers: the content, how far, the error. -/
def unfr (bs : List UInt8) : List UInt8 × Nat × Nat :=
  if bs.length < 8 then ([], 0, 11)
  else
    let n := leN (bs.take 4)
    if 524288 < n then ([], 0, 27)
    else if (bs.drop 8).length < n then ([], 0, 11)
    else if crcN ((bs.drop 8).take n) ≠ leN ((bs.drop 4).take 4) then ([], 0, 74)
    else ((bs.drop 8).take n, n + 8, 0)

/-- How a slice of bytes that is new is handed back. -/
def Fresh (w w' : World) (v : Value) (bs : List UInt8) : Prop := ∃ g, Own w' 5 1 v bs.length (bs.map bv) g ∧ ∀ k, g = some k → w.heap.size ≤ k

theorem Fresh.nil (w w' : World) : Fresh w w' (.slice none 0 0) [] := ⟨none, Own.nil _ _ _, fun k h => by cases h⟩

end Go.Proofs.YtanmfldgillodaaGreat
