/- The contracts of the codec's writing: text, list of texts, Strings. -/
import Derived.Test.YtanmfldgillodaaGreatWrite2
import Derived.Lib.ConvBytes
set_option linter.unusedSimpArgs false
set_option linter.unusedVariables false
namespace Go.Proofs.YtanmfldgillodaaGreat
open Go.RowKit

theorem bytesWorld_kept (F : Nat → Prop) (w : World) (e : TypeId) (s : ByteArray) : Kept F w (Go.Lib.bytesWorld w e s) :=
  ⟨by simp [Go.Lib.bytesWorld, World.freeze, World.alloc, World.drew, -World.alloc_eq, -World.drew_eq], by simp [Go.Lib.bytesWorld, World.freeze, World.alloc, World.drew, -World.alloc_eq, -World.drew_eq], by simp [Go.Lib.bytesWorld, World.freeze, World.alloc, World.drew, -World.alloc_eq, -World.drew_eq],
    by rw [Go.Lib.bytesWorld_size]; omega, fun k hk _ => Go.Lib.bytesWorld_at_old w e s k hk⟩

theorem bytesWorld_reads (w : World) (e : TypeId) (s : ByteArray) (hs : s.size ≤ maxLen) : Reads (Go.Lib.bytesWorld w e s) 1 (.slice (some ⟨w.heap.size, 0, none⟩) s.size (grownCap w s.size 0 e)) s.data.toList.length (s.data.toList.map bv) (some w.heap.size) := by
  have hl : s.data.toList.length = s.size := by simp
  refine ⟨by simp, .inr ⟨w.heap.size, 0, _, rfl, by rw [hl], by rw [hl]; exact grownCap_ge w s.size 0 e, grownCap_le_maxLen w s.size 0 e hs, fun j hj => ?_⟩⟩
  rw [List.length_map, hl] at hj
  rw [Nat.zero_add, Go.Lib.bytesWorld_cell w e s j hj, List.getElem?_map, List.getElem?_eq_getElem (by rw [hl]; exact hj)]
  simp [bv, List.getD, hj]

set_option maxRecDepth 100000 in
set_option maxHeartbeats 1600000 in
theorem textWrite_c {w : World} {c p : Nat} {out : List UInt8} {g : Option Nat} (h : Writes w c out g) {s : ByteArray} (hp : w.heap[p]? = some (.cells #[.string s] 9)) (hm : out.length + s.size ≤ 90000000000000) :
    Calls Tryz.prog 79 #[.pointer (some ⟨c, 0, none⟩), .pointer (some ⟨p, 0, none⟩)] w fun e w' => e = .returned (.tuple #[]) ∧ ∃ g', Writes w' c (out ++ (leB 4 s.size ++ s.data.toList)) g' ∧ Kept (fun k => k = c ∨ k = p ∨ g = some k) w w' ∧ ∀ k, g' = some k → g = some k ∨ w.heap.size ≤ k := by
  have p0 : w.cell? ⟨p, 0, none⟩ = some (.string s) := cell_in hp
  have hlp := lt_in hp
  have HP := Lib.hid hp
  have hpc : p ≠ c := fun e => by
    obtain ⟨vo, h1, -⟩ := h.ex
    rw [e] at hp
    rw [h1] at hp
    have := congrArg (fun o => match o with | some (Obj.cells _ t _) => t | _ => 0) hp
    simp at this
  have hpg : ∀ k, g = some k → k ≠ p := by
    obtain ⟨vo, -, h2⟩ := h.ex
    exact h2.ne hp (by decide)
  have hlc : c < w.heap.size := by
    obtain ⟨vo, h1, -⟩ := h.ex
    exact lt_in h1
  have hlg : ∀ k, g = some k → k < w.heap.size := by
    obtain ⟨vo, -, h2⟩ := h.ex
    exact h2.lt
  clear hp
  have hcv := Go.Lib.run_convert_string_bytes (P := Tryz.prog) w 9 41 5 s Tryz.underlying9 Tryz.underlying41 Tryz.underlying5
  have hKB := bytesWorld_kept (fun _ => False) w 5 s
  have hRB := bytesWorld_reads w 5 s (by unfold maxLen; omega)
  have hSB := Go.Lib.bytesWorld_size w 5 s
  generalize Go.Lib.bytesWorld w 5 s = wb at hcv hKB hRB hSB
  obtain ⟨cap, hcap⟩ : ∃ cap, cap = grownCap w s.size 0 5 := ⟨_, rfl⟩
  rw [← hcap] at hcv hRB
  have hlen : s.data.toList.length = s.size := by simp
  rw [hlen] at hRB
  clear hcap
  go_enter Tryz.func79, Tryz.ntmps79
  go_wp2_with fail
  have x1 : (wb.alloc (Obj.cells #[Value.slice (some ⟨w.heap.size, 0, none⟩) s.size cap] 41)).heap[wb.heap.size]? = some (Obj.cells #[Value.slice (some ⟨w.heap.size, 0, none⟩) s.size cap] 41) := heap_alloc_new' _ _
  rw [hSB] at x1
  have k1 : Kept (fun _ => False) w (wb.alloc (Obj.cells #[Value.slice (some ⟨w.heap.size, 0, none⟩) s.size cap] 41)) := hKB.al _
  have r1 := hRB.kept (Kept.alloc (fun _ => False) wb (Obj.cells #[Value.slice (some ⟨w.heap.size, 0, none⟩) s.size cap] 41)) (fun _ _ h => h)
  have s1 : (wb.alloc (Obj.cells #[Value.slice (some ⟨w.heap.size, 0, none⟩) s.size cap] 41)).heap.size = w.heap.size + 1 + 1 := by simp [hSB]
  generalize wb.alloc (Obj.cells #[Value.slice (some ⟨w.heap.size, 0, none⟩) s.size cap] 41) = w1 at x1 k1 r1 s1 ⊢
  have h1 := h.kept k1 (fun h => h) (fun _ _ h => h)
  refine (bytesWrite_c h1 (bs := s.data.toList) (gb := some w.heap.size) x1 (by rw [hlen]; exact r1) (fun k hk => ⟨by simp at hk; omega, fun hg => by simp at hk; have := hlg k hg; omega⟩) (by rw [hlen]; exact hm)).mono ?_
  rintro e w2 ⟨rfl, g2, hw2, k2, hg2⟩
  rw [hlen] at hw2
  have x2 : w2.heap[w.heap.size + 1]? = _ := (k2.block _ (lt_in x1) (fun h => by rcases h with h | h; omega; have := hlg _ h; omega)).trans x1
  have r2 := r1.kept k2 (fun k hk h => by simp at hk; rcases h with h | h; omega; have := hlg _ h; omega)
  have hst := Reads.string_run (P := Tryz.prog) r2 Tryz.underlying41 Tryz.underlying5 Tryz.underlying9
  have hss : (⟨s.data.toList.toArray⟩ : ByteArray) = s := by simp
  rw [hss] at hst
  have hp2 : w2.heap[p]? = _ := (k2.block _ (by omega) (fun h => by rcases h with h | h; exact hpc h; exact hpg p h rfl)).trans ((k1.block _ hlp (fun h => h)).trans HP.out)
  have z1 : w2.cell? ⟨w.heap.size + 1, 0, none⟩ = some (.slice (some ⟨w.heap.size, 0, none⟩) s.size cap) := cell_in x2
  have l1 := lt_in x2
  have z2 : w2.cell? ⟨p, 0, none⟩ = some (.string s) := cell_in hp2
  have l2 := lt_in hp2
  have f2 : w2.frozen? ⟨p, 0, none⟩ = false := frozen_in hp2
  have hgp : ∀ k, g2 = some k → k ≠ p := fun k hk => by
    obtain ⟨vo, -, o2⟩ := hw2.ex
    exact o2.ne hp2 (by decide) k hk
  clear x1 x2 hp2 r1 r2 p0 hcv
  go_wp2
  have K3 : Kept (fun k => k = c ∨ k = p ∨ g = some k) w (w2.setCell ⟨p, 0, none⟩ (.string s)) := ((k1.mono (G := fun k => k = c ∨ k = p ∨ g = some k) (fun _ _ h => h.elim)).thn k2 (fun i hi => by
    rcases hi with h | h
    · exact .inl (.inl h)
    · exact .inl (.inr (.inr h)))).st _ (.inl (.inr (.inl rfl)))
  refine bodyPost_end (v := .tuple #[]) (by simp [results, Tryz.results79]) rfl ⟨rfl, g2, hw2.kept (Kept.setCell (F := (· = p)) _ _ _ rfl) (fun h => hpc h.symm) (fun k hk h => hgp k hk h), K3, fun k hk => ?_⟩
  rcases hg2 k hk with h | h
  · exact .inl h
  · exact .inr (by omega)

end Go.Proofs.YtanmfldgillodaaGreat
