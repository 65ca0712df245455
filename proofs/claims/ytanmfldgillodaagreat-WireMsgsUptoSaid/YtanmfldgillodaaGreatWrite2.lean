/- The contracts of the codec's writing: count, bytes, text. -/
import Derived.Test.YtanmfldgillodaaGreatWrite
set_option linter.unusedSimpArgs false
set_option linter.unusedVariables false
namespace Go.Proofs.YtanmfldgillodaaGreat
open Go.RowKit

set_option maxRecDepth 100000 in
set_option maxHeartbeats 1600000 in
theorem countWrite_c {w : World} {c : Nat} {out : List UInt8} {g : Option Nat} (h : Writes w c out g) (n : Nat) (hn : n ≤ 9223372036854775807) (hm : out.length ≤ 100000000000000) :
    Calls Tryz.prog 140 #[.pointer (some ⟨c, 0, none⟩), .int .i64 n] w fun e w' => e = .returned (.int .i64 n) ∧ Wrote w w' c out g (leB 4 n) := by
  have e1 : (n : Int) % 18446744073709551616 = (n : Int) := by omega
  have e2 : IntKind.i64.wrap (n : Int) = (n : Int) := IntWalk.i64_in _ (by omega)
  go_enter Tryz.func140, Tryz.ntmps140
  go_wp2_with fail
  refine (wordWrite_c h n 4 (by omega) (by omega) hm).mono ?_
  rintro e w1 ⟨rfl, hw⟩
  have HW := Lib.hid hw
  obtain ⟨g', hw', -, -⟩ := hw
  obtain ⟨vo, h1, -⟩ := hw'.ex
  have c2 : w1.cell? ⟨c, 2, none⟩ = some (.bool false) := cell_in h1
  have hl := lt_in h1
  clear h1 hw' h
  go_wp2
  go_ret
  exact ⟨rfl, HW.out⟩

set_option maxRecDepth 100000 in
set_option maxHeartbeats 1600000 in
theorem bytesWrite_c {w : World} {c p : Nat} {out : List UInt8} {g : Option Nat} (h : Writes w c out g) {v : Value} {bs : List UInt8} {gb : Option Nat} (hp : w.heap[p]? = some (.cells #[v] 41)) (hr : Reads w 1 v bs.length (bs.map bv) gb) (hgb : ∀ k, gb = some k → k ≠ c ∧ g ≠ some k) (hm : out.length + bs.length ≤ 90000000000000) :
    Calls Tryz.prog 141 #[.pointer (some ⟨c, 0, none⟩), .pointer (some ⟨p, 0, none⟩)] w fun e w' => e = .returned (.tuple #[]) ∧ Wrote w w' c out g (leB 4 bs.length ++ bs) := by
  obtain ⟨i0, hi, hz0, hz1, hz2⟩ := info_all u8info
  obtain ⟨a, cp, rfl, hc⟩ := hr.shape
  have p0 : w.cell? ⟨p, 0, none⟩ = some (.slice a bs.length cp) := cell_in hp
  have hlp := lt_in hp
  have hpc : p ≠ c := fun e => by
    obtain ⟨vo, h1, -⟩ := h.ex
    rw [e] at hp
    rw [h1] at hp
    have := congrArg (fun o => match o with | some (Obj.cells _ t _) => t | _ => 0) hp
    simp at this
  have hpg : ∀ k, g = some k → k ≠ p := by
    obtain ⟨vo, -, h2⟩ := h.ex
    exact h2.ne hp (by decide)
  have HP := Lib.hid hp
  clear hp
  go_enter Tryz.func141, Tryz.ntmps141
  go_wp2_with fail
  refine (countWrite_c h bs.length (by omega) (by omega)).mono ?_
  rintro e w1 ⟨rfl, g1, hw1, k1, hg1⟩
  obtain ⟨vo1, q1, o1⟩ := hw1.ex
  obtain ⟨L, hL⟩ : ∃ L, L = out ++ leB 4 bs.length := ⟨_, rfl⟩
  have hLl : L.length = out.length + 4 := by rw [hL, List.length_append, leB_length]
  rw [← hL] at o1
  have HL := Lib.hid hL
  clear hL hw1 p0 h
  obtain ⟨a1, cp1, rfl, -, -⟩ := o1.shape
  have hp1 : w1.heap[p]? = _ := (k1.block _ hlp (fun h => by rcases h with h | h; exact hpc h; exact hpg p h rfl)).trans HP.out
  have r1 := hr.kept k1 (fun k hk h => by rcases h with h | h; exact (hgb k hk).1 h; exact (hgb k hk).2 h)
  have z0 : w1.cell? ⟨c, 0, none⟩ = some (.slice a1 L.length cp1) := cell_in q1
  have z2 : w1.cell? ⟨c, 2, none⟩ = some (.bool false) := cell_in q1
  have hl1 := lt_in q1
  have p0 : w1.cell? ⟨p, 0, none⟩ = some (.slice a bs.length cp) := cell_in hp1
  have hlp1 := lt_in hp1
  have Q1 := Lib.hid q1
  have HLl := Lib.hid hLl
  have hLs : L.length + bs.length ≤ 90000000000010 := by omega
  clear q1 hp1 hLl
  go_wp2
  refine wp_region_ord [1, 2, 3, 4, 5, 6, 7] [0] [8, 9, 10, 11] (by kernel_rfl) (by kernel_rfl) (fun _ _ d _ _ h => by cases d <;> exact h) ?_
  simp only [sel, List.filterMap_cons, List.filterMap_nil, List.getElem?_cons_zero, List.getElem?_cons_succ]
  repeat (quiet_step (fail))
  refine wpQuiet_nil ?_
  refine wpIdle_step (fun K hK => ?_)
  go_simp
  refine hK _ ?_
  clear hK
  refine wpIdle_nil ?_
  rintro _ ⟨nr, rfl⟩
  have k2 := k1.dN nr
  have o2 := o1.drewN nr
  have r2 := r1.drewN nr
  have q2 : (w1.drewN nr).heap[c]? = _ := Q1.out
  generalize w1.drewN nr = w2 at k2 o2 r2 q2 ⊢
  have hne := o2.ne q2 (by decide)
  clear z0 z2 p0 Q1 o1 r1
  have Q2 := Lib.hid q2
  clear q2
  refine wpList_append_Own rfl _ _ 41 41 rfl 5 i0 (.int .u8 0) 1 1 Tryz.underlying41 hi hz0 hz1 hz2 rfl rfl o2 rfl (by exact Reads.src r2 Tryz.underlying41 (bv_one _)) (by unfold maxLen; omega) (by omega) ?_
  intro a5 k5 w5 g5 hown5 hk5 hg5
  have hA5 : w5.heap[c]? = _ := (hk5.block _ (lt_in Q2.out) (fun h => hne c h rfl)).trans Q2.out
  have f0 := frozen_in (k := 0) hA5
  have z5 := cell_in (k := 0) hA5
  have hl5 := lt_in hA5
  simp only [List.getElem?_toArray, List.getElem?_cons_zero] at z5
  have H5 := Lib.hid hA5
  clear hA5
  go_wp2
  have e9 : L.map bv ++ bs.map bv = (out ++ (leB 4 bs.length ++ bs)).map bv := by rw [← List.append_assoc, ← HL.out, List.map_append]
  have e8 : L.length + bs.length = (out ++ (leB 4 bs.length ++ bs)).length := by rw [← List.append_assoc, ← HL.out, List.length_append]
  have K5 : Kept (fun k => k = c ∨ g = some k) w w5 := k2.thn hk5 (fun i hi => by
    rcases hg1 i hi with h | h
    · exact .inl (.inr h)
    · exact .inr h)
  have hg5' : ∀ k, g5 = some k → g = some k ∨ w.heap.size ≤ k := fun k hk => by
    rcases hg5 k hk with h | h
    · exact hg1 k h
    · have := k2.size; exact .inr (by omega)
  have hne5 := hown5.ne H5.out (by decide)
  rw [e9] at hown5
  refine bodyPost_ret (v := .tuple #[]) (by simp [results, Tryz.results141]) rfl ⟨rfl, g5, ⟨_, heap_setCell_same (o := 0) H5.out _, ?_⟩, K5.st _ (.inl (.inl rfl)), hg5'⟩
  rw [e8] at hown5 ⊢
  exact hown5.kept (Kept.setCell (F := (· = c)) _ _ _ rfl) (fun k hk => hne5 k hk)

end Go.Proofs.YtanmfldgillodaaGreat
