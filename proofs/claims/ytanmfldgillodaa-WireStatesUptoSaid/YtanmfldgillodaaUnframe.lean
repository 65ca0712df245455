/- The contracts of both Unframe. -/
import Derived.Test.YtanmfldgillodaaCodec
set_option linter.unusedSimpArgs false
set_option linter.unusedVariables false
namespace Go.Proofs.Ytanmfldgillodaa
open Go.RowKit

theorem u8info : (Try.prog.info? 5).map (fun i => (i.zero, i.size, i.bytes)) = some (some (.int .u8 0), 1, 1) := by kernel_rfl

theorem info_all {P : Program} {t : TypeId} {z : Value} {n b : Nat} (h : (P.info? t).map (fun i => (i.zero, i.size, i.bytes)) = some (some z, n, b)) : ∃ i, P.info? t = some i ∧ i.zero = some z ∧ i.size = n ∧ i.bytes = b := by
  obtain ⟨i, h1, h2⟩ := Option.map_eq_some_iff.1 h
  simp at h2
  exact ⟨i, h1, h2.1, h2.2.1, h2.2.2⟩

theorem eng0_ex : ∃ cs : Array Value, cs.size = 260 ∧ cs[0]? = some (.int .u32 0) ∧ cs[1]? = some (.int .i32 0) ∧ cs[259]? = some (.int .i64 0) ∧ ∀ w, Sem.run Try.prog (zeroValue 129) w = .ok (.agg cs) w :=
  ⟨match ((Try.prog.info? 129).bind (fun i => i.zero)) with
  | some (.agg c) => c
  | _ => #[], by kernel_rfl, by kernel_rfl, by kernel_rfl, by kernel_rfl, fun w => by kernel_rfl⟩

/-- An engine that is new. -/
structure Eng0 (w : World) (e : Nat) : Prop where
  ex : ∃ cs, Eng w e cs ∧ cs[0]? = some (.int .u32 0) ∧ cs[1]? = some (.int .i32 0) ∧ cs[259]? = some (.int .i64 0)

theorem new_c {w : World} : Calls Try.prog 31 #[] w fun e w' => e = .returned (.pointer (some ⟨w.heap.size, 0, none⟩)) ∧ Eng0 w' w.heap.size ∧ Kept (fun _ => False) w w' := by
  obtain ⟨cs, hs, h0, h1, h2, z⟩ := eng0_ex
  have z1 : ¬ cs = #[] := by intro h; rw [h] at hs; cases hs
  go_enter Try.func31, Try.ntmps31
  go_wp2
  go_ret
  exact ⟨rfl, ⟨cs, ⟨heap_alloc_new' _ _, hs⟩, h0, h1, h2⟩, Kept.alloc _ _ _⟩

theorem crc0_c {w : World} {e : Nat} (h : Eng0 w e) {v : Value} {bs : List UInt8} {g : Option Nat} (hr : Reads w 1 v bs.length (bs.map bv) g) (hg : ∀ k, g = some k → k ≠ e) (hm : bs.length ≤ 140737488351232) :
    Calls Try.prog 32 #[.pointer (some ⟨e, 0, none⟩), v] w fun x w' => x = .returned (.int .u32 (crcN bs)) ∧ Kept (· = e) w w' := by
  obtain ⟨cs, h1, h2, h3, h4⟩ := h.ex
  exact crc_c h1 h2 h3 h4 hr hg hm

/-- What Unframe answers: the content, how far, the error. -/
def unfr (bs : List UInt8) : List UInt8 × Nat × Nat :=
  if bs.length < 8 then ([], 0, 11)
  else
    let n := leN (bs.take 4)
    if 524288 < n then ([], 0, 27)
    else if (bs.drop 8).length < n then ([], 0, 11)
    else if crcN ((bs.drop 8).take n) ≠ leN ((bs.drop 4).take 4) then ([], 0, 74)
    else ((bs.drop 8).take n, n + 8, 0)

/-- How a slice of bytes that is new is handed back. -/
def Fresh (w w' : World) (v : Value) (bs : List UInt8) : Prop := ∃ g, Own w' 5 1 v bs.length (bs.map bv) g ∧ ∀ k, g = some k → w.heap.size ≤ k

theorem Fresh.nil (w w' : World) : Fresh w w' (.slice none 0 0) [] := ⟨none, Own.nil _ _ _, fun k h => by cases h⟩

set_option maxRecDepth 100000 in
set_option maxHeartbeats 1600000 in
theorem unframe_c {w : World} {v : Value} {bs : List UInt8} {g : Option Nat} (hr : Reads w 1 v bs.length (bs.map bv) g) (hgl : ∀ k, g = some k → k < w.heap.size) (hm : bs.length ≤ 140737488351232) (r : List UInt8 × Nat × Nat) (hu : unfr bs = r) :
    Calls Try.prog 10 #[v] w fun e w' => (∃ vc, e = .returned (.tuple #[vc, .int .i64 r.2.1, .int .i64 r.2.2]) ∧ Fresh w w' vc r.1) ∧ Kept (fun _ => False) w w' := by
  obtain ⟨i0, hi, hz0, hz1, hz2⟩ := info_all u8info
  by_cases h8 : bs.length < 8
  · obtain ⟨a, cp, rfl, hc⟩ := hr.shape
    obtain rfl : r = ([], 0, 11) := by rw [← hu, unfr, if_pos h8]
    have h8i : (bs.length : Int) < 8 := by omega
    go_enter Try.func10, Try.ntmps10
    go_wp2
    exact bodyPost_ret (v := .tuple #[.slice none 0 0, .int .i64 0, .int .i64 11]) (by simp [results, Try.results10]) rfl ⟨⟨_, rfl, Fresh.nil _ _⟩, Kept.refl _ _⟩
  obtain ⟨xs, r1, hx, hxl⟩ : ∃ xs r1, bs = xs ++ r1 ∧ xs.length = 4 := ⟨bs.take 4, bs.drop 4, by simp, by simp; omega⟩
  obtain ⟨ys, r2, hy, hyl⟩ : ∃ ys r2, r1 = ys ++ r2 ∧ ys.length = 4 := ⟨r1.take 4, r1.drop 4, by simp, by
    have := congrArg List.length hx
    simp at this ⊢
    omega⟩
  subst hy
  have e1 : bs.take 4 = xs := by rw [hx, ← hxl]; simp
  have e2 : (bs.drop 4).take 4 = ys := by rw [hx, show 4 = xs.length from hxl.symm]; simp [hyl, hxl]
  have e3 : bs.drop 8 = r2 := by rw [hx, show 8 = xs.length + ys.length by omega]; simp
  obtain ⟨n, hn⟩ : ∃ n, n = leN xs := ⟨_, rfl⟩
  obtain ⟨s, hs⟩ : ∃ s, s = leN ys := ⟨_, rfl⟩
  have hn32 : n < 4294967296 := by have := leN_lt xs; rw [hxl] at this; omega
  have hs32 : s < 4294967296 := by have := leN_lt ys; rw [hyl] at this; omega
  have hlen : 8 + r2.length = bs.length := by rw [hx]; simp; omega
  rw [unfr, if_neg h8] at hu
  simp only [e1, e2, e3, ← hn, ← hs] at hu
  have h8i : ¬ (bs.length : Int) < 8 := by omega
  have hm2 : r2.length ≤ 140737488351232 := by omega
  rw [hx] at hr hm
  have HL := Lib.hid hlen
  have HX := Lib.hid hxl
  have HY := Lib.hid hyl
  have HN := Lib.hid hn
  have HS := Lib.hid hs
  clear e1 e2 e3 hlen hxl hyl hn hs
  obtain ⟨a, cp, rfl, hc⟩ := hr.shape
  have hlx : (xs ++ (ys ++ r2)).length = bs.length := by rw [hx]
  rw [hlx] at hc
  have hr' : Reads w 1 (.slice a bs.length cp) (xs ++ (ys ++ r2)).length ((xs ++ (ys ++ r2)).map bv) g := by rw [← hlx]; exact hr
  have wn : IntKind.i64.wrap (n : Int) = (n : Int) := IntWalk.i64_in _ (by omega)
  have ws : (s : Int) % 4294967296 = (s : Int) := by omega
  go_enter Try.func10, Try.ntmps10
  rw [hlx]
  go_wp2_with fail
  have x0 : (w.alloc (Obj.cells #[Value.slice none 0 0, Value.slice a bs.length cp, Value.bool true] 74)).heap[w.heap.size]? = _ := heap_alloc_new' _ _
  have K0 := Kept.alloc (fun _ => False) w (Obj.cells #[Value.slice none 0 0, Value.slice a bs.length cp, Value.bool true] 74)
  have r0 := hr'.kept K0 (fun _ _ h => h)
  generalize w.alloc (Obj.cells #[Value.slice none 0 0, Value.slice a bs.length cp, Value.bool true] 74) = w0 at x0 K0 r0 ⊢
  refine (wordRead_c (xs := xs) (ys := ys ++ r2) 0 x0 r0 (fun k hk => Nat.ne_of_lt (hgl k hk)) 4 (by rw [HX.out]; rfl) (by rw [HX.out]; decide) hm).mono ?_
  rintro e w1 ⟨rfl, vi1, hc1, r1, k1⟩
  rw [← HN.out]
  have K1 := K0.thn k1 (fun i hi => .inr (by omega))
  clear x0 r0
  go_wp2_with fail
  refine (wordRead_c (xs := ys) (ys := r2) 0 hc1 r1 (fun k hk => Nat.ne_of_lt (hgl k hk)) 4 (by rw [HY.out]; rfl) (by rw [HY.out]; decide) (by have := HL.out; rw [List.length_append, HY.out]; omega)).mono ?_
  rintro e w2 ⟨rfl, vi2, hc2, r2', k2⟩
  rw [← HS.out]
  have K2 := K1.thn k2 (fun i hi => .inr (by omega))
  clear hc1 r1
  obtain ⟨a2, cp2, rfl, hcp2⟩ := r2'.shape
  have z1 : w2.cell? ⟨w.heap.size, 1, none⟩ = some (.slice a2 r2.length cp2) := cell_in hc2
  have hl2 := lt_in hc2
  have HC := Lib.hid hc2
  clear hc2
  by_cases h1 : 524288 < n
  · obtain rfl : r = ([], 0, 27) := by rw [← hu, if_pos h1]
    have h1i : (524288 : Int) < (n : Int) := by omega
    go_wp2
    exact bodyPost_ret (v := .tuple #[.slice none 0 0, .int .i64 0, .int .i64 27]) (by simp [results, Try.results10]) rfl ⟨⟨_, rfl, Fresh.nil _ _⟩, K2⟩
  rw [if_neg h1] at hu
  have h1i : ¬ (524288 : Int) < (n : Int) := by omega
  by_cases h2 : r2.length < n
  · obtain rfl : r = ([], 0, 11) := by rw [← hu, if_pos h2]
    have h2i : (r2.length : Int) < (n : Int) := by omega
    go_wp2
    exact bodyPost_ret (v := .tuple #[.slice none 0 0, .int .i64 0, .int .i64 11]) (by simp [results, Try.results10]) rfl ⟨⟨_, rfl, Fresh.nil _ _⟩, K2⟩
  rw [if_neg h2] at hu
  have h2i : ¬ (r2.length : Int) < (n : Int) := by omega
  obtain ⟨a3, cp3, hsl, hrd⟩ := r2'.sliceTo_run (P := Try.prog) (t := 25) (hi := (n : Int)) (k := n) Try.underlying25 u8size hcp2 rfl (by omega)
  obtain ⟨ct, hct⟩ : ∃ ct, ct = r2.take n := ⟨_, rfl⟩
  have hctl : ct.length = n := by rw [hct, List.length_take]; omega
  rw [Nat.mul_one, ← List.map_take, ← hct] at hrd
  rw [← hct] at hu
  have HU := Lib.hid hu
  clear hu hct
  subst hctl
  go_wp2
  refine wp_region_ordS (fun w' => Kept (fun _ => False) w2 w') [] [1, 2, 3, 4, 5, 6, 8] [0, 7, 9, 10] (by kernel_rfl) (by kernel_rfl) (fun _ _ d _ _ h => by cases d <;> exact h) (fun k => Kept.drewN _ _ _) ?_
  simp only [sel, List.filterMap_cons, List.filterMap_nil, List.getElem?_cons_zero, List.getElem?_cons_succ]
  refine wpQuiet_nil ?_
  refine wpHeld_step (fun K hK => ?_)
  go_simp
  refine ⟨_, fun _ _ => rfl, hK _ ?_⟩
  refine wpHeld_step (fun K hK => ?_)
  go_simp
  refine ⟨_, fun _ _ => rfl, hK _ ?_⟩
  refine wpHeld_step (fun K hK => ?_)
  go_simp
  refine ⟨_, fun _ _ => rfl, hK _ ?_⟩
  refine wpHeld_step (fun K hK => ?_)
  go_simp
  refine ⟨.slice a2 r2.length cp2, fun w' h => (by
    have h0 : w'.heap[w.heap.size]? = _ := (h.block _ hl2 (fun h => h)).trans HC.out
    have h1 := cell_in (k := 1) h0
    have h2 := lt_in h0
    simp at h1
    clear h0 h
    go_simp), hK _ ?_⟩
  refine wpHeld_step (fun K hK => ?_)
  go_simp
  refine ⟨_, fun _ _ => rfl, hK _ ?_⟩
  refine wpHeld_step (fun K hK => ?_)
  go_simp
  refine ⟨_, fun _ _ => rfl, hK _ ?_⟩
  refine wpHeld_step (fun K hK => ?_)
  go_simp
  refine ⟨_, fun _ _ => rfl, hK _ ?_⟩
  refine wpHeld_nil ?_
  rintro _ ⟨nr, rfl⟩
  have K3 := K2.dN nr
  have k3 : Kept (fun _ => False) w2 (w2.drewN nr) := Kept.drewN _ _ _
  generalize w2.drewN nr = w3 at K3 k3 ⊢
  clear z1
  refine wpListS_step (fun K hK => ?_)
  go_simp
  go_wp2_with fail
  refine new_c.mono ?_
  rintro e w4 ⟨rfl, E4, k4⟩
  refine hK _ _ (k3.trans k4) ?_
  clear hK
  have r4 := (hrd.kept (k3.trans k4) (fun _ _ h => h))
  refine wpListS_step (fun K hK => ?_)
  go_simp
  go_wp2_with fail
  have hsz3 : w2.heap.size ≤ w3.heap.size := k3.size
  refine (crc0_c E4 r4 (fun k hk => by have := hgl k hk; have := K3.size; omega) (by omega)).mono ?_
  rintro e w5 ⟨rfl, k5⟩
  have k25 : Kept (fun _ => False) w2 w5 := (k3.trans k4).thn k5 (fun i hi => .inr (by omega))
  refine hK _ _ k25 ?_
  clear hK E4 r4 k4 k5
  have K5 := K2.trans k25
  have hc5 : w5.heap[w.heap.size]? = _ := (k25.block _ hl2 (fun h => h)).trans HC.out
  have r5 := hrd.kept k25 (fun _ _ h => h)
  by_cases hcrc : crcN ct = s
  · obtain rfl : r = (ct, ct.length + 8, 0) := by rw [← HU.out, if_neg (by simpa using hcrc)]
    have hne : (((crcN ct : Nat) : Int) != (s : Int)) = false := by simp [hcrc]
    refine wpListS_step (fun K hK => ?_)
    go_simp
    refine hK _ _ k25 ?_
    clear hK
    refine wpListS_step (fun K hK => ?_)
    go_simp
    refine hK _ _ k25 ?_
    clear hK
    refine wpListS_nil ?_
    have z1 : w5.cell? ⟨w.heap.size, 1, none⟩ = some (.slice a2 r2.length cp2) := cell_in hc5
    have hl5 := lt_in hc5
    clear hc5
    go_wp2_with (at_builtin; refine wpList_append_Own rfl _ _ 25 25 rfl 5 i0 (.int .u8 0) 1 1 Try.underlying25 hi hz0 hz1 hz2 rfl rfl (Own.nil _ _ _) rfl (by exact Reads.src r5 Try.underlying25 (bv_one _)) (by unfold maxLen; omega) (by omega) ?_; intro a6 k6 w6 g6 hown6 hk6 hg6; simp only [Nat.zero_add, List.nil_append] at hown6 ⊢)
    have K6 : Kept (fun _ => False) w w6 := K5.thn hk6 (fun i hi => by cases hi)
    refine bodyPost_ret (v := .tuple #[.slice a6 ct.length k6, .int .i64 ((ct.length : Int) + 8), .int .i64 0]) (by simp [results, Try.results10]) rfl ⟨⟨_, by simp, g6, hown6, fun k hk => ?_⟩, K6⟩
    rcases hg6 k hk with h | h
    · cases h
    · have := K5.size; omega
  · obtain rfl : r = ([], 0, 74) := by rw [← HU.out, if_pos (by simpa using hcrc)]
    have hne : (((crcN ct : Nat) : Int) != (s : Int)) = true := by simp; omega
    clear hc5
    refine wpListS_step (fun K hK => ?_)
    go_simp
    refine hK _ _ k25 ?_
    clear hK
    refine wpListS_step (fun K hK => ?_)
    go_simp
    refine hK _ _ k25 ?_
    clear hK
    refine wpListS_nil ?_
    go_wp2
    exact bodyPost_ret (v := .tuple #[.slice none 0 0, .int .i64 0, .int .i64 74]) (by simp [results, Try.results10]) rfl ⟨⟨_, rfl, Fresh.nil _ _⟩, K5⟩

end Go.Proofs.Ytanmfldgillodaa
