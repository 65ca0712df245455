/- The contract of the document's Unframe. -/
import Derived.Test.YtcpejidmancbdaaUnframe
set_option linter.unusedSimpArgs false
set_option linter.unusedVariables false
namespace Go.Proofs.Ytcpejidmancbdaa
open Go.RowKit

set_option maxRecDepth 100000 in
set_option maxHeartbeats 1600000 in
theorem take_c {w : World} {c : Nat} {vi : Value} {xs ys : List UInt8} {g : Option Nat} (h : w.heap[c]? = some (.cells #[vi, .bool false] 91)) (hr : Reads w 1 vi (xs ++ ys).length ((xs ++ ys).map bv) g) (hg : ∀ k, g = some k → k ≠ c) (n : Int) (hn : n = xs.length) (hm : (xs ++ ys).length ≤ 140737488351232) :
    Calls Try.prog 76 #[.pointer (some ⟨c, 0, none⟩), .int .i64 n] w fun e w' => (∃ vx, e = .returned vx ∧ Reads w' 1 vx xs.length (xs.map bv) g) ∧ ∃ vi', w'.heap[c]? = some (.cells #[vi', .bool false] 91) ∧ Reads w' 1 vi' ys.length (ys.map bv) g ∧ Kept (· = c) w w' := by
  obtain ⟨bs, hbs⟩ : ∃ bs, bs = xs ++ ys := ⟨_, rfl⟩
  have hlen : bs.length = xs.length + ys.length := by rw [hbs, List.length_append]
  have htk : bs.take xs.length = xs := by rw [hbs, List.take_left']; rfl
  have hdr : bs.drop xs.length = ys := by rw [hbs, List.drop_left']; rfl
  rw [← hbs] at hr hm
  obtain ⟨N, hN⟩ : ∃ N : Nat, N = xs.length := ⟨_, rfl⟩
  rw [← hN] at hn hlen htk hdr
  subst hn
  obtain ⟨a, cp, rfl, hc⟩ := hr.shape
  have c0 : w.cell? ⟨c, 0, none⟩ = some (.slice a bs.length cp) := cell_in h
  have c1 : w.cell? ⟨c, 1, none⟩ = some (.bool false) := cell_in h
  have hl := lt_in h
  have f0 : w.frozen? ⟨c, 0, none⟩ = false := frozen_in h
  have hge : ¬ (bs.length : Int) < (N : Int) := by omega
  have HC := Lib.hid h
  clear h
  obtain ⟨a2, cp2, hsl, hrd⟩ := hr.sliceFrom_run (P := Try.prog) (t := 25) (lo := (N : Int)) Try.underlying25 u8size hc (by omega) (by omega)
  obtain ⟨a3, cp3, hsl3, hrd3⟩ := hr.sliceTo_run (P := Try.prog) (t := 25) (hi := (N : Int)) (k := N) Try.underlying25 u8size hc rfl (by omega)
  have e1 : bs.length - (N : Int).toNat = ys.length := by omega
  have e2 : List.drop ((N : Int).toNat * 1) (bs.map bv) = ys.map bv := by rw [Nat.mul_one, ← List.map_drop, show (N : Int).toNat = N by omega, hdr]
  rw [e2, e1] at hrd
  rw [e1] at hsl
  rw [Nat.mul_one, ← List.map_take, htk] at hrd3
  have HN := Lib.hid hN
  clear hlen hbs htk hdr e1 e2 hr hN
  go_enter Try.func76, Try.ntmps76
  go_wp2
  go_ret
  have K1 : Kept (· = c) w (w.setCell ⟨c, 0, none⟩ (.slice a2 ys.length cp2)) := Kept.setCell _ _ _ rfl
  rw [← HN.out]
  exact ⟨⟨_, rfl, hrd3.kept K1 (fun k hk => hg k hk)⟩, _, heap_setCell_same (o := 0) HC.out _, hrd.kept K1 (fun k hk => hg k hk), K1⟩

theorem add_high (V B k : Nat) (hV : V < 256 ^ k) (hB : B < 256) (hk : k < 4) : IntKind.u32.wrap ((V : Int) + IntKind.u32.wrap ((B : Int) * 2 ^ (8 * k))) = ((V + B * 256 ^ k : Nat) : Int) := by
  have hp : (256 : Nat) ^ k = 2 ^ (8 * k) := by rw [Nat.pow_mul]
  have h8 : 256 ^ (k + 1) ≤ 256 ^ 4 := Nat.pow_le_pow_right (by decide) (by omega)
  have hBk : B * 256 ^ k + 256 ^ k ≤ 256 ^ (k + 1) := by rw [Nat.pow_succ, Nat.mul_comm (256 ^ k) 256, ← Nat.succ_mul]; exact Nat.mul_le_mul_right _ hB
  have h64 : (256 : Nat) ^ 4 = 4294967296 := by decide
  have e : (B : Int) * 2 ^ (8 * k) = ((B * 256 ^ k : Nat) : Int) := by rw [hp]; push_cast; rfl
  rw [e, IntKind.wrap_u32, IntKind.wrap_u32]
  omega

set_option maxRecDepth 100000 in
set_option maxHeartbeats 1600000 in
theorem wordRef_c {w : World} {c : Nat} {vi : Value} {xs ys : List UInt8} {g : Option Nat} (h : w.heap[c]? = some (.cells #[vi, .bool false] 91)) (hr : Reads w 1 vi (xs ++ ys).length ((xs ++ ys).map bv) g) (hg : ∀ k, g = some k → k ≠ c) (hx : xs.length = 4) (hm : (xs ++ ys).length ≤ 140737488351232) :
    Calls Try.prog 43 #[.pointer (some ⟨c, 0, none⟩)] w fun e w' => e = .returned (.int .u32 (leN xs)) ∧ ∃ vi', w'.heap[c]? = some (.cells #[vi', .bool false] 91) ∧ Reads w' 1 vi' ys.length (ys.map bv) g ∧ Kept (· = c) w w' := by
  go_enter Try.func43, Try.ntmps43
  go_wp2_with fail
  refine (take_c h hr hg 4 (by rw [hx]; rfl) hm).mono ?_
  rintro e w1 ⟨⟨vx, rfl, rx⟩, vi', hh, ry, k1⟩
  obtain ⟨a, cp, rfl, hc⟩ := rx.shape
  have HH := Lib.hid hh
  clear h hr hh
  have HX := Lib.hid hx
  have hx4 : 4 ≤ xs.length := by omega
  clear hx
  go_wp2
  go_loopw [8, 4] (fun i x w' => (∃ k V : Nat, k ≤ 4 ∧ i = .int .i64 k ∧ x = .int .u32 V ∧ V < 256 ^ k ∧ Hid (V = leN (xs.take k))) ∧ w' = w1) (fun i _ _ => 4 - (intOf i).toNat)
  case atStart => exact ⟨⟨0, 0, by omega, rfl, rfl, by decide, Lib.hid rfl⟩, rfl⟩
  case round =>
    obtain ⟨⟨k, V, hk, rfl, rfl, hV, hVr⟩, rfl⟩ := hrel
    by_cases hk2 : k < 4
    · have hki : (k : Int) < 4 := by omega
      have hkl : k < xs.length := by omega
      have hkl2 : (k : Int) < (xs.length : Int) := by omega
      obtain ⟨b, off, rfl, rfl, hcell⟩ := rx.byte hkl
      obtain ⟨B, hB⟩ : ∃ B : Nat, B = xs[k].toNat := ⟨_, rfl⟩
      have hBl : B < 256 := by rw [hB]; exact UInt8.toNat_lt _
      rw [← hB] at hcell
      have e1 := add_high V B k hV hBl hk2
      obtain ⟨U, hU⟩ : ∃ U : Nat, U = V + B * 256 ^ k := ⟨_, rfl⟩
      have hUl : U < 256 ^ (k + 1) := by
        have : B * 256 ^ k + 256 ^ k ≤ 256 ^ (k + 1) := by rw [Nat.pow_succ, Nat.mul_comm (256 ^ k) 256, ← Nat.succ_mul]; exact Nat.mul_le_mul_right _ hBl
        omega
      rw [← hU] at e1
      have HU : Hid (U = leN (xs.take (k + 1))) := Lib.hid (by rw [leN_take xs k hkl, ← hVr.out, ← hB, hU])
      clear hB hU hV
      have e2 : ((V : Int) + (B : Int) * 2 ^ (8 * k)) % 4294967296 = (U : Int) := by
        rw [← e1, IntKind.wrap_u32, IntKind.wrap_u32]
        generalize (B : Int) * 2 ^ (8 * k) = Z
        omega
      go_wp2
      refine ⟨⟨⟨k + 1, U, by omega, by simp, by simp [e2], hUl, HU⟩, trivial⟩, by simp [intOf]; omega⟩
    · obtain rfl : k = 4 := by omega
      clear hV
      obtain rfl : V = leN xs := by rw [hVr.out, List.take_of_length_le (by rw [HX.out]; omega)]
      go_wp2
      go_ret
      exact ⟨rfl, vi', HH.out, ry, k1⟩

/-- A slice without elements that is new. -/
theorem own_none (w : World) (t : TypeId) : Own (w.alloc (Obj.cells #[] t)) t 1 (.slice (some ⟨w.heap.size, 0, none⟩) 0 0) 0 [] (some w.heap.size) :=
  ⟨by simp, .inr ⟨w.heap.size, 0, 0, #[], rfl, rfl, Nat.le_refl _, by decide, heap_alloc_new' _ _, by simp, fun j hj => by simp at hj⟩⟩

set_option maxRecDepth 100000 in
set_option maxHeartbeats 1600000 in
theorem unframeRef_c {w : World} {v : Value} {bs : List UInt8} {g : Option Nat} (hr : Reads w 1 v bs.length (bs.map bv) g) (hgl : ∀ k, g = some k → k < w.heap.size) (hm : bs.length ≤ 140737488351232) (r : List UInt8 × Nat × Nat) (hu : unfr bs = r) :
    Calls Try.prog 12 #[v] w fun e w' => (∃ vc, e = .returned (.tuple #[vc, .int .i64 r.2.1, .int .i64 r.2.2]) ∧ Fresh w w' vc r.1) ∧ Kept (fun _ => False) w w' := by
  obtain ⟨i0, hi, hz0, hz1, hz2⟩ := info_all u8info
  by_cases h8 : bs.length < 8
  · obtain ⟨a, cp, rfl, hc⟩ := hr.shape
    obtain rfl : r = ([], 0, 11) := by rw [← hu, unfr, if_pos h8]
    have h8i : (bs.length : Int) < 8 := by omega
    go_enter Try.func12, Try.ntmps12
    go_wp2
    exact bodyPost_ret (v := .tuple #[.slice none 0 0, .int .i64 0, .int .i64 11]) (by simp [results, Try.results12]) rfl ⟨⟨_, rfl, Fresh.nil _ _⟩, Kept.refl _ _⟩
  obtain ⟨xs, r1, hx, hxl⟩ : ∃ xs r1, bs = xs ++ r1 ∧ xs.length = 4 := ⟨bs.take 4, bs.drop 4, by simp, by simp; omega⟩
  obtain ⟨ys, r2, hy, hyl⟩ : ∃ ys r2, r1 = ys ++ r2 ∧ ys.length = 4 := ⟨r1.take 4, r1.drop 4, by simp, by
    have := congrArg List.length hx
    simp at this ⊢
    omega⟩
  subst hy
  have e1 : bs.take 4 = xs := by rw [hx, ← hxl]; simp
  have e2 : (bs.drop 4).take 4 = ys := by rw [hx, show 4 = xs.length from hxl.symm]; simp [hyl, hxl]
  have e3 : bs.drop 8 = r2 := by rw [hx, show 8 = xs.length + ys.length by omega]; simp
  obtain ⟨n, hn⟩ : ∃ n, n = leN xs := ⟨_, rfl⟩
  obtain ⟨s, hs⟩ : ∃ s, s = leN ys := ⟨_, rfl⟩
  have hn32 : n < 4294967296 := by have := leN_lt xs; rw [hxl] at this; omega
  have hs32 : s < 4294967296 := by have := leN_lt ys; rw [hyl] at this; omega
  have hlen : 8 + r2.length = bs.length := by rw [hx]; simp; omega
  rw [unfr, if_neg h8] at hu
  simp only [e1, e2, e3, ← hn, ← hs] at hu
  have h8i : ¬ (bs.length : Int) < 8 := by omega
  have hm2 : r2.length ≤ 140737488351232 := by omega
  rw [hx] at hr hm
  have HL := Lib.hid hlen
  have HX := Lib.hid hxl
  have HY := Lib.hid hyl
  have HN := Lib.hid hn
  have HS := Lib.hid hs
  clear e1 e2 e3 hlen hxl hyl hn hs
  obtain ⟨a, cp, rfl, hc⟩ := hr.shape
  have hlx : (xs ++ (ys ++ r2)).length = bs.length := by rw [hx]
  rw [hlx] at hc
  have hr' : Reads w 1 (.slice a bs.length cp) (xs ++ (ys ++ r2)).length ((xs ++ (ys ++ r2)).map bv) g := by rw [← hlx]; exact hr
  go_enter Try.func12, Try.ntmps12
  rw [hlx]
  go_wp2_with fail
  have x0 : (w.alloc (Obj.cells #[Value.slice a bs.length cp, Value.bool false] 91)).heap[w.heap.size]? = _ := heap_alloc_new' _ _
  have K0 := Kept.alloc (fun _ => False) w (Obj.cells #[Value.slice a bs.length cp, Value.bool false] 91)
  have r0 := hr'.kept K0 (fun _ _ h => h)
  generalize w.alloc (Obj.cells #[Value.slice a bs.length cp, Value.bool false] 91) = w0 at x0 K0 r0 ⊢
  refine (wordRef_c (xs := xs) (ys := ys ++ r2) x0 r0 (fun k hk => Nat.ne_of_lt (hgl k hk)) HX.out hm).mono ?_
  rintro e w1 ⟨rfl, vi1, hc1, r1, k1⟩
  rw [← HN.out]
  have K1 := K0.thn k1 (fun i hi => .inr (by omega))
  clear x0 r0
  go_wp2_with fail
  refine (wordRef_c (xs := ys) (ys := r2) hc1 r1 (fun k hk => Nat.ne_of_lt (hgl k hk)) HY.out (by have := HL.out; rw [List.length_append, HY.out]; omega)).mono ?_
  rintro e w2 ⟨rfl, vi2, hc2, r2', k2⟩
  rw [← HS.out]
  have K2 := K1.thn k2 (fun i hi => .inr (by omega))
  clear hc1 r1
  obtain ⟨a2, cp2, rfl, hcp2⟩ := r2'.shape
  have z1 : w2.cell? ⟨w.heap.size, 0, none⟩ = some (.slice a2 r2.length cp2) := cell_in hc2
  have hl2 := lt_in hc2
  have HC := Lib.hid hc2
  clear hc2
  by_cases h1 : 524288 < n
  · obtain rfl : r = ([], 0, 27) := by rw [← hu, if_pos h1]
    have h1i : (524288 : Int) < (n : Int) := by omega
    go_wp2
    exact bodyPost_ret (v := .tuple #[.slice none 0 0, .int .i64 0, .int .i64 27]) (by simp [results, Try.results12]) rfl ⟨⟨_, rfl, Fresh.nil _ _⟩, K2⟩
  rw [if_neg h1] at hu
  have h1i : ¬ (524288 : Int) < (n : Int) := by omega
  by_cases h2 : r2.length < n
  · obtain rfl : r = ([], 0, 11) := by rw [← hu, if_pos h2]
    have h2i : (r2.length : Int) < (n : Int) := by omega
    go_wp2
    exact bodyPost_ret (v := .tuple #[.slice none 0 0, .int .i64 0, .int .i64 11]) (by simp [results, Try.results12]) rfl ⟨⟨_, rfl, Fresh.nil _ _⟩, K2⟩
  rw [if_neg h2] at hu
  have h2i : ¬ (r2.length : Int) < (n : Int) := by omega
  obtain ⟨a3, cp3, hsl, hrd⟩ := r2'.sliceTo_run (P := Try.prog) (t := 25) (hi := (n : Int)) (k := n) Try.underlying25 u8size hcp2 rfl (by omega)
  obtain ⟨ct, hct⟩ : ∃ ct, ct = r2.take n := ⟨_, rfl⟩
  have hctl : ct.length = n := by rw [hct, List.length_take]; omega
  rw [Nat.mul_one, ← List.map_take, ← hct] at hrd
  rw [← hct] at hu
  have HU := Lib.hid hu
  clear hu hct
  subst hctl
  go_wp2_with (at_builtin; refine wpList_append_Own rfl _ _ 25 25 rfl 5 i0 (.int .u8 0) 1 1 Try.underlying25 hi hz0 hz1 hz2 rfl rfl (own_none w2 5) rfl (by exact Reads.src (hrd.kept (Kept.alloc (fun _ => False) _ _) (fun _ _ h => h)) Try.underlying25 (bv_one _)) (by unfold maxLen; omega) (by omega) ?_; intro a6 k6 w6 g6 hown6 hk6 hg6; simp only [Nat.zero_add, List.nil_append] at hown6 ⊢)
  have hal : (w2.alloc (Obj.cells #[] 5)).heap.size = w2.heap.size + 1 := by simp
  have K6 : Kept (fun _ => False) w w6 := (K2.al _).thn hk6 (fun i hi => by simp at hi; have := K2.size; omega)
  have hg6' : ∀ k, g6 = some k → w.heap.size ≤ k := fun k hk => by
    rcases hg6 k hk with h | h
    · simp at h; have := K2.size; omega
    · have := K2.size; omega
  clear z1 hk6 hg6
  have r6 : Reads w6 1 (.slice a6 ct.length k6) ct.length (ct.map bv) g6 := hown6.reads
  refine (crcRef_c r6 (by omega)).mono ?_
  rintro e w7 ⟨rfl, rfl⟩
  by_cases hcrc : crcN ct = s
  · obtain rfl : r = (ct, ct.length + 8, 0) := by rw [← HU.out, if_neg (by simpa using hcrc)]
    have hne : (((crcN ct : Nat) : Int) != (s : Int)) = false := by simp [hcrc]
    go_wp2
    exact bodyPost_ret (v := .tuple #[.slice a6 ct.length k6, .int .i64 (8 + (ct.length : Int)), .int .i64 0]) (by simp [results, Try.results12]) rfl ⟨⟨_, by simp; omega, g6, hown6, hg6'⟩, K6⟩
  · obtain rfl : r = ([], 0, 74) := by rw [← HU.out, if_pos (by simpa using hcrc)]
    have hne : (((crcN ct : Nat) : Int) != (s : Int)) = true := by simp; omega
    go_wp2
    exact bodyPost_ret (v := .tuple #[.slice none 0 0, .int .i64 0, .int .i64 74]) (by simp [results, Try.results12]) rfl ⟨⟨_, rfl, Fresh.nil _ _⟩, K6⟩

end Go.Proofs.Ytcpejidmancbdaa
