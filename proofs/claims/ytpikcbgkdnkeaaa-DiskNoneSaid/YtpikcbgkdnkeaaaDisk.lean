/- Contracts of package disk. -/
import Derived.Test.YtpikcbgkdnkeaaaRows
import Derived.Test.YtpikcbgkdnkeaaaLib
set_option linter.unusedSimpArgs false
set_option linter.unusedVariables false
namespace Go.Proofs.Ytpikcbgkdnkeaaa
open Go.RowKit

theorem info_u8 : (Try.prog.info? 5).map (fun i => (i.zero, i.size, i.bytes)) = some (some (.int .u8 0), 1, 1) := by kernel_rfl

/-- A disk at block p; its bytes lie in block g. -/
structure IsDisk (w : World) (p : Nat) (g : Option Nat) (sz ba : Int) (bs : List UInt8) (sy li : Int) : Prop where
  cells : ∃ v, w.heap[p]? = some (.cells #[.int .i64 sz, .int .i64 ba, v, .int .i64 sy, .int .i64 li] 47 (0, 0)) ∧ Own w 5 1 v bs.length (bs.map bv) g
  szLo : 1 ≤ sz
  szHi : sz ≤ 67108864
  len : (bs.length : Int) ≤ sz
  baLo : 0 ≤ ba
  baHi : ba ≤ 1000000000000
  syLo : ba ≤ sy
  syHi : sy ≤ ba + bs.length
  liLo : -1 ≤ li

section
variable {w w' : World} {p : Nat} {g : Option Nat} {sz ba sy li : Int} {bs : List UInt8}

theorem IsDisk.heap (h : IsDisk w p g sz ba bs sy li) (hp : w'.heap[p]? = w.heap[p]?) (hg : ∀ k, g = some k → w'.heap[k]? = w.heap[k]?) : IsDisk w' p g sz ba bs sy li := by
  obtain ⟨⟨v, h1, h2⟩, h3, h4, h5, h6, h7, h8, h9, h10⟩ := h
  exact ⟨⟨v, hp.trans h1, h2.heap hg⟩, h3, h4, h5, h6, h7, h8, h9, h10⟩

/-- The blocks of a disk. -/
def Fp (p : Nat) (g : Option Nat) : Nat → Prop := fun k => k = p ∨ g = some k

theorem IsDisk.kept {F : Nat → Prop} (h : IsDisk w p g sz ba bs sy li) (hk : Kept F w w') (hf : ∀ k, Fp p g k → ¬ F k) : IsDisk w' p g sz ba bs sy li := by
  obtain ⟨⟨v, h1, h2⟩, h3, h4, h5, h6, h7, h8, h9, h10⟩ := h
  exact ⟨⟨v, (hk.block p (lt_in h1) (hf _ (.inl rfl))).trans h1, h2.kept hk fun k e => hf _ (.inr e)⟩, h3, h4, h5, h6, h7, h8, h9, h10⟩

theorem IsDisk.lt (h : IsDisk w p g sz ba bs sy li) : ∀ k, Fp p g k → k < w.heap.size := by
  obtain ⟨⟨v, h1, h2⟩, -⟩ := h
  rintro k (rfl | e)
  · exact lt_in h1
  · exact h2.lt k e

theorem IsDisk.drewN (h : IsDisk w p g sz ba bs sy li) (n : Nat) : IsDisk (w.drewN n) p g sz ba bs sy li := h.heap rfl fun _ _ => rfl

/-- What the walk reads of it. -/
theorem IsDisk.opened (h : IsDisk w p g sz ba bs sy li) :
    ∃ a c, w.cell? ⟨p, 0, none⟩ = some (.int .i64 sz) ∧ w.cell? ⟨p, 1, none⟩ = some (.int .i64 ba) ∧ w.cell? ⟨p, 2, none⟩ = some (.slice a bs.length c) ∧ w.cell? ⟨p, 3, none⟩ = some (.int .i64 sy) ∧ w.cell? ⟨p, 4, none⟩ = some (.int .i64 li) ∧
      w.frozen? ⟨p, 2, none⟩ = false ∧ w.frozen? ⟨p, 3, none⟩ = false ∧ w.frozen? ⟨p, 4, none⟩ = false ∧ w.frozen? ⟨p, 0, none⟩ = false ∧ w.frozen? ⟨p, 1, none⟩ = false ∧ Own w 5 1 (.slice a bs.length c) bs.length (bs.map bv) g ∧ bs.length ≤ c ∧ c ≤ maxLen ∧
      w.heap[p]? = some (.cells #[.int .i64 sz, .int .i64 ba, .slice a bs.length c, .int .i64 sy, .int .i64 li] 47 (0, 0)) := by
  obtain ⟨⟨v, h1, h2⟩, -⟩ := h
  obtain ⟨a, c, rfl, h3, h4⟩ := h2.shape
  refine ⟨a, c, ?_, ?_, ?_, ?_, ?_, frozen_in h1, frozen_in h1, frozen_in h1, frozen_in h1, frozen_in h1, h2, h3, h4, h1⟩ <;> rw [cell_in h1] <;> rfl

/-- A number's field is written. -/
theorem IsDisk.setSynced (h : IsDisk w p g sz ba bs sy li) (x : Int) (h1 : ba ≤ x) (h2 : x ≤ ba + bs.length) : IsDisk (w.setCell ⟨p, 3, none⟩ (.int .i64 x)) p g sz ba bs x li := by
  obtain ⟨⟨v, c1, c2⟩, h3, h4, h5, h6, h7, h8, h9, h10⟩ := h
  exact ⟨⟨v, heap_setCell_same c1 _, c2.kept (Kept.setCell (F := (· = p)) w _ _ rfl) (c2.ne c1 (by decide))⟩, h3, h4, h5, h6, h7, h1, h2, h10⟩

theorem IsDisk.setLimit (h : IsDisk w p g sz ba bs sy li) (x : Int) (h1 : -1 ≤ x) : IsDisk (w.setCell ⟨p, 4, none⟩ (.int .i64 x)) p g sz ba bs sy x := by
  obtain ⟨⟨v, c1, c2⟩, h3, h4, h5, h6, h7, h8, h9, h10⟩ := h
  exact ⟨⟨v, heap_setCell_same c1 _, c2.kept (Kept.setCell (F := (· = p)) w _ _ rfl) (c2.ne c1 (by decide))⟩, h3, h4, h5, h6, h7, h8, h9, h1⟩

set_option maxHeartbeats 400000 in
theorem made_c (h : IsDisk w p g sz ba bs sy li) :
    Calls Try.prog 23 #[.pointer (some ⟨p, 0, none⟩)] w fun e w' => e = .returned (.bool true) ∧ w' = w := by
  obtain ⟨a, c, c0, -⟩ := h.opened
  have hp := h.szLo
  have hp' : 0 < sz := by omega
  clear h
  go_enter Try.func23, Try.ntmps23
  go_wp2
  go_ret
  exact ⟨rfl, rfl⟩

set_option maxHeartbeats 400000 in
theorem end_c (h : IsDisk w p g sz ba bs sy li) :
    Calls Try.prog 14 #[.pointer (some ⟨p, 0, none⟩)] w fun e w' => e = .returned (.int .i64 (ba + bs.length)) ∧ ∃ n, w' = w.drewN n := by
  obtain ⟨a, c, c0, c1, c2, -⟩ := h.opened
  have hb := h.baLo
  have hb2 := h.baHi
  have hl := h.len
  have hs := h.szHi
  go_enter Try.func14, Try.ntmps14
  go_wp2_with (go_at_call 23; refine (made_c h).mono ?_; rintro e w' ⟨rfl, rfl⟩)
  clear h
  go_quiet (fail)
  go_wp2
  go_ret
  exact ⟨rfl, nq, rfl⟩

set_option maxHeartbeats 400000 in
theorem base_c (h : IsDisk w p g sz ba bs sy li) :
    Calls Try.prog 20 #[.pointer (some ⟨p, 0, none⟩)] w fun e w' => e = .returned (.int .i64 ba) ∧ w' = w := by
  obtain ⟨a, c, c0, c1, c2, -⟩ := h.opened
  go_enter Try.func20, Try.ntmps20
  go_wp2_with (go_at_call 23; refine (made_c h).mono ?_; rintro e w' ⟨rfl, rfl⟩)
  go_ret
  exact ⟨rfl, rfl⟩

set_option maxHeartbeats 400000 in
theorem synced_c (h : IsDisk w p g sz ba bs sy li) :
    Calls Try.prog 15 #[.pointer (some ⟨p, 0, none⟩)] w fun e w' => e = .returned (.int .i64 sy) ∧ w' = w := by
  obtain ⟨a, c, c0, c1, c2, c3, -⟩ := h.opened
  go_enter Try.func15, Try.ntmps15
  go_wp2_with (go_at_call 23; refine (made_c h).mono ?_; rintro e w' ⟨rfl, rfl⟩)
  go_ret
  exact ⟨rfl, rfl⟩

/-- Is it frozen? -/
def frz (li e : Int) : Bool := decide (0 ≤ li) && decide (li < e)

set_option maxHeartbeats 400000 in
theorem frozen_c (h : IsDisk w p g sz ba bs sy li) (b : Bool) (hb : frz li (ba + bs.length) = b) :
    Calls Try.prog 11 #[.pointer (some ⟨p, 0, none⟩)] w fun e w' => e = .returned (.bool b) ∧ ∃ n, w' = w.drewN n := by
  obtain ⟨a, c, c0, c1, c2, c3, c4, -⟩ := h.opened
  subst hb
  by_cases h0 : 0 ≤ li
  · have hd : decide (0 ≤ li) = true := by simpa using h0
    by_cases h1 : li < ba + bs.length
    · go_enter Try.func11, Try.ntmps11
      go_wp2_with fail
      go_quiet (first | (go_at_call 23; exact Calls.quiet_of_same (made_c (h.drewN _))) | (go_at_call 14; exact Calls.quiet_of (end_c (h.drewN _))))
      go_wp2
      go_ret
      exact ⟨by simp [frz, h0, h1], nq, rfl⟩
    · go_enter Try.func11, Try.ntmps11
      go_wp2_with fail
      go_quiet (first | (go_at_call 23; exact Calls.quiet_of_same (made_c (h.drewN _))) | (go_at_call 14; exact Calls.quiet_of (end_c (h.drewN _))))
      go_wp2
      go_ret
      exact ⟨by simp [frz, h0, h1], nq, rfl⟩
  · have hd : decide (0 ≤ li) = false := by simpa using h0
    go_enter Try.func11, Try.ntmps11
    go_wp2_with fail
    go_quiet (first | (go_at_call 23; exact Calls.quiet_of_same (made_c (h.drewN _))) | (go_at_call 14; exact Calls.quiet_of (end_c (h.drewN _))))
    go_wp2
    go_ret
    exact ⟨by simp [frz]; omega, nq, rfl⟩

set_option maxHeartbeats 400000 in
theorem in_c (h : IsDisk w p g sz ba bs sy li) (at_ to : Int) :
    Calls Try.prog 24 #[.pointer (some ⟨p, 0, none⟩), .int .i64 at_, .int .i64 to] w fun e w' => e = .returned (.bool (decide (ba ≤ at_) && decide (at_ ≤ to))) ∧ w' = w := by
  obtain ⟨a, c, c0, c1, c2, c3, c4, -⟩ := h.opened
  clear h
  by_cases h0 : ba ≤ at_
  · by_cases h1 : at_ ≤ to
    · go_enter Try.func24, Try.ntmps24
      go_wp2
      go_ret
      exact ⟨by simp [h0, h1], rfl⟩
    · go_enter Try.func24, Try.ntmps24
      go_wp2
      go_ret
      exact ⟨by simp [h0, h1], rfl⟩
  · go_enter Try.func24, Try.ntmps24
    go_wp2
    go_ret
    exact ⟨by simp; omega, rfl⟩

set_option maxHeartbeats 400000 in
theorem new_c {n : Int} (h1 : 1 ≤ n) (h2 : n ≤ 67108864) :
    Calls Try.prog 7 #[.int .i64 n] w fun e w' => e = .returned (.tuple #[.pointer (some ⟨w.heap.size, 0, none⟩), .int .i64 0]) ∧ IsDisk w' w.heap.size none n 0 [] 0 (-1) ∧ Kept (fun _ => False) w w' := by
  go_enter Try.func7, Try.ntmps7
  go_wp2
  go_ret2
  exact ⟨rfl, ⟨⟨_, heap_alloc_new w _, Own.nil _ _ _⟩, h1, h2, by simp; omega, by omega, by omega, by omega, by simp, by omega⟩, Kept.alloc _ _ _⟩

set_option maxHeartbeats 400000 in
theorem new_no {n : Int} (h2 : 67108864 < n) :
    Calls Try.prog 7 #[.int .i64 n] w fun e w' => e = .returned (.tuple #[.pointer none, .int .i64 22]) ∧ w' = w := by
  go_enter Try.func7, Try.ntmps7
  go_wp2
  go_ret2
  exact ⟨rfl, rfl⟩

set_option maxHeartbeats 400000 in
theorem sync_c (h : IsDisk w p g sz ba bs sy li) (hb : frz li (ba + bs.length) = false) :
    Calls Try.prog 9 #[.pointer (some ⟨p, 0, none⟩)] w fun e w' => e = .returned (.tuple #[]) ∧ IsDisk w' p g sz ba bs (ba + bs.length) li ∧ Kept (· = p) w w' := by
  obtain ⟨a, c, c0, c1, c2, c3, c4, f2, f3, -⟩ := h.opened
  have hs := h.syLo
  have hs2 := h.syHi
  have HB := Lib.hid hb
  clear hb
  go_enter Try.func9, Try.ntmps9
  go_wp2_with (first
    | (go_at_call 23; refine (made_c h).mono ?_; rintro e w' ⟨rfl, rfl⟩)
    | (go_at_call 11; refine (frozen_c h false HB.out).mono ?_; rintro e w' ⟨rfl, n1, rfl⟩)
    | (go_at_call 14; refine (end_c (h.drewN _)).mono ?_; rintro e w' ⟨rfl, n2, rfl⟩))
  go_end0
  refine ⟨rfl, ?_, ?_⟩
  · exact (h.drewN _).setSynced (ba + bs.length) (by omega) (by omega)
  · exact ((Kept.refl _ _).dN _).st _ (.inl rfl)

set_option maxHeartbeats 400000 in
theorem sync_frozen_c (h : IsDisk w p g sz ba bs sy li) (hb : frz li (ba + bs.length) = true) :
    Calls Try.prog 9 #[.pointer (some ⟨p, 0, none⟩)] w fun e w' => e = .returned (.tuple #[]) ∧ ∃ n, w' = w.drewN n := by
  have HB := Lib.hid hb
  clear hb
  go_enter Try.func9, Try.ntmps9
  go_wp2_with (first
    | (go_at_call 23; refine (made_c h).mono ?_; rintro e w' ⟨rfl, rfl⟩)
    | (go_at_call 11; refine (frozen_c h true HB.out).mono ?_; rintro e w' ⟨rfl, n1, rfl⟩))
  go_end0
  exact ⟨rfl, n1, rfl⟩


set_option maxHeartbeats 400000 in
theorem append_c (h : IsDisk w p g sz ba bs sy li) {v : Value} {xs : List UInt8} {gx : Option Nat} (hr : Reads w 1 v xs.length (xs.map bv) gx) (hfit : (bs.length : Int) + xs.length ≤ sz) :
    Calls Try.prog 8 #[.pointer (some ⟨p, 0, none⟩), v] w fun e w' => e = .returned (.tuple #[.int .i64 (ba + bs.length), .int .i64 0]) ∧ ∃ g', IsDisk w' p g' sz ba (bs ++ xs) sy li ∧ Kept (Fp p g) w w' ∧ (∀ k, g' = some k → g = some k ∨ w.heap.size ≤ k) := by
  obtain ⟨i0, hi, hz0, hz1, hz2⟩ := info_parts info_u8
  obtain ⟨a, c, c0, c1, c2, c3, c4, f2, f3, f4, f0, f1, hown, hc, hcm, hp⟩ := h.opened
  have hv : ∃ a' c', v = .slice a' xs.length c' := by
    obtain ⟨-, ⟨a', c', rfl, hx⟩ | ⟨b, off, c', -, rfl, -⟩⟩ := hr
    · rw [hx]; exact ⟨_, _, rfl⟩
    · exact ⟨_, _, rfl⟩
  obtain ⟨a', c', rfl⟩ := hv
  have hb := h.baLo
  have hb2 := h.baHi
  have hl := h.len
  have hs := h.szHi
  go_enter Try.func8, Try.ntmps8
  go_wp2_with (go_at_call 23; refine (made_c h).mono ?_; rintro e w' ⟨rfl, rfl⟩)
  go_quiet (fail)
  go_wp2_with (first
    | (go_at_call 14; refine (end_c (h.drewN _)).mono ?_; rintro e w' ⟨rfl, n2, rfl⟩)
    | (at_builtin; refine wpList_append_Own rfl _ _ 22 22 rfl 5 i0 (.int .u8 0) 1 1 Try.underlying22 hi hz0 hz1 hz2 rfl rfl (by exact (hown.drewN _)) rfl (by exact (hr.drewN _).src Try.underlying22 (bv_one xs)) (by unfold maxLen; omega) (by omega) ?_; intro a1 k1 w1 g1 hown1 hk1 hg1; have hp1 : w1.heap[p]? = _ := (hk1.block p (lt_in hp) (fun e => hown.ne hp (by decide) _ e rfl)).trans hp; have q1 := cell_in (k := 2) hp1; have q2 := frozen_in (k := 2) hp1))
  go_ret2
  refine ⟨rfl, g1, ⟨⟨_, heap_setCell_same hp1 _, ?_⟩, h.szLo, h.szHi, ?_, h.baLo, h.baHi, h.syLo, ?_, h.liLo⟩, ?_, hg1⟩
  · have := hown1.kept (Kept.setCell (F := (· = p)) w1 ⟨p, 2, none⟩ (.slice a1 (bs.length + xs.length) k1) rfl) (hown1.ne hp1 (by decide))
    simpa using this
  · simp; omega
  · have := h.syHi
    simp; omega
  · exact (((Kept.refl _ _).dN _).trans (hk1.mono fun i _ e => .inr e)).st _ (.inl (.inl rfl))

end
end Go.Proofs.Ytpikcbgkdnkeaaa
