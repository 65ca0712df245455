/- The contracts of the codec's writing: word, count, bytes, text. -/
import Derived.Test.YtanmfldgillodaaGreatFrame
import Derived.Test.YtanmfldgillodaaGreatRegionJ
set_option linter.unusedSimpArgs false
set_option linter.unusedVariables false
namespace Go.Proofs.YtanmfldgillodaaGreat
open Go.RowKit

section
variable {P : Program}
/-- An append where S is held. -/
theorem wpListS_append_Own {S : World → Prop} {w : World} {ops : Array Oper} {rest : List Oper} {o : Oper} {a : Act} {Q : Exit → Act → World → Prop} (hgd : Region.wanted o (yielded ops a.tmps) = true) (s x : Operand) (t tx : TypeId)
    (ho : o.op = .call { callee := .builtin .append, args := #[s, x], argTypes := #[t, tx] })
    (e : TypeId) (i : TypeInfo) (z : Value) (size bytes : Nat) (ht : P.underlying t = some (.slice e)) (hi : P.info? e = some i) (hz : i.zero = some z)
    (hsize : i.size = size) (hby : i.bytes = bytes) (hzs : z.cells.size = size) {v : Value} {n : Nat} {l : List Value} {g : Option Nat} (hv : a.eval s = v) (hown : Own w e size v n l g)
    {y : Value} {m : Nat} {news : List Value} (hy : a.eval x = y) (hs : Src P size tx y m news w) (h63 : n + m ≤ maxLen) (hbytes : (n + m) * bytes ≤ 140737488355328)
    (h : ∀ a' c' w' g', Own w' e size (.slice a' (n + m) c') (n + m) (l ++ news) g' → Kept (fun k => g = some k) w w' → (∀ k, g' = some k → g = some k ∨ w.heap.size ≤ k) → S w' ∧ wpListS P ops S Q rest (a.put o.dst (.slice a' (n + m) c')) w') : wpListS P ops S Q (o :: rest) a w := by
  obtain ⟨v', w', g', hr, h2, h3, h4⟩ := run_append_Own (P := P) t tx o.type e i z size bytes ht hi hz hsize hby hzs hown hs h63 hbytes
  obtain ⟨a', c', rfl, -, -⟩ := h2.shape
  unfold wpListS
  rw [if_pos hgd]
  unfold Oper.wp execOp
  simp only [ho, resolve, invoke, builtin, Sem.run_bind, Sem.run_pure, Result.andThen_ok, List.map_toArray, List.map_cons, List.map_nil, hv, hy, hr]
  exact h _ _ w' g' h2 h3 h4
end

theorem leB_snoc (k n : Nat) : leB (k + 1) n = leB k n ++ [UInt8.ofNat (n / 256 ^ k % 256)] := by
  induction k generalizing n with
  | zero => simp [leB]
  | succ k ih =>
    rw [leB, ih, leB, List.cons_append, Nat.div_div_eq_div_mul, Nat.pow_succ, Nat.mul_comm 256]

/-- A codec that writes: what it has written. -/
structure Writes (w : World) (c : Nat) (out : List UInt8) (g : Option Nat) : Prop where
  ex : ∃ vo, w.heap[c]? = some (.cells #[vo, .slice none 0 0, .bool false] 137) ∧ Own w 5 1 vo out.length (out.map bv) g

theorem Writes.kept {F : Nat → Prop} {w w' : World} {c : Nat} {out : List UInt8} {g : Option Nat} (h : Writes w c out g) (hk : Kept F w w') (hc : ¬ F c) (hf : ∀ k, g = some k → ¬ F k) : Writes w' c out g := by
  obtain ⟨vo, h1, h2⟩ := h.ex
  exact ⟨vo, (hk.block _ (lt_in h1) hc).trans h1, h2.kept hk hf⟩

/-- What a writing call leaves. -/
def Wrote (w w' : World) (c : Nat) (out : List UInt8) (g : Option Nat) (more : List UInt8) : Prop := ∃ g', Writes w' c (out ++ more) g' ∧ Kept (fun k => k = c ∨ g = some k) w w' ∧ ∀ k, g' = some k → g = some k ∨ w.heap.size ≤ k

theorem shr_byte (V k : Nat) : IntKind.u8.wrap ((V : Int) / 2 ^ (8 * (k : Int)).toNat) = ((V / 256 ^ k % 256 : Nat) : Int) := by
  rw [show (256 : Nat) ^ k = 2 ^ (8 * k) by rw [Nat.pow_mul], show (8 * (k : Int)).toNat = 8 * k by omega, IntKind.wrap_u8]
  rw [Int.natCast_emod, Int.natCast_ediv, Int.natCast_pow]
  rfl

set_option maxRecDepth 100000 in
set_option maxHeartbeats 1600000 in
theorem wordWrite_c {w : World} {c : Nat} {out : List UInt8} {g : Option Nat} (h : Writes w c out g) (V n : Nat) (hV : V < 18446744073709551616) (hn : n ≤ 8) (hm : out.length ≤ 100000000000000) :
    Calls Tryz.prog 139 #[.pointer (some ⟨c, 0, none⟩), .int .u64 V, .int .i64 n] w fun e w' => e = .returned (.int .u64 V) ∧ Wrote w w' c out g (leB n V) := by
  obtain ⟨i0, hi, hz0, hz1, hz2⟩ := info_all u8info
  obtain ⟨vo, h1, h2⟩ := h.ex
  have c2 : w.cell? ⟨c, 2, none⟩ = some (.bool false) := cell_in h1
  have hl := lt_in h1
  have H1 := Lib.hid h1
  have HW := Lib.hid h
  clear h1 h
  go_enter Tryz.func139, Tryz.ntmps139
  go_wp2
  go_loopw [15] (fun i w' => ∃ k : Nat, k ≤ n ∧ i = .int .i64 k ∧ Wrote w w' c out g (leB k V)) (fun i _ => n - (intOf i).toNat)
  case atStart => exact ⟨0, by omega, rfl, g, by simpa [leB] using HW.out, Kept.refl _ _, fun k hk => .inl hk⟩
  case round =>
    obtain ⟨k, hk, rfl, g', hw, hkk, hgg⟩ := hrel
    by_cases hk2 : k < n
    · have hki : (k : Int) < (n : Int) := by omega
      obtain ⟨L, hL⟩ : ∃ L, L = out ++ leB k V := ⟨_, rfl⟩
      have hLl : L.length ≤ 100000000000008 := by rw [hL, List.length_append, leB_length]; omega
      rw [← hL] at hw
      have HL := Lib.hid hL
      clear hL
      obtain ⟨vo', q1, q2⟩ := hw.ex
      obtain ⟨a, cp, rfl, hac, -⟩ := q2.shape
      have z0 : wr.cell? ⟨c, 0, none⟩ = some (.slice a L.length cp) := cell_in q1
      have hl2 := lt_in q1
      have Q1 := Lib.hid q1
      clear q1
      have es := shr_byte V k
      obtain ⟨B, hB⟩ : ∃ B : Nat, B = V / 256 ^ k % 256 := ⟨_, rfl⟩
      have hBl : B < 256 := by rw [hB]; exact Nat.mod_lt _ (by decide)
      rw [← hB] at es
      have HB := Lib.hid hB
      clear hB
      have w8 : IntKind.i64.wrap (8 * (k : Int)) = 8 * (k : Int) := IntWalk.i64_in _ (by omega)
      have hnn : ¬ (8 * (k : Int)) < 0 := by omega
      go_wp2
      refine wp_region_ordJ (fun w' => w'.heap[c]? = some (.cells #[.slice a L.length cp, .slice none 0 0, .bool false] 137)) [5, 6, 7, 8, 9] [0, 1, 2, 3, 4] [10, 11] [12, 13, 14] (by kernel_rfl) (by kernel_rfl) (fun _ _ d _ _ h => by cases d <;> exact h) (fun k => Q1.out) ?_
      simp only [sel, List.filterMap_cons, List.filterMap_nil, List.getElem?_cons_zero, List.getElem?_cons_succ]
      repeat (quiet_step (fail))
      refine wpQuiet_nil ?_
      refine wpHeld_step (fun K hK => ?_)
      go_simp
      refine ⟨_, fun _ _ => rfl, hK _ ?_⟩
      refine wpHeld_step (fun K hK => ?_)
      go_simp
      refine ⟨_, fun _ _ => rfl, hK _ ?_⟩
      refine wpHeld_step (fun K hK => ?_)
      go_simp
      refine ⟨_, fun _ _ => rfl, hK _ ?_⟩
      refine wpHeld_step (fun K hK => ?_)
      go_simp
      refine ⟨_, fun _ _ => rfl, hK _ ?_⟩
      refine wpHeld_step (fun K hK => ?_)
      go_simp
      refine ⟨.slice a L.length cp, fun w' h => (by
        have h1 := cell_in (k := 0) h
        have h2 := lt_in h
        simp only [List.getElem?_toArray, List.getElem?_cons_zero] at h1
        clear h z0
        go_simp), hK _ ?_⟩
      refine wpHeld_nil ?_
      rintro _ ⟨nr, rfl⟩
      have K3 := hkk.dN nr
      have q3 := q2.drewN nr
      have Q3 : Hid ((wr.drewN nr).heap[c]? = some (.cells #[.slice a L.length cp, .slice none 0 0, .bool false] 137)) := Lib.hid Q1.out
      generalize wr.drewN nr = w3 at K3 q3 Q3 ⊢
      clear z0 q2 Q1
      refine wpListS_step (fun K hK => ?_)
      go_simp
      have hA : (w3.alloc (Obj.cells #[Value.int IntKind.u8 B] 5)).heap[c]? = some (.cells #[.slice a L.length cp, .slice none 0 0, .bool false] 137) := (Below.heap_alloc _ _ _ (lt_in Q3.out)).trans Q3.out
      refine hK _ _ hA ?_
      clear hK
      have q4 := q3.kept (Kept.alloc (fun _ => False) w3 (Obj.cells #[Value.int IntKind.u8 B] 5)) (fun _ _ h => h)
      have r4 : Reads (w3.alloc (Obj.cells #[Value.int IntKind.u8 B] 5)) 1 (.slice (some ⟨w3.heap.size, 0, none⟩) 1 1) 1 ([UInt8.ofNat B].map bv) (some w3.heap.size) := by
        have := (own_alloc w3 [.int .u8 B] 5 1 rfl (by decide)).reads
        simpa [bv_ofNat B hBl] using this
      have hgc := q4.ne hA (by decide)
      have K4 := K3.al (Obj.cells #[Value.int IntKind.u8 B] 5)
      have hs4 : (w3.alloc (Obj.cells #[Value.int IntKind.u8 B] 5)).heap.size = w3.heap.size + 1 := by simp
      generalize w3.alloc (Obj.cells #[Value.int IntKind.u8 B] 5) = w4 at hA q4 r4 hgc K4 hs4 ⊢
      refine wpListS_append_Own rfl _ _ 41 41 rfl 5 i0 (.int .u8 0) 1 1 Tryz.underlying41 hi hz0 hz1 hz2 rfl rfl q4 rfl (r4.src Tryz.underlying41 (bv_one _)) (by unfold maxLen; omega) (by omega) ?_
      intro a5 k5 w5 g5 hown5 hk5 hg5
      have hA5 : w5.heap[c]? = _ := (hk5.block _ (lt_in hA) (fun h => hgc c h rfl)).trans hA
      refine ⟨hA5, ?_⟩
      refine wpListS_nil ?_
      have f0 : w5.frozen? ⟨c, 0, none⟩ = false := frozen_in hA5
      have z5 := cell_in (k := 0) hA5
      have hl5 := lt_in hA5
      simp only [List.getElem?_toArray, List.getElem?_cons_zero] at z5
      have H5 := Lib.hid hA5
      clear hA5 hA
      have e9 : (L.map bv ++ [UInt8.ofNat B].map bv) = (out ++ leB (k + 1) V).map bv := by rw [leB_snoc, ← HB.out, ← List.append_assoc, ← HL.out, List.map_append]
      have e8 : L.length + 1 = (out ++ leB (k + 1) V).length := by rw [leB_snoc, ← List.append_assoc, ← HL.out, List.length_append]; rfl
      rw [e9] at hown5
      have H9 := Lib.hid e8
      clear e9 e8
      have K5 : Kept (fun k => k = c ∨ g = some k) w w5 := K4.thn hk5 (fun i hi => by
        rcases hgg i hi with h | h
        · exact .inl (.inr h)
        · exact .inr h)
      have hg5' : ∀ k, g5 = some k → g = some k ∨ w.heap.size ≤ k := fun k hk => by
        rcases hg5 k hk with h | h
        · exact hgg k h
        · have := K4.size; exact .inr (by omega)
      have hown6 := Lib.hid hown5
      have hne5 := hown5.ne H5.out (by decide)
      clear hown5 q4 r4 hk5 hg5
      go_wp2
      refine ⟨⟨k + 1, by omega, by simp, g5, ⟨_, heap_setCell_same (o := 0) H5.out _, ?_⟩, K5.st _ (.inl (.inl rfl)), hg5'⟩, by simp [intOf]; omega⟩
      have h7 := hown6.out
      rw [H9.out] at h7 ⊢
      exact h7.kept (Kept.setCell (F := (· = c)) _ _ _ rfl) (fun k hk => hne5 k hk)
    · obtain rfl : k = n := by omega
      go_wp2
      go_ret
      exact ⟨rfl, g', hw, hkk, hgg⟩

end Go.Proofs.YtanmfldgillodaaGreat
