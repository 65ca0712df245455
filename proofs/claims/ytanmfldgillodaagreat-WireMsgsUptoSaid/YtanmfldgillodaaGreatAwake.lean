/- The examples of the document that every wire law looks at. -/
import Derived.Test.YtanmfldgillodaaGreatStrings
import Derived.Test.YtanmfldgillodaaGreatReadStr
import Derived.Test.YtanmfldgillodaaGreatFork
import Derived.Laws.MakeOwn
set_option linter.unusedSimpArgs false
set_option linter.unusedVariables false
namespace Go.Proofs.YtanmfldgillodaaGreat
open Go.RowKit

theorem same_c {w : World} {v u : Value} {bs : List UInt8} {n m : Nat} {g k : Option Nat} (h1 : Reads w 1 v n (bs.map bv) g) (h2 : Reads w 1 u m (bs.map bv) k) :
    Calls Tryz.prog 7 #[v, u] w fun e w' => e = .returned (.bool true) ∧ w' = w := by
  have s1 := Reads.string_run (P := Tryz.prog) h1 Tryz.underlying41 Tryz.underlying5 Tryz.underlying9
  have s2 := Reads.string_run (P := Tryz.prog) h2 Tryz.underlying41 Tryz.underlying5 Tryz.underlying9
  go_enter Tryz.func7, Tryz.ntmps7
  go_wp2
  go_ret
  exact ⟨rfl, rfl⟩

theorem num_c {w : World} (n : Int) : Calls Tryz.prog 9 #[.int .i64 n] w fun e w' => e = .returned (.int .i64 n) ∧ w' = w := by
  go_enter Tryz.func9, Tryz.ntmps9
  go_wp2
  go_ret
  exact ⟨rfl, rfl⟩

theorem ownSS (w : World) : Own (w.alloc (Obj.cells #[Value.string ⟨#[97]⟩, Value.string ⟨#[]⟩] 9)) 9 1 (.slice (some ⟨w.heap.size, 0, none⟩) 2 2) 2 (([⟨#[97]⟩, ⟨#[]⟩] : List ByteArray).map Value.string) (some w.heap.size) := own_alloc w _ _ 2 rfl (by decide)
theorem b13 : ([2, 0, 0, 0, 1, 0, 0, 0, 97, 0, 0, 0, 0] : List UInt8).map bv = [Value.int IntKind.u8 2, Value.int IntKind.u8 0, Value.int IntKind.u8 0, Value.int IntKind.u8 0, Value.int IntKind.u8 1, Value.int IntKind.u8 0, Value.int IntKind.u8 0, Value.int IntKind.u8 0, Value.int IntKind.u8 97, Value.int IntKind.u8 0, Value.int IntKind.u8 0, Value.int IntKind.u8 0, Value.int IntKind.u8 0] := by simp [bv]
theorem ownBB (w : World) : Own (w.alloc (Obj.cells #[Value.int IntKind.u8 2, Value.int IntKind.u8 0, Value.int IntKind.u8 0, Value.int IntKind.u8 0, Value.int IntKind.u8 1, Value.int IntKind.u8 0, Value.int IntKind.u8 0, Value.int IntKind.u8 0, Value.int IntKind.u8 97, Value.int IntKind.u8 0, Value.int IntKind.u8 0, Value.int IntKind.u8 0, Value.int IntKind.u8 0] 5)) 5 1 (.slice (some ⟨w.heap.size, 0, none⟩) 13 13) 13 (([2, 0, 0, 0, 1, 0, 0, 0, 97, 0, 0, 0, 0] : List UInt8).map bv) (some w.heap.size) := by
  rw [b13]
  exact own_alloc w _ _ 13 rfl (by decide)
theorem strs : leB 4 2 ++ encTs [⟨#[97]⟩, ⟨#[]⟩] = [2, 0, 0, 0, 1, 0, 0, 0, 97, 0, 0, 0, 0] := by decide

theorem z8 : ([0, 0, 0, 0, 0, 0, 0, 0] : List UInt8).map bv = [Value.int IntKind.u8 0, Value.int IntKind.u8 0, Value.int IntKind.u8 0, Value.int IntKind.u8 0, Value.int IntKind.u8 0, Value.int IntKind.u8 0, Value.int IntKind.u8 0, Value.int IntKind.u8 0] := by simp [bv]
theorem ownZZ (w : World) : Own (w.alloc (Obj.cells #[Value.int IntKind.u8 0, Value.int IntKind.u8 0, Value.int IntKind.u8 0, Value.int IntKind.u8 0, Value.int IntKind.u8 0, Value.int IntKind.u8 0, Value.int IntKind.u8 0, Value.int IntKind.u8 0] 5)) 5 1 (.slice (some ⟨w.heap.size, 0, none⟩) 8 8) 8 (([0, 0, 0, 0, 0, 0, 0, 0] : List UInt8).map bv) (some w.heap.size) := by
  rw [z8]
  exact own_alloc w _ _ 8 rfl (by decide)
theorem frame0 : frameB [] = [0, 0, 0, 0, 0, 0, 0, 0] := by decide
theorem make8 (w : World) : (Instr.makeSlice 41 (.int .i64 8) (.int .i64 8)).run Tryz.prog w = .ok (.slice (some ⟨w.heap.size, 0, none⟩) 8 8) (w.alloc (Obj.cells #[Value.int IntKind.u8 0, Value.int IntKind.u8 0, Value.int IntKind.u8 0, Value.int IntKind.u8 0, Value.int IntKind.u8 0, Value.int IntKind.u8 0, Value.int IntKind.u8 0, Value.int IntKind.u8 0] 5)) := by
  obtain ⟨i0, hi, hz0, hz1, hz2⟩ := info_all u8info
  rw [run_make w 41 5 i0 (.int .u8 0) Tryz.underlying41 hi hz0 .i64 .i64 8 8 (by decide) (by decide) (by rw [hz2]; decide) (by decide), hz1, show madeCells (Value.int IntKind.u8 0).cells ((8 : Int).toNat * 1) = #[Value.int IntKind.u8 0, Value.int IntKind.u8 0, Value.int IntKind.u8 0, Value.int IntKind.u8 0, Value.int IntKind.u8 0, Value.int IntKind.u8 0, Value.int IntKind.u8 0, Value.int IntKind.u8 0] by kernel_rfl]
  rfl

/-- Behind the first operations. -/
def AwG1 (w : World) (x4 : Value) (a' : Act) (w' : World) : Prop := ∃ v8 v9 v10 g9 g10, a' = ⟨#[Value.bool false, Value.slice none 0 0, Value.int IntKind.i64 74, Value.tuple #[Value.slice none 0 0, Value.int IntKind.i64 74], x4, Value.tuple #[Value.slice none 0 0, Value.int IntKind.i64 74], Value.slice none 0 0, Value.int IntKind.i64 74, v8, v9, v10, undef, undef, undef, undef, undef, undef, undef, undef, undef, undef, undef], []⟩ ∧ Reads w' 1 v9 13 (([2, 0, 0, 0, 1, 0, 0, 0, 97, 0, 0, 0, 0] : List UInt8).map bv) g9 ∧ Reads w' 1 v10 13 (([2, 0, 0, 0, 1, 0, 0, 0, 97, 0, 0, 0, 0] : List UInt8).map bv) g10 ∧ Kept (fun _ => False) w w'
def AwG2 (w : World) (x4 v8 v9 v10 : Value) (a' : Act) (w' : World) : Prop := ∃ v13 v14 g13 g14, a' = ⟨#[Value.bool false, Value.slice none 0 0, Value.int IntKind.i64 74, Value.tuple #[Value.slice none 0 0, Value.int IntKind.i64 74], x4, Value.tuple #[Value.slice none 0 0, Value.int IntKind.i64 74], Value.slice none 0 0, Value.int IntKind.i64 74, v8, v9, v10, .bool true, .bool true, v13, v14, undef, undef, undef, undef, undef, undef, undef], []⟩ ∧ Reads w' 1 v13 8 (([0, 0, 0, 0, 0, 0, 0, 0] : List UInt8).map bv) g13 ∧ Reads w' 1 v14 8 (([0, 0, 0, 0, 0, 0, 0, 0] : List UInt8).map bv) g14 ∧ Kept (fun _ => False) w w'

set_option maxRecDepth 100000 in
set_option maxHeartbeats 1600000 in
theorem awake_c {w : World} : Calls Tryz.prog 11 #[] w fun e w' => e = .returned (.bool true) ∧ Kept (fun _ => False) w w' := by
  go_enter Tryz.func11, Tryz.ntmps11
  go_wp2_with fail
  have e4 : ([1, 0, 0, 0] : List UInt8).map bv = [Value.int IntKind.u8 1, Value.int IntKind.u8 0, Value.int IntKind.u8 0, Value.int IntKind.u8 0] := by simp [bv]
  have o1 := own_alloc w (([1, 0, 0, 0] : List UInt8).map bv) 5 4 rfl (by decide)
  have k1 := Kept.alloc (fun _ => False) w (.cells (([1, 0, 0, 0] : List UInt8).map bv).toArray 5)
  rw [e4] at o1 k1
  generalize w.alloc (.cells ([Value.int IntKind.u8 1, Value.int IntKind.u8 0, Value.int IntKind.u8 0, Value.int IntKind.u8 0] : List Value).toArray 5) = w1 at o1 k1 ⊢
  rw [← e4] at o1
  refine (readStrings_c (xs := [1, 0, 0, 0]) (ys := []) o1.reads (fun k hk => o1.lt k hk) rfl (by decide) (by decide)).mono ?_
  rintro e w2 ⟨rfl, k2⟩
  have K2 := k1.trans k2
  clear o1 k1 k2 e4
  generalize Value.slice (some ⟨w.heap.size, 0, none⟩) 4 4 = x4
  go_wp2
  refine wp_region_any (by kernel_rfl) ?_
  change wpAny _ _ _ _ _ _ _ (w2.drewN 1)
  have K3 := K2.dN 1
  generalize w2.drewN 1 = w3 at K3 ⊢
  refine wpAny_fork3 (f := 12) (i := 0) (j := 1) (k := 2) (AwG1 w x4) (by kernel_rfl) (by kernel_rfl) (by kernel_rfl) (by kernel_rfl) (by kernel_rfl) (by kernel_rfl) (by decide) (by decide) (by decide) ?_ ?_ ?_
  · rintro _ w4 ⟨v8, v9, v10, g9, g10, rfl, r9, r10, K4⟩
    refine wpAny_pre (f := 10) (T := [3, 4]) rfl _ _ _ (by kernel_rfl) (G := fun a' w' => a' = ⟨#[Value.bool false, Value.slice none 0 0, Value.int IntKind.i64 74, Value.tuple #[Value.slice none 0 0, Value.int IntKind.i64 74], x4, Value.tuple #[Value.slice none 0 0, Value.int IntKind.i64 74], Value.slice none 0 0, Value.int IntKind.i64 74, v8, v9, v10, .bool true, .bool true, undef, undef, undef, undef, undef, undef, undef, undef, undef], []⟩ ∧ w' = w4) ?_ ?_
    · rintro _ w4 ⟨rfl, rfl⟩
      refine wpAny_fork2 (f := 8) (i := 5) (k := 6) (AwG2 w x4 v8 v9 v10) (by kernel_rfl) (by kernel_rfl) (by kernel_rfl) (by decide) ?_ ?_ ?_
      · rintro _ w5 ⟨v13, v14, g13, g14, rfl, r13, r14, K5⟩
        refine wpAny_of_seqOn (T := [7, 8, 9, 10, 11, 12, 13, 14]) rfl _ _ _ (by kernel_rfl) ?_
        simp only [sel, List.filterMap_cons, List.filterMap_nil, List.getElem?_cons_zero, List.getElem?_cons_succ]
        refine wpList_step (fun K hK => ?_)
        go_simp
        go_wp2_with fail
        refine (same_c r13 r14).mono ?_
        rintro e w6 ⟨rfl, rfl⟩
        refine hK _ _ ?_
        clear hK
        refine wpList_step (fun K hK => ?_)
        go_simp
        refine hK _ _ ?_
        clear hK
        refine wpList_step (fun K hK => ?_)
        go_simp
        refine hK _ _ ?_
        clear hK
        refine wpList_step (fun K hK => ?_)
        go_simp
        refine hK _ _ ?_
        clear hK
        refine wpList_step (fun K hK => ?_)
        go_simp
        go_wp2_with fail
        refine (num_c 74).mono ?_
        rintro e w7 ⟨rfl, rfl⟩
        refine hK _ _ ?_
        clear hK
        refine wpList_step (fun K hK => ?_)
        go_simp
        refine hK _ _ ?_
        clear hK
        refine wpList_step (fun K hK => ?_)
        go_simp
        refine hK _ _ ?_
        clear hK
        refine wpList_step (fun K hK => ?_)
        go_simp
        refine hK _ _ ?_
        clear hK
        refine wpList_nil ?_
        go_wp2
        go_ret
        exact ⟨rfl, K5⟩
      · refine wpOp_of_list rfl ?_
        refine wpList_step (fun K hK => ?_)
        go_simp
        go_wp2_with fail
        refine (frame_c (bs := []) (g := none) ⟨by simp, .inl ⟨_, _, rfl, rfl⟩⟩ (fun k hk => by cases hk) (by decide)).mono ?_
        rintro e w5 ⟨⟨v13, rfl, g13, o13, -⟩, k13⟩
        rw [frame0] at o13
        refine hK _ _ ?_
        clear hK
        refine wpList_nil_then ?_
        refine wpOp_of_list rfl ?_
        refine wpList_step (fun K hK => ?_)
        have hmk := make8 w5
        go_simp
        refine hK _ _ ?_
        clear hK
        refine wpList_nil_then ?_
        have K5 := (K4.trans k13).al (Obj.cells #[Value.int IntKind.u8 0, Value.int IntKind.u8 0, Value.int IntKind.u8 0, Value.int IntKind.u8 0, Value.int IntKind.u8 0, Value.int IntKind.u8 0, Value.int IntKind.u8 0, Value.int IntKind.u8 0] 5)
        exact ⟨_, _, _, _, rfl, o13.reads.kept (Kept.alloc (fun _ => False) w5 (Obj.cells #[Value.int IntKind.u8 0, Value.int IntKind.u8 0, Value.int IntKind.u8 0, Value.int IntKind.u8 0, Value.int IntKind.u8 0, Value.int IntKind.u8 0, Value.int IntKind.u8 0, Value.int IntKind.u8 0] 5)) (fun _ _ h => h), (ownZZ w5).reads, K5⟩
      · refine wpOp_of_list rfl ?_
        refine wpList_step (fun K hK => ?_)
        have hmk := make8 w4
        go_simp
        refine hK _ _ ?_
        clear hK
        have o14 := ownZZ w4
        have K5 := K4.al (Obj.cells #[Value.int IntKind.u8 0, Value.int IntKind.u8 0, Value.int IntKind.u8 0, Value.int IntKind.u8 0, Value.int IntKind.u8 0, Value.int IntKind.u8 0, Value.int IntKind.u8 0, Value.int IntKind.u8 0] 5)
        generalize w4.alloc (Obj.cells #[Value.int IntKind.u8 0, Value.int IntKind.u8 0, Value.int IntKind.u8 0, Value.int IntKind.u8 0, Value.int IntKind.u8 0, Value.int IntKind.u8 0, Value.int IntKind.u8 0, Value.int IntKind.u8 0] 5) = w5 at o14 K5 ⊢
        refine wpList_nil_then ?_
        refine wpOp_of_list rfl ?_
        refine wpList_step (fun K hK => ?_)
        go_simp
        go_wp2_with fail
        refine (frame_c (bs := []) (g := none) ⟨by simp, .inl ⟨_, _, rfl, rfl⟩⟩ (fun k hk => by cases hk) (by decide)).mono ?_
        rintro e w6 ⟨⟨v13, rfl, g13, o13, -⟩, k13⟩
        rw [frame0] at o13
        refine hK _ _ ?_
        clear hK
        refine wpList_nil_then ?_
        exact ⟨_, _, _, _, rfl, o13.reads, o14.reads.kept k13 (fun _ _ h => h), K5.trans k13⟩
    · simp only [sel, List.filterMap_cons, List.filterMap_nil, List.getElem?_cons_zero, List.getElem?_cons_succ]
      go_wp2_with fail
      refine (same_c r9 r10).mono ?_
      rintro e w5 ⟨rfl, rfl⟩
      go_wp2
      exact ⟨by first | rfl | trivial, by first | rfl | trivial⟩
  · refine wpOp_of_list rfl ?_
    go_wp2_with fail
    have oa := ownSS w3
    have ka := K3.al (Obj.cells #[Value.string ⟨#[97]⟩, Value.string ⟨#[]⟩] 9)
    have ja := Kept.alloc (fun _ => False) w3 (Obj.cells #[Value.string ⟨#[97]⟩, Value.string ⟨#[]⟩] 9)
    generalize w3.alloc (Obj.cells #[Value.string ⟨#[97]⟩, Value.string ⟨#[]⟩] 9) = wa at oa ka ja ⊢
    constructor
    · refine wpOp_of_list rfl ?_
      go_wp2_with fail
      refine (strings_c (ss := [⟨#[97]⟩, ⟨#[]⟩]) oa.reads (fun k hk => oa.lt k hk) (by decide) (by decide)).mono ?_
      rintro e wc ⟨⟨v9, rfl, g9, o9, -⟩, k9⟩
      rw [List.length_cons, List.length_cons, List.length_nil, strs] at o9
      have K9 := ka.trans k9
      go_wp2_with fail
      refine wpOp_of_list rfl ?_
      go_wp2_with fail
      have od := ownBB wc
      have kd := K9.al (Obj.cells #[Value.int IntKind.u8 2, Value.int IntKind.u8 0, Value.int IntKind.u8 0, Value.int IntKind.u8 0, Value.int IntKind.u8 1, Value.int IntKind.u8 0, Value.int IntKind.u8 0, Value.int IntKind.u8 0, Value.int IntKind.u8 97, Value.int IntKind.u8 0, Value.int IntKind.u8 0, Value.int IntKind.u8 0, Value.int IntKind.u8 0] 5)
      have jd := Kept.alloc (fun _ => False) wc (Obj.cells #[Value.int IntKind.u8 2, Value.int IntKind.u8 0, Value.int IntKind.u8 0, Value.int IntKind.u8 0, Value.int IntKind.u8 1, Value.int IntKind.u8 0, Value.int IntKind.u8 0, Value.int IntKind.u8 0, Value.int IntKind.u8 97, Value.int IntKind.u8 0, Value.int IntKind.u8 0, Value.int IntKind.u8 0, Value.int IntKind.u8 0] 5)
      generalize wc.alloc (Obj.cells #[Value.int IntKind.u8 2, Value.int IntKind.u8 0, Value.int IntKind.u8 0, Value.int IntKind.u8 0, Value.int IntKind.u8 1, Value.int IntKind.u8 0, Value.int IntKind.u8 0, Value.int IntKind.u8 0, Value.int IntKind.u8 97, Value.int IntKind.u8 0, Value.int IntKind.u8 0, Value.int IntKind.u8 0, Value.int IntKind.u8 0] 5) = wd at od kd jd ⊢
      exact ⟨_, _, _, _, _, rfl, o9.reads.kept jd (fun _ _ h => h), od.reads, kd⟩
    · refine wpOp_of_list rfl ?_
      go_wp2_with fail
      have ob := ownBB wa
      have kb := ka.al (Obj.cells #[Value.int IntKind.u8 2, Value.int IntKind.u8 0, Value.int IntKind.u8 0, Value.int IntKind.u8 0, Value.int IntKind.u8 1, Value.int IntKind.u8 0, Value.int IntKind.u8 0, Value.int IntKind.u8 0, Value.int IntKind.u8 97, Value.int IntKind.u8 0, Value.int IntKind.u8 0, Value.int IntKind.u8 0, Value.int IntKind.u8 0] 5)
      have jb := Kept.alloc (fun _ => False) wa (Obj.cells #[Value.int IntKind.u8 2, Value.int IntKind.u8 0, Value.int IntKind.u8 0, Value.int IntKind.u8 0, Value.int IntKind.u8 1, Value.int IntKind.u8 0, Value.int IntKind.u8 0, Value.int IntKind.u8 0, Value.int IntKind.u8 97, Value.int IntKind.u8 0, Value.int IntKind.u8 0, Value.int IntKind.u8 0, Value.int IntKind.u8 0] 5)
      generalize wa.alloc (Obj.cells #[Value.int IntKind.u8 2, Value.int IntKind.u8 0, Value.int IntKind.u8 0, Value.int IntKind.u8 0, Value.int IntKind.u8 1, Value.int IntKind.u8 0, Value.int IntKind.u8 0, Value.int IntKind.u8 0, Value.int IntKind.u8 97, Value.int IntKind.u8 0, Value.int IntKind.u8 0, Value.int IntKind.u8 0, Value.int IntKind.u8 0] 5) = wb at ob kb jb ⊢
      refine wpOp_of_list rfl ?_
      go_wp2_with fail
      refine (strings_c (ss := [⟨#[97]⟩, ⟨#[]⟩]) (oa.kept jb (fun _ _ h => h)).reads (fun k hk => (oa.kept jb (fun _ _ h => h)).lt k hk) (by decide) (by decide)).mono ?_
      rintro e wc ⟨⟨v9, rfl, g9, o9, -⟩, k9⟩
      rw [List.length_cons, List.length_cons, List.length_nil, strs] at o9
      have K9 := kb.trans k9
      go_wp2_with fail
      exact ⟨_, _, _, _, _, rfl, o9.reads, ob.reads.kept k9 (fun _ _ h => h), K9⟩
  · refine wpOp_of_list rfl ?_
    go_wp2_with fail
    have oa := ownBB w3
    have ka := K3.al (Obj.cells #[Value.int IntKind.u8 2, Value.int IntKind.u8 0, Value.int IntKind.u8 0, Value.int IntKind.u8 0, Value.int IntKind.u8 1, Value.int IntKind.u8 0, Value.int IntKind.u8 0, Value.int IntKind.u8 0, Value.int IntKind.u8 97, Value.int IntKind.u8 0, Value.int IntKind.u8 0, Value.int IntKind.u8 0, Value.int IntKind.u8 0] 5)
    have ja := Kept.alloc (fun _ => False) w3 (Obj.cells #[Value.int IntKind.u8 2, Value.int IntKind.u8 0, Value.int IntKind.u8 0, Value.int IntKind.u8 0, Value.int IntKind.u8 1, Value.int IntKind.u8 0, Value.int IntKind.u8 0, Value.int IntKind.u8 0, Value.int IntKind.u8 97, Value.int IntKind.u8 0, Value.int IntKind.u8 0, Value.int IntKind.u8 0, Value.int IntKind.u8 0] 5)
    generalize w3.alloc (Obj.cells #[Value.int IntKind.u8 2, Value.int IntKind.u8 0, Value.int IntKind.u8 0, Value.int IntKind.u8 0, Value.int IntKind.u8 1, Value.int IntKind.u8 0, Value.int IntKind.u8 0, Value.int IntKind.u8 0, Value.int IntKind.u8 97, Value.int IntKind.u8 0, Value.int IntKind.u8 0, Value.int IntKind.u8 0, Value.int IntKind.u8 0] 5) = wa at oa ka ja ⊢
    refine wpOp_of_list rfl ?_
    go_wp2_with fail
    have ob := ownSS wa
    have kb := ka.al (Obj.cells #[Value.string ⟨#[97]⟩, Value.string ⟨#[]⟩] 9)
    have jb := Kept.alloc (fun _ => False) wa (Obj.cells #[Value.string ⟨#[97]⟩, Value.string ⟨#[]⟩] 9)
    generalize wa.alloc (Obj.cells #[Value.string ⟨#[97]⟩, Value.string ⟨#[]⟩] 9) = wb at ob kb jb ⊢
    refine wpOp_of_list rfl ?_
    go_wp2_with fail
    refine (strings_c (ss := [⟨#[97]⟩, ⟨#[]⟩]) ob.reads (fun k hk => ob.lt k hk) (by decide) (by decide)).mono ?_
    rintro e wc ⟨⟨v9, rfl, g9, o9, -⟩, k9⟩
    rw [List.length_cons, List.length_cons, List.length_nil, strs] at o9
    have K9 := kb.trans k9
    go_wp2_with fail
    exact ⟨_, _, _, _, _, rfl, o9.reads, (oa.reads.kept jb (fun _ _ h => h)).kept k9 (fun _ _ h => h), K9⟩

end Go.Proofs.YtanmfldgillodaaGreat
