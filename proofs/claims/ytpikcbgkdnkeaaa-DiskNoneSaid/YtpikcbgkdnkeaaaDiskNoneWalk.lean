/- The walk of the law DiskNone. -/
import Derived.Test.YtpikcbgkdnkeaaaOpen
import Derived.Test.YtpikcbgkdnkeaaaLives03
import Derived.Test.YtpikcbgkdnkeaaaDiskNo
import Derived.Lib.SmallJoins
set_option linter.unusedSimpArgs false
set_option linter.unusedVariables false
namespace Go.Proofs.Ytpikcbgkdnkeaaa
open Go.RowKit Go.ChangeShapes Go.WideShapes Go.ChangeAt Go.Joins
open Go.ChangeMaps (open_string shut_string)

set_option maxRecDepth 100000 in
set_option maxHeartbeats 2000000 in
theorem none_core {W : World} {kd a b : Int} {ad : Option Addr} {n c : Nat} :
    Calls Try.prog 6 #[.agg #[.int .i64 kd, .int .i64 a, .int .i64 b, .slice ad n c]] W fun e w' => e = .returned (.bool true) ∧ Kept (fun _ => False) W w' := by
  have i0 : ∀ (w : World), (Instr.index 48 (.agg #[.pointer none, .pointer (some ⟨W.heap.size + 1, 0, none⟩)]) (.int .i64 0)).run Try.prog w = .ok (.pointer none) w := fun _ => by kernel_rfl
  have i1 : ∀ (w : World), (Instr.index 48 (.agg #[.pointer none, .pointer (some ⟨W.heap.size + 1, 0, none⟩)]) (.int .i64 1)).run Try.prog w = .ok (.pointer (some ⟨W.heap.size + 1, 0, none⟩)) w := fun _ => by kernel_rfl
  go_enter Try.func6, Try.ntmps6
  go_wp2_with fail
  have K0 : Kept (fun _ => False) W ((W.alloc (Obj.cells #[Value.int IntKind.i64 kd, Value.int IntKind.i64 a, Value.int IntKind.i64 b, Value.slice ad n c] 45)).alloc (Obj.cells #[Value.int IntKind.i64 0, Value.int IntKind.i64 0, Value.slice none 0 0, Value.int IntKind.i64 0, Value.int IntKind.i64 0] 47)) := (Kept.alloc _ _ _).al _
  have x1 : ((W.alloc (Obj.cells #[Value.int IntKind.i64 kd, Value.int IntKind.i64 a, Value.int IntKind.i64 b, Value.slice ad n c] 45)).alloc (Obj.cells #[Value.int IntKind.i64 0, Value.int IntKind.i64 0, Value.slice none 0 0, Value.int IntKind.i64 0, Value.int IntKind.i64 0] 47)).heap[W.heap.size]? = some (.cells #[Value.int IntKind.i64 kd, Value.int IntKind.i64 a, Value.int IntKind.i64 b, Value.slice ad n c] 45) := (Below.heap_alloc _ _ _ (by simp)).trans (heap_alloc_new W _)
  have x2 : ((W.alloc (Obj.cells #[Value.int IntKind.i64 kd, Value.int IntKind.i64 a, Value.int IntKind.i64 b, Value.slice ad n c] 45)).alloc (Obj.cells #[Value.int IntKind.i64 0, Value.int IntKind.i64 0, Value.slice none 0 0, Value.int IntKind.i64 0, Value.int IntKind.i64 0] 47)).heap[W.heap.size + 1]? = some (.cells #[Value.int IntKind.i64 0, Value.int IntKind.i64 0, Value.slice none 0 0, Value.int IntKind.i64 0, Value.int IntKind.i64 0] 47) := by
    have := heap_alloc_new (W.alloc (Obj.cells #[Value.int IntKind.i64 kd, Value.int IntKind.i64 a, Value.int IntKind.i64 b, Value.slice ad n c] 45)) (Obj.cells #[Value.int IntKind.i64 0, Value.int IntKind.i64 0, Value.slice none 0 0, Value.int IntKind.i64 0, Value.int IntKind.i64 0] 47)
    simpa using this
  generalize (W.alloc (Obj.cells #[Value.int IntKind.i64 kd, Value.int IntKind.i64 a, Value.int IntKind.i64 b, Value.slice ad n c] 45)).alloc (Obj.cells #[Value.int IntKind.i64 0, Value.int IntKind.i64 0, Value.slice none 0 0, Value.int IntKind.i64 0, Value.int IntKind.i64 0] 47) = w0 at K0 x1 x2 ⊢
  have y1 : w0.cell? ⟨W.heap.size, 1, none⟩ = some (.int .i64 a) := cell_in x1
  have y2 : w0.cell? ⟨W.heap.size, 2, none⟩ = some (.int .i64 b) := cell_in x1
  have y3 : w0.cell? ⟨W.heap.size, 3, none⟩ = some (.slice ad n c) := cell_in x1
  have cz : w0.cell? ⟨W.heap.size + 1, 0, none⟩ = some (.int .i64 0) := cell_in x2
  clear x1 x2
  refine wp_loop_rounds 3 ?_
  rw [rounds_succ]
  go_wp2_with (first
    | (go_at_call 8; refine (append_none (by first | exact .inl rfl | exact .inr ⟨_, rfl, cz⟩ | exact .inr ⟨_, rfl, by simpa using cz⟩) _).mono ?_; rintro e w' ⟨rfl, rfl⟩)
    | (go_at_call 13; refine (read_none (by first | exact .inl rfl | exact .inr ⟨_, rfl, cz⟩ | exact .inr ⟨_, rfl, by simpa using cz⟩) _ _).mono ?_; rintro e w' ⟨rfl, rfl⟩)
    | (go_at_call 9; refine (sync_none (by first | exact .inl rfl | exact .inr ⟨_, rfl, cz⟩ | exact .inr ⟨_, rfl, by simpa using cz⟩)).mono ?_; rintro e w' ⟨rfl, rfl⟩)
    | (go_at_call 10; refine (arm_none (by first | exact .inl rfl | exact .inr ⟨_, rfl, cz⟩ | exact .inr ⟨_, rfl, by simpa using cz⟩) _).mono ?_; rintro e w' ⟨rfl, rfl⟩)
    | (go_at_call 12; refine (crash_none (by first | exact .inl rfl | exact .inr ⟨_, rfl, cz⟩ | exact .inr ⟨_, rfl, by simpa using cz⟩) _).mono ?_; rintro e w' ⟨rfl, rfl⟩)
    | (go_at_call 22; refine (wipe_none (by first | exact .inl rfl | exact .inr ⟨_, rfl, cz⟩ | exact .inr ⟨_, rfl, by simpa using cz⟩)).mono ?_; rintro e w' ⟨rfl, rfl⟩)
    | (go_at_call 19; refine (trim_none (by first | exact .inl rfl | exact .inr ⟨_, rfl, cz⟩ | exact .inr ⟨_, rfl, by simpa using cz⟩) _).mono ?_; rintro e w' ⟨rfl, rfl⟩)
    | (go_at_call 21; refine (cut_none (by first | exact .inl rfl | exact .inr ⟨_, rfl, cz⟩ | exact .inr ⟨_, rfl, by simpa using cz⟩) _).mono ?_; rintro e w' ⟨rfl, rfl⟩)
    | (go_at_call 18; refine (flip_none (by first | exact .inl rfl | exact .inr ⟨_, rfl, cz⟩ | exact .inr ⟨_, rfl, by simpa using cz⟩) _ _).mono ?_; rintro e w' ⟨rfl, rfl⟩)
    | (go_at_call 20; refine (base_none (by first | exact .inl rfl | exact .inr ⟨_, rfl, cz⟩ | exact .inr ⟨_, rfl, by simpa using cz⟩)).mono ?_; rintro e w' ⟨rfl, rfl⟩)
    | (go_at_call 14; refine (end_none (by first | exact .inl rfl | exact .inr ⟨_, rfl, cz⟩ | exact .inr ⟨_, rfl, by simpa using cz⟩)).mono ?_; rintro e w' ⟨rfl, rfl⟩)
    | (go_at_call 15; refine (synced_none (by first | exact .inl rfl | exact .inr ⟨_, rfl, cz⟩ | exact .inr ⟨_, rfl, by simpa using cz⟩)).mono ?_; rintro e w' ⟨rfl, rfl⟩)
    | (go_at_call 11; refine (frozen_none (by first | exact .inl rfl | exact .inr ⟨_, rfl, cz⟩ | exact .inr ⟨_, rfl, by simpa using cz⟩)).mono ?_; rintro e _ ⟨rfl, n1, rfl⟩))
  rw [rounds_succ]
  go_wp2_with (first
    | (go_at_call 8; refine (append_none (by first | exact .inl rfl | exact .inr ⟨_, rfl, cz⟩ | exact .inr ⟨_, rfl, by simpa using cz⟩) _).mono ?_; rintro e w' ⟨rfl, rfl⟩)
    | (go_at_call 13; refine (read_none (by first | exact .inl rfl | exact .inr ⟨_, rfl, cz⟩ | exact .inr ⟨_, rfl, by simpa using cz⟩) _ _).mono ?_; rintro e w' ⟨rfl, rfl⟩)
    | (go_at_call 9; refine (sync_none (by first | exact .inl rfl | exact .inr ⟨_, rfl, cz⟩ | exact .inr ⟨_, rfl, by simpa using cz⟩)).mono ?_; rintro e w' ⟨rfl, rfl⟩)
    | (go_at_call 10; refine (arm_none (by first | exact .inl rfl | exact .inr ⟨_, rfl, cz⟩ | exact .inr ⟨_, rfl, by simpa using cz⟩) _).mono ?_; rintro e w' ⟨rfl, rfl⟩)
    | (go_at_call 12; refine (crash_none (by first | exact .inl rfl | exact .inr ⟨_, rfl, cz⟩ | exact .inr ⟨_, rfl, by simpa using cz⟩) _).mono ?_; rintro e w' ⟨rfl, rfl⟩)
    | (go_at_call 22; refine (wipe_none (by first | exact .inl rfl | exact .inr ⟨_, rfl, cz⟩ | exact .inr ⟨_, rfl, by simpa using cz⟩)).mono ?_; rintro e w' ⟨rfl, rfl⟩)
    | (go_at_call 19; refine (trim_none (by first | exact .inl rfl | exact .inr ⟨_, rfl, cz⟩ | exact .inr ⟨_, rfl, by simpa using cz⟩) _).mono ?_; rintro e w' ⟨rfl, rfl⟩)
    | (go_at_call 21; refine (cut_none (by first | exact .inl rfl | exact .inr ⟨_, rfl, cz⟩ | exact .inr ⟨_, rfl, by simpa using cz⟩) _).mono ?_; rintro e w' ⟨rfl, rfl⟩)
    | (go_at_call 18; refine (flip_none (by first | exact .inl rfl | exact .inr ⟨_, rfl, cz⟩ | exact .inr ⟨_, rfl, by simpa using cz⟩) _ _).mono ?_; rintro e w' ⟨rfl, rfl⟩)
    | (go_at_call 20; refine (base_none (by first | exact .inl rfl | exact .inr ⟨_, rfl, cz⟩ | exact .inr ⟨_, rfl, by simpa using cz⟩)).mono ?_; rintro e w' ⟨rfl, rfl⟩)
    | (go_at_call 14; refine (end_none (by first | exact .inl rfl | exact .inr ⟨_, rfl, cz⟩ | exact .inr ⟨_, rfl, by simpa using cz⟩)).mono ?_; rintro e w' ⟨rfl, rfl⟩)
    | (go_at_call 15; refine (synced_none (by first | exact .inl rfl | exact .inr ⟨_, rfl, cz⟩ | exact .inr ⟨_, rfl, by simpa using cz⟩)).mono ?_; rintro e w' ⟨rfl, rfl⟩)
    | (go_at_call 11; refine (frozen_none (by first | exact .inl rfl | exact .inr ⟨_, rfl, cz⟩ | exact .inr ⟨_, rfl, by simpa using cz⟩)).mono ?_; rintro e _ ⟨rfl, n2, rfl⟩))
  rw [rounds_succ]
  go_wp2_with (go_at_call 17; refine lives_c.mono ?_; rintro e w9 ⟨rfl, hk9⟩)
  go_ret
  exact ⟨rfl, (K0.dN _).trans hk9⟩

theorem diskNone_walk {H : Type} {enc : TypeId × Value → H} {W : World} {base : Nat} {v0 : Value} {d0 : DataW H} {p0 : List MemPlace}
    (k0 : Value.okWide Try.prog W .any base 45 v0) (h0 : DataW.Trod enc Try.prog W 0 (fun _ => true) true 45 v0 d0 p0)
    {ts : List TypeId} {ds : List (DataW H)} (hsz : (DataW.weightsEach Try.prog ([45] ++ ts) ([d0] ++ ds)).all (· ≤ reachBytes) = true) :
    Calls Try.prog 6 #[v0] W fun e w' => e = .returned (.bool true) ∧ Below W.heap.size W w' := by
  obtain ⟨c0, c1, c2, c3, y0, y1, y2, y3, m, rfl, rfl, rfl, q0, q1, q2, q3⟩ := open_agg4 Try.underlying45 (by kernel_rfl) (by kernel_rfl) k0 h0
  obtain ⟨x0, e0, -, -⟩ := DataW.trod_int Try.underlying3 q0
  obtain ⟨x1, e1, -, -⟩ := DataW.trod_int Try.underlying3 q1
  obtain ⟨x2, e2, -, -⟩ := DataW.trod_int Try.underlying3 q2
  simp at e0 e1 e2
  subst e0 e1 e2
  have hs : ∃ ad n c, c3 = .slice ad n c := by
    rcases open_ints Try.underlying22 Try.underlying5 (by kernel_rfl) q3 with ⟨hcs, _⟩ | ⟨x, l, c, zs, hcs, _⟩
    · simp at hcs; exact ⟨_, _, _, hcs⟩
    · simp at hcs; exact ⟨_, _, _, hcs⟩
  obtain ⟨ad, n, c, rfl⟩ := hs
  exact none_core.mono fun e w' ⟨he, hk⟩ => ⟨he, hk.below (Nat.le_refl _) (fun _ h => h.elim)⟩

end Go.Proofs.Ytpikcbgkdnkeaaa
