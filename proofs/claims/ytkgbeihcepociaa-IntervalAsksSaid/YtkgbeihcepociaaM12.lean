/- Part 12 of the proof: Ivf, Ive, Ivc, Ivt, Ivu, Ivv, Ivx, Ivy. -/
import Derived.Test.YtkgbeihcepociaaM11
section

set_option linter.unusedSimpArgs false
set_option linter.unusedVariables false
set_option maxRecDepth 10000
set_option maxHeartbeats 4000000
namespace Go.Proofs.Ytkgbeihcepociaa.Ex
open Go
section
variable {P : Program} {T : TT} {S : Sums} {E : FE} {t : TM} {k : List AI} {h : AH} {K : KK}
/-- A range over a function; its loop has a name. -/
theorem WB_rangeW {f : Operand} {ps : Array Tmp} {a b : Code} {fv : AV} {g : FuncId} {args : List AV} (hro : E.ro = none) (hf : evalA t f = some fv) (hc : callA P fv [.fn (.yield (h.n + 1)) [] []] = some (.enter g args))
    (hw : ∀ LO : ALoop, LO = ⟨.ready, none, E.fn, t, ps.toList, a, b⟩ → WC P T S g args ((h.push .defd).push (.loop LO)) fun _ h2 =>
      ∃ lo, h2.at (h.n + 1) = some (.loop lo) ∧ lo.state ≠ .busy ∧ WB P T S { E with defers := .coll h.n :: E.defers } t ((lo.pending.map AI.code).toList ++ k) (h2.put (h.n + 1) (.loop { lo with state := .exhausted })) fun j t' h' => h'.at h.n = some .defd ∧ K j t' (h'.put h.n .gone)) :
    WB P T S E t (.code (.rangeFunc f ps a b) :: k) h K := WB_rangeFunc hro hf hc (hw _ rfl)
theorem WR_round {l : Nat} {LO : ALoop} {fn : FuncId} {ps : List Tmp} {a b : Code} {args : List AV} {Q : AV → AH → Prop} (e : LO = ⟨.ready, none, fn, t, ps, a, b⟩) (hl : h.at l = some (.loop LO)) (hn : args.length = ps.length)
    (hw : WB P T S { fn := fn, ro := some l } (setParams t ps args) [.code a, .beginRound, .code b] h fun j _ h' =>
      ∃ lo', h'.at l = some (.loop lo') ∧ Q (.lit (.bool j.isNone)) (h'.put l (.loop { lo' with state := if j.isNone then .ready else .done, pending := j }))) : WR P T S l args h Q := by
  subst e
  exact W_round hl hn hw
theorem sp_cons {i : Nat} {ts : List Tmp} {v : AV} {vs : List AV} : setParams t (i :: ts) (v :: vs) = setParams (t.set i v) ts vs := rfl
theorem sp_nil : setParams t [] [] = t := rfl
def busyL (LO : ALoop) : ALoop := { LO with state := .busy }
theorem WB_beginL {l : Nat} {LO : ALoop} {fn : FuncId} {t0 : TM} {ps : List Tmp} {a b : Code} (e : LO = ⟨.ready, none, fn, t0, ps, a, b⟩) (hro : E.ro = some l) (hl : h.at l = some (.loop LO)) (hw : WB P T S E t k (h.put l (.loop (busyL LO))) K) : WB P T S E t (.beginRound :: k) h K := by
  subst e
  exact WB_begin hro hl rfl hw
end
def firstN (pool seed : Int) (ms : List MapD) (i : Nat) : Int := match ((runsF pool seed ms).take i).getLast? with
  | some r => (ms.getD r.1 map0).epoch
  | none => 0
theorem firstN_succ {pool seed : Int} {ms : List MapD} {i : Nat} {r : Nat × Nat} (hr : (runsF pool seed ms)[i]? = some r) : firstN pool seed ms (i + 1) = (ms.getD r.1 map0).epoch := by
  unfold firstN
  rw [List.take_add_one, hr, List.getLast?_append]
  rfl
theorem first_x {F : Nat → Prop} {H : AH} {v : AV} {ms : List MapD} (pool seed : Int) (hv : IsSl RMp F H v ms) (hl : Sm 88 ms) (hok : ∀ m ∈ ms, OkMp m) :
    WC Try.prog (tabOf Try.prog NT0) S0 35 [v, pgV pool seed] H fun r h' => Ext H.n H h' ∧ r = .lit (.int .i64 (firstF pool seed ms)) := by
  refine WC_fn Try.func35 rfl rfl ?_
  have s1 := hv.isSl
  have s2 := hv.lenD
  have o1 := hv.one
  simp only [core, Nat.reduceAdd, Nat.reduceSub, Nat.reduceMul, Nat.reduceLT, Nat.reduceEqDiff, reduceCtorEq, Nat.reduceLeDiff, Int.reduceLE, Int.reduceLT, Int.reduceToNat, Try.ntmps35, pgV, s1, s2]
  refine (runs_x pool seed o1).mono ?_
  rintro _ h2 ⟨rfl, rfl⟩
  simp only [core, Nat.reduceAdd, Nat.reduceSub, Nat.reduceMul, Nat.reduceLT, Nat.reduceEqDiff, reduceCtorEq, Nat.reduceLeDiff, Int.reduceLE, Int.reduceLT, Int.reduceToNat]
  generalize htt : TM.set _ 9 _ = tt
  have hn : tt.n = 16 := by rw [← htt]; simp only [core, Nat.reduceAdd, Nat.reduceSub, Nat.reduceMul, Nat.reduceLT, Nat.reduceEqDiff, reduceCtorEq, Nat.reduceLeDiff, Int.reduceLE, Int.reduceLT, Int.reduceToNat]
  have g5 : tt.get 5 = .ptr (H.n + 1) 0 := by rw [← htt]; simp only [core, Nat.reduceAdd, Nat.reduceSub, Nat.reduceMul, Nat.reduceLT, Nat.reduceEqDiff, reduceCtorEq, Nat.reduceLeDiff, Int.reduceLE, Int.reduceLT, Int.reduceToNat]
  have g9 : tt.get 9 = .fn (.func 125) [] [.ptr (H.n + 2) 0, .ptr (H.n + 3) 0] := by rw [← htt]; simp only [core, Nat.reduceAdd, Nat.reduceSub, Nat.reduceMul, Nat.reduceLT, Nat.reduceEqDiff, reduceCtorEq, Nat.reduceLeDiff, Int.reduceLE, Int.reduceLT, Int.reduceToNat]
  clear htt
  generalize hh2 : AH.push (AH.push _ (.cells [v] _)) _ = h2
  have E2 : Ext H.n H h2 := hh2 ▸ ((((Ext.refl _ _).push _ (Nat.le_refl _)).push _ (by rw [n_push]; omega)).push _ (by rw [n_push, n_push]; omega)).push _ (by rw [n_push, n_push, n_push]; omega)
  have n2 : h2.n = H.n + 4 := by rw [← hh2, n_push, n_push, n_push, n_push]
  have P2 : h2.at (H.n + 3) = some (.cells [.lit (.int .i64 pool), .lit (.int .i64 seed)] 56) := hh2 ▸ at_push_n _ _
  have M2 : h2.at (H.n + 2) = some (.cells [v] 33) := hh2 ▸ (at_push_lt _ (by rw [n_push, n_push, n_push]; omega)).trans (at_push_n _ _)
  have F2 : h2.at (H.n + 1) = some (.cells [.lit (.int .i64 0)] 3) := hh2 ▸ (at_push_lt _ (by rw [n_push, n_push, n_push]; omega)).trans ((at_push_lt _ (by rw [n_push, n_push]; omega)).trans (at_push_n _ _))
  clear hh2
  refine WB_rangeW rfl (fv := .fn (.func 125) [] [.ptr (H.n + 2) 0, .ptr (H.n + 3) 0]) (by simp only [core, Nat.reduceAdd, Nat.reduceSub, Nat.reduceMul, Nat.reduceLT, Nat.reduceEqDiff, reduceCtorEq, Nat.reduceLeDiff, Int.reduceLE, Int.reduceLT, Int.reduceToNat, g9]) rfl fun LO hLO => ?_
  refine (run1_x pool seed hv hl hok (l := h2.n + 1) (bm := H.n + 2) (bp := H.n + 3)
    (fun i h => Ext H.n H h ∧ h.at (H.n + 2) = some (.cells [v] 33) ∧ h.at (H.n + 3) = some (.cells [.lit (.int .i64 pool), .lit (.int .i64 seed)] 56) ∧ h.at (H.n + 1) = some (.cells [.lit (.int .i64 (firstN pool seed ms i))] 3) ∧ h.at (h2.n + 1) = some (.loop LO) ∧ h.at h2.n = some .defd)
    (fun _ => False) (fun i h j => ⟨j.1, j.2.1, j.2.2.1⟩) (fun i h h' ⟨j1, j2, j3, j4, j5, j6⟩ e => ⟨j1.step e, (e.2 _ (at_lt j2)).trans j2, (e.2 _ (at_lt j3)).trans j3, (e.2 _ (at_lt j4)).trans j4, (e.2 _ (at_lt j5)).trans j5, (e.2 _ (at_lt j6)).trans j6⟩) ?_ ?_).mono ?_
  · rintro i r h hri ⟨j1, j2, j3, j4, j5, j6⟩
    have hrun := runsF_run r (List.mem_of_getElem? hri)
    have hlt := hrun.lt
    have hsub : IsSl RMp F H (subSl 5 r.1 r.2 v) (cutF ms r) := hv.sub (Nat.le_of_lt hlt) hrun.le
    have c1 := hsub.isSl
    have c2 := hsub.lenD
    have hcl := cut_len (ms := ms) hrun.le
    obtain ⟨x, hx⟩ : ∃ x, (cutF ms r)[0]? = some x := ⟨_, List.getElem?_eq_getElem (by omega)⟩
    have hxe : (ms.getD r.1 map0) = x := by
      have := cut_getD (ms := ms) (r := r) (j := 0) (by omega)
      rw [Nat.add_zero, List.getD_eq_getElem?_getD, hx] at this
      exact this.symm
    have hcl0 : 0 < (cutF ms r).length := by omega
    generalize subSl 5 r.1 r.2 v = w at hsub c1 c2
    refine WR_round hLO j5 rfl ?_
    simp only [core, Nat.reduceAdd, Nat.reduceSub, Nat.reduceMul, Nat.reduceLT, Nat.reduceEqDiff, reduceCtorEq, Nat.reduceLeDiff, Int.reduceLE, Int.reduceLT, Int.reduceToNat, sp_cons, sp_nil, g5, hn]
    refine WB_beginL hLO rfl j5 ?_
    obtain ⟨hb, hhb⟩ : ∃ hb, hb = h.put (h2.n + 1) (.loop (busyL LO)) := ⟨_, rfl⟩
    have EB : Ext H.n H hb := hhb ▸ j1.put _ (by omega)
    have b2 : hb.at (H.n + 2) = some (.cells [v] 33) := hhb ▸ (at_put_ne _ (by omega)).trans j2
    have b3 : hb.at (H.n + 3) = some (.cells [.lit (.int .i64 pool), .lit (.int .i64 seed)] 56) := hhb ▸ (at_put_ne _ (by omega)).trans j3
    have b4 : hb.at (H.n + 1) = some (.cells [.lit (.int .i64 (firstN pool seed ms i))] 3) := hhb ▸ (at_put_ne _ (by omega)).trans j4
    have b5 : hb.at (h2.n + 1) = some (.loop (busyL LO)) := hhb ▸ at_put_same _ (at_lt j5)
    have b6 : hb.at h2.n = some .defd := hhb ▸ (at_put_ne _ (by omega)).trans j6
    have lb4 := at_lt b4
    rw [← hhb]
    clear hhb
    obtain ⟨c, hc1, hld, hld0⟩ := hsub.atE (T := tabOf Try.prog NT0) EB RMp_z hx
    obtain ⟨vo, vp, vb, rfl, -⟩ := RMp_is.1 hc1
    have hld' := fun e n j a b c => (hld e n j a b c)
    simp only [Nat.zero_mul, Nat.add_zero] at hld'
    have hld0' := fun e n a b c => (hld0 e n a b c)
    simp only [Nat.zero_mul, Nat.add_zero] at hld0'
    simp only [core, Nat.reduceAdd, Nat.reduceSub, Nat.reduceMul, Nat.reduceLT, Nat.reduceEqDiff, reduceCtorEq, Nat.reduceLeDiff, Int.reduceLE, Int.reduceLT, Int.reduceToNat, c1, c2, hcl0, g5, hn, hld', hld0', b4, lb4]
    refine ⟨_, (at_put_ne _ (by omega)).trans b5, true, rfl, fun _ => ⟨?_, ?_, ?_, ?_, ?_, ?_⟩, fun h => by cases h⟩
    · exact (EB.put _ (by omega)).put _ (by omega)
    · exact (at_put_ne _ (by omega)).trans ((at_put_ne _ (by omega)).trans b2)
    · exact (at_put_ne _ (by omega)).trans ((at_put_ne _ (by omega)).trans b3)
    · rw [firstN_succ hri, hxe]
      exact (at_put_ne _ (by omega)).trans (at_put_same _ (at_lt b4))
    · exact (at_put_same _ (by rw [n_put]; exact at_lt b5)).trans (by rw [hLO]; rfl)
    · exact (at_put_ne _ (by omega)).trans ((at_put_ne _ (by omega)).trans b6)
  · have up : ∀ b x, h2.at b = some x → ((h2.push .defd).push (.loop LO)).at b = some x := fun b x hx => by
      have := at_lt hx
      exact (at_push_lt _ (by rw [n_push]; omega)).trans ((at_push_lt _ this).trans hx)
    refine ⟨(E2.push _ E2.1).push _ (by rw [n_push]; have := E2.1; omega), up _ _ M2, up _ _ P2, up _ _ F2, ?_, ?_⟩
    · have := at_push_n (h2.push .defd) (.loop LO)
      rw [n_push] at this
      exact this
    · exact (at_push_lt _ (by rw [n_push]; omega)).trans (at_push_n _ _)
  · rintro _ h (⟨j1, j2, j3, j4, j5, j6⟩ | hf)
    · refine ⟨LO, j5, by rw [hLO]; simp, ?_⟩
      obtain ⟨hb, hhb⟩ : ∃ hb, hb = h.put (h2.n + 1) (.loop { LO with state := .exhausted }) := ⟨_, rfl⟩
      have EB : Ext H.n H hb := hhb ▸ j1.put _ (by omega)
      have b4 : hb.at (H.n + 1) = some (.cells [.lit (.int .i64 (firstN pool seed ms (runsF pool seed ms).length))] 3) := hhb ▸ (at_put_ne _ (by omega)).trans j4
      have b6 : hb.at h2.n = some .defd := hhb ▸ (at_put_ne _ (by omega)).trans j6
      rw [← hhb]
      clear hhb
      have lb4 := at_lt b4
      have LB4 := ld_at (T := tabOf Try.prog NT0) b4
      rw [hLO]
      have hfl : firstN pool seed ms (runsF pool seed ms).length = firstF pool seed ms := by unfold firstN firstF; rw [List.take_length]; try (cases (runsF pool seed ms).getLast? <;> rfl)
      rw [hfl] at LB4
      simp only [core, Nat.reduceAdd, Nat.reduceSub, Nat.reduceMul, Nat.reduceLT, Nat.reduceEqDiff, reduceCtorEq, Nat.reduceLeDiff, Int.reduceLE, Int.reduceLT, Int.reduceToNat, Option.map_none, Option.toList_none, List.nil_append, g5, hn, LB4, lb4]
      exact ⟨b6, EB.put _ (by omega)⟩
    · exact hf.elim
end Go.Proofs.Ytkgbeihcepociaa.Ex
end

section

set_option linter.unusedSimpArgs false
set_option linter.unusedVariables false
set_option maxRecDepth 10000
set_option maxHeartbeats 4000000
namespace Go.Proofs.Ytkgbeihcepociaa.Ex
open Go
theorem OwnL.below {α : Type} {R : Rep α} {G : Nat → Prop} {n0 : Nat} {h h' : AH} {v : AV} {e : TypeId} {xs : List α} (ho : OwnL R G n0 h v e xs) (hG : ∀ b, G b → n0 ≤ b) (hk : ∀ b, n0 ≤ b → h'.at b = h.at b) : OwnL R G n0 h' v e xs := by
  refine ho.lift (fun b off n cap ev => ?_) (fun b hb _ _ => hk b (hG b hb))
  obtain ⟨L, h1, h2⟩ := ho
  rcases h1.2 with ⟨hh, _⟩ | ⟨p, hh, hp, hat⟩
  · rw [hh] at ev; cases ev
  · rw [hh] at ev
    cases ev
    exact hk _ hp
theorem ivs_take {pool seed : Int} {ms : List MapD} {i : Nat} {r : Nat × Nat} (hr : (runsF pool seed ms)[i]? = some r) : (ivsF pool seed ms).take (i + 1) = (ivsF pool seed ms).take i ++ [ivOf pool seed (cutF ms r)] := by
  unfold ivsF
  rw [List.take_add_one, List.getElem?_map, hr]
  rfl
/-- The loads of a slice's elements are as they were. -/
theorem IsSl.ldE {α : Type} {R : Rep α} {T : TT} {F : Nat → Prop} {H h : AH} {v : AV} {xs : List α} (hs : IsSl R F H v xs) (h0 : 0 < xs.length) (he : Ext H.n H h) : ∀ e off, loadA T h e (slB v) off = loadA T H e (slB v) off := fun e off => by
  obtain ⟨L, h1, _, _, h3⟩ := hs.out
  rcases h1.2 with ⟨rfl, rfl⟩ | ⟨b, o, cap, row, rfl, h4, h5⟩
  · have := h3.1
    simp at this
    omega
  · have := he.2 b (getR_lt h4)
    simp only [slB, loadA, getR, this]
def pgB (pool seed : Int) : AB := .cells [.lit (.int .i64 pool), .lit (.int .i64 seed)] 56
/-- What of a map of an argument is known. -/
theorem i64_epoch {F : Nat → Prop} {H : AH} {v : AV} {ms : List MapD} (hv : IsSl RMp F H v ms) {x : MapD} (hx : x ∈ ms) : I64 x.epoch := by
  obtain ⟨i, hi⟩ := List.mem_iff_getElem?.1 hx
  obtain ⟨c, hc1, -⟩ := hv.at (T := tabOf Try.prog NT0) RMp_z hi
  obtain ⟨vo, vp, vb, rfl, -, -, -, h1, -⟩ := RMp_is.1 hc1
  exact h1
theorem each_x {F : Nat → Prop} {H : AH} {v : AV} {ms : List MapD} (pool seed : Int) (hv : IsSl RMp F H v ms) (hl : Sm 88 ms) (hok : ∀ m ∈ ms, OkMp m) :
    WC Try.prog (tabOf Try.prog NT0) S0 37 [v, pgV pool seed] H fun r h' => r = .fn (.func 87) [] [.ptr (H.n + 1) 0] ∧ Ext H.n H h' ∧ ∃ s, h'.at (H.n + 1) = some (.cells [s] 59) ∧ IsSl RIv (fun b => H.n + 6 ≤ b) h' s (ivsF pool seed ms) := by
  refine WC_fn Try.func37 rfl rfl ?_
  have s1 := hv.isSl
  have s2 := hv.lenD
  have o1 := hv.one
  simp only [core, Nat.reduceAdd, Nat.reduceSub, Nat.reduceMul, Nat.reduceLT, Nat.reduceEqDiff, reduceCtorEq, Nat.reduceLeDiff, Int.reduceLE, Int.reduceLT, Int.reduceToNat, Try.ntmps37, pgV, s1, s2]
  refine (runs_x pool seed o1).mono ?_
  rintro _ h2 ⟨rfl, rfl⟩
  simp only [core, Nat.reduceAdd, Nat.reduceSub, Nat.reduceMul, Nat.reduceLT, Nat.reduceEqDiff, reduceCtorEq, Nat.reduceLeDiff, Int.reduceLE, Int.reduceLT, Int.reduceToNat]
  generalize htt : TM.set _ 10 _ = tt
  have hn : tt.n = 45 := by rw [← htt]; simp only [core, Nat.reduceAdd, Nat.reduceSub, Nat.reduceMul, Nat.reduceLT, Nat.reduceEqDiff, reduceCtorEq, Nat.reduceLeDiff, Int.reduceLE, Int.reduceLT, Int.reduceToNat]
  have g3 : tt.get 3 = .ptr H.n 0 := by rw [← htt]; simp only [core, Nat.reduceAdd, Nat.reduceSub, Nat.reduceMul, Nat.reduceLT, Nat.reduceEqDiff, reduceCtorEq, Nat.reduceLeDiff, Int.reduceLE, Int.reduceLT, Int.reduceToNat]
  have g5 : tt.get 5 = .ptr (H.n + 1) 0 := by rw [← htt]; simp only [core, Nat.reduceAdd, Nat.reduceSub, Nat.reduceMul, Nat.reduceLT, Nat.reduceEqDiff, reduceCtorEq, Nat.reduceLeDiff, Int.reduceLE, Int.reduceLT, Int.reduceToNat]
  have g10 : tt.get 10 = .fn (.func 125) [] [.ptr (H.n + 2) 0, .ptr (H.n + 3) 0] := by rw [← htt]; simp only [core, Nat.reduceAdd, Nat.reduceSub, Nat.reduceMul, Nat.reduceLT, Nat.reduceEqDiff, reduceCtorEq, Nat.reduceLeDiff, Int.reduceLE, Int.reduceLT, Int.reduceToNat]
  clear htt
  generalize hh2 : AH.push (AH.push _ (.cells [v] _)) _ = h2
  have E2 : Ext H.n H h2 := hh2 ▸ ((((Ext.refl _ _).push _ (Nat.le_refl _)).push _ (by rw [n_push]; omega)).push _ (by rw [n_push, n_push]; omega)).push _ (by rw [n_push, n_push, n_push]; omega)
  have n2 : h2.n = H.n + 4 := by rw [← hh2, n_push, n_push, n_push, n_push]
  have P2 : h2.at (H.n + 3) = some (pgB pool seed) := hh2 ▸ at_push_n _ _
  have M2 : h2.at (H.n + 2) = some (.cells [v] 33) := hh2 ▸ (at_push_lt _ (by rw [n_push, n_push, n_push]; omega)).trans (at_push_n _ _)
  have F2 : h2.at (H.n + 1) = some (.cells [.lit (.slice none 0 0)] 59) := hh2 ▸ (at_push_lt _ (by rw [n_push, n_push, n_push]; omega)).trans ((at_push_lt _ (by rw [n_push, n_push]; omega)).trans (at_push_n _ _))
  have Q2 : h2.at H.n = some (pgB pool seed) := hh2 ▸ (at_push_lt _ (by rw [n_push, n_push, n_push]; omega)).trans ((at_push_lt _ (by rw [n_push, n_push]; omega)).trans ((at_push_lt _ (by rw [n_push]; omega)).trans (at_push_n _ _)))
  clear hh2
  refine WB_rangeW rfl (fv := .fn (.func 125) [] [.ptr (H.n + 2) 0, .ptr (H.n + 3) 0]) (by simp only [core, Nat.reduceAdd, Nat.reduceSub, Nat.reduceMul, Nat.reduceLT, Nat.reduceEqDiff, reduceCtorEq, Nat.reduceLeDiff, Int.reduceLE, Int.reduceLT, Int.reduceToNat, g10]) rfl fun LO hLO => ?_
  refine (run1_x pool seed hv hl hok (l := h2.n + 1) (bm := H.n + 2) (bp := H.n + 3)
    (fun i h => Ext H.n H h ∧ h.at (H.n + 2) = some (.cells [v] 33) ∧ h.at (H.n + 3) = some (pgB pool seed) ∧ h.at H.n = some (pgB pool seed) ∧ (∃ s, h.at (H.n + 1) = some (.cells [s] 59) ∧ OwnL RIv (fun b => H.n + 6 ≤ b) (H.n + 6) h s 65 ((ivsF pool seed ms).take i)) ∧ h.at (H.n + 5) = some (.loop LO) ∧ h.at (H.n + 4) = some .defd)
    (fun _ => False) (fun i h j => ⟨j.1, j.2.1, j.2.2.1⟩) (fun i h h' ⟨j1, j2, j3, j4, ⟨s, j5, j6⟩, j7, j8⟩ e => ⟨j1.step e, (e.2 _ (at_lt j2)).trans j2, (e.2 _ (at_lt j3)).trans j3, (e.2 _ (at_lt j4)).trans j4, ⟨s, (e.2 _ (at_lt j5)).trans j5, j6.ext e (Nat.le_refl _)⟩, (e.2 _ (at_lt j7)).trans j7, (e.2 _ (at_lt j8)).trans j8⟩) ?_ ?_).mono ?_
  · rintro i r h hri ⟨j1, j2, j3, j4, ⟨s, j5, j6⟩, j7, j8⟩
    have hrun := runsF_run r (List.mem_of_getElem? hri)
    have hlt := hrun.lt
    have hsub : IsSl RMp F H (subSl 5 r.1 r.2 v) (cutF ms r) := hv.sub (Nat.le_of_lt hlt) hrun.le
    have c1 := hsub.isSl
    have c2 := hsub.lenD
    have hcl := cut_len (ms := ms) hrun.le
    have hrl := hrun.cut
    have htk := ivs_take hri
    have hokc : ∀ m ∈ cutF ms r, OkMp m := fun m hm => hok m (List.mem_of_mem_take (List.mem_of_mem_drop hm))
    have hlc : Sm 88 (cutF ms r) := by
      unfold Sm at hl ⊢
      have := hrun.le
      omega
    have hil : ((ivsF pool seed ms).take i).length + 1 ≤ ms.length := by
      have h1 := ivsF_len (pool := pool) (seed := seed) (ms := ms)
      have h2 := congrArg List.length htk
      rw [List.length_append, List.length_take] at h2
      have h3 : [ivOf pool seed (cutF ms r)].length = 1 := rfl
      omega
    generalize hcs : cutF ms r = cs at hsub c2 hcl hrl htk hokc hlc
    obtain ⟨x, hx⟩ : ∃ x, cs[0]? = some x := ⟨_, List.getElem?_eq_getElem (by omega)⟩
    obtain ⟨y, hy⟩ : ∃ y, cs[cs.length - 1]? = some y := ⟨_, List.getElem?_eq_getElem (by omega)⟩
    have hx0 : cs.getD 0 map0 = x := by rw [List.getD_eq_getElem?_getD, hx]; rfl
    have hy0 : cs.getD (cs.length - 1) map0 = y := by rw [List.getD_eq_getElem?_getD, hy]; rfl
    have hcl0 : 0 < cs.length := by omega
    have hcl1 : cs.length - 1 < cs.length := by omega
    have hw0 : IntKind.i64.wrap ((cs.length : Int) - 1) = ((cs.length - 1 : Nat) : Int) := (wrap_in (by omega) (by unfold Sm at hlc; omega)).trans (by omega)
    generalize subSl 5 r.1 r.2 v = w at hsub c1 c2
    have ex := i64_epoch hsub (List.mem_of_getElem? hx)
    have ey := i64_epoch hsub (List.mem_of_getElem? hy)
    have cw := hsub.one
    rw [n2]
    refine WR_round hLO j7 rfl ?_
    simp only [core, Nat.reduceAdd, Nat.reduceSub, Nat.reduceMul, Nat.reduceLT, Nat.reduceEqDiff, reduceCtorEq, Nat.reduceLeDiff, Int.reduceLE, Int.reduceLT, Int.reduceToNat, sp_cons, sp_nil, g3, g5, hn]
    refine WB_beginL hLO rfl j7 ?_
    obtain ⟨hb, hhb⟩ : ∃ hb, hb = h.put (H.n + 5) (.loop (busyL LO)) := ⟨_, rfl⟩
    have EB : Ext H.n H hb := hhb ▸ j1.put _ (by omega)
    have b2 : hb.at (H.n + 2) = some (.cells [v] 33) := hhb ▸ (at_put_ne _ (by omega)).trans j2
    have b3 : hb.at (H.n + 3) = some (pgB pool seed) := hhb ▸ (at_put_ne _ (by omega)).trans j3
    have b4 : hb.at H.n = some (pgB pool seed) := hhb ▸ (at_put_ne _ (by omega)).trans j4
    have b5 : hb.at (H.n + 1) = some (.cells [s] 59) := hhb ▸ (at_put_ne _ (by omega)).trans j5
    have b6 : OwnL RIv (fun b => H.n + 6 ≤ b) (H.n + 6) hb s 65 ((ivsF pool seed ms).take i) := hhb ▸ j6.below (fun _ h => h) (fun b hb => at_put_ne _ (by omega))
    have b7 : hb.at (H.n + 5) = some (.loop (busyL LO)) := hhb ▸ at_put_same _ (at_lt j7)
    have b8 : hb.at (H.n + 4) = some .defd := hhb ▸ (at_put_ne _ (by omega)).trans j8
    rw [← hhb]
    clear hhb
    have lb4 := at_lt b4
    have lb5 := at_lt b5
    have hnb : H.n + 6 ≤ hb.n := by have := at_lt b7; omega
    have LB4 := ld_at (T := tabOf Try.prog NT0) b4
    unfold pgB at LB4
    obtain ⟨c, hc1, hld, hld0⟩ := hsub.at (T := tabOf Try.prog NT0) RMp_z hx
    obtain ⟨vo, vp, vb, rfl, m1, m2, m3, -⟩ := RMp_is.1 hc1
    have hld' := fun e n j a b c => (hld e n j a b c)
    simp only [Nat.zero_mul, Nat.add_zero] at hld'
    have hld0' := fun e n a b c => (hld0 e n a b c)
    simp only [Nat.zero_mul, Nat.add_zero] at hld0'
    obtain ⟨c, hc1y, hldy, hldy0⟩ := hsub.at (T := tabOf Try.prog NT0) RMp_z hy
    have ldB := hsub.ldE (T := tabOf Try.prog NT0) hcl0 EB
    have ldP := fun X => hsub.ldE (T := tabOf Try.prog NT0) hcl0 (EB.push X EB.1)
    obtain ⟨vo', vp', vb', rfl, -⟩ := RMp_is.1 hc1y
    have i1 := m1.isSl
    have i2 := m2.isSl
    have i3 := m3.isSl
    have p1 := m1.one
    have p2 := m2.one
    have p3 := m3.one
    simp only [core, Nat.reduceAdd, Nat.reduceSub, Nat.reduceMul, Nat.reduceLT, Nat.reduceEqDiff, reduceCtorEq, Nat.reduceLeDiff, Int.reduceLE, Int.reduceLT, Int.reduceToNat, g3, g5, hn]
    rw [WB_regionD [0, 1, 2, 3, 4, 5, 6, 7, 8, 9, 10, 11, 12, 13, 14, 16, 17, 18, 19, 22, 15, 20, 21, 23] 123665185994511654907818808153546979569531333209920123054873838942764538423013361282423622794148255919933035931143133856369881834984212847893134840377299613681830775467540480 (by kernel_rfl)]
    repeat ((with_reducible refine WDM_cons ?_; simp only [dw1]; try simp only [dw2, Nat.reduceAdd, Nat.reduceMul, Nat.reduceShiftRight, Nat.reduceMod, Nat.reduceEqDiff]); simp only [core, Nat.reduceAdd, Nat.reduceSub, Nat.reduceMul, Nat.reduceLT, Nat.reduceEqDiff, reduceCtorEq, Nat.reduceLeDiff, Int.reduceLE, Int.reduceLT, Int.reduceToNat, cored, g3, g5, hn, c1, c2, hcl0, hcl1, hw0, ldB, ldP, hld', hld0', hldy, hldy0, LB4, lb4, i1, i2, i3, p1, p2, p3])
    obtain ⟨hp, hhp⟩ : ∃ hp, hp = hb.push (.cells [.lit (.int .i64 0), .lit (.int .i64 0), .lit (.slice none 0 0), .lit (.slice none 0 0), .lit (.bool false)] 65) := ⟨_, rfl⟩
    have e1 : Ext hb.n hb hp := hhp ▸ (Ext.refl _ _).push _ (Nat.le_refl _)
    have X1 : hp.at hb.n = some (.cells [.lit (.int .i64 0), .lit (.int .i64 0), .lit (.slice none 0 0), .lit (.slice none 0 0), .lit (.bool false)] 65) := hhp ▸ at_push_n _ _
    have nx1 := at_lt X1
    have E1 := EB.step e1
    rw [← hhp]
    clear hhp
    have mx := MpAt.mk (m := x) m1 m2 m3
    have okx := hokc x (List.mem_of_getElem? hx)
    refine (act_x pool seed (mx.ext E1 (Nat.le_refl _)) okx.okM okx.1.1 okx.2.1.1).mono ?_
    rintro va h3 ⟨e3, hva⟩
    have E3 := E1.step e3
    have eb3 := e1.step e3
    have Q3 := (eb3.2 _ lb4).trans b4
    have LQ3 := ld_at (T := tabOf Try.prog NT0) Q3
    unfold pgB at LQ3
    have lq3 := at_lt Q3
    have ld3 := hsub.ldE (T := tabOf Try.prog NT0) hcl0 E3
    have v1 := hva.isSl
    have v2 := hva.one
    repeat ((with_reducible refine WDM_cons ?_; simp only [dw1]; try simp only [dw2, Nat.reduceAdd, Nat.reduceMul, Nat.reduceShiftRight, Nat.reduceMod, Nat.reduceEqDiff]); simp only [core, Nat.reduceAdd, Nat.reduceSub, Nat.reduceMul, Nat.reduceLT, Nat.reduceEqDiff, reduceCtorEq, Nat.reduceLeDiff, Int.reduceLE, Int.reduceLT, Int.reduceToNat, cored, g3, g5, hn, c1, c2, hcl0, hcl1, hw0, ld3, hld', hld0', hldy, hldy0, LQ3, lq3, i1, i2, i3, p1, p2, p3, v1, v2])
    refine (boots_x pool seed (mx.ext E3 (Nat.le_refl _)) okx.okM okx.1.1 okx.2.1.1).mono ?_
    rintro vb1 h4 ⟨e4, hvb⟩
    have E4 := E3.step e4
    have eb4 := eb3.step e4
    have X4 := (e4.2 _ (by have := e3.1; omega)).trans ((e3.2 _ nx1).trans X1)
    have nx4 := at_lt X4
    have w1 := hvb.isSl
    have w2 := hvb.one
    have Q4 := (e4.2 _ lq3).trans Q3
    have LQ4 := ld_at (T := tabOf Try.prog NT0) Q4
    unfold pgB at LQ4
    have lq4 := at_lt Q4
    have ld4 := hsub.ldE (T := tabOf Try.prog NT0) hcl0 E4
    repeat ((with_reducible refine WDM_cons ?_; simp only [dw1]; try simp only [dw2, Nat.reduceAdd, Nat.reduceMul, Nat.reduceShiftRight, Nat.reduceMod, Nat.reduceEqDiff]); simp only [core, Nat.reduceAdd, Nat.reduceSub, Nat.reduceMul, Nat.reduceLT, Nat.reduceEqDiff, reduceCtorEq, Nat.reduceLeDiff, Int.reduceLE, Int.reduceLT, Int.reduceToNat, cored, g3, g5, hn, c1, c2, hcl0, hcl1, hw0, ld4, hld', hld0', hldy, hldy0, LQ4, lq4, X4, nx4, i1, i2, i3, p1, p2, p3, v1, v2, w1, w2])
    obtain ⟨h5, hh5⟩ : ∃ h5, h5 = h4.put hb.n (.cells [.lit (.int .i64 x.epoch), .lit (.int .i64 y.epoch), va, vb1, .lit (.bool false)] 65) := ⟨_, rfl⟩
    have e5 : Ext hb.n hb h5 := hh5 ▸ eb4.put _ (Nat.le_refl _)
    have E5 := EB.step e5
    have X5 : h5.at hb.n = some (.cells [.lit (.int .i64 x.epoch), .lit (.int .i64 y.epoch), va, vb1, .lit (.bool false)] 65) := hh5 ▸ at_put_same _ nx4
    have q5 : ∀ b, b ≠ hb.n → h5.at b = h4.at b := fun b hb => hh5 ▸ at_put_ne _ (fun h => hb h.symm)
    have n5 : h5.n = h4.n := by rw [hh5, n_put]
    rw [← hh5]
    clear hh5
    have nx5 := at_lt X5
    have LX5 := ld_at (T := tabOf Try.prog NT0) X5
    have Q5 := (e5.2 _ lb4).trans b4
    have lq5 := at_lt Q5
    have LQ5 := ld_at (T := tabOf Try.prog NT0) Q5
    unfold pgB at LQ5
    have hn1 : hb.n + 1 ≤ hp.n := by have := nx1; omega
    have va5 : IsSl RInt (fun b => hp.n ≤ b) h5 va (actF x pool seed) := (hva.ext e4 (Nat.le_refl _)).lift fun b hb _ => ⟨q5 b (by omega), hb⟩
    have vb5 : IsSl RInt (fun b => hp.n ≤ b) h5 vb1 (bootF x (actF x pool seed)) := hvb.lift fun b hb _ => ⟨q5 b (by have := e3.1; omega), by have := e3.1; omega⟩
    have v5 := va5.isSl
    simp only [core, Nat.reduceAdd, Nat.reduceSub, Nat.reduceMul, Nat.reduceLT, Nat.reduceEqDiff, reduceCtorEq, Nat.reduceLeDiff, Int.reduceLE, Int.reduceLT, Int.reduceToNat, g3, g5, hn, LX5, nx5, LQ5, lq5, v5]
    refine (wrote_x pool seed (hsub.ext E5 (Nat.le_refl _)) hlc hokc hrl (va := va) (by rw [hx0]; exact va5)).mono ?_
    rintro _ h6 ⟨e6, rfl⟩
    rw [hx0]
    obtain ⟨wb, hwb⟩ : ∃ wb, wb = wroteF pool cs (actF x pool seed) := ⟨_, rfl⟩
    rw [← hwb]
    have X6 := (e6.2 _ nx5).trans X5
    have nx6 := at_lt X6
    have LX6 := ld_at (T := tabOf Try.prog NT0) X6
    simp only [core, Nat.reduceAdd, Nat.reduceSub, Nat.reduceMul, Nat.reduceLT, Nat.reduceEqDiff, reduceCtorEq, Nat.reduceLeDiff, Int.reduceLE, Int.reduceLT, Int.reduceToNat, g3, g5, hn, LX6, nx6, X6]
    obtain ⟨h7, hh7⟩ : ∃ h7, h7 = h6.put hb.n (.cells [.lit (.int .i64 x.epoch), .lit (.int .i64 y.epoch), va, vb1, .lit (.bool wb)] 65) := ⟨_, rfl⟩
    have e7 : Ext hb.n hb h7 := hh7 ▸ (e5.step e6).put _ (Nat.le_refl _)
    have E7 := EB.step e7
    have X7 : h7.at hb.n = some (.cells [.lit (.int .i64 x.epoch), .lit (.int .i64 y.epoch), va, vb1, .lit (.bool wb)] 65) := hh7 ▸ at_put_same _ nx6
    have n7 : h7.n = h6.n := by rw [hh7, n_put]
    have q7 : ∀ b, b ≠ hb.n → h7.at b = h6.at b := fun b hb => hh7 ▸ at_put_ne _ (fun h => hb h.symm)
    rw [← hh7]
    clear hh7
    have S7 := (e7.2 _ lb5).trans b5
    have ls7 := at_lt S7
    have LS7 := ld_at (T := tabOf Try.prog NT0) S7
    have nx7 := at_lt X7
    have LX7 := ld_at (T := tabOf Try.prog NT0) X7
    have so := b6.isSl
    have so1 := b6.one
    have v7 := va5.one
    have w7 := vb5.one
    simp only [core, Nat.reduceAdd, Nat.reduceSub, Nat.reduceMul, Nat.reduceLT, Nat.reduceEqDiff, reduceCtorEq, Nat.reduceLeDiff, Int.reduceLE, Int.reduceLT, Int.reduceToNat, g3, g5, hn, LS7, ls7, LX7, nx7, so, so1, v7, w7]
    obtain ⟨h8, hh8⟩ : ∃ h8, h8 = h7.push (.cells [.lit (.int .i64 x.epoch), .lit (.int .i64 y.epoch), va, vb1, .lit (.bool wb)] 65) := ⟨_, rfl⟩
    have e8 : Ext h7.n h7 h8 := hh8 ▸ (Ext.refl _ _).push _ (Nat.le_refl _)
    have X8 : h8.at h7.n = some (.cells [.lit (.int .i64 x.epoch), .lit (.int .i64 y.epoch), va, vb1, .lit (.bool wb)] 65) := hh8 ▸ at_push_n _ _
    rw [← hh8]
    clear hh8
    have eb8 : Ext hb.n hb h8 := e7.step e8
    have hiv : ivOf pool seed cs = ⟨x.epoch, y.epoch, actF x pool seed, bootF x (actF x pool seed), wb⟩ := by
      unfold ivOf
      rw [hx0, hy0, hwb]
    refine WOp_app ((b6.ext eb8 (Nat.le_refl _)).snoc (by kernel_rfl) (by kernel_rfl) (by kernel_rfl) (zv := .agg [.lit (.int .i64 0), .lit (.int .i64 0), .lit (.slice none 0 0), .lit (.slice none 0 0), .lit (.bool false)]) (by kernel_rfl) (by' := 72) (by kernel_rfl) rfl (by decide) (by decide) X8
      (y := ivOf pool seed cs) (RIv_is.2 ⟨va, vb1, by rw [hiv], ?_, ?_, ?_, ?_⟩) (by unfold Sm at hl; omega) (by unfold Sm at hl; omega) (by have := eb8.1; omega)) ?_
    · rw [hiv]
      exact va5.lift fun b hb hlt => ⟨(e8.2 b (by have := e6.1; omega)).trans ((q7 b (by omega)).trans (e6.2 b hlt)), by omega, b6.apart (by omega)⟩
    · rw [hiv]
      exact vb5.lift fun b hb hlt => ⟨(e8.2 b (by have := e6.1; omega)).trans ((q7 b (by omega)).trans (e6.2 b hlt)), by omega, b6.apart (by omega)⟩
    · rw [hiv]; exact ex
    · rw [hiv]; exact ey
    rintro s9 h9 ⟨o9, e9, k9⟩
    have EE : Ext (H.n + 6) hb h9 := (eb8.mono hnb).trans e9
    have S9 := (EE.2 _ (by omega)).trans b5
    have ls9 := at_lt S9
    have o91 := o9.one
    simp only [core, Nat.reduceAdd, Nat.reduceSub, Nat.reduceMul, Nat.reduceLT, Nat.reduceEqDiff, reduceCtorEq, Nat.reduceLeDiff, Int.reduceLE, Int.reduceLT, Int.reduceToNat, g3, g5, hn, S9, ls9, o91]
    refine ⟨busyL LO, ?_, true, rfl, fun _ => ⟨?_, ?_, ?_, ?_, ⟨s9, ?_, ?_⟩, ?_, ?_⟩, fun h => by cases h⟩
    · exact (at_put_ne _ (by omega)).trans ((EE.2 _ (by omega)).trans b7)
    · exact ((EB.trans (EE.mono (by omega))).put _ (by omega)).put _ (by omega)
    · exact (at_put_ne _ (by omega)).trans ((at_put_ne _ (by omega)).trans ((EE.2 _ (by omega)).trans b2))
    · exact (at_put_ne _ (by omega)).trans ((at_put_ne _ (by omega)).trans ((EE.2 _ (by omega)).trans b3))
    · exact (at_put_ne _ (by omega)).trans ((at_put_ne _ (by omega)).trans ((EE.2 _ (by omega)).trans b4))
    · exact (at_put_ne _ (by omega)).trans (at_put_same _ ls9)
    · rw [htk]
      exact o9.below (fun _ h => h) (fun b hb => (at_put_ne _ (by omega)).trans (at_put_ne _ (by omega)))
    · exact (at_put_same _ (by rw [n_put]; exact at_lt ((EE.2 _ (by omega)).trans b7))).trans (by rw [hLO]; rfl)
    · exact (at_put_ne _ (by omega)).trans ((at_put_ne _ (by omega)).trans ((EE.2 _ (by omega)).trans b8))
  · have up : ∀ b x, h2.at b = some x → ((h2.push .defd).push (.loop LO)).at b = some x := fun b x hx => by
      have := at_lt hx
      exact (at_push_lt _ (by rw [n_push]; omega)).trans ((at_push_lt _ this).trans hx)
    refine ⟨(E2.push _ E2.1).push _ (by rw [n_push]; have := E2.1; omega), up _ _ M2, up _ _ P2, up _ _ Q2, ⟨_, up _ _ F2, OwnL.nil⟩, ?_, ?_⟩
    · have := at_push_n (h2.push .defd) (.loop LO)
      rw [n_push, n2] at this
      exact this
    · have := at_push_n h2 .defd
      rw [n2] at this
      exact (at_push_lt _ (by rw [n_push]; omega)).trans this
  · rintro _ h (⟨j1, j2, j3, j4, ⟨s, j5, j6⟩, j7, j8⟩ | hf)
    · refine ⟨LO, by rw [n2]; exact j7, by rw [hLO]; simp, ?_⟩
      obtain ⟨hb, hhb⟩ : ∃ hb, hb = h.put (h2.n + 1) (.loop { LO with state := .exhausted }) := ⟨_, rfl⟩
      have EB : Ext H.n H hb := hhb ▸ j1.put _ (by omega)
      have b5 : hb.at (H.n + 1) = some (.cells [s] 59) := hhb ▸ (at_put_ne _ (by omega)).trans j5
      have b6 : OwnL RIv (fun b => H.n + 6 ≤ b) (H.n + 6) hb s 65 ((ivsF pool seed ms).take (runsF pool seed ms).length) := hhb ▸ j6.below (fun _ h => h) (fun b hb => at_put_ne _ (by omega))
      have b8 : hb.at h2.n = some .defd := hhb ▸ (at_put_ne _ (by omega)).trans (by rw [n2]; exact j8)
      rw [← hhb]
      clear hhb
      rw [hLO]
      simp only [core, Nat.reduceAdd, Nat.reduceSub, Nat.reduceMul, Nat.reduceLT, Nat.reduceEqDiff, reduceCtorEq, Nat.reduceLeDiff, Int.reduceLE, Int.reduceLT, Int.reduceToNat, Option.map_none, Option.toList_none, List.nil_append, g5, hn]
      refine ⟨b8, EB.put _ (by omega), s, (at_put_ne _ (by omega)).trans b5, ?_⟩
      rw [List.take_of_length_le (by unfold ivsF; rw [List.length_map]; exact Nat.le_refl _)] at b6
      exact (b6.below (fun _ h => h) (fun b hb => at_put_ne _ (by omega))).toSl (fun _ h => h) (fun _ h => h)
    · exact hf.elim
end Go.Proofs.Ytkgbeihcepociaa.Ex
end

section

set_option linter.unusedSimpArgs false
set_option linter.unusedVariables false
set_option maxRecDepth 10000
set_option maxHeartbeats 4000000
namespace Go.Proofs.Ytkgbeihcepociaa.Ex
open Go
def ivV (x : IvD) (va vb : AV) : AV := .agg [.lit (.int .i64 x.first), .lit (.int .i64 x.last), va, vb, .lit (.bool x.mayRw)]
theorem each1_x {F : Nat → Prop} {H : AH} {s : AV} {xs : List IvD} {p l : Nat} (hp : H.at p = some (.cells [s] 59)) (hv : IsSl RIv F H s xs) (hl : xs.length * 72 ≤ 140737488355328) (hs : ∀ x ∈ xs, x.acting.length * 8 ≤ 140737488355328 ∧ x.boots.length * 8 ≤ 140737488355328)
    (J : Nat → AH → Prop) (R : AH → Prop) (hJ : ∀ i h, J i h → Ext H.n H h) (hE : ∀ i h h', J i h → Ext h.n h h' → J i h')
    (hr : ∀ i x h0 h va vb, xs[i]? = some x → J i h0 → Ext h0.n h0 h → IsSl RInt (fun b => h0.n ≤ b) h va x.acting → IsSl RInt (fun b => h0.n ≤ b) h vb x.boots → I64 x.first → I64 x.last → WR Try.prog (tabOf Try.prog NT0) S0 l [ivV x va vb] h fun r h2 => ∃ b, r = .lit (.bool b) ∧ (b = true → J (i + 1) h2) ∧ (b = false → R h2))
    {h : AH} (h0 : J 0 h) : WC Try.prog (tabOf Try.prog NT0) S0 87 [.fn (.yield l) [] [], .ptr p 0] h fun _ h2 => J xs.length h2 ∨ R h2 := by
  refine WC_fn Try.func87 rfl rfl ?_
  have s1 := hv.isSl
  have s2 := hv.lenD
  have E0 := hJ _ _ h0
  have P0 := (E0.2 _ (at_lt hp)).trans hp
  have LP0 := ld_at (T := tabOf Try.prog NT0) P0
  have lp0 := at_lt P0
  simp only [core, Nat.reduceAdd, Nat.reduceSub, Nat.reduceMul, Nat.reduceLT, Nat.reduceEqDiff, reduceCtorEq, Nat.reduceLeDiff, Int.reduceLE, Int.reduceLT, Int.reduceToNat, Try.ntmps87, s1, s2, LP0, lp0]
  refine WB_for xs.length (fun i t h => J i h ∧ t.n = 24 ∧ t.get 0 = .fn (.yield l) [] [] ∧ t.get 1 = .ptr p 0 ∧ t.get 5 = s ∧ t.get 6 = .lit (.int .i64 xs.length) ∧ t.get 7 = .lit (.int .i64 i)) ?_ ?_ _ _ ?_
  · rintro i t h hlt hc ⟨hj, hn, g0, g1, g5, g6, g7⟩ ih
    have E := hJ _ _ hj
    obtain ⟨x, hx⟩ : ∃ x, xs[i]? = some x := ⟨_, List.getElem?_eq_getElem hlt⟩
    have hw := wrap_succ hlt (by omega)
    obtain ⟨c, hc1, hld, hld0⟩ := hv.atE (T := tabOf Try.prog NT0) E RIv_z hx
    obtain ⟨va, vb, rfl, ha, hb, f1, f2⟩ := RIv_is.1 hc1
    have a1 := ha.one
    have b1 := hb.one
    have a2 := ha.isSl
    have b2 := hb.isSl
    obtain ⟨hsa, hsb⟩ := hs x (List.mem_of_getElem? hx)
    simp only [core, Nat.reduceAdd, Nat.reduceSub, Nat.reduceMul, Nat.reduceLT, Nat.reduceEqDiff, reduceCtorEq, Nat.reduceLeDiff, Int.reduceLE, Int.reduceLT, Int.reduceToNat, s1, s2, hn, g0, g1, g5, g6, g7, hlt, hc, hw, hld, hld0, a1, b1]
    obtain ⟨h1, hh1⟩ : ∃ h1, h1 = h.push (.cells [.lit (.int .i64 x.first), .lit (.int .i64 x.last), va, vb, .lit (.bool x.mayRw)] 65) := ⟨_, rfl⟩
    have e1 : Ext h.n h h1 := hh1 ▸ (Ext.refl _ _).push _ (Nat.le_refl _)
    have X1 : h1.at h.n = some (.cells [.lit (.int .i64 x.first), .lit (.int .i64 x.last), va, vb, .lit (.bool x.mayRw)] 65) := hh1 ▸ at_push_n _ _
    have nx1 := at_lt X1
    have LX1 := ld_at (T := tabOf Try.prog NT0) X1
    rw [← hh1]
    clear hh1
    rw [WB_regionD [0, 1, 3, 4, 2, 6, 5, 7, 8, 9] 632895786129742360360258634752 (by kernel_rfl)]
    repeat ((with_reducible refine WDM_cons ?_; simp only [dw1]; try simp only [dw2, Nat.reduceAdd, Nat.reduceMul, Nat.reduceShiftRight, Nat.reduceMod, Nat.reduceEqDiff]); simp only [core, Nat.reduceAdd, Nat.reduceSub, Nat.reduceMul, Nat.reduceLT, Nat.reduceEqDiff, reduceCtorEq, Nat.reduceLeDiff, Int.reduceLE, Int.reduceLT, Int.reduceToNat, cored, hn, g0, g1, g5, g6, g7, LX1, nx1, a1, b1, a2, b2])
    refine (clone_x (ha.ext (E.step e1) (Nat.le_refl _)) hsa).mono ?_
    rintro ra h2 ⟨e2, ra1, -⟩
    have X2 := (e2.2 _ nx1).trans X1
    have nx2 := at_lt X2
    have LX2 := ld_at (T := tabOf Try.prog NT0) X2
    have ra2 := ra1.isSl
    have ra3 := ra1.one
    repeat ((with_reducible refine WDM_cons ?_; simp only [dw1]; try simp only [dw2, Nat.reduceAdd, Nat.reduceMul, Nat.reduceShiftRight, Nat.reduceMod, Nat.reduceEqDiff]); simp only [core, Nat.reduceAdd, Nat.reduceSub, Nat.reduceMul, Nat.reduceLT, Nat.reduceEqDiff, reduceCtorEq, Nat.reduceLeDiff, Int.reduceLE, Int.reduceLT, Int.reduceToNat, cored, hn, g0, g1, g5, g6, g7, LX2, nx2, a1, b1, a2, b2, ra2, ra3])
    refine (clone_x (hb.ext ((E.step e1).step e2) (Nat.le_refl _)) hsb).mono ?_
    rintro rb h3 ⟨e3, rb1, -⟩
    have X3 := (e3.2 _ nx2).trans X2
    have nx3 := at_lt X3
    have LX3 := ld_at (T := tabOf Try.prog NT0) X3
    have rb2 := rb1.isSl
    have rb3 := rb1.one
    have eh3 : Ext h.n h h3 := (e1.step e2).step e3
    repeat ((with_reducible refine WDM_cons ?_; simp only [dw1]; try simp only [dw2, Nat.reduceAdd, Nat.reduceMul, Nat.reduceShiftRight, Nat.reduceMod, Nat.reduceEqDiff]); simp only [core, Nat.reduceAdd, Nat.reduceSub, Nat.reduceMul, Nat.reduceLT, Nat.reduceEqDiff, reduceCtorEq, Nat.reduceLeDiff, Int.reduceLE, Int.reduceLT, Int.reduceToNat, cored, hn, g0, g1, g5, g6, g7, LX3, X3, nx3, a1, b1, a2, b2, ra2, ra3, rb2, rb3, WOp_round, call_yield])
    obtain ⟨h4, hh4⟩ : ∃ h4, h4 = (h3.put h.n (.cells [.lit (.int .i64 x.first), .lit (.int .i64 x.last), ra, vb, .lit (.bool x.mayRw)] 65)).put h.n (.cells [.lit (.int .i64 x.first), .lit (.int .i64 x.last), ra, rb, .lit (.bool x.mayRw)] 65) := ⟨_, rfl⟩
    have e4 : Ext h.n h h4 := hh4 ▸ (eh3.put _ (Nat.le_refl _)).put _ (Nat.le_refl _)
    have q4 : ∀ b, b ≠ h.n → h4.at b = h3.at b := fun b hb => hh4 ▸ (at_put_ne _ (fun h => hb h.symm)).trans (at_put_ne _ (fun h => hb h.symm))
    rw [← hh4]
    clear hh4
    have q1 := e1.1
    have q2 := e2.1
    refine (hr i x h h4 ra rb hx hj e4 (ra1.lift fun b hb hlt => ⟨(q4 b (by omega)).trans (e3.2 b hlt), by omega⟩) (rb1.lift fun b hb _ => ⟨q4 b (by omega), by omega⟩) f1 f2).mono ?_
    rintro _ h5 ⟨b, rfl, k1, k2⟩
    cases b with
    | true =>
      simp only [core, Nat.reduceAdd, Nat.reduceSub, Nat.reduceMul, Nat.reduceLT, Nat.reduceEqDiff, reduceCtorEq, Nat.reduceLeDiff, Int.reduceLE, Int.reduceLT, Int.reduceToNat, hn, g0, g1, g5, g6, g7, hw]
      exact ih _ _ ⟨k1 rfl, by simp only [core, Nat.reduceAdd, Nat.reduceSub, Nat.reduceMul, Nat.reduceLT, Nat.reduceEqDiff, reduceCtorEq, Nat.reduceLeDiff, Int.reduceLE, Int.reduceLT, Int.reduceToNat, hn, g0, g1, g5, g6, g7]⟩
    | false =>
      simp only [core, Nat.reduceAdd, Nat.reduceSub, Nat.reduceMul, Nat.reduceLT, Nat.reduceEqDiff, reduceCtorEq, Nat.reduceLeDiff, Int.reduceLE, Int.reduceLT, Int.reduceToNat, hn, g0, g1, g5, g6, g7]
      exact ⟨by simp, .inr (k2 rfl)⟩
  · rintro t h hc ⟨hj, hn, g0, g1, g5, g6, g7⟩
    simp only [core, Nat.reduceAdd, Nat.reduceSub, Nat.reduceMul, Nat.reduceLT, Nat.reduceEqDiff, reduceCtorEq, Nat.reduceLeDiff, Int.reduceLE, Int.reduceLT, Int.reduceToNat, s1, s2, hn, g0, g1, g5, g6, g7, hc]
    exact ⟨by simp, .inl hj⟩
  · simp only [core, Nat.reduceAdd, Nat.reduceSub, Nat.reduceMul, Nat.reduceLT, Nat.reduceEqDiff, reduceCtorEq, Nat.reduceLeDiff, Int.reduceLE, Int.reduceLT, Int.reduceToNat]
    refine ⟨h0, ?_⟩
    (repeat' apply And.intro) <;> first | rfl | trivial
theorem ivs_ok {pool seed : Int} {ms : List MapD} : ∀ x ∈ ivsF pool seed ms, x.acting.length ≤ 8 ∧ x.boots.length ≤ 8 := fun x hx => by
  unfold ivsF at hx
  obtain ⟨r, -, rfl⟩ := List.mem_map.1 hx
  unfold ivOf bootF
  simp only [List.length_map]
  exact ⟨actF_len, actF_len⟩
/-- All of them in a slice. -/
theorem seq_x {F : Nat → Prop} {H : AH} {s : AV} {xs : List IvD} {p : Nat} (hp : H.at p = some (.cells [s] 59)) (hv : IsSl RIv F H s xs) (hl : xs.length * 72 ≤ 140737488355328) (hs : ∀ x ∈ xs, x.acting.length * 8 ≤ 140737488355328 ∧ x.boots.length * 8 ≤ 140737488355328) :
    WC Try.prog (tabOf Try.prog NT0) S0 124 [.lit (.slice none 0 0), .fn (.func 87) [] [.ptr p 0]] H fun r h' => Ext H.n H h' ∧ OwnL RIv (fun b => H.n + 3 ≤ b) (H.n + 3) h' r 65 xs := by
  refine WC_fn Try.func124 rfl rfl ?_
  simp only [core, Nat.reduceAdd, Nat.reduceSub, Nat.reduceMul, Nat.reduceLT, Nat.reduceEqDiff, reduceCtorEq, Nat.reduceLeDiff, Int.reduceLE, Int.reduceLT, Int.reduceToNat, Try.ntmps124]
  generalize htt : TM.set _ 6 _ = tt
  have hn : tt.n = 13 := by rw [← htt]; simp only [core, Nat.reduceAdd, Nat.reduceSub, Nat.reduceMul, Nat.reduceLT, Nat.reduceEqDiff, reduceCtorEq, Nat.reduceLeDiff, Int.reduceLE, Int.reduceLT, Int.reduceToNat]
  have g2 : tt.get 2 = .ptr H.n 0 := by rw [← htt]; simp only [core, Nat.reduceAdd, Nat.reduceSub, Nat.reduceMul, Nat.reduceLT, Nat.reduceEqDiff, reduceCtorEq, Nat.reduceLeDiff, Int.reduceLE, Int.reduceLT, Int.reduceToNat]
  have g6 : tt.get 6 = .fn (.func 87) [] [.ptr p 0] := by rw [← htt]; simp only [core, Nat.reduceAdd, Nat.reduceSub, Nat.reduceMul, Nat.reduceLT, Nat.reduceEqDiff, reduceCtorEq, Nat.reduceLeDiff, Int.reduceLE, Int.reduceLT, Int.reduceToNat]
  clear htt
  generalize hh2 : AH.push H _ = h2
  have E2 : Ext H.n H h2 := hh2 ▸ (Ext.refl _ _).push _ (Nat.le_refl _)
  have n2 : h2.n = H.n + 1 := by rw [← hh2, n_push]
  have F2 : h2.at H.n = some (.cells [.lit (.slice none 0 0)] 59) := hh2 ▸ at_push_n _ _
  clear hh2
  refine WB_rangeW rfl (fv := .fn (.func 87) [] [.ptr p 0]) (by simp only [core, Nat.reduceAdd, Nat.reduceSub, Nat.reduceMul, Nat.reduceLT, Nat.reduceEqDiff, reduceCtorEq, Nat.reduceLeDiff, Int.reduceLE, Int.reduceLT, Int.reduceToNat, g6]) rfl fun LO hLO => ?_
  refine (each1_x (l := h2.n + 1) hp hv hl hs
    (fun i h => Ext H.n H h ∧ (∃ s, h.at H.n = some (.cells [s] 59) ∧ OwnL RIv (fun b => H.n + 3 ≤ b) (H.n + 3) h s 65 (xs.take i)) ∧ h.at (H.n + 2) = some (.loop LO) ∧ h.at (H.n + 1) = some .defd)
    (fun _ => False) (fun i h j => j.1) (fun i h h' ⟨j1, ⟨s, j5, j6⟩, j7, j8⟩ e => ⟨j1.step e, ⟨s, (e.2 _ (at_lt j5)).trans j5, j6.ext e (Nat.le_refl _)⟩, (e.2 _ (at_lt j7)).trans j7, (e.2 _ (at_lt j8)).trans j8⟩) ?_ ?_).mono ?_
  · rintro i x h0 h va vb hx ⟨j1, ⟨s, j5, j6⟩, j7, j8⟩ e0 ha hbb f1 f2
    have a1 := ha.one
    have b1 := hbb.one
    have hlt : i < xs.length := (List.getElem?_eq_some_iff.1 hx).1
    have htk : xs.take (i + 1) = xs.take i ++ [x] := by rw [List.take_add_one, hx]; rfl
    have k7 := (e0.2 _ (at_lt j7)).trans j7
    rw [n2]
    refine WR_round hLO k7 rfl ?_
    simp only [core, Nat.reduceAdd, Nat.reduceSub, Nat.reduceMul, Nat.reduceLT, Nat.reduceEqDiff, reduceCtorEq, Nat.reduceLeDiff, Int.reduceLE, Int.reduceLT, Int.reduceToNat, sp_cons, sp_nil, ivV, g2, hn, a1, b1]
    obtain ⟨h1, hh1⟩ : ∃ h1, h1 = h.push (.cells [.lit (.int .i64 x.first), .lit (.int .i64 x.last), va, vb, .lit (.bool x.mayRw)] 65) := ⟨_, rfl⟩
    have e1 : Ext h.n h h1 := hh1 ▸ (Ext.refl _ _).push _ (Nat.le_refl _)
    have X1 : h1.at h.n = some (.cells [.lit (.int .i64 x.first), .lit (.int .i64 x.last), va, vb, .lit (.bool x.mayRw)] 65) := hh1 ▸ at_push_n _ _
    rw [← hh1]
    clear hh1
    have l7 := (e1.2 _ (at_lt k7)).trans k7
    refine WB_beginL hLO rfl l7 ?_
    have EX := j1.step (e0.step e1)
    have ee := e0.step e1
    have hnh := at_lt j7
    have hne := e0.1
    have T5 := (ee.2 _ (at_lt j5)).trans j5
    have T6 := j6.ext ee (Nat.le_refl _)
    have T8 := (ee.2 _ (at_lt j8)).trans j8
    obtain ⟨hb, hhb⟩ : ∃ hb, hb = h1.put (H.n + 2) (.loop (busyL LO)) := ⟨_, rfl⟩
    have EB : Ext H.n H hb := hhb ▸ EX.put _ (by omega)
    have qb : ∀ b, b ≠ H.n + 2 → hb.at b = h1.at b := fun b hb => hhb ▸ at_put_ne _ (fun h => hb h.symm)
    have nb : hb.n = h1.n := by rw [hhb, n_put]
    have b7 : hb.at (H.n + 2) = some (.loop (busyL LO)) := hhb ▸ at_put_same _ (at_lt l7)
    rw [← hhb]
    clear hhb
    have b5 := (qb H.n (by omega)).trans T5
    have b8 := (qb (H.n + 1) (by omega)).trans T8
    have b6 : OwnL RIv (fun b => H.n + 3 ≤ b) (H.n + 3) hb s 65 (xs.take i) := T6.below (fun _ h => h) (fun b hb => qb _ (by omega))
    have bX := (qb h.n (by omega)).trans X1
    have lb5 := at_lt b5
    have LB5 := ld_at (T := tabOf Try.prog NT0) b5
    have lbX := at_lt bX
    have LBX := ld_at (T := tabOf Try.prog NT0) bX
    have so := b6.isSl
    have so1 := b6.one
    simp only [core, Nat.reduceAdd, Nat.reduceSub, Nat.reduceMul, Nat.reduceLT, Nat.reduceEqDiff, reduceCtorEq, Nat.reduceLeDiff, Int.reduceLE, Int.reduceLT, Int.reduceToNat, g2, hn, LB5, lb5, LBX, lbX, so, so1, a1, b1]
    obtain ⟨h8, hh8⟩ : ∃ h8, h8 = hb.push (.cells [.lit (.int .i64 x.first), .lit (.int .i64 x.last), va, vb, .lit (.bool x.mayRw)] 65) := ⟨_, rfl⟩
    have e8 : Ext hb.n hb h8 := hh8 ▸ (Ext.refl _ _).push _ (Nat.le_refl _)
    have X8 : h8.at hb.n = some (.cells [.lit (.int .i64 x.first), .lit (.int .i64 x.last), va, vb, .lit (.bool x.mayRw)] 65) := hh8 ▸ at_push_n _ _
    rw [← hh8]
    clear hh8
    have hil : (xs.take i).length + 1 ≤ xs.length := by rw [List.length_take]; omega
    have hap : ∀ b, h0.n ≤ b → Apart s b := fun b hb => j6.apart hb
    have he1 := e1.1
    refine WOp_app ((b6.ext e8 (Nat.le_refl _)).snoc (by kernel_rfl) (by kernel_rfl) (by kernel_rfl) (zv := .agg [.lit (.int .i64 0), .lit (.int .i64 0), .lit (.slice none 0 0), .lit (.slice none 0 0), .lit (.bool false)]) (by kernel_rfl) (by' := 72) (by kernel_rfl) rfl (by decide) (by decide) X8
      (y := x) (RIv_is.2 ⟨va, vb, rfl, ?_, ?_, f1, f2⟩) (by omega) (by omega) (by have := e8.1; omega)) ?_
    · exact ha.lift fun b hb hlt => ⟨(e8.2 b (by omega)).trans ((qb b (by omega)).trans (e1.2 b hlt)), by omega, hap b hb⟩
    · exact hbb.lift fun b hb hlt => ⟨(e8.2 b (by omega)).trans ((qb b (by omega)).trans (e1.2 b hlt)), by omega, hap b hb⟩
    rintro s9 h9 ⟨o9, e9, k9⟩
    have EE : Ext (H.n + 3) hb h9 := (e8.mono (by omega)).trans e9
    have S9 := (EE.2 _ (by omega)).trans b5
    have ls9 := at_lt S9
    have o91 := o9.one
    simp only [core, Nat.reduceAdd, Nat.reduceSub, Nat.reduceMul, Nat.reduceLT, Nat.reduceEqDiff, reduceCtorEq, Nat.reduceLeDiff, Int.reduceLE, Int.reduceLT, Int.reduceToNat, g2, hn, S9, ls9, o91]
    refine ⟨busyL LO, ?_, true, rfl, fun _ => ⟨?_, ⟨s9, ?_, ?_⟩, ?_, ?_⟩, fun h => by cases h⟩
    · exact (at_put_ne _ (by omega)).trans ((EE.2 _ (by omega)).trans b7)
    · exact ((EB.trans (EE.mono (by omega))).put _ (by omega)).put _ (by omega)
    · exact (at_put_ne _ (by omega)).trans (at_put_same _ ls9)
    · rw [htk]
      exact o9.below (fun _ h => h) (fun b hb => (at_put_ne _ (by omega)).trans (at_put_ne _ (by omega)))
    · exact (at_put_same _ (by rw [n_put]; exact at_lt ((EE.2 _ (by omega)).trans b7))).trans (by rw [hLO]; rfl)
    · exact (at_put_ne _ (by omega)).trans ((at_put_ne _ (by omega)).trans ((EE.2 _ (by omega)).trans b8))
  · have up : ∀ b x, h2.at b = some x → ((h2.push .defd).push (.loop LO)).at b = some x := fun b x hx => by
      have := at_lt hx
      exact (at_push_lt _ (by rw [n_push]; omega)).trans ((at_push_lt _ this).trans hx)
    refine ⟨(E2.push _ E2.1).push _ (by rw [n_push]; have := E2.1; omega), ⟨_, up _ _ F2, OwnL.nil⟩, ?_, ?_⟩
    · have := at_push_n (h2.push .defd) (.loop LO)
      rw [n_push, n2] at this
      exact this
    · have := at_push_n h2 .defd
      rw [n2] at this
      exact (at_push_lt _ (by rw [n_push]; omega)).trans this
  · rintro _ h (⟨j1, ⟨s, j5, j6⟩, j7, j8⟩ | hf)
    · refine ⟨LO, by rw [n2]; exact j7, by rw [hLO]; simp, ?_⟩
      obtain ⟨hb, hhb⟩ : ∃ hb, hb = h.put (h2.n + 1) (.loop { LO with state := .exhausted }) := ⟨_, rfl⟩
      have EB : Ext H.n H hb := hhb ▸ j1.put _ (by omega)
      have b5 : hb.at H.n = some (.cells [s] 59) := hhb ▸ (at_put_ne _ (by omega)).trans j5
      have b6 : OwnL RIv (fun b => H.n + 3 ≤ b) (H.n + 3) hb s 65 (xs.take xs.length) := hhb ▸ j6.below (fun _ h => h) (fun b hb => at_put_ne _ (by omega))
      have b8 : hb.at h2.n = some .defd := hhb ▸ (at_put_ne _ (by omega)).trans (by rw [n2]; exact j8)
      rw [← hhb]
      clear hhb
      have lb5 := at_lt b5
      have LB5 := ld_at (T := tabOf Try.prog NT0) b5
      have so := b6.isSl
      rw [hLO]
      simp only [core, Nat.reduceAdd, Nat.reduceSub, Nat.reduceMul, Nat.reduceLT, Nat.reduceEqDiff, reduceCtorEq, Nat.reduceLeDiff, Int.reduceLE, Int.reduceLT, Int.reduceToNat, Option.map_none, Option.toList_none, List.nil_append, g2, hn, LB5, lb5, so]
      refine ⟨b8, EB.put _ (by omega), ?_⟩
      rw [List.take_length] at b6
      exact b6.below (fun _ h => h) (fun b hb => at_put_ne _ (by omega))
    · exact hf.elim
theorem all_x {F : Nat → Prop} {H : AH} {v : AV} {ms : List MapD} (pool seed : Int) (hv : IsSl RMp F H v ms) (hl : Sm 88 ms) (hok : ∀ m ∈ ms, OkMp m) :
    WC Try.prog (tabOf Try.prog NT0) S0 32 [v, pgV pool seed] H fun r h' => Ext H.n H h' ∧ ∃ n0, H.n ≤ n0 ∧ OwnL RIv (fun b => n0 ≤ b) n0 h' r 65 (ivsF pool seed ms) := by
  refine WC_fn Try.func32 rfl rfl ?_
  have s1 := hv.isSl
  have o1 := hv.one
  simp only [core, Nat.reduceAdd, Nat.reduceSub, Nat.reduceMul, Nat.reduceLT, Nat.reduceEqDiff, reduceCtorEq, Nat.reduceLeDiff, Int.reduceLE, Int.reduceLT, Int.reduceToNat, Try.ntmps32, pgV, s1]
  obtain ⟨h1, hh1⟩ : ∃ h1, h1 = H.push (pgB pool seed) := ⟨_, rfl⟩
  have e1 : Ext H.n H h1 := hh1 ▸ (Ext.refl _ _).push _ (Nat.le_refl _)
  unfold pgB at hh1
  rw [← hh1]
  clear hh1
  refine (each_x pool seed (hv.ext e1 (Nat.le_refl _)) hl hok).mono ?_
  rintro _ h2 ⟨rfl, e2, s, hs, hiv⟩
  have hlen : (ivsF pool seed ms).length * 72 ≤ 140737488355328 := by
    have := ivsF_len (pool := pool) (seed := seed) (ms := ms)
    unfold Sm at hl
    omega
  simp only [core, Nat.reduceAdd, Nat.reduceSub, Nat.reduceMul, Nat.reduceLT, Nat.reduceEqDiff, reduceCtorEq, Nat.reduceLeDiff, Int.reduceLE, Int.reduceLT, Int.reduceToNat]
  have hcol : WC Try.prog (tabOf Try.prog NT0) S0 82 [.fn (.func 87) [] [.ptr (h1.n + 1) 0]] h2 fun r h' => Ext h2.n h2 h' ∧ OwnL RIv (fun b => h2.n + 3 ≤ b) (h2.n + 3) h' r 65 (ivsF pool seed ms) := by
    refine WC_fn Try.func82 rfl rfl ?_
    simp only [core, Nat.reduceAdd, Nat.reduceSub, Nat.reduceMul, Nat.reduceLT, Nat.reduceEqDiff, reduceCtorEq, Nat.reduceLeDiff, Int.reduceLE, Int.reduceLT, Int.reduceToNat, Try.ntmps82]
    refine (seq_x hs hiv hlen (fun x hx => by have := ivs_ok x hx; omega)).mono ?_
    rintro r h3 ⟨e3, o3⟩
    have r1 := o3.isSl
    simp only [core, Nat.reduceAdd, Nat.reduceSub, Nat.reduceMul, Nat.reduceLT, Nat.reduceEqDiff, reduceCtorEq, Nat.reduceLeDiff, Int.reduceLE, Int.reduceLT, Int.reduceToNat, r1]
    exact ⟨e3, o3⟩
  refine hcol.mono ?_
  rintro r h3 ⟨e3, o3⟩
  have r1 := o3.isSl
  simp only [core, Nat.reduceAdd, Nat.reduceSub, Nat.reduceMul, Nat.reduceLT, Nat.reduceEqDiff, reduceCtorEq, Nat.reduceLeDiff, Int.reduceLE, Int.reduceLT, Int.reduceToNat, r1]
  have q1 := e1.1
  have q2 := e2.1
  exact ⟨(e1.step e2).step e3, h2.n + 3, by omega, o3⟩
end Go.Proofs.Ytkgbeihcepociaa.Ex
end

section

set_option linter.unusedSimpArgs false
set_option linter.unusedVariables false
set_option maxRecDepth 10000
set_option maxHeartbeats 4000000
namespace Go.Proofs.Ytkgbeihcepociaa.Ex
open Go
theorem run15_x {F : Nat → Prop} {H : AH} {v : AV} {l : List MapD} (pool seed : Int) (hv : IsSl RMp F H v l) (hl : Sm 88 l) (hok : ∀ m ∈ l, OkMp m) (hr : RunL pool seed l) :
    WC Try.prog (tabOf Try.prog NT0) S0 83 [v, pgV pool seed] H fun r h' => Ext H.n H h' ∧ ∃ va vb, r = ivV (ivOf pool seed l) va vb ∧ IsSl RInt (fun b => H.n ≤ b) h' va (ivOf pool seed l).acting ∧ IsSl RInt (fun b => H.n ≤ b) h' vb (ivOf pool seed l).boots := by
  refine WC_fn Try.func83 rfl rfl ?_
  have s1 := hv.isSl
  have s2 := hv.lenD
  have h0 := hr.pos
  have hl' := hl
  unfold Sm at hl'
  obtain ⟨y, hy, hact, hbt⟩ := hr.last
  obtain ⟨x, hx⟩ : ∃ x, l[0]? = some x := ⟨_, List.getElem?_eq_getElem h0⟩
  have hx0 : l.getD 0 map0 = x := by rw [List.getD_eq_getElem?_getD, hx]; rfl
  have hyl : l.getD (l.length - 1) map0 = y := by rw [List.getD_eq_getElem?_getD, hy]; rfl
  have hlt0 : l.length - 1 < l.length := by omega
  have hw0 : IntKind.i64.wrap ((l.length : Int) - 1) = ((l.length - 1 : Nat) : Int) := (wrap_in (by omega) (by omega)).trans (by omega)
  obtain ⟨c, hc1, hld, hld0⟩ := hv.at (T := tabOf Try.prog NT0) RMp_z hx
  obtain ⟨vo', vp', vb', rfl, -⟩ := RMp_is.1 hc1
  obtain ⟨c, hc1y, hldy, hldy0⟩ := hv.at (T := tabOf Try.prog NT0) RMp_z hy
  obtain ⟨vo, vp, vb, rfl, m1, m2, m3, -⟩ := RMp_is.1 hc1y
  have mx := MpAt.mk (m := y) m1 m2 m3
  have hld' := fun e n j a b c => (hld e n j a b c)
  simp only [Nat.zero_mul, Nat.add_zero] at hld'
  have hld0' := fun e n a b c => (hld0 e n a b c)
  simp only [Nat.zero_mul, Nat.add_zero] at hld0'
  have i1 := m1.isSl
  have i2 := m2.isSl
  have i3 := m3.isSl
  have p1 := m1.one
  have p2 := m2.one
  have p3 := m3.one
  have k1 := m1.lenD
  have ldP := fun X h (e : Ext H.n H h) => hv.ldE (T := tabOf Try.prog NT0) h0 (e.push X e.1)
  have ld1 := fun X => hv.ldE (T := tabOf Try.prog NT0) h0 ((Ext.refl H.n H).push X (Nat.le_refl _))
  have ld2 := fun X Y => hv.ldE (T := tabOf Try.prog NT0) h0 (((Ext.refl H.n H).push X (Nat.le_refl _)).push Y (by rw [n_push]; omega))
  rw [hx0] at hact hbt
  simp only [core, Nat.reduceAdd, Nat.reduceSub, Nat.reduceMul, Nat.reduceLT, Nat.reduceEqDiff, reduceCtorEq, Nat.reduceLeDiff, Int.reduceLE, Int.reduceLT, Int.reduceToNat, Try.ntmps83, pgV, s1, s2, hw0, hlt0, hldy, hldy0, ld1, ld2, p1, p2, p3]
  obtain ⟨h1, hh1⟩ : ∃ h1, h1 = ((H.push (.cells [.lit (.int .i64 pool), .lit (.int .i64 seed)] 56)).push (.cells [.lit (.int .i64 0), .lit (.int .i64 0), .lit (.slice none 0 0), .lit (.slice none 0 0), .lit (.bool false)] 65)).push (.cells [.lit (.int .i64 y.epoch), vo, vp, vb, .lit (.int .i64 y.leaf)] 31) := ⟨_, rfl⟩
  have E1 : Ext H.n H h1 := hh1 ▸ (((Ext.refl _ _).push _ (Nat.le_refl _)).push _ (by rw [n_push]; omega)).push _ (by rw [n_push, n_push]; omega)
  have n1 : h1.n = H.n + 3 := by rw [hh1, n_push, n_push, n_push]
  have Y1 : h1.at (H.n + 2) = some (.cells [.lit (.int .i64 y.epoch), vo, vp, vb, .lit (.int .i64 y.leaf)] 31) := hh1 ▸ at_push_n _ _
  have R1 : h1.at (H.n + 1) = some (.cells [.lit (.int .i64 0), .lit (.int .i64 0), .lit (.slice none 0 0), .lit (.slice none 0 0), .lit (.bool false)] 65) := hh1 ▸ (at_push_lt _ (by rw [n_push, n_push]; omega)).trans (at_push_n _ _)
  have Q1 : h1.at H.n = some (pgB pool seed) := hh1 ▸ (at_push_lt _ (by rw [n_push, n_push]; omega)).trans ((at_push_lt _ (by rw [n_push]; omega)).trans (at_push_n _ _))
  rw [← hh1]
  clear hh1
  have LY1 := ld_at (T := tabOf Try.prog NT0) Y1
  have LQ1 := ld_at (T := tabOf Try.prog NT0) Q1
  unfold pgB at LQ1
  have ly1 := at_lt Y1
  have lq1 := at_lt Q1
  have ldB := hv.ldE (T := tabOf Try.prog NT0) h0 E1
  have ldC := fun X => ldP X h1 E1
  rw [WB_regionD [0, 1, 2, 3, 4, 5, 6, 7, 9, 10, 13, 8, 11, 12, 14] 26958301168868980616286625857434187090046041737030468531609640402944 (by kernel_rfl)]
  repeat ((with_reducible refine WDM_cons ?_; simp only [dw1]; try simp only [dw2, Nat.reduceAdd, Nat.reduceMul, Nat.reduceShiftRight, Nat.reduceMod, Nat.reduceEqDiff]); simp only [core, Nat.reduceAdd, Nat.reduceSub, Nat.reduceMul, Nat.reduceLT, Nat.reduceEqDiff, reduceCtorEq, Nat.reduceLeDiff, Int.reduceLE, Int.reduceLT, Int.reduceToNat, cored, s1, s2, h0, ldB, ldC, hld', hld0', LY1, ly1, LQ1, lq1, i1, i2, i3, p1, p2, p3])
  obtain ⟨hp, hhp⟩ : ∃ hp, hp = h1.push (.cells [.lit (.int .i64 0), .lit (.int .i64 0), .lit (.slice none 0 0), .lit (.slice none 0 0), .lit (.bool false)] 65) := ⟨_, rfl⟩
  have e1 : Ext h1.n h1 hp := hhp ▸ (Ext.refl _ _).push _ (Nat.le_refl _)
  have X1 : hp.at (H.n + 3) = some (.cells [.lit (.int .i64 0), .lit (.int .i64 0), .lit (.slice none 0 0), .lit (.slice none 0 0), .lit (.bool false)] 65) := by rw [← n1]; exact hhp ▸ at_push_n _ _
  have nx1 := at_lt X1
  have E2 := E1.step e1
  rw [← hhp, n1]
  clear hhp
  have oky := hok y (List.mem_of_getElem? hy)
  refine (actR_x pool seed (mx.ext E2 (Nat.le_refl _)) oky.okM oky.1.1 oky.2.1.1).mono ?_
  rintro va h3 ⟨e3, hva⟩
  have E3 := E2.step e3
  have eb3 := e1.step e3
  have Y3 := (eb3.2 _ ly1).trans Y1
  have Q3 := (eb3.2 _ lq1).trans Q1
  have LQ3 := ld_at (T := tabOf Try.prog NT0) Q3
  unfold pgB at LQ3
  have lq3 := at_lt Q3
  have LY3 := ld_at (T := tabOf Try.prog NT0) Y3
  have ly3 := at_lt Y3
  have ld3 := hv.ldE (T := tabOf Try.prog NT0) h0 E3
  have v1 := hva.isSl
  have v2 := hva.one
  repeat ((with_reducible refine WDM_cons ?_; simp only [dw1]; try simp only [dw2, Nat.reduceAdd, Nat.reduceMul, Nat.reduceShiftRight, Nat.reduceMod, Nat.reduceEqDiff]); simp only [core, Nat.reduceAdd, Nat.reduceSub, Nat.reduceMul, Nat.reduceLT, Nat.reduceEqDiff, reduceCtorEq, Nat.reduceLeDiff, Int.reduceLE, Int.reduceLT, Int.reduceToNat, cored, s1, s2, h0, ld3, hld', hld0', LY3, ly3, LQ3, lq3, i1, i2, i3, p1, p2, p3, v1, v2])
  refine (bootsR_x pool seed (mx.ext E3 (Nat.le_refl _)) oky.okM oky.1.1 oky.2.1.1).mono ?_
  rintro vb1 h4 ⟨e4, hvb⟩
  have E4 := E3.step e4
  have eb4 := eb3.step e4
  have Y4 := (e4.2 _ ly3).trans Y3
  have Q4 := (e4.2 _ lq3).trans Q3
  have X4 := (e4.2 _ (by have := e3.1; omega)).trans ((e3.2 _ nx1).trans X1)
  have nx4 := at_lt X4
  have LQ4 := ld_at (T := tabOf Try.prog NT0) Q4
  unfold pgB at LQ4
  have lq4 := at_lt Q4
  have LY4 := ld_at (T := tabOf Try.prog NT0) Y4
  have ly4 := at_lt Y4
  have ld4 := hv.ldE (T := tabOf Try.prog NT0) h0 E4
  have w1 := hvb.isSl
  have w2 := hvb.one
  rw [hact] at hva
  rw [hbt] at hvb
  repeat ((with_reducible refine WDM_cons ?_; simp only [dw1]; try simp only [dw2, Nat.reduceAdd, Nat.reduceMul, Nat.reduceShiftRight, Nat.reduceMod, Nat.reduceEqDiff]); simp only [core, Nat.reduceAdd, Nat.reduceSub, Nat.reduceMul, Nat.reduceLT, Nat.reduceEqDiff, reduceCtorEq, Nat.reduceLeDiff, Int.reduceLE, Int.reduceLT, Int.reduceToNat, cored, s1, s2, h0, ld4, hld', hld0', LY4, ly4, LQ4, lq4, X4, nx4, i1, i2, i3, p1, p2, p3, v1, v2, w1, w2])
  obtain ⟨h5, hh5⟩ : ∃ h5, h5 = h4.put (H.n + 3) (.cells [.lit (.int .i64 x.epoch), .lit (.int .i64 y.epoch), va, vb1, .lit (.bool false)] 65) := ⟨_, rfl⟩
  have E5 : Ext H.n H h5 := hh5 ▸ E4.put _ (by omega)
  have X5 : h5.at (H.n + 3) = some (.cells [.lit (.int .i64 x.epoch), .lit (.int .i64 y.epoch), va, vb1, .lit (.bool false)] 65) := hh5 ▸ at_put_same _ nx4
  have q5 : ∀ b, b ≠ H.n + 3 → h5.at b = h4.at b := fun b hb => hh5 ▸ at_put_ne _ (fun h => hb h.symm)
  rw [← hh5]
  clear hh5
  have Y5 := (q5 (H.n + 2) (by omega)).trans Y4
  have Q5 := (q5 H.n (by omega)).trans Q4
  have R5 := (q5 (H.n + 1) (by omega)).trans ((eb4.2 _ (by omega)).trans R1)
  have nx5 := at_lt X5
  have LX5 := ld_at (T := tabOf Try.prog NT0) X5
  have LY5 := ld_at (T := tabOf Try.prog NT0) Y5
  have ly5 := at_lt Y5
  have nr5 := at_lt R5
  have LR5 := ld_at (T := tabOf Try.prog NT0) R5
  have hn1 : H.n + 4 ≤ hp.n := nx1
  have va5 : IsSl RInt (fun b => H.n + 4 ≤ b) h5 va (actF x pool seed) := (hva.ext e4 (Nat.le_refl _)).lift fun b hb _ => ⟨q5 b (by omega), by omega⟩
  have vb5 : IsSl RInt (fun b => H.n + 4 ≤ b) h5 vb1 (bootF x (actF x pool seed)) := hvb.lift fun b hb _ => ⟨q5 b (by have := e3.1; omega), by have := e3.1; omega⟩
  have v5 := va5.lenD
  obtain ⟨acts, hacts⟩ : ∃ acts, acts = actF x pool seed := ⟨_, rfl⟩
  have hal : acts.length ≤ 8 := hacts ▸ actF_len
  have hiv : ivOf pool seed l = ⟨x.epoch, y.epoch, acts, bootF x acts, wroteF pool l acts⟩ := by
    unfold ivOf
    rw [hx0, hyl, ← hacts]
  rw [← hacts] at va5 vb5 v5
  rw [hiv]
  have hfin : ∀ h6, Ext H.n H h6 → h6.at (H.n + 1) = some (.cells [.lit (.int .i64 0), .lit (.int .i64 0), .lit (.slice none 0 0), .lit (.slice none 0 0), .lit (.bool false)] 65) → ∀ wb, h6.at (H.n + 3) = some (.cells [.lit (.int .i64 x.epoch), .lit (.int .i64 y.epoch), va, vb1, .lit (.bool wb)] 65) → IsSl RInt (fun b => H.n + 4 ≤ b) h6 va acts → IsSl RInt (fun b => H.n + 4 ≤ b) h6 vb1 (bootF x acts) → Ext H.n H (h6.put (H.n + 1) (.cells [.lit (.int .i64 x.epoch), .lit (.int .i64 y.epoch), va, vb1, .lit (.bool wb)] 65)) ∧ IsSl RInt (fun b => H.n ≤ b) (h6.put (H.n + 1) (.cells [.lit (.int .i64 x.epoch), .lit (.int .i64 y.epoch), va, vb1, .lit (.bool wb)] 65)) va acts ∧ IsSl RInt (fun b => H.n ≤ b) (h6.put (H.n + 1) (.cells [.lit (.int .i64 x.epoch), .lit (.int .i64 y.epoch), va, vb1, .lit (.bool wb)] 65)) vb1 (bootF x acts) := fun h6 a b wb c d e =>
    ⟨a.put _ (by omega), d.lift fun b hb _ => ⟨at_put_ne _ (by omega), by omega⟩, e.lift fun b hb _ => ⟨at_put_ne _ (by omega), by omega⟩⟩
  by_cases hne : acts = []
  · have v5 : lenD va = 0 := by rw [v5, hne]; rfl
    have h00 : (((0 : Nat) : Int) == 0) = true := rfl
    have hwf : wroteF pool l acts = false := by rw [hne]; rfl
    rw [WB_regionD [0, 1, 2, 3, 4, 5, 6, 7, 8, 9, 10, 11, 12, 13, 14, 15, 16, 17] 17087798509174234881183723078933483853829637774053430101155567146670380946930547925135963109720064 (by kernel_rfl)]
    repeat ((with_reducible refine WDM_cons ?_; simp only [dw1]; try simp only [dw2, Nat.reduceAdd, Nat.reduceMul, Nat.reduceShiftRight, Nat.reduceMod, Nat.reduceEqDiff]); simp only [core, Nat.reduceAdd, Nat.reduceSub, Nat.reduceMul, Nat.reduceLT, Nat.reduceEqDiff, reduceCtorEq, Nat.reduceLeDiff, Int.reduceLE, Int.reduceLT, Int.reduceToNat, cored, LX5, nx5, LR5, R5, nr5, v1, v2, v5, w1, w2, h00, aundef])
    obtain ⟨q1, q2, q3⟩ := hfin h5 E5 R5 false X5 va5 vb5
    exact ⟨q1, va, vb1, by rw [hwf]; rfl, q2, q3⟩
  obtain ⟨o, rest, hor⟩ := List.exists_cons_of_ne_nil hne
  obtain ⟨k, z, hk, hz⟩ := hr.head (by rw [hx0, ← hacts]; exact hor) hy
  obtain ⟨c2, hc2, hldz, hldz0⟩ := m1.atE (T := tabOf Try.prog NT0) E5 ROsd_z hz
  obtain ⟨rfl, -⟩ := ROsd_is.1 hc2
  have hkz : k < y.osds.length := (List.getElem?_eq_some_iff.1 hz).1
  have hga : acts.getD 0 0 = (k : Int) := by rw [hor, ← hk]; rfl
  have hp0 : 0 < acts.length := by rw [hor]; simp
  have hldo := va5.int (T := tabOf Try.prog NT0) (e := 3) (by kernel_rfl) (by kernel_rfl) hp0
  rw [hga] at hldo
  simp only [Nat.zero_mul, Nat.add_zero] at hldo
  have h00 : ((acts.length : Int) == 0) = false := by rw [beq_eq_false_iff_ne]; omega
  have hwf : wroteF pool l acts = (wroteE pool l acts.length && decide (x.epoch ≤ z.upThru)) := by
    unfold wroteF upO
    rw [hx0, hyl, hor, hk]
    simp only [Int.toNat_natCast, hz]
  by_cases hup : z.upThru < x.epoch
  · have hwf : wroteF pool l acts = false := by rw [hwf, decide_eq_false (by omega), Bool.and_false]
    rw [WB_regionD [0, 1, 2, 3, 4, 5, 6, 7, 8, 9, 10, 11, 12, 13, 14, 15, 16, 17] 17087798509174234881183723078933483853829637774053430101155567146670380946930547925135963109720064 (by kernel_rfl)]
    repeat ((with_reducible refine WDM_cons ?_; simp only [dw1]; try simp only [dw2, Nat.reduceAdd, Nat.reduceMul, Nat.reduceShiftRight, Nat.reduceMod, Nat.reduceEqDiff]); simp only [core, Nat.reduceAdd, Nat.reduceSub, Nat.reduceMul, Nat.reduceLT, Nat.reduceEqDiff, reduceCtorEq, Nat.reduceLeDiff, Int.reduceLE, Int.reduceLT, Int.reduceToNat, cored, LX5, nx5, LY5, ly5, LR5, R5, nr5, v1, v2, v5, w1, w2, i1, k1, hkz, hldo, hp0, hldz, h00, hup, aundef])
    obtain ⟨q1, q2, q3⟩ := hfin h5 E5 R5 false X5 va5 vb5
    exact ⟨q1, va, vb1, by rw [hwf]; rfl, q2, q3⟩
  have hwf : wroteF pool l acts = wroteE pool l acts.length := by rw [hwf, decide_eq_true (by omega), Bool.and_true]
  rw [WB_regionD [0, 1, 2, 3, 4, 5, 6, 7, 8, 9, 10, 11, 12, 13, 14, 15, 16, 17] 17087798509174234881183723078933483853829637774053430101155567146670380946930547925135963109720064 (by kernel_rfl)]
  repeat ((with_reducible refine WDM_cons ?_; simp only [dw1]; try simp only [dw2, Nat.reduceAdd, Nat.reduceMul, Nat.reduceShiftRight, Nat.reduceMod, Nat.reduceEqDiff]); simp only [core, Nat.reduceAdd, Nat.reduceSub, Nat.reduceMul, Nat.reduceLT, Nat.reduceEqDiff, reduceCtorEq, Nat.reduceLeDiff, Int.reduceLE, Int.reduceLT, Int.reduceToNat, cored, LX5, nx5, LY5, ly5, LR5, R5, nr5, s1, s2, v1, v2, v5, w1, w2, i1, k1, hkz, hldo, hp0, hldz, h00, hup, aundef])
  refine WB_for l.length (fun i t h => (Ext H.n H h ∧ h.at H.n = some (pgB pool seed) ∧ h.at (H.n + 1) = some (.cells [.lit (.int .i64 0), .lit (.int .i64 0), .lit (.slice none 0 0), .lit (.slice none 0 0), .lit (.bool false)] 65) ∧ h.at (H.n + 3) = some (.cells [.lit (.int .i64 x.epoch), .lit (.int .i64 y.epoch), va, vb1, .lit (.bool (wroteE pool (l.take i) acts.length))] 65) ∧ IsSl RInt (fun b => H.n + 4 ≤ b) h va acts ∧ IsSl RInt (fun b => H.n + 4 ≤ b) h vb1 (bootF x acts)) ∧ t.n = 74 ∧ t.get 3 = .ptr H.n 0 ∧ t.get 4 = .ptr (H.n + 1) 0 ∧ t.get 6 = .ptr (H.n + 3) 0 ∧ t.get 49 = v ∧ t.get 50 = .lit (.int .i64 l.length) ∧ t.get 51 = .lit (.int .i64 i)) ?_ ?_ _ _ ?_
  · rintro i t h hlt hc ⟨⟨E, J1, J2, J3, J4, J5⟩, hn, g3, g4, g6, g49, g50, g51⟩ ih
    have lj1 := at_lt J1
    have LJ1 := ld_at (T := tabOf Try.prog NT0) J1
    unfold pgB at LJ1
    obtain ⟨m, hm⟩ : ∃ m, l[i]? = some m := ⟨_, List.getElem?_eq_getElem hlt⟩
    obtain ⟨c, hcm, hlm, hlm0⟩ := hv.atE (T := tabOf Try.prog NT0) E RMp_z hm
    obtain ⟨uo, up, ub, rfl, u1, u2, u3, -⟩ := RMp_is.1 hcm
    have i1 := u1.one
    have i2 := u2.one
    have i3 := u3.one
    have j1 := u1.isSl
    have j2 := u2.isSl
    have j3 := u3.isSl
    have hw := wrap_succ hlt (by omega)
    simp only [core, Nat.reduceAdd, Nat.reduceSub, Nat.reduceMul, Nat.reduceLT, Nat.reduceEqDiff, reduceCtorEq, Nat.reduceLeDiff, Int.reduceLE, Int.reduceLT, Int.reduceToNat, s1, s2, hn, g3, g4, g6, g49, g50, g51, hlt, hc, hlm, hlm0, hw, i1, i2, i3]
    obtain ⟨h2, hh2⟩ : ∃ h2, h2 = h.push (.cells [.lit (.int .i64 m.epoch), uo, up, ub, .lit (.int .i64 m.leaf)] 31) := ⟨_, rfl⟩
    have e2 : Ext h.n h h2 := hh2 ▸ (Ext.refl _ _).push _ (Nat.le_refl _)
    have B2 : h2.at h.n = some (.cells [.lit (.int .i64 m.epoch), uo, up, ub, .lit (.int .i64 m.leaf)] 31) := hh2 ▸ at_push_n _ _
    have lb2 := at_lt B2
    have LB2 := ld_at (T := tabOf Try.prog NT0) B2
    have A2 := (e2.2 _ lj1).trans J1
    have la2 := at_lt A2
    have LA2 := ld_at (T := tabOf Try.prog NT0) A2
    unfold pgB at LA2
    have E2 := E.step e2
    rw [← hh2]
    clear hh2
    simp only [core, Nat.reduceAdd, Nat.reduceSub, Nat.reduceMul, Nat.reduceLT, Nat.reduceEqDiff, reduceCtorEq, Nat.reduceLeDiff, Int.reduceLE, Int.reduceLT, Int.reduceToNat, s1, s2, hn, g3, g4, g6, g49, g50, g51, LB2, lb2, LA2, la2, j1, j2, j3]
    refine (poolR_x pool (MpAt.ext (MpAt.mk (m := m) u1 u2 u3) E2 (Nat.le_refl _)) (hok _ (List.mem_of_getElem? hm)).2.1.1).mono ?_
    rintro _ h3 ⟨e3, rfl⟩
    have hsucc := wroteE_succ (pool := pool) (n := acts.length) hm
    obtain ⟨acc, hacc⟩ : ∃ acc, acc = wroteE pool (l.take i) acts.length := ⟨_, rfl⟩
    rw [← hacc] at hsucc J3
    obtain ⟨ok, hok⟩ : ∃ ok, ok = (poolF m pool).isSome := ⟨_, rfl⟩
    rw [← hok] at hsucc ⊢
    obtain ⟨p, hp⟩ : ∃ p, p = poolG m pool := ⟨_, rfl⟩
    rw [← hp] at hsucc ⊢
    simp only [core, Nat.reduceAdd, Nat.reduceSub, Nat.reduceMul, Nat.reduceLT, Nat.reduceEqDiff, reduceCtorEq, Nat.reduceLeDiff, Int.reduceLE, Int.reduceLT, Int.reduceToNat, poolV, hn, g3, g4, g6, g49, g50, g51]
    obtain ⟨h4, hh4⟩ : ∃ h4, h4 = h3.push (.cells [.lit (.int .i64 p.id), .lit (.int .i64 p.size), .lit (.int .i64 p.min), .lit (.int .i64 p.pgs)] 94) := ⟨_, rfl⟩
    have e4 : Ext h3.n h3 h4 := hh4 ▸ (Ext.refl _ _).push _ (Nat.le_refl _)
    have B4 : h4.at h3.n = some (.cells [.lit (.int .i64 p.id), .lit (.int .i64 p.size), .lit (.int .i64 p.min), .lit (.int .i64 p.pgs)] 94) := hh4 ▸ at_push_n _ _
    have lb4 := at_lt B4
    have LB4 := ld_at (T := tabOf Try.prog NT0) B4
    have eh4 : Ext h.n h h4 := (e2.step e3).step e4
    have E4 := E.step eh4
    rw [← hh4]
    clear hh4
    have K1 := (eh4.2 _ lj1).trans J1
    have K2 := (eh4.2 _ (at_lt J2)).trans J2
    have K3 := (eh4.2 _ (at_lt J3)).trans J3
    have nk3 := at_lt K3
    have LK3 := ld_at (T := tabOf Try.prog NT0) K3
    have K4 := J4.ext eh4 (Nat.le_refl _)
    have K5 := J5.ext eh4 (Nat.le_refl _)
    have hset : ∀ wb, Ext H.n H (h4.put (H.n + 3) (.cells [.lit (.int .i64 x.epoch), .lit (.int .i64 y.epoch), va, vb1, .lit (.bool wb)] 65)) ∧ (h4.put (H.n + 3) (.cells [.lit (.int .i64 x.epoch), .lit (.int .i64 y.epoch), va, vb1, .lit (.bool wb)] 65)).at H.n = some (pgB pool seed) ∧ (h4.put (H.n + 3) (.cells [.lit (.int .i64 x.epoch), .lit (.int .i64 y.epoch), va, vb1, .lit (.bool wb)] 65)).at (H.n + 1) = some (.cells [.lit (.int .i64 0), .lit (.int .i64 0), .lit (.slice none 0 0), .lit (.slice none 0 0), .lit (.bool false)] 65) ∧ (h4.put (H.n + 3) (.cells [.lit (.int .i64 x.epoch), .lit (.int .i64 y.epoch), va, vb1, .lit (.bool wb)] 65)).at (H.n + 3) = some (.cells [.lit (.int .i64 x.epoch), .lit (.int .i64 y.epoch), va, vb1, .lit (.bool wb)] 65) ∧ IsSl RInt (fun b => H.n + 4 ≤ b) (h4.put (H.n + 3) (.cells [.lit (.int .i64 x.epoch), .lit (.int .i64 y.epoch), va, vb1, .lit (.bool wb)] 65)) va acts ∧ IsSl RInt (fun b => H.n + 4 ≤ b) (h4.put (H.n + 3) (.cells [.lit (.int .i64 x.epoch), .lit (.int .i64 y.epoch), va, vb1, .lit (.bool wb)] 65)) vb1 (bootF x acts) := fun wb =>
      ⟨E4.put _ (by omega), (at_put_ne _ (by omega)).trans K1, (at_put_ne _ (by omega)).trans K2, at_put_same _ nk3, K4.lift fun b hb _ => ⟨at_put_ne _ (by omega), hb⟩, K5.lift fun b hb _ => ⟨at_put_ne _ (by omega), hb⟩⟩
    by_cases hpm : p.min ≤ (acts.length : Int)
    all_goals cases acc <;> cases ok
    all_goals simp only [core, Nat.reduceAdd, Nat.reduceSub, Nat.reduceMul, Nat.reduceLT, Nat.reduceEqDiff, reduceCtorEq, Nat.reduceLeDiff, Int.reduceLE, Int.reduceLT, Int.reduceToNat, v1, v5, hn, g3, g4, g6, g49, g50, g51, LB4, lb4, LK3, K3, nk3, hpm, hw, aundef]
    all_goals
      simp only [hpm, decide_true, decide_false, Bool.and_true, Bool.and_false, Bool.or_true, Bool.or_false, Bool.true_or, Bool.false_or] at hsucc
      refine ih _ _ ⟨?_, by simp only [core, Nat.reduceAdd, Nat.reduceSub, Nat.reduceMul, Nat.reduceLT, Nat.reduceEqDiff, reduceCtorEq, Nat.reduceLeDiff, Int.reduceLE, Int.reduceLT, Int.reduceToNat, hn, g3, g4, g6, g49, g50, g51]⟩
      rw [hsucc]
      first | exact hset true | exact ⟨E4, K1, K2, K3, K4, K5⟩
  · rintro t h hc ⟨⟨E, J1, J2, J3, J4, J5⟩, hn, g3, g4, g6, g49, g50, g51⟩
    rw [List.take_length, ← hwf] at J3
    have lj2 := at_lt J2
    have LJ2 := ld_at (T := tabOf Try.prog NT0) J2
    have lj3 := at_lt J3
    have LJ3 := ld_at (T := tabOf Try.prog NT0) J3
    simp only [core, Nat.reduceAdd, Nat.reduceSub, Nat.reduceMul, Nat.reduceLT, Nat.reduceEqDiff, reduceCtorEq, Nat.reduceLeDiff, Int.reduceLE, Int.reduceLT, Int.reduceToNat, s1, s2, hn, g3, g4, g6, g49, g50, g51, hc, J2, lj2, LJ3, lj3, v1, v2, w1, w2]
    obtain ⟨q1, q2, q3⟩ := hfin h E J2 _ J3 J4 J5
    exact ⟨q1, va, vb1, rfl, q2, q3⟩
  · simp only [core, Nat.reduceAdd, Nat.reduceSub, Nat.reduceMul, Nat.reduceLT, Nat.reduceEqDiff, reduceCtorEq, Nat.reduceLeDiff, Int.reduceLE, Int.reduceLT, Int.reduceToNat]
    refine ⟨⟨E5, Q5, R5, X5, va5, vb5⟩, ?_⟩
    (repeat' apply And.intro) <;> first | rfl | trivial
end Go.Proofs.Ytkgbeihcepociaa.Ex
end

section

set_option linter.unusedSimpArgs false
set_option linter.unusedVariables false
set_option maxRecDepth 10000
set_option maxHeartbeats 4000000
namespace Go.Proofs.Ytkgbeihcepociaa.Ex
open Go
def ivsN (pool seed : Int) (ms : List MapD) (i : Nat) : List IvD := (runsN pool seed ms i).map fun r => ivOf pool seed (cutF ms r)
theorem ivsN_len {pool seed : Int} {ms : List MapD} {i : Nat} : (ivsN pool seed ms i).length ≤ i := by unfold ivsN; rw [List.length_map]; exact runsN_len i
theorem all15_x {F : Nat → Prop} {H : AH} {v : AV} {ms : List MapD} (pool seed : Int) (hv : IsSl RMp F H v ms) (hl : Sm 88 ms) (hok : ∀ m ∈ ms, OkMp m) :
    WC Try.prog (tabOf Try.prog NT0) S0 33 [v, pgV pool seed] H fun r h' => Ext H.n H h' ∧ ∃ n0, H.n ≤ n0 ∧ OwnL RIv (fun b => n0 ≤ b) n0 h' r 65 (ivsF pool seed ms) := by
  refine WC_fn Try.func33 rfl rfl ?_
  have hl' := hl
  unfold Sm at hl'
  have s1 := hv.isSl
  have s2 := hv.lenD
  simp only [core, Nat.reduceAdd, Nat.reduceSub, Nat.reduceMul, Nat.reduceLT, Nat.reduceEqDiff, reduceCtorEq, Nat.reduceLeDiff, Int.reduceLE, Int.reduceLT, Int.reduceToNat, Try.ntmps33, pgV, s1, s2]
  obtain ⟨h1, hh1⟩ : ∃ h1, h1 = H.push (pgB pool seed) := ⟨_, rfl⟩
  have E1 : Ext H.n H h1 := hh1 ▸ (Ext.refl _ _).push _ (Nat.le_refl _)
  have P1 : h1.at H.n = some (pgB pool seed) := hh1 ▸ at_push_n _ _
  unfold pgB at hh1
  rw [← hh1]
  clear hh1
  refine WB_for ms.length (fun i t h => ∃ o, Ext h1.n h1 h ∧ OwnL RIv (fun b => h1.n ≤ b) h1.n h o 65 (ivsN pool seed ms i) ∧ t.n = 45 ∧ t.get 0 = v ∧ t.get 3 = .ptr H.n 0 ∧ t.get 5 = o ∧ t.get 6 = .lit (.int .i64 (fromN pool seed ms i)) ∧ t.get 8 = v ∧ t.get 9 = .lit (.int .i64 ms.length) ∧ t.get 10 = .lit (.int .i64 i)) ?_ ?_ _ _ ?_
  · rintro i t h hlt hc ⟨o, e1, ho, hn, g0, g3, g5, g6, g8, g9, g10⟩ ih
    have E := E1.step e1
    have P := (e1.2 _ (at_lt P1)).trans P1
    have LP := ld_at (T := tabOf Try.prog NT0) P
    unfold pgB at LP
    have lp := at_lt P
    obtain ⟨x, hx⟩ : ∃ x, ms[i]? = some x := ⟨_, List.getElem?_eq_getElem hlt⟩
    have hxm := List.mem_of_getElem? hx
    have hw := wrap_succ hlt (by omega)
    have hfr := fromN_le (pool := pool) (seed := seed) (ms := ms) i
    have hcap : CapOk 5 v := by obtain ⟨L, -, -, hc, -⟩ := hv.out; exact hc
    have hq3 : fromN pool seed ms i ≤ i + 1 := by omega
    have hq4 : i + 1 ≤ ms.length := by omega
    have hq5 : ((fromN pool seed ms i : Nat) : Int) ≤ ((i + 1 : Nat) : Int) := by omega
    have hq6 : ((i + 1 : Nat) : Int) ≤ (ms.length : Int) := by omega
    have oi := ho.isSl
    by_cases hq : i + 1 < ms.length
    · obtain ⟨y, hy⟩ : ∃ y, ms[i + 1]? = some y := ⟨_, List.getElem?_eq_getElem hq⟩
      have hym := List.mem_of_getElem? hy
      obtain ⟨c, hc1, hld, hld0⟩ := hv.atE (T := tabOf Try.prog NT0) E RMp_z hx
      obtain ⟨c', hc1', hld', hld0'⟩ := hv.atE (T := tabOf Try.prog NT0) E RMp_z hy
      obtain ⟨vo, vp, vb, rfl, m1, m2, m3, -⟩ := RMp_is.1 hc1
      obtain ⟨vo', vp', vb', rfl, m1', m2', m3', -⟩ := RMp_is.1 hc1'
      have i1 := m1.isSl
      have i2 := m2.isSl
      have i3 := m3.isSl
      have i1' := m1'.isSl
      have i2' := m2'.isSl
      have i3' := m3'.isSl
      have hq1 : (((i + 1 : Nat) : Int) < (ms.length : Int)) = True := by simp only [eq_iff_iff, iff_true]; omega
      simp only [core, Nat.reduceAdd, Nat.reduceSub, Nat.reduceMul, Nat.reduceLT, Nat.reduceEqDiff, reduceCtorEq, Nat.reduceLeDiff, Int.reduceLE, Int.reduceLT, Int.reduceToNat, s1, s2, hn, g0, g3, g5, g6, g8, g9, g10, hlt, hc, hw, LP, lp]
      rw [WB_regionD [0, 1, 2, 3, 4, 5, 6, 7, 8, 9, 10, 11, 12, 13, 14, 15, 16, 17] 17087798509143212998702956811215506634502382048954304983910547617474768022664046641862272969080832 (by kernel_rfl)]
      repeat ((with_reducible refine WDM_cons ?_; simp only [dw1]; try simp only [dw2, Nat.reduceAdd, Nat.reduceMul, Nat.reduceShiftRight, Nat.reduceMod, Nat.reduceEqDiff]); simp only [core, Nat.reduceAdd, Nat.reduceSub, Nat.reduceMul, Nat.reduceLT, Nat.reduceEqDiff, reduceCtorEq, Nat.reduceLeDiff, Int.reduceLE, Int.reduceLT, Int.reduceToNat, cored, s1, s2, hn, g0, g3, g5, g6, g8, g9, g10, hlt, hc, hw, hq, hq1, LP, lp, hld, hld0, hld', hld0', i1, i2, i3, i1', i2', i3'])
      refine (sameR_x pool seed (MpAt.ext (MpAt.mk (m := x) m1 m2 m3) E (Nat.le_refl _)) (MpAt.ext (MpAt.mk (m := y) m1' m2' m3') E (Nat.le_refl _)) (hok _ hxm) (hok _ hym)).mono ?_
      rintro _ h' ⟨e', rfl⟩
      have hen : endF pool seed ms i = !sameF x y pool seed := by
        unfold endF
        rw [decide_eq_true hq, Bool.true_and, List.getD_eq_getElem?_getD, List.getD_eq_getElem?_getD, hx, hy]
        rfl
      have E' := E.step e'
      have P' := (e'.2 _ lp).trans P
      have LP' := ld_at (T := tabOf Try.prog NT0) P'
      unfold pgB at LP'
      have lp' := at_lt P'
      have ho' := ho.ext e' (Nat.le_refl _)
      cases hsm : sameF x y pool seed with
      | true =>
        rw [hsm] at hen
        have hen : endF pool seed ms i = false := hen
        repeat ((with_reducible refine WDM_cons ?_; simp only [dw1]; try simp only [dw2, Nat.reduceAdd, Nat.reduceMul, Nat.reduceShiftRight, Nat.reduceMod, Nat.reduceEqDiff]); simp only [core, Nat.reduceAdd, Nat.reduceSub, Nat.reduceMul, Nat.reduceLT, Nat.reduceEqDiff, reduceCtorEq, Nat.reduceLeDiff, Int.reduceLE, Int.reduceLT, Int.reduceToNat, cored, s1, s2, hn, g0, g3, g5, g6, g8, g9, g10, hlt, hc, hw, hq, hq1])
        refine ih _ _ ⟨o, e1.step e', ?_, ?_⟩
        · unfold ivsN; rw [runsN, if_neg (by rw [hen]; simp)]; exact ho'
        · rw [fromN_stay hen]
          simp only [core, Nat.reduceAdd, Nat.reduceSub, Nat.reduceMul, Nat.reduceLT, Nat.reduceEqDiff, reduceCtorEq, Nat.reduceLeDiff, Int.reduceLE, Int.reduceLT, Int.reduceToNat, hn, g0, g3, g5, g6, g8, g9, g10]
      | false =>
      rw [hsm] at hen
      have he : endF pool seed ms i = true := hen
      repeat ((with_reducible refine WDM_cons ?_; simp only [dw1]; try simp only [dw2, Nat.reduceAdd, Nat.reduceMul, Nat.reduceShiftRight, Nat.reduceMod, Nat.reduceEqDiff]); simp only [core, Nat.reduceAdd, Nat.reduceSub, Nat.reduceMul, Nat.reduceLT, Nat.reduceEqDiff, reduceCtorEq, Nat.reduceLeDiff, Int.reduceLE, Int.reduceLT, Int.reduceToNat, cored, s1, s2, hn, g0, g3, g5, g6, g8, g9, g10, hlt, hc, hw, hq, hq1])
      rw [WB_regionD [0, 1, 2, 3, 4, 5, 6, 7, 8, 9, 10] 1328253884926873555970339357520297984 (by kernel_rfl)]
      repeat ((with_reducible refine WDM_cons ?_; simp only [dw1]; try simp only [dw2, Nat.reduceAdd, Nat.reduceMul, Nat.reduceShiftRight, Nat.reduceMod, Nat.reduceEqDiff]); simp only [core, Nat.reduceAdd, Nat.reduceSub, Nat.reduceMul, Nat.reduceLT, Nat.reduceEqDiff, reduceCtorEq, Nat.reduceLeDiff, Int.reduceLE, Int.reduceLT, Int.reduceToNat, cored, s1, s2, hn, g0, g3, g5, g6, g8, g9, g10, hlt, hc, hw, oi, LP', lp', hcap, hq3, hq4, hq5, hq6])
      have hrun := runsF_run _ (List.mem_of_getElem? (runs_at hlt he))
      have hsub : IsSl RMp F H (subSl 5 (fromN pool seed ms i) (i + 1) v) (cutF ms (fromN pool seed ms i, i + 1)) := hv.sub hq3 hq4
      have hcl := cut_len (ms := ms) hrun.le
      refine (run15_x pool seed (hsub.ext E' (Nat.le_refl _)) (by unfold Sm; rw [hcl]; show (i + 1 - fromN pool seed ms i) * 88 ≤ _; omega) (fun m hm => hok m (List.mem_of_mem_take (List.mem_of_mem_drop hm))) hrun.cut).mono ?_
      rintro _ h2 ⟨e2, va, vb, rfl, hva, hvb⟩
      have a1 := hva.one
      have b1 := hvb.one
      generalize hivd : ivOf pool seed (cutF ms (fromN pool seed ms i, i + 1)) = z at hva hvb
      have hnz : ivsN pool seed ms (i + 1) = ivsN pool seed ms i ++ [z] := by
        unfold ivsN
        rw [runsN, if_pos he, List.map_append, ← hivd]
        rfl
      have fz : I64 z.first ∧ I64 z.last := by
        have hne : 0 < (cutF ms (fromN pool seed ms i, i + 1)).length := by rw [hcl]; show 0 < i + 1 - fromN pool seed ms i; omega
        rw [← hivd]
        refine ⟨i64_epoch hsub ?_, i64_epoch hsub ?_⟩
        · rw [List.getD_eq_getElem?_getD, List.getElem?_eq_getElem hne]; exact List.getElem_mem _
        · rw [List.getD_eq_getElem?_getD, List.getElem?_eq_getElem (by omega)]; exact List.getElem_mem _
      have E2 := E'.step e2
      repeat ((with_reducible refine WDM_cons ?_; simp only [dw1]; try simp only [dw2, Nat.reduceAdd, Nat.reduceMul, Nat.reduceShiftRight, Nat.reduceMod, Nat.reduceEqDiff]); simp only [core, Nat.reduceAdd, Nat.reduceSub, Nat.reduceMul, Nat.reduceLT, Nat.reduceEqDiff, reduceCtorEq, Nat.reduceLeDiff, Int.reduceLE, Int.reduceLT, Int.reduceToNat, cored, s1, s2, hn, g0, g3, g5, g6, g8, g9, g10, hlt, hc, hw, ivV, a1, b1])
      obtain ⟨h3, hh3⟩ : ∃ h3, h3 = h2.push (.cells [.lit (.int .i64 z.first), .lit (.int .i64 z.last), va, vb, .lit (.bool z.mayRw)] 65) := ⟨_, rfl⟩
      have e3 : Ext h2.n h2 h3 := hh3 ▸ (Ext.refl _ _).push _ (Nat.le_refl _)
      have X3 : h3.at h2.n = some (.cells [.lit (.int .i64 z.first), .lit (.int .i64 z.last), va, vb, .lit (.bool z.mayRw)] 65) := hh3 ▸ at_push_n _ _
      rw [← hh3]
      clear hh3
      have E3 := E2.step e3
      have hil := ivsN_len (pool := pool) (seed := seed) (ms := ms) (i := i)
      have eh := e1.step e'
      have hEn := eh.1
      have he2 := e2.1
      refine WOpD_app (((ho'.ext e2 (Nat.le_refl _)).ext e3 (Nat.le_refl _)).snoc (by kernel_rfl) (by kernel_rfl) (by kernel_rfl) (zv := .agg [.lit (.int .i64 0), .lit (.int .i64 0), .lit (.slice none 0 0), .lit (.slice none 0 0), .lit (.bool false)]) (by kernel_rfl) (by' := 72) (by kernel_rfl) rfl (by decide) (by decide) X3
        (y := z) (RIv_is.2 ⟨va, vb, rfl, ?_, ?_, fz.1, fz.2⟩) (by omega) (by omega) (by have := e3.1; omega)) ?_
      · exact hva.lift fun b hb hlt => ⟨e3.2 b hlt, by omega, ho'.apart (by omega)⟩
      · exact hvb.lift fun b hb hlt => ⟨e3.2 b hlt, by omega, ho'.apart (by omega)⟩
      rintro s' h4 ⟨o4, e4, -⟩
      repeat ((with_reducible refine WDM_cons ?_; simp only [dw1]; try simp only [dw2, Nat.reduceAdd, Nat.reduceMul, Nat.reduceShiftRight, Nat.reduceMod, Nat.reduceEqDiff]); simp only [core, Nat.reduceAdd, Nat.reduceSub, Nat.reduceMul, Nat.reduceLT, Nat.reduceEqDiff, reduceCtorEq, Nat.reduceLeDiff, Int.reduceLE, Int.reduceLT, Int.reduceToNat, cored, s1, s2, hn, g0, g3, g5, g6, g8, g9, g10, hlt, hc, hw])
      refine ih _ _ ⟨s', ?_, by rw [hnz]; exact o4, ?_⟩
      · exact ((eh.step e2).step e3).trans e4
      · rw [fromN_succ he]
        simp only [core, Nat.reduceAdd, Nat.reduceSub, Nat.reduceMul, Nat.reduceLT, Nat.reduceEqDiff, reduceCtorEq, Nat.reduceLeDiff, Int.reduceLE, Int.reduceLT, Int.reduceToNat, hn, g0, g3, g5, g6, g8, g9, g10]
    · have hq1 : (((i + 1 : Nat) : Int) < (ms.length : Int)) = False := by simp only [eq_iff_iff, iff_false]; omega
      have he : endF pool seed ms i = true := endF_last (by omega)
      simp only [core, Nat.reduceAdd, Nat.reduceSub, Nat.reduceMul, Nat.reduceLT, Nat.reduceEqDiff, reduceCtorEq, Nat.reduceLeDiff, Int.reduceLE, Int.reduceLT, Int.reduceToNat, s1, s2, hn, g0, g3, g5, g6, g8, g9, g10, hlt, hc, hw, LP, lp]
      rw [WB_regionD [0, 1, 2, 3, 4, 5, 6, 7, 8, 9, 10, 11, 12, 13, 14, 15, 16, 17] 17087798509143212998702956811215506634502382048954304983910547617474768022664046641862272969080832 (by kernel_rfl)]
      repeat ((with_reducible refine WDM_cons ?_; simp only [dw1]; try simp only [dw2, Nat.reduceAdd, Nat.reduceMul, Nat.reduceShiftRight, Nat.reduceMod, Nat.reduceEqDiff]); simp only [core, Nat.reduceAdd, Nat.reduceSub, Nat.reduceMul, Nat.reduceLT, Nat.reduceEqDiff, reduceCtorEq, Nat.reduceLeDiff, Int.reduceLE, Int.reduceLT, Int.reduceToNat, cored, s1, s2, hn, g0, g3, g5, g6, g8, g9, g10, hlt, hc, hw, hq1, LP, lp])
      rw [WB_regionD [0, 1, 2, 3, 4, 5, 6, 7, 8, 9, 10] 1328253884926873555970339357520297984 (by kernel_rfl)]
      repeat ((with_reducible refine WDM_cons ?_; simp only [dw1]; try simp only [dw2, Nat.reduceAdd, Nat.reduceMul, Nat.reduceShiftRight, Nat.reduceMod, Nat.reduceEqDiff]); simp only [core, Nat.reduceAdd, Nat.reduceSub, Nat.reduceMul, Nat.reduceLT, Nat.reduceEqDiff, reduceCtorEq, Nat.reduceLeDiff, Int.reduceLE, Int.reduceLT, Int.reduceToNat, cored, s1, s2, hn, g0, g3, g5, g6, g8, g9, g10, hlt, hc, hw, oi, LP, lp, hcap, hq3, hq4, hq5, hq6])
      have hrun := runsF_run _ (List.mem_of_getElem? (runs_at hlt he))
      have hsub : IsSl RMp F H (subSl 5 (fromN pool seed ms i) (i + 1) v) (cutF ms (fromN pool seed ms i, i + 1)) := hv.sub hq3 hq4
      have hcl := cut_len (ms := ms) hrun.le
      refine (run15_x pool seed (hsub.ext E (Nat.le_refl _)) (by unfold Sm; rw [hcl]; show (i + 1 - fromN pool seed ms i) * 88 ≤ _; omega) (fun m hm => hok m (List.mem_of_mem_take (List.mem_of_mem_drop hm))) hrun.cut).mono ?_
      rintro _ h2 ⟨e2, va, vb, rfl, hva, hvb⟩
      have a1 := hva.one
      have b1 := hvb.one
      generalize hivd : ivOf pool seed (cutF ms (fromN pool seed ms i, i + 1)) = z at hva hvb
      have hnz : ivsN pool seed ms (i + 1) = ivsN pool seed ms i ++ [z] := by
        unfold ivsN
        rw [runsN, if_pos he, List.map_append, ← hivd]
        rfl
      have fz : I64 z.first ∧ I64 z.last := by
        have hne : 0 < (cutF ms (fromN pool seed ms i, i + 1)).length := by rw [hcl]; show 0 < i + 1 - fromN pool seed ms i; omega
        rw [← hivd]
        refine ⟨i64_epoch hsub ?_, i64_epoch hsub ?_⟩
        · rw [List.getD_eq_getElem?_getD, List.getElem?_eq_getElem hne]; exact List.getElem_mem _
        · rw [List.getD_eq_getElem?_getD, List.getElem?_eq_getElem (by omega)]; exact List.getElem_mem _
      have E2 := E.step e2
      repeat ((with_reducible refine WDM_cons ?_; simp only [dw1]; try simp only [dw2, Nat.reduceAdd, Nat.reduceMul, Nat.reduceShiftRight, Nat.reduceMod, Nat.reduceEqDiff]); simp only [core, Nat.reduceAdd, Nat.reduceSub, Nat.reduceMul, Nat.reduceLT, Nat.reduceEqDiff, reduceCtorEq, Nat.reduceLeDiff, Int.reduceLE, Int.reduceLT, Int.reduceToNat, cored, s1, s2, hn, g0, g3, g5, g6, g8, g9, g10, hlt, hc, hw, ivV, a1, b1])
      obtain ⟨h3, hh3⟩ : ∃ h3, h3 = h2.push (.cells [.lit (.int .i64 z.first), .lit (.int .i64 z.last), va, vb, .lit (.bool z.mayRw)] 65) := ⟨_, rfl⟩
      have e3 : Ext h2.n h2 h3 := hh3 ▸ (Ext.refl _ _).push _ (Nat.le_refl _)
      have X3 : h3.at h2.n = some (.cells [.lit (.int .i64 z.first), .lit (.int .i64 z.last), va, vb, .lit (.bool z.mayRw)] 65) := hh3 ▸ at_push_n _ _
      rw [← hh3]
      clear hh3
      have E3 := E2.step e3
      have hil := ivsN_len (pool := pool) (seed := seed) (ms := ms) (i := i)
      have eh := e1
      have hEn := eh.1
      have he2 := e2.1
      refine WOpD_app (((ho.ext e2 (Nat.le_refl _)).ext e3 (Nat.le_refl _)).snoc (by kernel_rfl) (by kernel_rfl) (by kernel_rfl) (zv := .agg [.lit (.int .i64 0), .lit (.int .i64 0), .lit (.slice none 0 0), .lit (.slice none 0 0), .lit (.bool false)]) (by kernel_rfl) (by' := 72) (by kernel_rfl) rfl (by decide) (by decide) X3
        (y := z) (RIv_is.2 ⟨va, vb, rfl, ?_, ?_, fz.1, fz.2⟩) (by omega) (by omega) (by have := e3.1; omega)) ?_
      · exact hva.lift fun b hb hlt => ⟨e3.2 b hlt, by omega, ho.apart (by omega)⟩
      · exact hvb.lift fun b hb hlt => ⟨e3.2 b hlt, by omega, ho.apart (by omega)⟩
      rintro s' h4 ⟨o4, e4, -⟩
      repeat ((with_reducible refine WDM_cons ?_; simp only [dw1]; try simp only [dw2, Nat.reduceAdd, Nat.reduceMul, Nat.reduceShiftRight, Nat.reduceMod, Nat.reduceEqDiff]); simp only [core, Nat.reduceAdd, Nat.reduceSub, Nat.reduceMul, Nat.reduceLT, Nat.reduceEqDiff, reduceCtorEq, Nat.reduceLeDiff, Int.reduceLE, Int.reduceLT, Int.reduceToNat, cored, s1, s2, hn, g0, g3, g5, g6, g8, g9, g10, hlt, hc, hw])
      refine ih _ _ ⟨s', ?_, by rw [hnz]; exact o4, ?_⟩
      · exact ((eh.step e2).step e3).trans e4
      · rw [fromN_succ he]
        simp only [core, Nat.reduceAdd, Nat.reduceSub, Nat.reduceMul, Nat.reduceLT, Nat.reduceEqDiff, reduceCtorEq, Nat.reduceLeDiff, Int.reduceLE, Int.reduceLT, Int.reduceToNat, hn, g0, g3, g5, g6, g8, g9, g10]
  · rintro t h hc ⟨o, e1, ho, hn, g0, g3, g5, g6, g8, g9, g10⟩
    have oi := ho.isSl
    simp only [core, Nat.reduceAdd, Nat.reduceSub, Nat.reduceMul, Nat.reduceLT, Nat.reduceEqDiff, reduceCtorEq, Nat.reduceLeDiff, Int.reduceLE, Int.reduceLT, Int.reduceToNat, s1, s2, hn, g0, g3, g5, g6, g8, g9, g10, hc, oi]
    exact ⟨E1.step e1, h1.n, E1.1, ho⟩
  · simp only [core, Nat.reduceAdd, Nat.reduceSub, Nat.reduceMul, Nat.reduceLT, Nat.reduceEqDiff, reduceCtorEq, Nat.reduceLeDiff, Int.reduceLE, Int.reduceLT, Int.reduceToNat]
    refine ⟨_, Ext.refl _ _, OwnL.nil, ?_⟩
    (repeat' apply And.intro) <;> first | rfl | trivial
end Go.Proofs.Ytkgbeihcepociaa.Ex
end

section

set_option linter.unusedSimpArgs false
set_option linter.unusedVariables false
set_option maxRecDepth 10000
set_option maxHeartbeats 4000000
namespace Go.Proofs.Ytkgbeihcepociaa.Ex
open Go
theorem ints15_x {F G : Nat → Prop} {H : AH} {u v : AV} {xs ys : List Int} (hu : IsSl RInt F H u xs) (hv : IsSl RInt G H v ys) (hl : xs.length < 2 ^ 62) :
    WC Try.prog (tabOf Try.prog NT0) S0 84 [u, v] H fun r h' => h' = H ∧ r = .lit (.bool (xs == ys)) := by
  refine WC_fn Try.func84 rfl rfl ?_
  have s1 := hu.isSl
  have s2 := hu.lenD
  have s3 := hv.isSl
  have s4 := hv.lenD
  simp only [core, Nat.reduceAdd, Nat.reduceSub, Nat.reduceMul, Nat.reduceLT, Nat.reduceEqDiff, reduceCtorEq, Nat.reduceLeDiff, Int.reduceLE, Int.reduceLT, Int.reduceToNat, Try.ntmps84, s1, s2, s3, s4]
  refine ⟨fun he => ?_, fun he => ?_⟩
  · have : ¬ xs = ys := fun hh => by subst hh; simp at he
    congr 2
    simpa using this
  · have he : xs.length = ys.length := by simp at he; omega
    refine WB_for xs.length (fun i t h => h = H ∧ (xs.take i = ys.take i) ∧ t.n = 26 ∧ t.get 0 = u ∧ t.get 1 = v ∧ t.get 12 = .lit (.int .i64 xs.length) ∧ t.get 13 = .lit (.int .i64 i)) ?_ ?_ _ _ ?_
    · rintro i t h hlt hc ⟨rfl, hx, hn, g0, g1, g12, g13⟩ ih
      have hlt2 : i < ys.length := by omega
      have hld := hu.int (T := tabOf Try.prog NT0) (e := 3) (by kernel_rfl) (by kernel_rfl) hlt
      have hld2 := hv.int (T := tabOf Try.prog NT0) (e := 3) (by kernel_rfl) (by kernel_rfl) hlt2
      have hw := wrap_succ hlt (by omega)
      simp only [core, Nat.reduceAdd, Nat.reduceSub, Nat.reduceMul, Nat.reduceLT, Nat.reduceEqDiff, reduceCtorEq, Nat.reduceLeDiff, Int.reduceLE, Int.reduceLT, Int.reduceToNat, s1, s2, s3, s4, hn, g0, g1, g12, g13, hlt, hlt2, hc, hld, hw]
      rw [WB_regionD [0, 1, 2, 3, 4, 5, 6, 7, 8] 1205237335491016659828736 (by kernel_rfl)]
      repeat ((with_reducible refine WDM_cons ?_; simp only [dw1]; try simp only [dw2, Nat.reduceAdd, Nat.reduceMul, Nat.reduceShiftRight, Nat.reduceMod, Nat.reduceEqDiff]); simp only [core, Nat.reduceAdd, Nat.reduceSub, Nat.reduceMul, Nat.reduceLT, Nat.reduceEqDiff, reduceCtorEq, Nat.reduceLeDiff, Int.reduceLE, Int.reduceLT, Int.reduceToNat, cored, s1, s2, s3, s4, hn, g0, g1, g12, g13, hlt, hlt2, hc, hld, hld2, hw])
      have e1 : xs.getD i 0 = xs[i] := by simp [List.getD_eq_getElem?_getD, List.getElem?_eq_getElem hlt]
      have e2 : ys.getD i 0 = ys[i] := by simp [List.getD_eq_getElem?_getD, List.getElem?_eq_getElem hlt2]
      refine ⟨fun hq => ?_, fun hq => ?_⟩
      · have hq : ¬ xs.getD i 0 = ys.getD i 0 := by simpa using hq
        have : ¬ xs = ys := fun hh => by subst hh; exact hq rfl
        congr 2
        simpa using this
      · have hq : xs.getD i 0 = ys.getD i 0 := by simpa using hq
        refine ih _ _ ?_
        simp only [core, Nat.reduceAdd, Nat.reduceSub, Nat.reduceMul, Nat.reduceLT, Nat.reduceEqDiff, reduceCtorEq, Nat.reduceLeDiff, Int.reduceLE, Int.reduceLT, Int.reduceToNat, hn, g0, g1, g12, g13]
        rw [List.take_succ_eq_append_getElem hlt, List.take_succ_eq_append_getElem hlt2, hx, ← e1, ← e2, hq]
    · rintro t h hc ⟨rfl, hx, hn, g0, g1, g12, g13⟩
      simp only [core, Nat.reduceAdd, Nat.reduceSub, Nat.reduceMul, Nat.reduceLT, Nat.reduceEqDiff, reduceCtorEq, Nat.reduceLeDiff, Int.reduceLE, Int.reduceLT, Int.reduceToNat, s1, s2, hn, g0, g1, g12, g13, hc]
      rw [List.take_length, he, List.take_length] at hx
      simp [hx]
    · simp only [core, Nat.reduceAdd, Nat.reduceSub, Nat.reduceMul, Nat.reduceLT, Nat.reduceEqDiff, reduceCtorEq, Nat.reduceLeDiff, Int.reduceLE, Int.reduceLT, Int.reduceToNat]
      simp
theorem few_x {F : Nat → Prop} {H : AH} {v : AV} {ms : List MapD} (hv : IsSl RMp F H v ms) (hl : Sm 88 ms) :
    WC Try.prog (tabOf Try.prog NT0) S0 30 [v] H fun r h' => Ext H.n H h' ∧ ∃ b, r = .lit (.bool b) := by
  refine WC_fn Try.func30 rfl rfl ?_
  unfold Sm at hl
  have s1 := hv.isSl
  have s2 := hv.lenD
  simp only [core, Nat.reduceAdd, Nat.reduceSub, Nat.reduceMul, Nat.reduceLT, Nat.reduceEqDiff, reduceCtorEq, Nat.reduceLeDiff, Int.reduceLE, Int.reduceLT, Int.reduceToNat, Try.ntmps30, s1, s2]
  refine WB_for ms.length (fun i t h => Ext H.n H h ∧ ∃ n : Int, t.n = 26 ∧ t.get 3 = .lit (.int .i64 n) ∧ t.get 8 = v ∧ t.get 9 = .lit (.int .i64 ms.length) ∧ t.get 10 = .lit (.int .i64 i)) ?_ ?_ _ _ ?_
  · rintro i t h hlt hc ⟨E, n, hn, g3, g8, g9, g10⟩ ih
    obtain ⟨x, hx⟩ : ∃ x, ms[i]? = some x := ⟨_, List.getElem?_eq_getElem hlt⟩
    have hw := wrap_succ hlt (by omega)
    obtain ⟨c, hc1, hld, hld0⟩ := hv.atE (T := tabOf Try.prog NT0) E RMp_z hx
    obtain ⟨vo, vp, vb, rfl, m1, m2, m3, -⟩ := RMp_is.1 hc1
    have i1 := m1.one
    have i2 := m2.one
    have i3 := m3.one
    have j2 := m2.isSl
    have j3 := m3.isSl
    have k2 := m2.lenD
    have k3 := m3.lenD
    simp only [core, Nat.reduceAdd, Nat.reduceSub, Nat.reduceMul, Nat.reduceLT, Nat.reduceEqDiff, reduceCtorEq, Nat.reduceLeDiff, Int.reduceLE, Int.reduceLT, Int.reduceToNat, s1, s2, hn, g3, g8, g9, g10, hlt, hc, hw, hld, hld0, i1, i2, i3, j2, j3, k2, k3]
    refine ih _ _ ⟨E.push _ E.1, IntKind.i64.wrap (n + IntKind.i64.wrap ((x.buckets.length : Int) + (x.pools.length : Int))), ?_⟩
    simp only [core, Nat.reduceAdd, Nat.reduceSub, Nat.reduceMul, Nat.reduceLT, Nat.reduceEqDiff, reduceCtorEq, Nat.reduceLeDiff, Int.reduceLE, Int.reduceLT, Int.reduceToNat, hn, g3, g8, g9, g10]
  · rintro t h hc ⟨E, n, hn, g3, g8, g9, g10⟩
    simp only [core, Nat.reduceAdd, Nat.reduceSub, Nat.reduceMul, Nat.reduceLT, Nat.reduceEqDiff, reduceCtorEq, Nat.reduceLeDiff, Int.reduceLE, Int.reduceLT, Int.reduceToNat, s1, s2, hn, g3, g8, g9, g10, hc]
    exact ⟨E, _, rfl⟩
  · simp only [core, Nat.reduceAdd, Nat.reduceSub, Nat.reduceMul, Nat.reduceLT, Nat.reduceEqDiff, reduceCtorEq, Nat.reduceLeDiff, Int.reduceLE, Int.reduceLT, Int.reduceToNat]
    refine ⟨Ext.refl _ _, (ms.length : Int), ?_⟩
    (repeat' apply And.intro) <;> first | rfl | trivial
end Go.Proofs.Ytkgbeihcepociaa.Ex
end

section

set_option linter.unusedSimpArgs false
set_option linter.unusedVariables false
set_option maxRecDepth 10000
set_option maxHeartbeats 4000000
namespace Go.Proofs.Ytkgbeihcepociaa.Ex
open Go
def eqIv (x y : IvD) : Bool := x.first == y.first && x.last == y.last && x.mayRw == y.mayRw && x.acting == y.acting && x.boots == y.boots
theorem eqIv_iff {x y : IvD} : eqIv x y = true ↔ x = y := by
  obtain ⟨a, b, c, d, e⟩ := x
  obtain ⟨a', b', c', d', e'⟩ := y
  unfold eqIv
  simp only [Bool.and_eq_true, beq_iff_eq, IvD.mk.injEq]
  constructor
  · rintro ⟨⟨⟨⟨h1, h2⟩, h3⟩, h4⟩, h5⟩; exact ⟨h1, h2, h4, h5, h3⟩
  · rintro ⟨h1, h2, h4, h5, h3⟩; exact ⟨⟨⟨⟨h1, h2⟩, h3⟩, h4⟩, h5⟩
def eqIvs : List IvD → List IvD → Bool
  | [], [] => true
  | x :: xs, y :: ys => eqIv x y && eqIvs xs ys
  | _, _ => false
theorem eqIvs_iff : ∀ {xs ys : List IvD}, eqIvs xs ys = true ↔ xs = ys
  | [], [] => by simp [eqIvs]
  | x :: xs, y :: ys => by simp only [eqIvs, Bool.and_eq_true, eqIv_iff, eqIvs_iff, List.cons.injEq]
  | [], _ :: _ => by simp [eqIvs]
  | _ :: _, [] => by simp [eqIvs]
theorem eqIvs_false {xs ys : List IvD} (h : ¬ xs = ys) : eqIvs xs ys = false := by
  cases hq : eqIvs xs ys with
  | false => rfl
  | true => exact absurd (eqIvs_iff.1 hq) h
theorem same15_x {F G : Nat → Prop} {H : AH} {u v : AV} {xs ys : List IvD} (hu : IsSl RIv F H u xs) (hv : IsSl RIv G H v ys) (hl : xs.length < 2 ^ 62) (hs : ∀ x ∈ xs, x.acting.length < 2 ^ 62 ∧ x.boots.length < 2 ^ 62) :
    WC Try.prog (tabOf Try.prog NT0) S0 34 [u, v] H fun r h' => Ext H.n H h' ∧ r = .lit (.bool (eqIvs xs ys)) := by
  refine WC_fn Try.func34 rfl rfl ?_
  have s1 := hu.isSl
  have s2 := hu.lenD
  have s3 := hv.isSl
  have s4 := hv.lenD
  simp only [core, Nat.reduceAdd, Nat.reduceSub, Nat.reduceMul, Nat.reduceLT, Nat.reduceEqDiff, reduceCtorEq, Nat.reduceLeDiff, Int.reduceLE, Int.reduceLT, Int.reduceToNat, Try.ntmps34, s1, s2, s3, s4]
  refine ⟨fun he => ?_, fun he => ?_⟩
  · have : ¬ xs = ys := fun hh => by subst hh; simp at he
    exact ⟨Ext.refl _ _, by rw [eqIvs_false this]⟩
  · have he : xs.length = ys.length := by simp at he; omega
    refine WB_for xs.length (fun i t h => Ext H.n H h ∧ (xs.take i = ys.take i) ∧ t.n = 62 ∧ t.get 0 = u ∧ t.get 1 = v ∧ t.get 14 = .lit (.int .i64 xs.length) ∧ t.get 15 = .lit (.int .i64 i)) ?_ ?_ _ _ ?_
    · rintro i t h hlt hc ⟨E, hx, hn, g0, g1, g14, g15⟩ ih
      have hlt2 : i < ys.length := by omega
      obtain ⟨x, hxi⟩ : ∃ x, xs[i]? = some x := ⟨_, List.getElem?_eq_getElem hlt⟩
      obtain ⟨y, hyi⟩ : ∃ y, ys[i]? = some y := ⟨_, List.getElem?_eq_getElem hlt2⟩
      obtain ⟨c, hc1, hld, hld0⟩ := hu.at (T := tabOf Try.prog NT0) RIv_z hxi
      obtain ⟨va, vb, rfl, ha, hb, -, -⟩ := RIv_is.1 hc1
      obtain ⟨c, hc2, hld', hld0'⟩ := hv.at (T := tabOf Try.prog NT0) RIv_z hyi
      obtain ⟨ua, ub, rfl, ka, kb, -, -⟩ := RIv_is.1 hc2
      have a1 := ha.one
      have b1 := hb.one
      have a2 := ha.isSl
      have b2 := hb.isSl
      have a3 := ka.one
      have b3 := kb.one
      have a4 := ka.isSl
      have b4 := kb.isSl
      have hw := wrap_succ hlt (by omega)
      obtain ⟨hsa, hsb⟩ := hs x (List.mem_of_getElem? hxi)
      have hnd : ¬ x = y → ¬ xs = ys := fun hh hk => by subst hk; rw [hxi] at hyi; exact hh (Option.some.inj hyi)
      have e1 : ∀ X, Ext H.n H (h.push X) := fun X => E.push X E.1
      have e2 : ∀ X Y, Ext H.n H ((h.push X).push Y) := fun X Y => (e1 X).push Y (e1 X).1
      have du0 := hu.ldE (T := tabOf Try.prog NT0) (by omega) E
      have dv0 := hv.ldE (T := tabOf Try.prog NT0) (by omega) E
      have du1 := fun X => hu.ldE (T := tabOf Try.prog NT0) (by omega) (e1 X)
      have dv1 := fun X => hv.ldE (T := tabOf Try.prog NT0) (by omega) (e1 X)
      have du2 := fun X Y => hu.ldE (T := tabOf Try.prog NT0) (by omega) (e2 X Y)
      have dv2 := fun X Y => hv.ldE (T := tabOf Try.prog NT0) (by omega) (e2 X Y)
      simp only [core, Nat.reduceAdd, Nat.reduceSub, Nat.reduceMul, Nat.reduceLT, Nat.reduceEqDiff, reduceCtorEq, Nat.reduceLeDiff, Int.reduceLE, Int.reduceLT, Int.reduceToNat, s1, s2, s3, s4, hn, g0, g1, g14, g15, hlt, hlt2, hc, hw]
      rw [WB_regionD [0, 1, 2, 3, 4, 5, 6, 7, 8, 9, 10, 11] 11145968866915278311102671164127177101803520 (by kernel_rfl)]
      repeat ((with_reducible refine WDM_cons ?_; simp only [dw1]; try simp only [dw2, Nat.reduceAdd, Nat.reduceMul, Nat.reduceShiftRight, Nat.reduceMod, Nat.reduceEqDiff]); simp only [core, Nat.reduceAdd, Nat.reduceSub, Nat.reduceMul, Nat.reduceLT, Nat.reduceEqDiff, reduceCtorEq, Nat.reduceLeDiff, Int.reduceLE, Int.reduceLT, Int.reduceToNat, cored, s1, s2, s3, s4, hn, g0, g1, g14, g15, hlt, hlt2, hc, du0, dv0, du1, dv1, du2, dv2, hld, hld0, hld', hld0', hw, a1, b1, a3, b3, a2, b2, a4, b4])
      obtain ⟨h2, hh2⟩ : ∃ h2, h2 = (h.push (.cells [.lit (.int .i64 x.first), .lit (.int .i64 x.last), va, vb, .lit (.bool x.mayRw)] 65)).push (.cells [.lit (.int .i64 y.first), .lit (.int .i64 y.last), ua, ub, .lit (.bool y.mayRw)] 65) := ⟨_, rfl⟩
      have e2 : Ext h.n h h2 := hh2 ▸ ((Ext.refl _ _).push _ (Nat.le_refl _)).push _ (by rw [n_push]; omega)
      have X2 : h2.at h.n = some (.cells [.lit (.int .i64 x.first), .lit (.int .i64 x.last), va, vb, .lit (.bool x.mayRw)] 65) := hh2 ▸ (at_push_lt _ (by rw [n_push]; omega)).trans (at_push_n _ _)
      have Y2 : h2.at (h.n + 1) = some (.cells [.lit (.int .i64 y.first), .lit (.int .i64 y.last), ua, ub, .lit (.bool y.mayRw)] 65) := hh2 ▸ at_push_n _ _
      have nx2 := at_lt X2
      have ny2 := at_lt Y2
      have LX2 := ld_at (T := tabOf Try.prog NT0) X2
      have LY2 := ld_at (T := tabOf Try.prog NT0) Y2
      rw [← hh2]
      clear hh2
      have E2 := E.step e2
      have ha2 := ha.ext E2 (Nat.le_refl _)
      have hb2 := hb.ext E2 (Nat.le_refl _)
      have ka2 := ka.ext E2 (Nat.le_refl _)
      have kb2 := kb.ext E2 (Nat.le_refl _)
      have fail : eqIv x y = false → Ext H.n H h2 ∧ AV.lit (.bool false) = .lit (.bool (eqIvs xs ys)) := fun hh => ⟨E2, by rw [eqIvs_false (hnd fun hk => by rw [eqIv_iff.2 hk] at hh; cases hh)]⟩
      by_cases q1 : x.first = y.first
      case neg =>
        have q1' : (x.first != y.first) = true := by simpa using q1
        simp only [core, Nat.reduceAdd, Nat.reduceSub, Nat.reduceMul, Nat.reduceLT, Nat.reduceEqDiff, reduceCtorEq, Nat.reduceLeDiff, Int.reduceLE, Int.reduceLT, Int.reduceToNat, hn, g0, g1, g14, g15, LX2, nx2, LY2, ny2, q1', aundef]
        exact fail (by unfold eqIv; simp [q1])
      have q1' : (x.first != y.first) = false := by simpa using q1
      by_cases q2 : x.last = y.last
      case neg =>
        have q2' : (x.last != y.last) = true := by simpa using q2
        simp only [core, Nat.reduceAdd, Nat.reduceSub, Nat.reduceMul, Nat.reduceLT, Nat.reduceEqDiff, reduceCtorEq, Nat.reduceLeDiff, Int.reduceLE, Int.reduceLT, Int.reduceToNat, hn, g0, g1, g14, g15, LX2, nx2, LY2, ny2, q1', q2', aundef]
        exact fail (by unfold eqIv; simp [q2])
      have q2' : (x.last != y.last) = false := by simpa using q2
      by_cases q3 : x.mayRw = y.mayRw
      case neg =>
        have q3' : (x.mayRw == y.mayRw) = false := by simpa using q3
        simp only [core, Nat.reduceAdd, Nat.reduceSub, Nat.reduceMul, Nat.reduceLT, Nat.reduceEqDiff, reduceCtorEq, Nat.reduceLeDiff, Int.reduceLE, Int.reduceLT, Int.reduceToNat, hn, g0, g1, g14, g15, LX2, nx2, LY2, ny2, q1', q2', q3', aundef]
        exact fail (by unfold eqIv; simp [q3])
      have q3' : (x.mayRw == y.mayRw) = true := by simpa using q3
      simp only [core, Nat.reduceAdd, Nat.reduceSub, Nat.reduceMul, Nat.reduceLT, Nat.reduceEqDiff, reduceCtorEq, Nat.reduceLeDiff, Int.reduceLE, Int.reduceLT, Int.reduceToNat, hn, g0, g1, g14, g15, LX2, nx2, LY2, ny2, q1', q2', q3', a2, b2, a4, b4, aundef]
      refine (ints15_x ha2 ka2 hsa).mono ?_
      rintro _ h3 ⟨rfl, rfl⟩
      by_cases q4 : x.acting = y.acting
      case neg =>
        have q4' : (x.acting == y.acting) = false := by simpa using q4
        simp only [core, Nat.reduceAdd, Nat.reduceSub, Nat.reduceMul, Nat.reduceLT, Nat.reduceEqDiff, reduceCtorEq, Nat.reduceLeDiff, Int.reduceLE, Int.reduceLT, Int.reduceToNat, hn, g0, g1, g14, g15, LX2, nx2, LY2, ny2, q4', a2, b2, a4, b4, aundef]
        exact fail (by unfold eqIv; simp [q4])
      have q4' : (x.acting == y.acting) = true := by simpa using q4
      simp only [core, Nat.reduceAdd, Nat.reduceSub, Nat.reduceMul, Nat.reduceLT, Nat.reduceEqDiff, reduceCtorEq, Nat.reduceLeDiff, Int.reduceLE, Int.reduceLT, Int.reduceToNat, hn, g0, g1, g14, g15, LX2, nx2, LY2, ny2, q4', a2, b2, a4, b4, aundef]
      refine (ints15_x hb2 kb2 hsb).mono ?_
      rintro _ h3 ⟨rfl, rfl⟩
      by_cases q5 : x.boots = y.boots
      case neg =>
        have q5' : (x.boots == y.boots) = false := by simpa using q5
        simp only [core, Nat.reduceAdd, Nat.reduceSub, Nat.reduceMul, Nat.reduceLT, Nat.reduceEqDiff, reduceCtorEq, Nat.reduceLeDiff, Int.reduceLE, Int.reduceLT, Int.reduceToNat, hn, g0, g1, g14, g15, q5', aundef]
        exact fail (by unfold eqIv; simp [q5])
      have q5' : (x.boots == y.boots) = true := by simpa using q5
      simp only [core, Nat.reduceAdd, Nat.reduceSub, Nat.reduceMul, Nat.reduceLT, Nat.reduceEqDiff, reduceCtorEq, Nat.reduceLeDiff, Int.reduceLE, Int.reduceLT, Int.reduceToNat, hn, g0, g1, g14, g15, q5', hw, aundef]
      have hxy : x = y := eqIv_iff.1 (by unfold eqIv; simp [q1, q2, q3, q4, q5])
      refine ih _ _ ⟨E2, ?_, ?_⟩
      · rw [List.take_add_one, List.take_add_one, hxi, hyi, hx, hxy]
      · simp only [core, Nat.reduceAdd, Nat.reduceSub, Nat.reduceMul, Nat.reduceLT, Nat.reduceEqDiff, reduceCtorEq, Nat.reduceLeDiff, Int.reduceLE, Int.reduceLT, Int.reduceToNat, hn, g0, g1, g14, g15]
    · rintro t h hc ⟨E, hx, hn, g0, g1, g14, g15⟩
      simp only [core, Nat.reduceAdd, Nat.reduceSub, Nat.reduceMul, Nat.reduceLT, Nat.reduceEqDiff, reduceCtorEq, Nat.reduceLeDiff, Int.reduceLE, Int.reduceLT, Int.reduceToNat, s1, s2, hn, g0, g1, g14, g15, hc]
      rw [List.take_length, he, List.take_length] at hx
      exact ⟨E, by rw [eqIvs_iff.2 hx]⟩
    · simp only [core, Nat.reduceAdd, Nat.reduceSub, Nat.reduceMul, Nat.reduceLT, Nat.reduceEqDiff, reduceCtorEq, Nat.reduceLeDiff, Int.reduceLE, Int.reduceLT, Int.reduceToNat]
      exact ⟨Ext.refl _ _, by simp⟩
end Go.Proofs.Ytkgbeihcepociaa.Ex
end

section

set_option linter.unusedSimpArgs false
set_option linter.unusedVariables false
set_option maxRecDepth 10000
set_option maxHeartbeats 4000000
namespace Go.Proofs.Ytkgbeihcepociaa.Ex
open Go
def osdU : OsdD := ⟨true, true, 65536, 1, 1, 1⟩
def osdV : OsdD := ⟨true, false, 65536, 1, 1, 0⟩
def poolT : PoolD := ⟨1, 2, 2, 1⟩
def bktT : BktD := ⟨-1, 3, [0, 1], [65536, 65536]⟩
def mapU : MapD := ⟨1, [osdU, osdU], [poolT], [bktT], 0⟩
def mapV : MapD := ⟨2, [osdU, osdV], [poolT], [bktT], 0⟩
def twoD : List MapD := [mapU, mapV]
theorem IsSl.ofAt {α : Type} {R : Rep α} {F : Nat → Prop} {h : AH} {p : Nat} {e : TypeId} {L : List (List AV)} {xs : List α} {n : Nat} (hat : h.at p = some (.cells L.flatten e)) (hF : F p) (he : Els R F h L xs) (hn : xs.length = n) : IsSl R F h (.sl p 0 n (.kn n)) xs := by
  subst hn
  have hl := flat_len (z := R.z) he.lens
  refine .mk ⟨he.lens, .inr ⟨p, 0, .kn xs.length, L.flatten, by rw [he.1], by unfold getR; rw [hat], ?_⟩⟩ (fun b off n cap e => by cases e; exact hF) (fun b off n cap e => by cases e; exact Nat.le_refl _) he
  unfold cut
  rw [if_pos (by rw [hl]; omega), List.drop_zero, ← hl, List.take_length]
def pushL (h : AH) : List AB → AH
  | [] => h
  | x :: r => pushL (h.push x) r
theorem pushL_ext : ∀ {l : List AB} {h : AH} {n0 : Nat}, n0 ≤ h.n → Ext n0 h (pushL h l)
  | [], h, n0, _ => Ext.refl _ _
  | x :: r, h, n0, hn => ((Ext.refl _ _).push x hn).trans (pushL_ext (by rw [n_push]; omega))
theorem pushL_at : ∀ {l : List AB} {h : AH} {i : Nat} {x : AB}, l[i]? = some x → (pushL h l).at (h.n + i) = some x
  | y :: r, h, 0, x, e => by
    cases e
    exact ((pushL_ext (l := r) (Nat.le_refl (h.push y).n)).2 _ (by rw [n_push]; omega)).trans (at_push_n _ _)
  | y :: r, h, i + 1, x, e => by
    have := pushL_at (l := r) (h := h.push y) (i := i) (x := x) e
    rw [n_push] at this
    rw [show h.n + (i + 1) = h.n + 1 + i by omega]
    exact this
theorem two_x {H : AH} :
    WC Try.prog (tabOf Try.prog NT0) S0 81 [] H fun r h' => Ext H.n H h' ∧ IsSl RMp (fun b => H.n ≤ b) h' r twoD := by
  refine WC_fn Try.func81 rfl rfl ?_
  simp only [core, Nat.reduceAdd, Nat.reduceSub, Nat.reduceMul, Nat.reduceLT, Nat.reduceEqDiff, reduceCtorEq, Nat.reduceLeDiff, Int.reduceLE, Int.reduceLT, Int.reduceToNat, Try.ntmps81]
  obtain ⟨bs, hbs⟩ : ∃ bs : List AB, bs = [.cells [.lit (.int .i64 0), .lit (.int .i64 1)] 3, .cells [.lit (.int .i64 65536), .lit (.int .i64 65536)] 3, .cells [.lit (.int .i64 (-1)), .lit (.int .i64 3), .sl H.n 0 2 (.kn 2), .sl (H.n + 1) 0 2 (.kn 2)] 92, .cells [.lit (.bool true), .lit (.bool true), .lit (.int .i64 65536), .lit (.int .i64 1), .lit (.int .i64 1), .lit (.int .i64 1)] 43, .cells [.lit (.bool true), .lit (.bool true), .lit (.int .i64 65536), .lit (.int .i64 1), .lit (.int .i64 1), .lit (.int .i64 1), .lit (.bool true), .lit (.bool true), .lit (.int .i64 65536), .lit (.int .i64 1), .lit (.int .i64 1), .lit (.int .i64 1)] 43, .cells [.lit (.int .i64 1), .lit (.int .i64 2), .lit (.int .i64 2), .lit (.int .i64 1)] 94, .cells [.lit (.int .i64 (-1)), .lit (.int .i64 3), .sl H.n 0 2 (.kn 2), .sl (H.n + 1) 0 2 (.kn 2)] 92, .cells [.lit (.int .i64 1), .sl (H.n + 4) 0 2 (.kn 2), .sl (H.n + 5) 0 1 (.kn 1), .sl (H.n + 6) 0 1 (.kn 1), .lit (.int .i64 0)] 31, .cells [.lit (.int .i64 2), .sl (H.n + 9) 0 2 (.kn 2), .sl (H.n + 5) 0 1 (.kn 1), .sl (H.n + 6) 0 1 (.kn 1), .lit (.int .i64 0)] 31, .cells [.lit (.bool true), .lit (.bool true), .lit (.int .i64 65536), .lit (.int .i64 1), .lit (.int .i64 1), .lit (.int .i64 1), .lit (.bool true), .lit (.bool false), .lit (.int .i64 65536), .lit (.int .i64 1), .lit (.int .i64 1), .lit (.int .i64 0)] 43, .cells [.lit (.int .i64 1), .sl (H.n + 4) 0 2 (.kn 2), .sl (H.n + 5) 0 1 (.kn 1), .sl (H.n + 6) 0 1 (.kn 1), .lit (.int .i64 0), .lit (.int .i64 2), .sl (H.n + 9) 0 2 (.kn 2), .sl (H.n + 5) 0 1 (.kn 1), .sl (H.n + 6) 0 1 (.kn 1), .lit (.int .i64 0)] 31] := ⟨_, rfl⟩
  have hh : Ext H.n H (pushL H bs) ∧ IsSl RMp (fun b => H.n ≤ b) (pushL H bs) (.sl (H.n + 10) 0 2 (.kn 2)) twoD := by
    have at' : ∀ i x, bs[i]? = some x → (pushL H bs).at (H.n + i) = some x := fun i x e => pushL_at e
    have A0 := at' 0 _ (by rw [hbs]; rfl)
    have A1 := at' 1 _ (by rw [hbs]; rfl)
    have A4 := at' 4 _ (by rw [hbs]; rfl)
    have A5 := at' 5 _ (by rw [hbs]; rfl)
    have A6 := at' 6 _ (by rw [hbs]; rfl)
    have A9 := at' 9 _ (by rw [hbs]; rfl)
    have A10 := at' 10 _ (by rw [hbs]; rfl)
    refine ⟨pushL_ext (Nat.le_refl _), ?_⟩
    generalize pushL H bs = h' at A0 A1 A4 A5 A6 A9 A10
    have i64 : ∀ n : Int, -65536 ≤ n → n ≤ 65536 → I64 n := fun n a b => ⟨by omega, by omega⟩
    have S0 : IsSl RInt (fun b => H.n ≤ b) h' (.sl H.n 0 2 (.kn 2)) [0, 1] := IsSl.ofAt (L := [[.lit (.int .i64 0)], [.lit (.int .i64 1)]]) A0 (Nat.le_refl _) ((Els.nil.snoc (RInt_is.2 ⟨rfl, i64 _ (by decide) (by decide)⟩)).snoc (RInt_is.2 ⟨rfl, i64 _ (by decide) (by decide)⟩)) rfl
    have S1 : IsSl RInt (fun b => H.n ≤ b) h' (.sl (H.n + 1) 0 2 (.kn 2)) [65536, 65536] := IsSl.ofAt (L := [[.lit (.int .i64 65536)], [.lit (.int .i64 65536)]]) A1 (by omega) ((Els.nil.snoc (RInt_is.2 ⟨rfl, i64 _ (by decide) (by decide)⟩)).snoc (RInt_is.2 ⟨rfl, i64 _ (by decide) (by decide)⟩)) rfl
    have rU : ROsd.is (fun b => H.n ≤ b) h' [.lit (.bool true), .lit (.bool true), .lit (.int .i64 65536), .lit (.int .i64 1), .lit (.int .i64 1), .lit (.int .i64 1)] osdU := ROsd_is.2 ⟨rfl, i64 _ (by decide) (by decide), i64 _ (by decide) (by decide), i64 _ (by decide) (by decide), i64 _ (by decide) (by decide)⟩
    have rV : ROsd.is (fun b => H.n ≤ b) h' [.lit (.bool true), .lit (.bool false), .lit (.int .i64 65536), .lit (.int .i64 1), .lit (.int .i64 1), .lit (.int .i64 0)] osdV := ROsd_is.2 ⟨rfl, i64 _ (by decide) (by decide), i64 _ (by decide) (by decide), i64 _ (by decide) (by decide), i64 _ (by decide) (by decide)⟩
    have S4 : IsSl ROsd (fun b => H.n ≤ b) h' (.sl (H.n + 4) 0 2 (.kn 2)) [osdU, osdU] := IsSl.ofAt (L := [[.lit (.bool true), .lit (.bool true), .lit (.int .i64 65536), .lit (.int .i64 1), .lit (.int .i64 1), .lit (.int .i64 1)], [.lit (.bool true), .lit (.bool true), .lit (.int .i64 65536), .lit (.int .i64 1), .lit (.int .i64 1), .lit (.int .i64 1)]]) A4 (by omega) ((Els.nil.snoc rU).snoc rU) rfl
    have S9 : IsSl ROsd (fun b => H.n ≤ b) h' (.sl (H.n + 9) 0 2 (.kn 2)) [osdU, osdV] := IsSl.ofAt (L := [[.lit (.bool true), .lit (.bool true), .lit (.int .i64 65536), .lit (.int .i64 1), .lit (.int .i64 1), .lit (.int .i64 1)], [.lit (.bool true), .lit (.bool false), .lit (.int .i64 65536), .lit (.int .i64 1), .lit (.int .i64 1), .lit (.int .i64 0)]]) A9 (by omega) ((Els.nil.snoc rU).snoc rV) rfl
    have S5 : IsSl RPool (fun b => H.n ≤ b) h' (.sl (H.n + 5) 0 1 (.kn 1)) [poolT] := IsSl.ofAt (L := [[.lit (.int .i64 1), .lit (.int .i64 2), .lit (.int .i64 2), .lit (.int .i64 1)]]) A5 (by omega) (Els.nil.snoc (RPool_is.2 ⟨rfl, i64 _ (by decide) (by decide), i64 _ (by decide) (by decide), i64 _ (by decide) (by decide), i64 _ (by decide) (by decide)⟩)) rfl
    have S6 : IsSl RBkt (fun b => H.n ≤ b) h' (.sl (H.n + 6) 0 1 (.kn 1)) [bktT] := IsSl.ofAt (L := [[.lit (.int .i64 (-1)), .lit (.int .i64 3), .sl H.n 0 2 (.kn 2), .sl (H.n + 1) 0 2 (.kn 2)]]) A6 (by omega) (Els.nil.snoc (RBkt_is.2 ⟨_, _, rfl, S0, S1, i64 _ (by decide) (by decide), i64 _ (by decide) (by decide)⟩)) rfl
    have rm1 : RMp.is (fun b => H.n ≤ b) h' [.lit (.int .i64 1), .sl (H.n + 4) 0 2 (.kn 2), .sl (H.n + 5) 0 1 (.kn 1), .sl (H.n + 6) 0 1 (.kn 1), .lit (.int .i64 0)] mapU := RMp_is.2 ⟨_, _, _, rfl, S4, S5, S6, i64 _ (by decide) (by decide), i64 _ (by decide) (by decide)⟩
    have rm2 : RMp.is (fun b => H.n ≤ b) h' [.lit (.int .i64 2), .sl (H.n + 9) 0 2 (.kn 2), .sl (H.n + 5) 0 1 (.kn 1), .sl (H.n + 6) 0 1 (.kn 1), .lit (.int .i64 0)] mapV := RMp_is.2 ⟨_, _, _, rfl, S9, S5, S6, i64 _ (by decide) (by decide), i64 _ (by decide) (by decide)⟩
    exact IsSl.ofAt (L := [[.lit (.int .i64 1), .sl (H.n + 4) 0 2 (.kn 2), .sl (H.n + 5) 0 1 (.kn 1), .sl (H.n + 6) 0 1 (.kn 1), .lit (.int .i64 0)], [.lit (.int .i64 2), .sl (H.n + 9) 0 2 (.kn 2), .sl (H.n + 5) 0 1 (.kn 1), .sl (H.n + 6) 0 1 (.kn 1), .lit (.int .i64 0)]]) A10 (by omega) ((Els.nil.snoc rm1).snoc rm2) rfl
  rw [hbs] at hh
  exact hh
end Go.Proofs.Ytkgbeihcepociaa.Ex
end
