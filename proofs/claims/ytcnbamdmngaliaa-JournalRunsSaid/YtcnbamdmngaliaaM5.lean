/- Part 5 of the proof: Jp6, Jp7, Jl1, Jrg, Jl2, Jl3, Jl4, Jl5, Jl6, Jl7, Jl8, Jop. -/
import Derived.Test.YtcnbamdmngaliaaM4
open Nat renaming reduceAdd → zrA, reduceSub → zrS, reduceMul → zrM, reduceLT → zrL, reduceEqDiff → zrE, reduceLeDiff → zrD, reduceShiftRight → zrR, reduceMod → zrO
open Int renaming reduceLE → ziE, reduceLT → ziL, reduceToNat → ziN
section

set_option linter.unusedSimpArgs false
set_option linter.unusedVariables false
set_option maxRecDepth 10000
set_option maxHeartbeats 4000000
namespace Go.Proofs.Ytcnbamdmngaliaa.Ex
open Go
/-- Numbers alone are others. -/
theorem DS.num {Y : Nat → Prop} {h h' : AH} {k e : Nat} {size base synced limit torn base' synced' limit' : Int} {bs : List UInt8} {v : AV} (hp : DS Y h k e size base synced limit torn bs) (hv : IsSl RByte (fun b => Y b ∧ b ≠ e ∧ b ≠ k) h v bs) (m : Mod e (ekC size base' v synced' limit') h h') :
    DS Y h' k e size base' synced' limit' torn bs ∧ Nx Y Y h h' :=
  ⟨⟨⟨v, m.at_, hv.lift fun b hb hlt => ⟨m.ne b hb.2.1, hb⟩⟩, (m.ne k hp.ne).trans hp.ks, hp.ey, hp.ky, fun b hb => by rw [m.n]; exact hp.lt b hb⟩, ⟨by rw [m.n]; exact Nat.le_refl _, fun b hb hY => m.ne b (fun eb => hY (by rw [eb]; exact hp.ey)), fun b hb => .inl hb⟩⟩
structure TrimK (Y : Nat → Prop) (H h' : AH) (k e : Nat) (size base synced limit torn at_ : Int) (bs : List UInt8) (l : RecL) (sy : Int) (fr : Prop) (r : AV) : Prop where
  none : idxR at_ l = l.length ∧ at_ ≠ base + bs.length → r = .lit (.int .i64 2) ∧ Ext H.n H h'
  arg : ¬ (idxR at_ l = l.length ∧ at_ ≠ base + bs.length) → ¬ (base ≤ at_ ∧ at_ ≤ sy) → r = .lit (.int .i64 22) ∧ ∃ Y', DS Y' h' k e size base sy limit torn bs ∧ Nx Y Y' H h'
  froz : ¬ (idxR at_ l = l.length ∧ at_ ≠ base + bs.length) → base ≤ at_ ∧ at_ ≤ sy → fr → r = .lit (.int .i64 0) ∧ ∃ Y', DS Y' h' k e size base sy limit torn bs ∧ Nx Y Y' H h'
  ok : ¬ (idxR at_ l = l.length ∧ at_ ≠ base + bs.length) → base ≤ at_ ∧ at_ ≤ sy → ¬ fr → r = .lit (.int .i64 0) ∧ ∃ Y', DS Y' h' k e size at_ sy limit torn (bs.drop (at_ - base).toNat) ∧ Nx Y Y' H h'
theorem trimK_x {Y : Nat → Prop} {H : AH} {k e : Nat} {size base synced limit torn at_ : Int} {bs : List UInt8} {l : RecL} {a : Int} {rest : List UInt8} (hp : DS Y H k e size base synced limit torn bs) (hk : DOk size base bs synced limit) (hf : Full base bs l a rest) :
    WC Try.prog (tabOf Try.prog NT0) S0 38 [.ptr k 0, .lit (.int .i64 at_)] H fun r h' => TrimK Y H h' k e size base synced limit torn at_ bs l (if 0 ≤ limit ∧ limit < base + bs.length then synced else base + bs.length) (0 ≤ limit ∧ limit < base + bs.length) r := by
  refine WC_fn Try.func38 rfl rfl ?_
  obtain ⟨v, hd, hv⟩ := hp.es
  have hkl := hk.l
  have hks := hk.s
  have hkb := hk.b
  have hidx := idxR_rdR at_ l
  simp only [core, zrA, zrS, zrM, zrL, zrE, reduceCtorEq, zrD, ziE, ziL, ziN, Try.ntmps38]
  refine (readK_x hp.ks hd hkb hv (by omega) hf).mono ?_
  rintro _ h ⟨E1, v1, rfl, -⟩
  have hp1 := hp.ext E1
  obtain ⟨v', hd1, hv1⟩ := hp1.es
  have hj1 := hp1.ks
  unfold kjC at hj1
  have L1 := ld_at (T := tabOf Try.prog NT0) hj1
  have lj1 := at_lt hj1
  have w1 := hv1.isSl
  have w2 := hv1.lenD
  simp only [core, zrA, zrS, zrM, zrL, zrE, reduceCtorEq, zrD, ziE, ziL, ziN]
  by_cases cQ : idxR at_ l = l.length ∧ at_ ≠ base + bs.length
  · have c1 : ((rdR at_ l).2 != 0) = true := by rw [bne_iff_ne]; exact hidx.1 cQ.1
    have c2 : (at_ != base + (bs.length : Int)) = true := by rw [bne_iff_ne]; exact cQ.2
    simp only [core, zrA, zrS, zrM, zrL, zrE, reduceCtorEq, zrD, ziE, ziL, ziN, c1, L1, lj1]
    refine (endE_x hd1 w1 w2 hkb (by omega)).mono ?_
    rintro _ h2 ⟨e2, rfl⟩
    replace e2 := e2.symm
    subst e2
    simp only [core, zrA, zrS, zrM, zrL, zrE, reduceCtorEq, zrD, ziE, ziL, ziN, c2]
    exact ⟨fun _ => ⟨rfl, E1⟩, fun h => absurd cQ h, fun h => absurd cQ h, fun h => absurd cQ h⟩
  obtain ⟨SY, hSY⟩ : ∃ SY, SY = if 0 ≤ limit ∧ limit < base + (bs.length : Int) then synced else base + bs.length := ⟨_, rfl⟩
  have hsy : base ≤ SY ∧ SY ≤ base + bs.length := by have := hk.y; rw [hSY]; split <;> omega
  rw [← hSY]
  rcases Classical.em (idxR at_ l = l.length) with c | c
  case' inl =>
    have c1 : ((rdR at_ l).2 != 0) = true := by rw [bne_iff_ne]; exact hidx.1 c
    have c2 : (at_ != base + (bs.length : Int)) = false := by
      rw [bne_eq_false_iff_eq]
      apply Classical.byContradiction
      intro h
      exact cQ ⟨c, h⟩
    simp only [core, zrA, zrS, zrM, zrL, zrE, reduceCtorEq, zrD, ziE, ziL, ziN, c1, L1, lj1]
    refine (endE_x hd1 w1 w2 hkb (by omega)).mono ?_
    rintro _ h2 ⟨e2, rfl⟩
    replace e2 := e2.symm
    subst e2
    simp only [core, zrA, zrS, zrM, zrL, zrE, reduceCtorEq, zrD, ziE, ziL, ziN, c2, L1, lj1]
  case' inr =>
    have c1 : ((rdR at_ l).2 != 0) = false := by
      rw [bne_eq_false_iff_eq]
      apply Classical.byContradiction
      intro h
      exact c (hidx.2 h)
    simp only [core, zrA, zrS, zrM, zrL, zrE, reduceCtorEq, zrD, ziE, ziL, ziN, c1, L1, lj1, aundef]
  all_goals
    refine (syncE_x hd1 w1 w2 hkb (by omega)).mono ?_
    rintro _ h2 ⟨rfl, m⟩
    rw [← hSY] at m
    obtain ⟨hp2, N2⟩ := hp1.num hv1 m
    have N2 := (Nx.ext (X := Y) E1).trans N2
    obtain ⟨v2, hd2, hv2⟩ := hp2.es
    have hj2 := hp2.ks
    unfold kjC at hj2
    have L2 := ld_at (T := tabOf Try.prog NT0) hj2
    have lj2 := at_lt hj2
    simp only [core, zrA, zrS, zrM, zrL, zrE, reduceCtorEq, zrD, ziE, ziL, ziN, L2, lj2]
    refine (trimE_x hd2 hkb hv2 (by omega) hsy).mono ?_
    rintro r h3 hr
    simp only [core, zrA, zrS, zrM, zrL, zrE, reduceCtorEq, zrD, ziE, ziL, ziN]
    by_cases ci : base ≤ at_ ∧ at_ ≤ SY
    · rw [if_pos ci] at hr
      obtain ⟨rfl, hr⟩ := hr
      by_cases cf : 0 ≤ limit ∧ limit < base + (bs.length : Int)
      · rw [if_pos cf] at hr
        subst hr
        exact ⟨fun h => absurd h cQ, fun _ h => absurd ci h, fun _ _ _ => ⟨rfl, Y, hp2, N2⟩, fun _ _ h => absurd cf h⟩
      · rw [if_neg cf] at hr
        obtain ⟨C3, v3, hd3, hs3⟩ := hr
        obtain ⟨Y', q1, q2⟩ := hp2.step C3 hd3 hs3
        exact ⟨fun h => absurd h cQ, fun _ h => absurd ci h, fun _ _ h => absurd h cf, fun _ _ _ => ⟨rfl, Y', q1, N2.trans q2⟩⟩
    · rw [if_neg ci] at hr
      obtain ⟨rfl, rfl⟩ := hr
      exact ⟨fun h => absurd h cQ, fun _ _ => ⟨rfl, Y, hp2, N2⟩, fun _ h => absurd h ci, fun _ h => absurd h ci⟩
theorem openK_x {Y : Nat → Prop} {H : AH} {e : Nat} {size base synced limit : Int} {bs : List UInt8} {v : AV} (hd : H.at e = some (ekC size base v synced limit)) (hv : IsSl RByte (fun b => Y b ∧ b ≠ e) H v bs) (hY : Y e) (hlt : ∀ b, Y b → b < H.n) (hk : DOk size base bs synced limit) (hm : limit < 0) :
    WC Try.prog (tabOf Try.prog NT0) S0 28 [.ptr e 0] H fun r h' => ∃ l a rest, Full base bs l a rest ∧ ∃ Y' K, DS Y' h' K e size base (if a < synced then a else synced) limit rest.length (bs.take (a - base).toNat) ∧ Nx Y Y' H h' ∧ r = .ptr K 0 := by
  refine WC_fn Try.func28 rfl rfl ?_
  have hkl := hk.l
  have hks := hk.s
  have hkb := hk.b
  have ld := at_lt hd
  simp only [core, zrA, zrS, zrM, zrL, zrE, reduceCtorEq, zrD, ziE, ziL, ziN, Try.ntmps28]
  obtain ⟨h1, hh1⟩ : ∃ h1, h1 = H.push (kjC e 0) := ⟨_, rfl⟩
  have E1 : Ext H.n H h1 := hh1 ▸ (Ext.refl _ _).push _ (Nat.le_refl _)
  have A1 : h1.at H.n = some (kjC e 0) := hh1 ▸ at_push_n _ _
  have n1 : h1.n = H.n + 1 := hh1 ▸ n_push _ _
  unfold kjC at hh1
  rw [← hh1]
  have hd1 := E1.at ld hd
  have hv1 := hv.ext E1 (Nat.le_refl _)
  refine (recordsE_x A1 hd1 hkb hv1 (by omega)).mono ?_
  rintro _ h2 ⟨E2, l, a, rest, vl, hf, rfl, hR⟩
  have n2 := E2.1
  have E12 := E1.trans (E2.mono (by omega))
  have A2 := E2.at (by omega) A1
  have hd2 := E12.at ld hd
  have hv2 := hv.ext E12 (Nat.le_refl _)
  have w1 := hv2.isSl
  have w2 := hv2.lenD
  have hlen := hf.1.len
  unfold kjC at A2
  have L2 := ld_at (T := tabOf Try.prog NT0) A2
  have l2 := at_lt A2
  have hw : IntKind.i64.wrap (base + (bs.length : Int) - a) = rest.length := (wrap_in (by omega) (by omega)).trans (by omega)
  simp only [core, zrA, zrS, zrM, zrL, zrE, reduceCtorEq, zrD, ziE, ziL, ziN]
  refine (endE_x hd2 w1 w2 hkb (by omega)).mono ?_
  rintro _ h3 ⟨e3, rfl⟩
  replace e3 := e3.symm
  subst e3
  obtain ⟨h4, hh4⟩ : ∃ h4, h4 = h2.put H.n (kjC e rest.length) := ⟨_, rfl⟩
  have n4 : h4.n = h2.n := hh4 ▸ n_put _ _ _
  have A4 : h4.at H.n = some (kjC e rest.length) := hh4 ▸ at_put l2
  have K4 : ∀ b, b ≠ H.n → h4.at b = h2.at b := fun b hb => hh4 ▸ at_put_ne _ (Ne.symm hb)
  unfold kjC at hh4
  have hd4 : h4.at e = some (ekC size base v synced limit) := (K4 e (by omega)).trans hd2
  have hv4 : IsSl RByte (fun b => ((Y b ∨ H.n ≤ b) ∧ b < h4.n) ∧ b ≠ e ∧ b ≠ H.n) h4 v bs := hv2.lift fun b hb hlt' => by
    have := hlt b hb.1
    exact ⟨K4 b (by omega), ⟨.inl hb.1, by omega⟩, hb.2, by omega⟩
  have hp4 : DS (fun b => (Y b ∨ H.n ≤ b) ∧ b < h4.n) h4 H.n e size base synced limit rest.length bs := ⟨⟨v, hd4, hv4⟩, A4, ⟨.inl hY, by omega⟩, ⟨.inr (Nat.le_refl _), by omega⟩, fun b hb => hb.2⟩
  have N4 : Nx Y (fun b => (Y b ∨ H.n ≤ b) ∧ b < h4.n) H h4 := ⟨by omega, fun b hb _ => (K4 b (by omega)).trans (E12.2 b hb), fun b hb => hb.1⟩
  by_cases c : rest.length = 0
  · have c1 : ((0 : Int) < (rest.length : Int)) = False := by simp only [eq_iff_iff, iff_false]; omega
    simp only [core, zrA, zrS, zrM, zrL, zrE, reduceCtorEq, zrD, ziE, ziL, ziN, L2, l2, A2, hw, ← hh4]
    have L4 := ld_at (T := tabOf Try.prog NT0) (show h4.at H.n = some (.cells [.ptr e 0, .lit (.int .i64 (rest.length : Int))] 60) from A4)
    simp only [core, zrA, zrS, zrM, zrL, zrE, reduceCtorEq, zrD, ziE, ziL, ziN, L4, n4, l2, c1]
    refine ⟨l, a, rest, hf, _, H.n, ?_, N4, rfl⟩
    rw [if_neg (by have := hk.y; omega), List.take_of_length_le (by omega)]
    exact hp4
  · have c1 : ((0 : Int) < (rest.length : Int)) = True := by simp only [eq_iff_iff, iff_true]; omega
    simp only [core, zrA, zrS, zrM, zrL, zrE, reduceCtorEq, zrD, ziE, ziL, ziN, L2, l2, A2, hw, ← hh4]
    have L4 := ld_at (T := tabOf Try.prog NT0) (show h4.at H.n = some (.cells [.ptr e 0, .lit (.int .i64 (rest.length : Int))] 60) from A4)
    simp only [core, zrA, zrS, zrM, zrL, zrE, reduceCtorEq, zrD, ziE, ziL, ziN, L4, n4, l2, c1]
    refine (cutE_x hd4 hkb hv4 (by omega) (by omega) hm).mono ?_
    rintro _ h5 ⟨rfl, C5, v5, hd5, hs5⟩
    obtain ⟨Y', q1, q2⟩ := hp4.step C5 hd5 hs5
    simp only [core, zrA, zrS, zrM, zrL, zrE, reduceCtorEq, zrD, ziE, ziL, ziN]
    exact ⟨l, a, rest, hf, Y', H.n, q1, N4.trans q2, rfl⟩
end Go.Proofs.Ytcnbamdmngaliaa.Ex
end

section

set_option linter.unusedSimpArgs false
set_option linter.unusedVariables false
set_option maxRecDepth 10000
set_option maxHeartbeats 4000000
namespace Go.Proofs.Ytcnbamdmngaliaa.Ex
open Go
theorem openJ_x {X : Nat → Prop} {H : AH} {d : Nat} {size base synced limit : Int} {bs : List UInt8} {v : AV} (hd : H.at d = some (dkC size base v synced limit)) (ho : VwB 0 H v bs) (xv : SlF X v) (hX : X d) (hlt : ∀ b, X b → b < H.n) (hk : DOk size base bs synced limit) (hm : limit < 0) :
    WC Try.prog (tabOf Try.prog NT0) S0 21 [.ptr d 0] H fun r h' => ∃ l a rest, Full base bs l a rest ∧ ∃ X' J, PS X' h' J d size base (if a < synced then a else synced) limit rest.length (bs.take (a - base).toNat) l ∧ Nx X X' H h' ∧ r = .tup [.ptr J 0, .lit (.int .i64 0)] := by
  refine WC_fn Try.func21 rfl rfl ?_
  have hkl := hk.l
  have hks := hk.s
  have hkb := hk.b
  have ld := at_lt hd
  have v1 := ho.isSl
  have v2 := ho.lenD
  have hw1 : IntKind.i64.wrap (base + (bs.length : Int) - base) = bs.length := (wrap_in (by omega) (by omega)).trans (by omega)
  simp only [core, zrA, zrS, zrM, zrL, zrE, reduceCtorEq, zrD, ziE, ziL, ziN, Try.ntmps21]
  refine (base_x hd hks.1).mono ?_
  rintro _ h1 ⟨e1, rfl⟩
  replace e1 := e1.symm
  subst e1
  simp only [core, zrA, zrS, zrM, zrL, zrE, reduceCtorEq, zrD, ziE, ziL, ziN]
  refine (end_x hd hks.1 v1 v2 hkb (by omega)).mono ?_
  rintro _ h1 ⟨e1, rfl⟩
  replace e1 := e1.symm
  subst e1
  simp only [core, zrA, zrS, zrM, zrL, zrE, reduceCtorEq, zrD, ziE, ziL, ziN]
  refine (base_x hd hks.1).mono ?_
  rintro _ h1 ⟨e1, rfl⟩
  replace e1 := e1.symm
  subst e1
  simp only [core, zrA, zrS, zrM, zrL, zrE, reduceCtorEq, zrD, ziE, ziL, ziN, hw1]
  refine (readD_x hd hks.1 hkb (ho.toSl (F := fun _ => True) fun _ _ _ _ _ => trivial) (by omega) (by omega) (by omega)).mono ?_
  rintro _ h1 ⟨E1, w, rfl, S1⟩
  rw [Int.sub_self, show (0 : Int).toNat = 0 from rfl, List.drop_zero, Int.toNat_natCast, List.take_length] at S1
  have ce : ((0 : Int) != 0) = false := by decide
  have n1 := E1.1
  simp only [core, zrA, zrS, zrM, zrL, zrE, reduceCtorEq, zrD, ziE, ziL, ziN, ce]
  obtain ⟨h2, hh2⟩ : ∃ h2, h2 = h1.push (jnC d (.lit (.slice none 0 0)) 0) := ⟨_, rfl⟩
  have E2 : Ext h1.n h1 h2 := hh2 ▸ (Ext.refl _ _).push _ (Nat.le_refl _)
  have A2 : h2.at h1.n = some (jnC d (.lit (.slice none 0 0)) 0) := hh2 ▸ at_push_n _ _
  have n2 : h2.n = h1.n + 1 := hh2 ▸ n_push _ _
  unfold jnC at hh2
  rw [← hh2]
  have hd2 := (E1.trans (E2.mono n1)).at ld hd
  refine (base_x hd2 hks.1).mono ?_
  rintro _ h3 ⟨e3, rfl⟩
  replace e3 := e3.symm
  subst e3
  simp only [core, zrA, zrS, zrM, zrL, zrE, reduceCtorEq, zrD, ziE, ziL, ziN]
  with_reducible refine any_cut (P := Try.prog) (T := tabOf Try.prog NT0) (S := S0) (E := ⟨21, [], none, none⟩) (X := fun k K => WB _ _ _ _ _ (_ :: AI.blk 0 :: k) _ K) (fun t h => (∃ l a rest s u, Full base bs l a rest ∧ Ext h1.n h1 h ∧ h.at h1.n = some (jnC d s 0) ∧ OwnR (h1.n + 1) h s 84 l ∧ isSl u = true ∧ lenD u = rest.length ∧ t.get 4 = u ∧ t.get 7 = .lit (.int .i64 a)) ∧ t.n = 73 ∧ t.get 0 = .ptr d 0 ∧ t.get 6 = .ptr h1.n 0) (fun k' K' hk => ?_) ?_
  · refine WB_ind (fun (q : RecL × Int × List UInt8) t h => (∃ s u, Ext h1.n h1 h ∧ h.at h1.n = some (jnC d s 0) ∧ Stp base bs q.1 q.2.1 q.2.2 ∧ OwnR (h1.n + 1) h s 84 q.1 ∧ IsSl RByte (fun b => b < h1.n) h u q.2.2 ∧ t.get 4 = u) ∧ t.n = 73 ∧ t.get 0 = .ptr d 0 ∧ t.get 6 = .ptr h1.n 0 ∧ t.get 7 = .lit (.int .i64 q.2.1)) (fun q => q.2.2.length) ?_ ([], base, bs) _ _ ?_
    · rintro ⟨l, a, rest⟩ t h ⟨⟨s, u, E, A, hst, hR, hu, gA⟩, hn, g0, g6, g7⟩ ih
      dsimp only at *
      have hcnt := stp_count hst
      have hle := hst.len
      have u1 := hu.isSl
      have u2 := hu.lenD
      have hcap : CapOk 1 u := by obtain ⟨L, -, -, hc, -⟩ := hu.out; exact hc
      simp only [core, zrA, zrS, zrM, zrL, zrE, reduceCtorEq, zrD, ziE, ziL, ziN, hn, g0, g6, g7, gA]
      refine (unframe_x hu (by omega)).mono ?_
      rintro _ h4 ⟨E4, c, rfl, hc⟩
      have hEn := E.1
      have n4 := E4.1
      have lJ := at_lt A
      have A4 := E4.at lJ A
      unfold jnC at A4
      have L4 := ld_at (T := tabOf Try.prog NT0) A4
      have l4 := at_lt A4
      obtain ⟨⟨cs, n, e⟩, huf⟩ : ∃ y, y = unfr rest := ⟨_, rfl⟩
      rw [← huf] at hc ⊢
      dsimp only at hc ⊢
      by_cases ce : e = 0
      · subst ce
        obtain ⟨y1, y2, y3, y4, y5, y6⟩ := unfr_out huf.symm
        have ce : (((0 : Nat) : Int) != 0) = false := by decide
        have cc1 := hc.cells
        have cc2 := hc.one
        have hwn : IntKind.i64.wrap (a + (n : Int)) = a + n := wrap_in (by omega) (by omega)
        have j1 : ((0 : Int) ≤ (n : Int)) = True := by simp only [eq_iff_iff, iff_true]; omega
        have j2 : ((n : Int) ≤ (rest.length : Int)) = True := by simp only [eq_iff_iff, iff_true]; omega
        simp only [core, zrA, zrS, zrM, zrL, zrE, reduceCtorEq, zrD, ziE, ziL, ziN, hn, g0, g6, g7, gA, ce, cc1, cc2, L4, l4]
        obtain ⟨h5, hh5⟩ : ∃ h5, h5 = h4.push (.cells [.lit (.int .i64 a), c] 84) := ⟨_, rfl⟩
        have E5 : Ext h4.n h4 h5 := hh5 ▸ (Ext.refl _ _).push _ (Nat.le_refl _)
        have A5 : h5.at h4.n = some (.cells [.lit (.int .i64 a), c] 84) := hh5 ▸ at_push_n _ _
        rw [← hh5]
        have n5 := E5.1
        have hR5 := (hR.ext E4 (Nat.le_refl _)).ext E5 (Nat.le_refl _)
        refine WOp_app (hR5.snoc (y := (a, cs)) (by kernel_rfl) (by kernel_rfl) (by kernel_rfl) (zv := .agg [.lit (.int .i64 0), .lit (.slice none 0 0)]) (by kernel_rfl) (by' := 32) (by kernel_rfl) rfl (by decide) (by decide) A5 (RRec_is.2 ⟨c, rfl, (hc.ext E5 (Nat.le_refl _)).lift fun b hb hlt => ⟨rfl, by omega, hR.apart hb⟩, by unfold I64; dsimp only; omega⟩) (by omega) (by omega) (by omega)) ?_
        rintro s6 h6 ⟨hR6, e6, f6⟩
        have v6 := hR6.isSl
        have v7 := hR6.one
        have n6 := e6.1
        have hJ6 := (e6.2 h1.n (by omega)).trans (E5.at l4 A4)
        have lJ6 := at_lt hJ6
        simp only [core, zrA, zrS, zrM, zrL, zrE, reduceCtorEq, zrD, ziE, ziL, ziN, hn, g0, g6, g7, gA, ce, cc1, cc2, u1, u2, hwn, j1, j2, hcap, hJ6, lJ6, v6, v7, Int.le_refl, Int.toNat_natCast]
        obtain ⟨h7, hh7⟩ : ∃ h7, h7 = h6.put h1.n (jnC d s6 0) := ⟨_, rfl⟩
        have n7 : h7.n = h6.n := hh7 ▸ n_put _ _ _
        have A7 : h7.at h1.n = some (jnC d s6 0) := hh7 ▸ at_put lJ6
        have K7 : ∀ b, b ≠ h1.n → h7.at b = h6.at b := fun b hb => hh7 ▸ at_put_ne _ (Ne.symm hb)
        unfold jnC at hh7
        rw [← hh7]
        have E17 : Ext h1.n h h7 := ⟨by omega, fun b hb => (K7 b (by omega)).trans ((e6.2 b (by omega)).trans ((E5.2 b (by omega)).trans (E4.2 b (by omega))))⟩
        have hsub : IsSl RByte (fun b => b < h1.n) h (subSl 1 n rest.length u) (rest.drop n) := by
          have := hu.sub (l := n) (r := rest.length) y4 (Nat.le_refl _)
          rw [List.take_length] at this
          exact this
        refine ih (l ++ [(a, cs)], a + n, rest.drop n) _ _ ⟨⟨s6, subSl 1 n rest.length u, E.trans E17, A7, hst.snoc huf.symm, ?_, hsub.lift fun b hb hlt => ⟨E17.2 b hb, hb⟩, ?_⟩, ?_⟩ ?_
        · exact ownl_keep hR6 (fun b off n cap e => K7 b (fun eb => by
            obtain ⟨row, hrow⟩ := own_at hR6 e
            subst eb
            rw [hJ6] at hrow
            cases hrow)) fun b hb hlt => ⟨K7 b (by omega), hb⟩
        · simp only [core, zrA, zrS, zrM, zrL, zrE, reduceCtorEq, zrD, ziE, ziL, ziN, hn, g0, g6, g7]
        · simp only [core, zrA, zrS, zrM, zrL, zrE, reduceCtorEq, zrD, ziE, ziL, ziN, hn, g0, g6, g7]
        · dsimp only
          rw [List.length_drop]
          omega
      · have ce2 : ((e : Int) != 0) = true := by rw [bne_iff_ne]; omega
        simp only [core, zrA, zrS, zrM, zrL, zrE, reduceCtorEq, zrD, ziE, ziL, ziN, hn, g0, g6, g7, gA, ce2]
        refine hk _ _ ⟨⟨l, a, rest, s, u, ⟨hst, by rw [← huf]; exact ce⟩, E.trans (E4.mono hEn), A4, hR.ext E4 (Nat.le_refl _), u1, u2, ?_, ?_⟩, ?_⟩
        · simp only [core, zrA, zrS, zrM, zrL, zrE, reduceCtorEq, zrD, ziE, ziL, ziN, hn, g0, g6, g7, gA]
        · simp only [core, zrA, zrS, zrM, zrL, zrE, reduceCtorEq, zrD, ziE, ziL, ziN, hn, g0, g6, g7]
        · simp only [core, zrA, zrS, zrM, zrL, zrE, reduceCtorEq, zrD, ziE, ziL, ziN, hn, g0, g6, g7]
    · simp only [core, zrA, zrS, zrM, zrL, zrE, reduceCtorEq, zrD, ziE, ziL, ziN]
      have V1 := VwB.ofOwn S1
      exact ⟨_, w, E2, A2, .nil, .nil, (V1.toSl fun b off n cap e => (V1.lt _ _ _ _ e).2).ext E2 (Nat.le_refl _), rfl⟩
  · rintro t h ⟨⟨l, a, rest, s, u, hf, E, A, hR, u1, u2, gA, gB⟩, hn, g0, g6⟩
    have hEn := E.1
    have hlen := hf.1.len
    have hdh := E.at (Nat.lt_of_lt_of_le ld n1) (E1.at ld hd)
    have V := (ho.ext E1).ext E
    have lJ := at_lt A
    have hR0 : OwnL RRec (fun b => h1.n + 1 ≤ b) 0 h s 84 l := by
      obtain ⟨L, q1, q2⟩ := hR
      exact ⟨L, ⟨q1.1, q1.2.elim .inl fun ⟨p, a, b, c⟩ => .inr ⟨p, a, Nat.zero_le _, c⟩⟩, q2⟩
    have sJ : ∀ b off n cap, s = .sl b off n cap → h1.n + 1 ≤ b ∧ b < h.n := fun b off n cap e => by
      obtain ⟨row, hrow⟩ := own_at hR e
      refine ⟨?_, at_lt hrow⟩
      obtain ⟨L, q1, q2⟩ := hR
      rcases q1.2 with ⟨hh, _⟩ | ⟨p, hh, hp, hat⟩
      · rw [hh] at e; cases e
      · rw [hh] at e; cases e; exact hp
    have mk : ∀ (g : AH) (torn : Int), g.n = h.n → g.at h1.n = some (jnC d s torn) → (∀ b, b ≠ h1.n → g.at b = h.at b) →
        PS (fun b => (X b ∨ H.n ≤ b) ∧ b < g.n) g h1.n d size base synced limit torn bs l ∧ Nx X (fun b => (X b ∨ H.n ≤ b) ∧ b < g.n) H g := fun g torn gn gA gK => by
      have hXlt : ∀ b, X b → b < H.n := hlt
      refine ⟨⟨⟨v, s, (gK d (by omega)).trans hdh, gA, V.lift fun b off n cap e => gK b (fun eb => ?_), fun b off n cap e => ⟨.inl (xv b off n cap e), by have := V.lt b off n cap e; omega⟩, fun b off n cap e => ?_, ?_⟩, ⟨.inl hX, by omega⟩, ⟨.inr n1, by omega⟩, fun b hb => hb.2⟩, ⟨by omega, fun b hb _ => (gK b (by omega)).trans ((E.2 b (by omega)).trans (E1.2 b hb)), fun b hb => hb.1⟩⟩
      · have := hXlt b (xv b off n cap e)
        omega
      · have := sJ b off n cap e
        exact ⟨.inr (by omega), by omega⟩
      · refine ownl_keep hR0 (fun b off n cap e => gK b (by have := sJ b off n cap e; omega)) fun k hk hlt2 => ⟨gK k (by omega), ⟨.inr (by omega), by omega⟩, by omega, by omega, fun off n cap e => ?_⟩
        have := hXlt k (xv k off n cap e)
        omega
    by_cases c : rest.length = 0
    · have c1 : ((0 : Int) < (rest.length : Int)) = False := by simp only [eq_iff_iff, iff_false]; omega
      simp only [core, zrA, zrS, zrM, zrL, zrE, reduceCtorEq, zrD, ziE, ziL, ziN, hn, g0, g6, gA, gB, u1, u2, c1]
      obtain ⟨q1, q2⟩ := mk h 0 rfl A fun b _ => rfl
      refine ⟨l, a, rest, hf, _, h1.n, ?_, q2, rfl⟩
      rw [if_neg (by have := hk.y; omega), List.take_of_length_le (by omega), show ((rest.length : Nat) : Int) = 0 by omega]
      exact q1
    · have c1 : ((0 : Int) < (rest.length : Int)) = True := by simp only [eq_iff_iff, iff_true]; omega
      have A' := A
      unfold jnC at A'
      have L4 := ld_at (T := tabOf Try.prog NT0) A'
      simp only [core, zrA, zrS, zrM, zrL, zrE, reduceCtorEq, zrD, ziE, ziL, ziN, hn, g0, g6, gA, gB, u1, u2, c1, A', lJ]
      obtain ⟨h4, hh4⟩ : ∃ h4, h4 = h.put h1.n (jnC d s rest.length) := ⟨_, rfl⟩
      have n4 : h4.n = h.n := hh4 ▸ n_put _ _ _
      have A4 : h4.at h1.n = some (jnC d s rest.length) := hh4 ▸ at_put lJ
      have K4 : ∀ b, b ≠ h1.n → h4.at b = h.at b := fun b hb => hh4 ▸ at_put_ne _ (Ne.symm hb)
      unfold jnC at hh4
      rw [← hh4]
      obtain ⟨q1, q2⟩ := mk h4 rest.length n4 A4 K4
      obtain ⟨va, vl, hda, hja, hoa, xva, xla, hLa⟩ := q1.e
      refine (cutD_x hda hks.1 hkb (hoa.toSl (F := fun _ => True) fun _ _ _ _ _ => trivial) (by omega) (by omega) hm).mono ?_
      rintro _ h5 ⟨rfl, m5⟩
      have hs3 := hoa.sl3 (k := (a - base).toNat) (by omega)
      have apd : ∀ b off n cap, sl3 (a - base).toNat va = .sl b off n cap → b ≠ d := fun b off n cap e eb => hs3.2 d (hoa.sep hda (by decide)) off n cap (by rw [← eb]; exact e)
      obtain ⟨X', p1, p2⟩ := q1.step hda hja hoa xva xla hLa (m5.cg (by simp)) m5.at_ (hs3.1.lift fun b off n cap e => m5.ne b (apd b off n cap e)) fun b _ h => hs3.2 b h
      simp only [core, zrA, zrS, zrM, zrL, zrE, reduceCtorEq, zrD, ziE, ziL, ziN, hn, g0, g6]
      have ce : ((0 : Int) != 0) = false := by decide
      simp only [core, zrA, zrS, zrM, zrL, zrE, reduceCtorEq, zrD, ziE, ziL, ziN, hn, g0, g6, ce]
      exact ⟨l, a, rest, hf, X', h1.n, p1, q2.trans p2, rfl⟩
end Go.Proofs.Ytcnbamdmngaliaa.Ex
end

section

set_option linter.unusedSimpArgs false
set_option linter.unusedVariables false
set_option maxRecDepth 10000
set_option maxHeartbeats 4000000
namespace Go.Proofs.Ytcnbamdmngaliaa.Ex
open Go
section
variable {P : Program} {T : TT} {t : TM} {h : AH} {d : Option Tmp} {ty : TypeId} {ps : String} {af : Array Edge} {g : Option (Nat × Bool)}
/-- Bytes of any slice as a text. -/
def conB (h : AH) (r : AR) : Option (List UInt8) → AR
  | some bs => some (.val (.lit (.string ⟨bs.toArray⟩)), h)
  | none => r
theorem lit_con {i : Nat} (hv : t.get i = .lit (.slice none 0 0)) : litOp Try.prog ⟨d, .convert 22 9 (.tmp i), ty, ps, af, g⟩ t = some (.val (.lit (.string ⟨#[]⟩))) := by
  have e0 : litEnv t (.tmp i) = .slice none 0 0 := by simp [litEnv, ev_tmp, hv, toVal]
  unfold litOp
  rw [if_pos (by simp [notSelect, Op.operands, litAll, ev_tmp, hv, toVal])]
  show ofPR (pur Try.prog (do let x ← convert 22 9 (litEnv t (.tmp i)); pure (Next.value x))) = _
  rw [e0]
  kernel_rfl
theorem a_conB {i : Nat} : aConR Try.prog (tabOf Try.prog NT0) ⟨d, .convert 22 9 (.tmp i), ty, ps, af, g⟩ t h 22 9 (.tmp i) = conB h (aConQ Try.prog (tabOf Try.prog NT0) ⟨d, .convert 22 9 (.tmp i), ty, ps, af, g⟩ t h 22 9 (.tmp i)) (bytesOf h (t.get i)) := by
  unfold conB
  split
  · rename_i bs hb
    unfold bytesOf at hb
    split at hb
    · rename_i hv
      obtain rfl := Option.some.inj hb
      have hl := lit_con (d := d) (ty := ty) (ps := ps) (af := af) (g := g) hv
      unfold aConR aConvert
      rw [ev_tmp, hv]
      unfold orLit
      simp only [hl]
    · rename_i b off len cap hv
      rw [a_conM, hv]
      unfold conM
      simp only [hb]
    · cases hb
  · rfl
theorem pb_seql {e : TypeId} {s : ByteArray} : pur P (binOp .eql e (.string s) (.string s)) = some (.ok (.bool true)) := by
  simp [binOp, Op.stringOp]
  rfl
/-- makeSlice of bytes. -/
def mkM (h : AH) (r : AR) : AV → AR
  | .lit (.int .i64 n) => if 0 ≤ n ∧ n ≤ 140737488355328 then some (.val (.sl h.n 0 n.toNat (.kn n.toNat)), h.push (.cells (bL (List.replicate n.toNat 0)) 5)) else r
  | _ => r
def aMkR (T : TT) (t : TM) (h : AH) (i : Nat) : AR := aMakeSlice T t h 22 (.tmp i) (.tmp i)
theorem rep_one (x : AV) : ∀ n, rep [x] n = List.replicate n x
  | 0 => rfl
  | n + 1 => by
    have := rep_one x n
    simp [rep, this, List.replicate_succ]
theorem a_mkB {i : Nat} : aop P (tabOf Try.prog NT0) ⟨d, .makeSlice 22 (.tmp i) (.tmp i), ty, ps, af, g⟩ t h = mkM h (aMkR (tabOf Try.prog NT0) t h i) (t.get i) := by
  show aMakeSlice (tabOf Try.prog NT0) t h 22 (.tmp i) (.tmp i) = _
  unfold mkM
  split
  · rename_i n hn
    split
    · rename_i hc
      have k1 : und (tabOf Try.prog NT0) 22 = some (.slice 5) := by kernel_rfl
      have hz : sizeT (tabOf Try.prog NT0) 5 = some 1 := by kernel_rfl
      have hzv : zeroT (tabOf Try.prog NT0) 5 = some (.lit (.int .u8 0)) := by kernel_rfl
      have hb : bytesT (tabOf Try.prog NT0) 5 = some 1 := by kernel_rfl
      simp only [sizeT, zeroT, bytesT, Option.map_eq_some_iff] at hz hzv hb
      obtain ⟨i1, hi, e1⟩ := hz
      obtain ⟨i2, hi2, e2⟩ := hzv
      obtain ⟨i3, hi3, e3⟩ := hb
      rw [hi] at hi2 hi3
      obtain rfl := Option.some.inj hi2
      obtain rfl := Option.some.inj hi3
      unfold aMakeSlice
      rw [k1, ev_tmp, hn]
      simp only [Option.bind_some, natA_int, if_pos hc.1, hi, e1, e2, e3]
      rw [if_pos (by
        simp only [Bool.and_eq_true, decide_eq_true_eq]
        exact ⟨⟨⟨Nat.le_refl _, by omega⟩, by omega⟩, rfl⟩)]
      rw [show (AV.lit (Value.int .u8 0)).cells = [.lit (.int .u8 0)] from rfl, rep_one]
      unfold bL
      rw [List.map_replicate]
      rfl
    · rfl
  · rfl
end
theorem num_x {H : AH} {n : Int} : WC Try.prog (tabOf Try.prog NT0) S0 8 [.lit (.int .i64 n)] H fun r h' => h' = H ∧ r = .lit (.int .i64 n) := by
  refine WC_fn Try.func8 rfl rfl ?_
  simp only [core, zrA, zrS, zrM, zrL, zrE, reduceCtorEq, zrD, ziE, ziL, ziN, Try.ntmps8]
theorem same_x {H : AH} {u v : AV} {bs : List UInt8} {F G : Nat → Prop} (hu : IsSl RByte F H u bs) (hv : IsSl RByte G H v bs) :
    WC Try.prog (tabOf Try.prog NT0) S0 35 [u, v] H fun r h' => h' = H ∧ r = .lit (.bool true) := by
  refine WC_fn Try.func35 rfl rfl ?_
  have b1 := hu.bytesOf
  have b2 := hv.bytesOf
  rcases hu.bytesRow with ⟨rfl, -⟩ | ⟨b, off, cap, row, rfl, -⟩ <;> rcases hv.bytesRow with ⟨rfl, -⟩ | ⟨b', off', cap', row', rfl, -⟩ <;>
  · simp only [core, zrA, zrS, zrM, zrL, zrE, reduceCtorEq, zrD, ziE, ziL, ziN, Try.ntmps35, a_conB, b1, b2, conB, pb_seql]
    done
theorem put_bL {xs : List UInt8} {i : Nat} (x : UInt8) (hi : i < xs.length) : put (bL xs) i [.lit (.int .u8 x.toNat)] = some (bL (xs.set i x)) := by
  unfold put
  rw [if_pos (by rw [len_bL]; simp; omega)]
  congr 1
  rw [List.set_eq_take_append_cons_drop, if_pos hi, bL_append, take_bL, drop_bL]
  simp [bL]
theorem isSl_sl {b o n : Nat} {c : Cap} : isSl (.sl b o n c) = true := rfl
theorem lenD_sl {b o n : Nat} {c : Cap} : lenD (.sl b o n c) = n := rfl
theorem slB_sl {b o n : Nat} {c : Cap} : slB (.sl b o n c) = b := rfl
theorem slO_sl {b o n : Nat} {c : Cap} : slO (.sl b o n c) = o := rfl
theorem subSl_sl {z l r b o n : Nat} {c : Cap} : subSl z l r (.sl b o n c) = .sl b (o + l * z) (r - l) (subCap l c) := rfl
theorem subCap_kn {l k : Nat} : subCap l (.kn k) = .kn (k - l) := rfl
/-- What Lend hands out, with its two borders. -/
def lendB (ys : List UInt8) : List UInt8 := 165 :: (ys ++ [90])
theorem lendB_len (ys : List UInt8) : (lendB ys).length = ys.length + 2 := by simp [lendB]
def lendN (ys : List UInt8) (i : Nat) : List UInt8 := 165 :: (ys.take i ++ (List.replicate (ys.length - i) 0 ++ [90]))
theorem lendN_len (ys : List UInt8) {i : Nat} (hi : i ≤ ys.length) : (lendN ys i).length = ys.length + 2 := by
  simp [lendN]
  omega
theorem lendN_succ (ys : List UInt8) {i : Nat} (hi : i < ys.length) : (lendN ys i).set (i + 1) ys[i] = lendN ys (i + 1) := by
  unfold lendN
  rw [List.set_cons_succ]
  congr 1
  have hl : (ys.take i).length = i := by rw [List.length_take]; omega
  rw [List.set_append_right _ _ (by omega), hl, Nat.sub_self, show ys.length - i = (ys.length - (i + 1)) + 1 by omega, List.replicate_succ, List.cons_append, List.set_cons_zero, List.take_succ_eq_append_getElem hi, List.append_assoc]
  rfl
theorem lendN_zero (ys : List UInt8) : (((List.replicate (ys.length + 2) (0 : UInt8)).set 0 165).set (ys.length + 1) 90) = lendN ys 0 := by
  unfold lendN
  rw [List.replicate_succ, List.set_cons_zero, List.set_cons_succ]
  congr 1
  rw [List.replicate_succ', List.set_append_right _ _ (by simp)]
  simp
theorem lendN_end (ys : List UInt8) : lendN ys ys.length = lendB ys := by simp [lendN, lendB]
theorem lend_x {H : AH} {v : AV} {ys : List UInt8} {F : Nat → Prop} (hv : IsSl RByte F H v ys) (hl : ys.length ≤ 140737488351232) :
    WC Try.prog (tabOf Try.prog NT0) S0 30 [v] H fun r h' => Ext H.n H h' ∧ h'.at H.n = some (.cells (bL (lendB ys)) 5) ∧ r = .tup [.sl H.n 0 (ys.length + 2) (.kn (ys.length + 2)), .sl H.n 1 ys.length (.kn (ys.length + 1))] := by
  refine WC_fn Try.func30 rfl rfl ?_
  have v1 := hv.isSl
  have v2 := hv.lenD
  have hw2 : IntKind.i64.wrap ((ys.length : Int) + 2) = ((ys.length + 2 : Nat) : Int) := (wrap_in (by omega) (by omega)).trans (by omega)
  have hw1 : IntKind.i64.wrap ((ys.length : Int) + 1) = ((ys.length + 1 : Nat) : Int) := (wrap_in (by omega) (by omega)).trans (by omega)
  have c0 : ((0 : Int) ≤ ((ys.length + 2 : Nat) : Int)) = True := by simp only [eq_iff_iff, iff_true]; omega
  have c1 : (((ys.length + 2 : Nat) : Int) ≤ 140737488355328) = True := by simp only [eq_iff_iff, iff_true]; omega
  simp only [core, zrA, zrS, zrM, zrL, zrE, reduceCtorEq, zrD, ziE, ziL, ziN, Try.ntmps30, v1, v2, hw2, a_mkB, mkM, c0, c1, Int.toNat_natCast]
  obtain ⟨h1, hh1⟩ : ∃ h1, h1 = H.push (.cells (bL (List.replicate (ys.length + 2) 0)) 5) := ⟨_, rfl⟩
  have E1 : Ext H.n H h1 := hh1 ▸ (Ext.refl _ _).push _ (Nat.le_refl _)
  have A1 : h1.at H.n = some (.cells (bL (List.replicate (ys.length + 2) 0)) 5) := hh1 ▸ at_push_n _ _
  have l1 := at_lt A1
  rw [← hh1]
  have p1 := put_bL (xs := List.replicate (ys.length + 2) 0) (i := 0) 165 (by simp)
  have p2 := put_bL (xs := (List.replicate (ys.length + 2) 0).set 0 165) (i := ys.length + 1) 90 (by simp)
  rw [lendN_zero] at p2
  rw [show ((165 : UInt8).toNat : Int) = 165 from rfl] at p1
  rw [show ((90 : UInt8).toNat : Int) = 90 from rfl] at p2
  have i1 : (0 < ys.length + 2) = True := by simp
  have i2 : (ys.length + 1 < ys.length + 2) = True := by simp
  simp only [corem, WB_cond_s, put, ldL, WB_label, List.nil_append, List.drop_zero, List.take_zero, zrA, zrS, zrM, zrL, zrE, reduceCtorEq, zrD, ziE, ziL, ziN, -put, hw1, i1, i2, A1, l1, p1, p2, isSl_sl, lenD_sl, slB_sl, slO_sl]
  obtain ⟨h2, hh2⟩ : ∃ h2, h2 = (h1.put H.n (.cells (bL ((List.replicate (ys.length + 2) 0).set 0 165)) 5)).put H.n (.cells (bL (lendN ys 0)) 5) := ⟨_, rfl⟩
  have E2 : Ext H.n H h2 := hh2 ▸ (E1.put _ (Nat.le_refl _)).put _ (Nat.le_refl _)
  have A2 : h2.at H.n = some (.cells (bL (lendN ys 0)) 5) := hh2 ▸ at_put (by rw [n_put]; exact l1)
  rw [← hh2]
  clear hh2
  simp only [core, zrA, zrS, zrM, zrL, zrE, reduceCtorEq, zrD, ziE, ziL, ziN, v1, v2]
  refine WB_for ys.length (fun i t h => (Ext H.n H h ∧ h.at H.n = some (.cells (bL (lendN ys i)) 5)) ∧ t.n = 37 ∧ t.get 0 = v ∧ t.get 4 = .sl H.n 0 (ys.length + 2) (.kn (ys.length + 2)) ∧ t.get 18 = v ∧ t.get 19 = .lit (.int .i64 ys.length) ∧ t.get 20 = .lit (.int .i64 i)) ?_ ?_ _ _ ?_
  · rintro i t h hlt hc ⟨⟨E, A⟩, hn, g0, g4, g18, g19, g20⟩ ih
    have hld := (hv.ext E (Nat.le_refl _)).byteAt (T := tabOf Try.prog NT0) (e := 5) (by kernel_rfl) (by kernel_rfl) hlt
    have hw := wrap_succ hlt (by omega)
    have l := at_lt A
    have p3 := put_bL (xs := lendN ys i) (i := i + 1) ys[i] (by rw [lendN_len ys (by omega)]; omega)
    rw [lendN_succ ys hlt] at p3
    have i3 : (i + 1 < ys.length + 2) = True := by simp only [eq_iff_iff, iff_true]; omega
    simp only [corem, WB_cond_s, put, ldL, WB_label, List.nil_append, List.drop_zero, List.take_zero, zrA, zrS, zrM, zrL, zrE, reduceCtorEq, zrD, ziE, ziL, ziN, -put, hn, g0, g4, g18, g19, g20, v1, v2, hlt, hc, hld, hw, i3, A, l, p3, isSl_sl, lenD_sl, slB_sl, slO_sl]
    refine ih _ _ ⟨⟨E.put _ (Nat.le_refl _), at_put l⟩, ?_⟩
    simp only [core, zrA, zrS, zrM, zrL, zrE, reduceCtorEq, zrD, ziE, ziL, ziN, hn, g0, g4, g18, g19, g20]
  · rintro t h hc ⟨⟨E, A⟩, hn, g0, g4, g18, g19, g20⟩
    rw [lendN_end] at A
    simp only [core, zrA, zrS, zrM, zrL, zrE, reduceCtorEq, zrD, ziE, ziL, ziN, hn, g0, g4, g18, g19, g20, v1, v2, hc]
    have j1 : ((1 : Int) ≤ ((ys.length + 1 : Nat) : Int)) = True := by simp only [eq_iff_iff, iff_true]; omega
    have j2 : (((ys.length + 1 : Nat) : Int) ≤ ((ys.length + 2 : Nat) : Int)) = True := by simp only [eq_iff_iff, iff_true]; omega
    have hcap : CapOk 1 (.sl H.n 0 (ys.length + 2) (.kn (ys.length + 2))) := fun b off n cap e => by cases e; exact Nat.le_refl _
    rw [WB_regionD [0, 1, 2, 3, 4, 5, 6, 7] 9151628954749108224 (by kernel_rfl)]
    repeat ((with_reducible refine WDM_cons ?_; simp only [dw1]; try simp only [dw2, zrA, zrM, zrR, zrO, zrE]); simp only [core, zrA, zrS, zrM, zrL, zrE, reduceCtorEq, zrD, ziE, ziL, ziN, cored, hn, g0, g4, g18, g19, g20, v1, v2, hw1, hcap, j1, j2, isSl_sl, lenD_sl, subSl_sl, subCap_kn, Int.toNat_natCast])
    refine ⟨E, A, ?_⟩
    rw [show ys.length + 1 - 1 = ys.length by omega, show ys.length + 2 - 1 = ys.length + 1 by omega]
  · simp only [core, zrA, zrS, zrM, zrL, zrE, reduceCtorEq, zrD, ziE, ziL, ziN]
    exact ⟨⟨E2, A2⟩, rfl⟩
theorem kept_x {H : AH} {W : Nat} {v : AV} {ys : List UInt8} {F : Nat → Prop} (hW : H.at W = some (.cells (bL (lendB ys)) 5)) (hv : IsSl RByte F H v ys) (hl : ys.length ≤ 140737488351232) :
    WC Try.prog (tabOf Try.prog NT0) S0 32 [.sl W 0 (ys.length + 2) (.kn (ys.length + 2)), v] H fun r h' => h' = H ∧ r = .lit (.bool true) := by
  refine WC_fn Try.func32 rfl rfl ?_
  have v1 := hv.isSl
  have v2 := hv.lenD
  have b2 := hv.bytesOf
  have hw2 : IntKind.i64.wrap ((ys.length : Int) + 2) = ((ys.length + 2 : Nat) : Int) := (wrap_in (by omega) (by omega)).trans (by omega)
  have hw1 : IntKind.i64.wrap ((ys.length : Int) + 1) = ((ys.length + 1 : Nat) : Int) := (wrap_in (by omega) (by omega)).trans (by omega)
  have hcap : CapOk 1 (.sl W 0 (ys.length + 2) (.kn (ys.length + 2))) := fun b off n cap e => by cases e; exact Nat.le_refl _
  have hs : IsSl RByte (fun _ => True) H (.sl W 0 (ys.length + 2) (.kn (ys.length + 2))) (lendB ys) := by
    have := IsSl.mkBytes (F := fun _ => True) (h := H) (xs := lendB ys) (b := W) (off := 0) (cap := .kn (ys.length + 2)) (row := bL (lendB ys)) trivial (by unfold getR; rw [hW]) (by unfold cut; rw [if_pos (by rw [len_bL]; omega), List.drop_zero, take_bL, List.take_length]) (fun b off n cap e => by cases e; show _ ≤ _; rw [lendB_len]; exact Nat.le_refl _)
    rw [lendB_len] at this
    exact this
  have l0 := hs.byteAt (T := tabOf Try.prog NT0) (e := 5) (by kernel_rfl) (by kernel_rfl) (i := 0) (by rw [lendB_len]; omega)
  have l9 := hs.byteAt (T := tabOf Try.prog NT0) (e := 5) (by kernel_rfl) (by kernel_rfl) (i := ys.length + 1) (by rw [lendB_len]; omega)
  rw [show ((lendB ys)[0]'(by rw [lendB_len]; omega)).toNat = 165 from rfl] at l0
  rw [show ((lendB ys)[ys.length + 1]'(by rw [lendB_len]; omega)).toNat = 90 by
    have : (lendB ys)[ys.length + 1]'(by rw [lendB_len]; omega) = 90 := by
      unfold lendB
      rw [List.getElem_cons_succ, List.getElem_append_right (by omega)]
      simp
    rw [this]; rfl] at l9
  rw [show ((165 : Nat) : Int) = 165 from rfl] at l0
  rw [show ((90 : Nat) : Int) = 90 from rfl] at l9
  simp only [slB_sl, slO_sl, Nat.zero_add] at l0 l9
  have b1 : bytesOf H (.sl W 1 ys.length (.kn (ys.length + 1))) = some ys := by
    show bytesAt H W 1 ys.length = _
    unfold bytesAt getR
    rw [hW]
    show (match cut (bL (lendB ys)) 1 ys.length with | some cs => bytesA cs | none => none) = _
    have : cut (bL (lendB ys)) 1 ys.length = some (bL ys) := by
      unfold cut
      rw [if_pos (by rw [len_bL, lendB_len]; omega), drop_bL, take_bL]
      congr 2
      show (ys ++ [90]).take ys.length = ys
      exact List.take_left' rfl
    rw [this]
    exact bytesA_bL ys
  have ce : (((ys.length + 2 : Nat) : Int) == ((ys.length + 2 : Nat) : Int)) = true := beq_self_eq_true _
  have j0 : (0 < ys.length + 2) = True := by simp
  have j3 : (ys.length + 1 < ys.length + 2) = True := by simp
  have j1 : ((1 : Int) ≤ ((ys.length + 1 : Nat) : Int)) = True := by simp only [eq_iff_iff, iff_true]; omega
  have j2 : (((ys.length + 1 : Nat) : Int) ≤ ((ys.length + 2 : Nat) : Int)) = True := by simp only [eq_iff_iff, iff_true]; omega
  have k1 : ((165 : Int) == 165) = true := rfl
  have k2 : ((90 : Int) == 90) = true := rfl
  have m1 : ys.length + 1 - 1 = ys.length := by omega
  have m2 : ys.length + 2 - 1 = ys.length + 1 := by omega
  have b1' : bytesAt H W 1 ys.length = some ys := b1
  rcases hv.bytesRow with ⟨rfl, -⟩ | ⟨b, off, cap, row, rfl, -⟩
  · simp only [core, zrA, zrS, zrM, zrL, zrE, reduceCtorEq, zrD, ziE, ziL, ziN, Try.ntmps32]
    rw [WB_regionD [0, 1, 2, 3, 4, 5, 6, 7, 8, 9, 10, 11, 12, 13, 14, 15, 16, 17, 18, 19, 20, 21, 22, 23, 24, 25, 26, 27, 28, 29, 30, 31, 32] 3316158517607899679322832364493539038177872038767581870018213529943937095721815070382723672233758677204053503949569435208963237486165269667908292222187668737702770531331608177760204158528317791446644047949605569471554244120325392070395037950579657876031929078980330764349370539947397177499358909260510378014764161982833371381760 (by kernel_rfl)]
    repeat ((with_reducible refine WDM_cons ?_; simp only [dw1]; try simp only [dw2, zrA, zrM, zrR, zrO, zrE]); simp only [core, zrA, zrS, zrM, zrL, zrE, reduceCtorEq, zrD, ziE, ziL, ziN, cored, v1, v2, hw1, hw2, hcap, ce, j0, j1, j2, j3, l0, l9, k1, k2, isSl_sl, lenD_sl, slB_sl, slO_sl, subSl_sl, subCap_kn, m1, m2, a_conB, b1, b2, conB, pb_seql, b1', same_str, same_int, lit_con, Int.toNat_natCast])
  · have b2' : bytesAt H b off ys.length = some ys := b2
    simp only [core, zrA, zrS, zrM, zrL, zrE, reduceCtorEq, zrD, ziE, ziL, ziN, Try.ntmps32]
    rw [WB_regionD [0, 1, 2, 3, 4, 5, 6, 7, 8, 9, 10, 11, 12, 13, 14, 15, 16, 17, 18, 19, 20, 21, 22, 23, 24, 25, 26, 27, 28, 29, 30, 31, 32] 3316158517607899679322832364493539038177872038767581870018213529943937095721815070382723672233758677204053503949569435208963237486165269667908292222187668737702770531331608177760204158528317791446644047949605569471554244120325392070395037950579657876031929078980330764349370539947397177499358909260510378014764161982833371381760 (by kernel_rfl)]
    repeat ((with_reducible refine WDM_cons ?_; simp only [dw1]; try simp only [dw2, zrA, zrM, zrR, zrO, zrE]); simp only [core, zrA, zrS, zrM, zrL, zrE, reduceCtorEq, zrD, ziE, ziL, ziN, cored, v1, v2, hw1, hw2, hcap, ce, j0, j1, j2, j3, l0, l9, k1, k2, isSl_sl, lenD_sl, slB_sl, slO_sl, subSl_sl, subCap_kn, m1, m2, a_conB, b1, b2, conB, pb_seql, b1', b2', same_str, same_int, Int.toNat_natCast])
end Go.Proofs.Ytcnbamdmngaliaa.Ex
end

section

set_option linter.unusedSimpArgs false
set_option linter.unusedVariables false
set_option maxRecDepth 10000
set_option maxHeartbeats 4000000
namespace Go.Proofs.Ytcnbamdmngaliaa.Ex
open Go
/-- A round of a range over a function. -/
def WR (P : Program) (T : TT) (S : Sums) (l : Nat) (args : List AV) (h : AH) (Q : AV → AH → Prop) : Prop := W P T S (.round l args) h fun x h2 => ∃ v cm, x = .ended (.ret v) cm ∧ Q v h2
theorem WR.mono {P : Program} {T : TT} {S : Sums} {l : Nat} {args : List AV} {h : AH} {Q Q' : AV → AH → Prop} (hw : WR P T S l args h Q) (hq : ∀ v h', Q v h' → Q' v h') : WR P T S l args h Q' := W.mono hw fun o h' ⟨v, cm, e, hv⟩ => ⟨v, cm, e, hq v h' hv⟩
theorem call_yield {P : Program} {l : Nat} {args : List AV} : callA P (.fn (.yield l) [] []) args = some (.round l args) := rfl
theorem WOpD_round {P : Program} {T : TT} {S : Sums} {E : FE} {t : TM} {ops : Array Oper} {M : MO ops} {i : Nat} {o : Oper} {l : List Nat} {rs : List (Nat × RD × AV)} {k : List AI} {K : KK} {g : Nat} {a : List AV} {h1 : AH} :
    WOpD P T S E t M i o l rs k K .acts (some (.round g a, h1)) = WR P T S g a h1 fun v h2 => WDM P T S E (setTmp t o.dst v) M l rs k h2 K := rfl
section
variable {P : Program} {T : TT} {S : Sums} {E : FE} {t : TM} {k : List AI} {h : AH} {K : KK}
/-- A range over a function; its loop has a name. -/
theorem WB_rangeW {f : Operand} {ps : Array Tmp} {a b : Code} {fv : AV} {g : FuncId} {args : List AV} (hro : E.ro = none) (hf : evalA t f = some fv) (hc : callA P fv [.fn (.yield (h.n + 1)) [] []] = some (.enter g args))
    (hw : ∀ LO : ALoop, LO = ⟨.ready, none, E.fn, t, ps.toList, a, b⟩ → WC P T S g args ((h.push .defd).push (.loop LO)) fun _ h2 =>
      ∃ lo, h2.at (h.n + 1) = some (.loop lo) ∧ lo.state ≠ .busy ∧ WB P T S { E with defers := .coll h.n :: E.defers } t ((lo.pending.map AI.code).toList ++ k) (h2.put (h.n + 1) (.loop { lo with state := .exhausted })) fun j t' h' => h'.at h.n = some .defd ∧ K j t' (h'.put h.n .gone)) :
    WB P T S E t (.code (.rangeFunc f ps a b) :: k) h K := WB_rangeFunc hro hf hc (hw _ rfl)
theorem WR_round {l : Nat} {LO : ALoop} {fn : FuncId} {ps : List Tmp} {a b : Code} {args : List AV} {Q : AV → AH → Prop} (e : LO = ⟨.ready, none, fn, t, ps, a, b⟩) (hl : h.at l = some (.loop LO)) (hn : args.length = ps.length)
    (hw : WB P T S { fn := fn, ro := some l } (setParams t ps args) [.code a, .beginRound, .code b] h fun j _ h' =>
      ∃ lo', h'.at l = some (.loop lo') ∧ Q (.lit (.bool j.isNone)) (h'.put l (.loop { lo' with state := if j.isNone then .ready else .done, pending := j }))) : WR P T S l args h Q := by
  subst e
  exact W_round hl hn hw
theorem sp_cons {i : Nat} {ts : List Tmp} {v : AV} {vs : List AV} : setParams t (i :: ts) (v :: vs) = setParams (t.set i v) ts vs := rfl
theorem sp_nil : setParams t [] [] = t := rfl
def busyL (LO : ALoop) : ALoop := { LO with state := .busy }
theorem WB_beginL {l : Nat} {LO : ALoop} {fn : FuncId} {t0 : TM} {ps : List Tmp} {a b : Code} (e : LO = ⟨.ready, none, fn, t0, ps, a, b⟩) (hro : E.ro = some l) (hl : h.at l = some (.loop LO)) (hw : WB P T S E t k (h.put l (.loop (busyL LO))) K) : WB P T S E t (.beginRound :: k) h K := by
  subst e
  exact WB_begin hro hl rfl hw
end
end Go.Proofs.Ytcnbamdmngaliaa.Ex
end

section

set_option linter.unusedSimpArgs false
set_option linter.unusedVariables false
set_option maxRecDepth 10000
set_option maxHeartbeats 4000000
namespace Go.Proofs.Ytcnbamdmngaliaa.Ex
open Go
theorem recordsJ_x {X : Nat → Prop} {H : AH} {j d : Nat} {size base synced limit torn : Int} {bs : List UInt8} {l : RecL} (hp : PS X H j d size base synced limit torn bs l) (hl : l.length ≤ 100000000) :
    WC Try.prog (tabOf Try.prog NT0) S0 42 [.ptr j 0] H fun r h' => Ext H.n H h' ∧ r = .fn (.func 58) [] [.ptr H.n 0] ∧ ∃ vl', h'.at H.n = some (.cells [vl'] 61) ∧ IsSl RRec (fun b => b < h'.n) h' vl' l := by
  refine WC_fn Try.func42 rfl rfl ?_
  obtain ⟨v, vl, hd, hj, ho, xv, xl, hL⟩ := hp.e
  have hj' := hj
  have lj := at_lt hj
  have hI : IsSl RRec X H vl l := own_sl hL xl fun b h => h.1
  have s1 := hI.isSl
  have s2 := hI.lenD
  simp only [core, zrA, zrS, zrM, zrL, zrE, reduceCtorEq, zrD, ziE, ziL, ziN, Try.ntmps42]
  obtain ⟨h1, hh1⟩ : ∃ h1, h1 = H.push (.cells [.lit (.slice none 0 0)] 61) := ⟨_, rfl⟩
  have E1 : Ext H.n H h1 := hh1 ▸ (Ext.refl _ _).push _ (Nat.le_refl _)
  have A1 : h1.at H.n = some (.cells [.lit (.slice none 0 0)] 61) := hh1 ▸ at_push_n _ _
  have n1 : h1.n = H.n + 1 := hh1 ▸ n_push _ _
  rw [← hh1]
  have hj1 := E1.at lj hj
  refine (is_x hj1).mono ?_
  rintro _ h2 ⟨e1, rfl⟩
  replace e1 := e1.symm
  subst e1
  unfold jnC at hj1
  have L1 := ld_at (T := tabOf Try.prog NT0) hj1
  have lj1 := at_lt hj1
  have LA := ld_at (T := tabOf Try.prog NT0) A1
  have la := at_lt A1
  simp only [core, zrA, zrS, zrM, zrL, zrE, reduceCtorEq, zrD, ziE, ziL, ziN]
  have sn : isSl (.lit (.slice none 0 0)) = true := rfl
  rw [WB_regionD [0, 1, 2, 3, 4, 5, 6] 278145852801024 (by kernel_rfl)]
  repeat ((with_reducible refine WDM_cons ?_; simp only [dw1]; try simp only [dw2, zrA, zrM, zrR, zrO, zrE]); simp only [core, zrA, zrS, zrM, zrL, zrE, reduceCtorEq, zrD, ziE, ziL, ziN, cored, L1, lj1, LA, la, s1, sn, same_sl])
  refine WOpD_app (recs_copy (hI.ext E1 (Nat.le_refl _)) hl) ?_
  rintro s3 h3 ⟨o3, E3⟩
  have A3 := E3.at la A1
  have la3 := at_lt A3
  have hj3 := E3.at lj1 hj1
  have L3 := ld_at (T := tabOf Try.prog NT0) hj3
  have lj3 := at_lt hj3
  have LA3 := ld_at (T := tabOf Try.prog NT0) A3
  have u1 := o3.isSl
  have u2 := o3.one
  repeat ((with_reducible refine WDM_cons ?_; simp only [dw1]; try simp only [dw2, zrA, zrM, zrR, zrO, zrE]); simp only [core, zrA, zrS, zrM, zrL, zrE, reduceCtorEq, zrD, ziE, ziL, ziN, cored, A3, la3, L3, lj3, LA3, u1, u2, s1, sn, same_sl, same_one])
  have n3 := E3.1
  refine ⟨(E1.trans (E3.mono (by omega))).put _ (Nat.le_refl _), s3, rfl, ?_⟩
  have hs3 : IsSl RRec (fun b => X b ∨ h1.n ≤ b) h3 s3 l := own_sl o3 (fun b off n cap e => by
    obtain ⟨L, q1, q2⟩ := o3
    rcases q1.2 with ⟨hh, _⟩ | ⟨p, hh, hp, hat⟩
    · rw [hh] at e; cases e
    · rw [hh] at e; cases e; exact .inr hp) fun b h => .inl h
  exact hs3.lift fun b hb hlt => ⟨at_put_ne _ (fun e => by
    rcases hb with h | h
    · have := hp.lt b h; omega
    · omega), hlt⟩
theorem records1_x {F : Nat → Prop} {H : AH} {s : AV} {l : RecL} {q lp : Nat} (hp : H.at q = some (.cells [s] 61)) (hv : IsSl RRec F H s l) (hl : l.length ≤ 100000000) (hb : ∀ x ∈ l, x.2.length ≤ 100000000)
    (J : Nat → AH → Prop) (R : AH → Prop) (hJ : ∀ i h, J i h → Ext H.n H h) (hE : ∀ i h h', J i h → Ext h.n h h' → J i h')
    (hr : ∀ i x h0 h vb, l[i]? = some x → J i h0 → Ext h0.n h0 h → IsSl RByte (fun b => h0.n ≤ b) h vb x.2 → WR Try.prog (tabOf Try.prog NT0) S0 lp [.lit (.int .i64 x.1), vb] h fun r h2 => ∃ b, r = .lit (.bool b) ∧ (b = true → J (i + 1) h2) ∧ (b = false → R h2))
    {h : AH} (h0 : J 0 h) : WC Try.prog (tabOf Try.prog NT0) S0 58 [.fn (.yield lp) [] [], .ptr q 0] h fun _ h2 => J l.length h2 ∨ R h2 := by
  refine WC_fn Try.func58 rfl rfl ?_
  have s1 := hv.isSl
  have s2 := hv.lenD
  have E0 := hJ _ _ h0
  have P0 := E0.at (at_lt hp) hp
  have LP0 := ld_at (T := tabOf Try.prog NT0) P0
  have lp0 := at_lt P0
  simp only [core, zrA, zrS, zrM, zrL, zrE, reduceCtorEq, zrD, ziE, ziL, ziN, Try.ntmps58, s1, s2, LP0, lp0]
  refine WB_for l.length (fun i t h => J i h ∧ t.n = 20 ∧ t.get 0 = .fn (.yield lp) [] [] ∧ t.get 1 = .ptr q 0 ∧ t.get 5 = s ∧ t.get 6 = .lit (.int .i64 l.length) ∧ t.get 7 = .lit (.int .i64 i)) ?_ ?_ _ _ ?_
  · rintro i t h hlt hc ⟨hj, hn, g0, g1, g5, g6, g7⟩ ih
    have E := hJ _ _ hj
    obtain ⟨x, hx⟩ : ∃ x, l[i]? = some x := ⟨_, List.getElem?_eq_getElem hlt⟩
    have hw := wrap_succ hlt (by omega)
    obtain ⟨c, hc1, hld, hld0⟩ := hv.atE (T := tabOf Try.prog NT0) E RRec_z hx
    obtain ⟨vb, rfl, hvb, hx0⟩ := RRec_is.1 hc1
    have b1 := hvb.isSl
    have b2 := hvb.one
    have b3 := hvb.cells
    simp only [core, zrA, zrS, zrM, zrL, zrE, reduceCtorEq, zrD, ziE, ziL, ziN, s1, s2, hn, g0, g1, g5, g6, g7, hlt, hc, hw, hld, hld0, b1, b2, b3]
    obtain ⟨h1, hh1⟩ : ∃ h1, h1 = h.push (.cells [.lit (.int .i64 x.1), vb] 84) := ⟨_, rfl⟩
    have e1 : Ext h.n h h1 := hh1 ▸ (Ext.refl _ _).push _ (Nat.le_refl _)
    have X1 : h1.at h.n = some (.cells [.lit (.int .i64 x.1), vb] 84) := hh1 ▸ at_push_n _ _
    have nx1 := at_lt X1
    have LX1 := ld_at (T := tabOf Try.prog NT0) X1
    rw [← hh1]
    clear hh1
    rw [WB_regionD [0, 1, 2, 3, 4, 5, 6, 7] 9169073788988555264 (by kernel_rfl)]
    repeat ((with_reducible refine WDM_cons ?_; simp only [dw1]; try simp only [dw2, zrA, zrM, zrR, zrO, zrE]); simp only [core, zrA, zrS, zrM, zrL, zrE, reduceCtorEq, zrD, ziE, ziL, ziN, cored, hn, g0, g1, g5, g6, g7, LX1, nx1, b1, b2, b3, same_sl])
    refine WOpD_app (OwnB.app (n0 := h1.n) .nil (hvb.ext (E.trans (e1.mono E.1)) (Nat.le_refl _)) (by have := hb x (List.mem_of_getElem? hx); simp only [List.length_nil]; omega) (Nat.le_refl _)) ?_
    rintro s3 h3 ⟨o3, e3⟩
    rw [List.nil_append] at o3
    have n1 := e1.1
    have e13 := e1.trans (e3.mono e1.1)
    have X3 := e3.at nx1 X1
    have nx3 := at_lt X3
    have LX3 := ld_at (T := tabOf Try.prog NT0) X3
    have u1 := o3.isSl
    have u2 := o3.one
    repeat ((with_reducible refine WDM_cons ?_; simp only [dw1]; try simp only [dw2, zrA, zrM, zrR, zrO, zrE]); simp only [core, zrA, zrS, zrM, zrL, zrE, reduceCtorEq, zrD, ziE, ziL, ziN, cored, hn, g0, g1, g5, g6, g7, LX3, nx3, b1, b2, b3, u1, u2, same_sl, same_int, WOpD_round, call_yield])
    refine (hr i x h h3 s3 hx hj e13 (o3.toSl (fun _ h => h.elim) fun b h => by omega)).mono ?_
    rintro _ h5 ⟨b, rfl, k1, k2⟩
    cases b with
    | true =>
      repeat ((with_reducible refine WDM_cons ?_; simp only [dw1]; try simp only [dw2, zrA, zrM, zrR, zrO, zrE]); simp only [core, zrA, zrS, zrM, zrL, zrE, reduceCtorEq, zrD, ziE, ziL, ziN, cored, hn, g0, g1, g5, g6, g7, hw])
      refine ih _ _ ⟨k1 rfl, ?_⟩
      simp only [core, zrA, zrS, zrM, zrL, zrE, reduceCtorEq, zrD, ziE, ziL, ziN, hn, g0, g1, g5, g6, g7]
    | false =>
      repeat ((with_reducible refine WDM_cons ?_; simp only [dw1]; try simp only [dw2, zrA, zrM, zrR, zrO, zrE]); simp only [core, zrA, zrS, zrM, zrL, zrE, reduceCtorEq, zrD, ziE, ziL, ziN, cored, hn, g0, g1, g5, g6, g7, hw])
      exact .inr (k2 rfl)
  · rintro t h hc ⟨hj, hn, g0, g1, g5, g6, g7⟩
    simp only [core, zrA, zrS, zrM, zrL, zrE, reduceCtorEq, zrD, ziE, ziL, ziN, s1, s2, hn, g0, g1, g5, g6, g7, hc]
    exact ⟨by simp, .inl hj⟩
  · simp only [core, zrA, zrS, zrM, zrL, zrE, reduceCtorEq, zrD, ziE, ziL, ziN]
    exact ⟨h0, rfl⟩
end Go.Proofs.Ytcnbamdmngaliaa.Ex
end

section

set_option linter.unusedSimpArgs false
set_option linter.unusedVariables false
set_option maxRecDepth 10000
set_option maxHeartbeats 4000000
namespace Go.Proofs.Ytcnbamdmngaliaa.Ex
open Go
section
variable {P : Program} {T : TT} {t : TM} {h : AH} {d : Option Tmp} {ty : TypeId} {ps : String} {af : Array Edge} {g : Option (Nat × Bool)} {e : TypeId}
def isFnT (T : TT) (t : TypeId) : Bool := match und T t with
  | some (.func ..) => true
  | _ => false
/-- A function held against nil. -/
theorem a_eqnilf {i : Nat} {f : TypeId} (hT : isFnT T e = true) : aop P T ⟨d, .binOp .eql e (.tmp i) (.const .nilFunc) f, ty, ps, af, g⟩ t h = (match t.get i with
    | .fn (.func _) [] (_ :: _) => some (.val (.lit (.bool false)), h)
    | _ => aBin P T ⟨d, .binOp .eql e (.tmp i) (.const .nilFunc) f, ty, ps, af, g⟩ t h .eql e (.tmp i) (.const .nilFunc)) := by
  rw [a_bin]
  split
  · rename_i k c cs hv
    unfold isFnT at hT
    split at hT
    case h_2 => cases hT
    rename_i hu
    have hl : litOp P ⟨d, .binOp .eql e (.tmp i) (.const .nilFunc) f, ty, ps, af, g⟩ t = none := by
      unfold litOp
      rw [if_neg]
      simp [Op.operands, litAll, ev_tmp, hv, toVal]
    unfold aBin
    simp only [ev_tmp, hv, ev_nilf]
    simp only [orLit, hl, aSame, hu, ev_tmp, hv, ev_nilf, sameA]
  · rfl
end
theorem rdR_append (at_ : Int) (x : Int × List UInt8) : ∀ l : RecL, rdR at_ (l ++ [x]) = if (rdR at_ l).2 = 0 then rdR at_ l else if x.1 = at_ then (x.2, 0) else ([], 2)
  | [] => by
    show rdR at_ [x] = if (2 : Int) = 0 then _ else _
    rw [if_neg (by decide)]
    rfl
  | y :: l => by
    have ih := rdR_append at_ x l
    show (if y.1 = at_ then (y.2, 0) else rdR at_ (l ++ [x])) = if (rdR at_ (y :: l)).2 = 0 then rdR at_ (y :: l) else _
    by_cases c : y.1 = at_
    · rw [show rdR at_ (y :: l) = (y.2, 0) from if_pos c, if_pos c, if_pos rfl]
    · rw [show rdR at_ (y :: l) = rdR at_ l from if_neg c, if_neg c, ih]
theorem rdR_none {at_ : Int} : ∀ {l : RecL}, (∀ x ∈ l, x.1 ≠ at_) → rdR at_ l = ([], 2)
  | [], _ => rfl
  | x :: l, h => by
    show (if x.1 = at_ then (x.2, (0 : Int)) else rdR at_ l) = _
    rw [if_neg (h x (by simp)), rdR_none fun y hy => h y (by simp [hy])]
/-- Each record is found at its place. -/
theorem stp_rdR {at0 a : Int} {bs r : List UInt8} {l : RecL} (h : Stp at0 bs l a r) : ∀ x ∈ l, rdR x.1 l = (x.2, 0) := by
  induction h with
  | nil => simp
  | snoc h hu ih =>
    rename_i l a r c n
    intro x hx
    rw [List.mem_append, List.mem_singleton] at hx
    rw [rdR_append]
    rcases hx with hx | rfl
    · rw [ih x hx]
      simp
    · rw [rdR_none fun y hy => by have := stp_item h y hy; dsimp only; omega]
      simp
theorem full_first {base a : Int} {bs : List UInt8} {l : RecL} (h : Stp base bs l a []) : (l = [] → a = base) ∧ ∀ x l', l = x :: l' → x.1 = base := by
  refine ⟨fun e => ?_, fun x l' e => ?_⟩
  · rcases h.head with ⟨-, e2, -⟩ | ⟨c, n, l2, -, e2, -⟩
    · exact e2
    · rw [e] at e2; cases e2
  · rcases h.head with ⟨e2, -⟩ | ⟨c, n, l2, -, e2, -⟩
    · rw [e] at e2; cases e2
    · rw [e] at e2; cases e2; rfl
structure St (n0 p : Nat) (B : Int) (h : AH) (X Y : Nat → Prop) (j d k e : Nat) (size base synced limit torn : Int) (bs : List UInt8) (l : RecL) : Prop where
  pr : h.at p = some (.cells [.ptr d 0, .ptr j 0, .ptr e 0, .ptr k 0] 40)
  ps : PS X h j d size base synced limit torn bs l
  ds : DS Y h k e size base synced limit torn bs
  dj : ∀ b, X b → ¬ Y b
  pX : ¬ X p
  pY : ¬ Y p
  n0 : ∀ b, X b ∨ Y b ∨ b = p → n0 ≤ b
  ok : DOk size base bs synced limit
  full : Full base bs l (base + bs.length) []
  b : base + bs.length ≤ B
theorem St.ext {n0 p : Nat} {B : Int} {h h' : AH} {X Y : Nat → Prop} {j d k e : Nat} {size base synced limit torn : Int} {bs : List UInt8} {l : RecL} (s : St n0 p B h X Y j d k e size base synced limit torn bs l) (E : Ext h.n h h') : St n0 p B h' X Y j d k e size base synced limit torn bs l :=
  ⟨E.at (at_lt s.pr) s.pr, s.ps.ext E, s.ds.ext E, s.dj, s.pX, s.pY, s.n0, s.ok, s.full, s.b⟩
theorem St.len {n0 p : Nat} {B : Int} {h : AH} {X Y : Nat → Prop} {j d k e : Nat} {size base synced limit torn : Int} {bs : List UInt8} {l : RecL} (s : St n0 p B h X Y j d k e size base synced limit torn bs l) : l.length ≤ 100000000 ∧ bs.length ≤ 67108864 ∧ ∀ x ∈ l, x.2.length ≤ 100000000 := by
  have h1 := stp_count s.full.1
  have h2 := s.ok.l
  have h3 := s.ok.s
  refine ⟨by omega, by omega, fun x hx => ?_⟩
  have := stp_item s.full.1 x hx
  omega
theorem alike_x {n0 p : Nat} {B : Int} {H : AH} {X Y : Nat → Prop} {j d k e : Nat} {size base synced limit torn : Int} {bs : List UInt8} {l : RecL} (s : St n0 p B H X Y j d k e size base synced limit torn bs l) :
    WC Try.prog (tabOf Try.prog NT0) S0 17 [.ptr p 0] H fun r h' => Ext H.n H h' ∧ r = .lit (.bool true) := by
  refine WC_fn Try.func17 rfl rfl ?_
  have hlen := s.len
  have hkb := s.ok.b
  have hks := s.ok.s
  have hpr := s.pr
  have lpr := at_lt hpr
  have LPR := ld_at (T := tabOf Try.prog NT0) hpr
  simp only [core, zrA, zrS, zrM, zrL, zrE, reduceCtorEq, zrD, ziE, ziL, ziN, Try.ntmps17, LPR, lpr]
  obtain ⟨h1, hh1⟩ : ∃ h1, h1 = (H.push (.cells [.ptr p 0] 36)).push (.cells [.lit (.bool false)] 4) := ⟨_, rfl⟩
  have E1 : Ext H.n H h1 := hh1 ▸ ((Ext.refl _ _).push _ (Nat.le_refl _)).push _ (by rw [n_push]; omega)
  have A1 : h1.at H.n = some (.cells [.ptr p 0] 36) := by rw [hh1, at_push_lt _ (by rw [n_push]; omega)]; exact at_push_n _ _
  have B1 : h1.at (H.n + 1) = some (.cells [.lit (.bool false)] 4) := by
    have := at_push_n (H.push (.cells [.ptr p 0] 36)) (.cells [.lit (.bool false)] 4)
    rw [n_push] at this
    rw [hh1]; exact this
  have n1 : h1.n = H.n + 2 := by rw [hh1, n_push, n_push]
  rw [← hh1]
  have S1 := s.ext E1
  obtain ⟨ue, he1, hue⟩ := S1.ds.es
  have LP1 := ld_at (T := tabOf Try.prog NT0) S1.pr
  have lp1 := at_lt S1.pr
  simp only [core, zrA, zrS, zrM, zrL, zrE, reduceCtorEq, zrD, ziE, ziL, ziN, LP1, lp1]
  refine (recordsE_x S1.ds.ks he1 hkb hue (by omega)).mono ?_
  rintro _ h2 ⟨E2, l', a', rest', vE, hf', rfl, hR⟩
  obtain ⟨rfl, rfl, rfl⟩ := Full.uniq l l' s.full hf'
  have n2 := E2.1
  have r2 := hR.one
  have r1 := hR.isSl
  have r3 := hR.lenD
  simp only [core, zrA, zrS, zrM, zrL, zrE, reduceCtorEq, zrD, ziE, ziL, ziN, r2]
  obtain ⟨h3, hh3⟩ : ∃ h3, h3 = h2.push (.cells [vE] 71) := ⟨_, rfl⟩
  have E3 : Ext h2.n h2 h3 := hh3 ▸ (Ext.refl _ _).push _ (Nat.le_refl _)
  have A3 : h3.at h2.n = some (.cells [vE] 71) := hh3 ▸ at_push_n _ _
  have n3 : h3.n = h2.n + 1 := by rw [hh3, n_push]
  rw [← hh3]
  have E13 := E2.trans (E3.mono n2)
  have S3 := S1.ext E13
  have LP3 := ld_at (T := tabOf Try.prog NT0) S3.pr
  have lp3 := at_lt S3.pr
  have C3 := E13.at (by omega) A1
  have LC3 := ld_at (T := tabOf Try.prog NT0) C3
  have lc3 := at_lt C3
  simp only [core, zrA, zrS, zrM, zrL, zrE, reduceCtorEq, zrD, ziE, ziL, ziN, LP3, lp3, LC3, lc3]
  refine (recordsJ_x S3.ps hlen.1).mono ?_
  rintro _ h4 ⟨E4, rfl, vJ, Q4, hJ4⟩
  have n4 := E4.1
  have E14 := E13.trans (E4.mono (by omega))
  have S4 := S1.ext E14
  obtain ⟨v4, vl4, hd4, hj4, ho4, -, -, hL4⟩ := S4.ps.e
  obtain ⟨u4, he4, hu4⟩ := S4.ds.es
  have LP4 := ld_at (T := tabOf Try.prog NT0) S4.pr
  have lp4 := at_lt S4.pr
  have C4 := E14.at (by omega) A1
  have LC4 := ld_at (T := tabOf Try.prog NT0) C4
  have lc4 := at_lt C4
  have V4 := E4.at (by omega) A3
  have LV4 := ld_at (T := tabOf Try.prog NT0) V4
  have lv4 := at_lt V4
  have he4' := he4
  unfold ekC at he4'
  have LE4 := ld_at (T := tabOf Try.prog NT0) he4'
  have le4 := at_lt he4'
  have d1 := ho4.isSl
  have d2 := ho4.lenD
  have f1 := hL4.isSl
  have f2 := hL4.lenD
  have g1' := hu4.isSl
  have g2' := hu4.lenD
  have hfn : isFnT (tabOf Try.prog NT0) 80 = true := by kernel_rfl
  have ce : ((l.length : Int) != (l.length : Int)) = false := bne_self_eq_false _
  have ce2 : (base + (bs.length : Int) != base + (bs.length : Int)) = false := bne_self_eq_false _
  have ce3 : (synced != synced) = false := bne_self_eq_false _
  have ce4 : (base != base) = false := bne_self_eq_false _
  simp only [core, zrA, zrS, zrM, zrL, zrE, reduceCtorEq, zrD, ziE, ziL, ziN]
  rw [WB_regionD (0 :: 1 :: 2 :: 3 :: 4 :: 5 :: 6 :: 8 :: 9 :: 7 :: 10 :: 11 :: 12 :: 13 :: 14 :: 15 :: 16 :: 18 :: 17 :: 19 :: 20 :: 21 :: 22 :: 23 :: 24 :: 25 :: 27 :: 28 :: 29 :: 30 :: 31 :: 32 :: 33 :: 26 :: 34 :: 35 :: 36 :: 37 :: 38 :: 39 :: 40 :: 42 :: 43 :: 44 :: 45 :: 46 :: 47 :: 48 :: 41 :: 49 :: 50 :: 51 :: 52 :: 53 :: 54 :: 55 :: 57 :: 58 :: 59 :: 60 :: 56 :: 61 :: 62 :: 63 :: 64 :: 65 :: 66 :: 67 :: 68 :: 70 :: 71 :: 72 :: 73 :: 74 :: 75 :: 76 :: 69 :: 77 :: 78 :: []) 2674071055972673410881193497921042309271007242744192760670160228554381049459218276322596023774023646357432308037550636070586246774457048643257574746859980796182093512027791167353810006609616807420934155677895466462239783478273154602051919110427865347067697545713021752036493726100223541076238594974654965256361309565529580873332901556211951057178933892800384278996578401283468826497985369570035440664163393794259214361564503645423160486316834716277780049996252583753815877884530747297669836928456966777990815631930644315025631200335935898834194799442125786794764509705557544282379447217476818350626798723782233848555793058656470567780652081134119618937808641312627271353884633764698630150773430739574881616963541763789700634703774688624464992279298821748151499667230464923689139861665265783219315817370160945629397536053749219863058937367522660304113229202444008434001456200797809960196059623953001910769301625747626927132293890772400692173570059188670343647054734447025544783016254879704498556658475155183829663887919041575499006878041700525835169809349622647305799204278357048054540980446590356680150845697970649094995415833863347164793871748574931617936010343359825158545594252581342273446973394386521088514761721143705189915989421772163181461177025139573950575945775959117451847523798843248422204973523554934746447990257384657193669888413888259152990985887025512573588773951444104357917504597972858158461988425224215739777530975987313122079564141388105180961971422277304959776184349651967292036242722674589347945920088010658873786654725350540391101848213569867206909672385343313239250988261098631419313259327738823034238552650377276046607614609020999068063564080604126891974948909571480325597117847230156978912624374478205574410607743582611542978808657751145946759508592130078457616909669959780665377211292082254595414410025273098895547119021059452218123593961783656567537664 (by kernel_rfl)]
  repeat ((with_reducible refine WDM_cons ?_; simp only [dw1, List.append]; try simp only [dw2, zrA, zrM, zrR, zrO, zrE]); simp only [core, zrA, zrS, zrM, zrL, zrE, reduceCtorEq, zrD, ziE, ziL, ziN, cored, LP4, lp4, LC4, lc4, LV4, lv4, LE4, le4, r1, r3, a_eqnilf, hfn, same_one, same_sl, same_int])
  refine (count_x hj4 f1 f2).mono ?_
  rintro _ hh ⟨e0, rfl⟩
  replace e0 := e0.symm
  subst e0
  repeat ((with_reducible refine WDM_cons ?_; simp only [dw1, List.append]; try simp only [dw2, zrA, zrM, zrR, zrO, zrE]); simp only [core, zrA, zrS, zrM, zrL, zrE, reduceCtorEq, zrD, ziE, ziL, ziN, cored, LP4, lp4, LC4, lc4, LV4, lv4, LE4, le4, r1, r3, ce, same_one, same_sl, same_int])
  refine (endJ_x hj4 hd4 hks.1 d1 d2 hkb (by omega)).mono ?_
  rintro _ hh ⟨e0, rfl⟩
  replace e0 := e0.symm
  subst e0
  repeat ((with_reducible refine WDM_cons ?_; simp only [dw1, List.append]; try simp only [dw2, zrA, zrM, zrR, zrO, zrE]); simp only [core, zrA, zrS, zrM, zrL, zrE, reduceCtorEq, zrD, ziE, ziL, ziN, cored, LP4, lp4, LC4, lc4, LV4, lv4, LE4, le4, r1, r3, ce2, same_one, same_sl, same_int])
  refine (syncedJ_x hj4 hd4 hks.1).mono ?_
  rintro _ hh ⟨e0, rfl⟩
  replace e0 := e0.symm
  subst e0
  repeat ((with_reducible refine WDM_cons ?_; simp only [dw1, List.append]; try simp only [dw2, zrA, zrM, zrR, zrO, zrE]); simp only [core, zrA, zrS, zrM, zrL, zrE, reduceCtorEq, zrD, ziE, ziL, ziN, cored, LP4, lp4, LC4, lc4, LV4, lv4, LE4, le4, r1, r3, ce3, same_one, same_sl, same_int])
  refine (base_x hd4 hks.1).mono ?_
  rintro _ hh ⟨e0, rfl⟩
  replace e0 := e0.symm
  subst e0
  repeat ((with_reducible refine WDM_cons ?_; simp only [dw1, List.append]; try simp only [dw2, zrA, zrM, zrR, zrO, zrE]); simp only [core, zrA, zrS, zrM, zrL, zrE, reduceCtorEq, zrD, ziE, ziL, ziN, cored, LP4, lp4, LC4, lc4, LV4, lv4, LE4, le4, r1, r3, ce4, same_one, same_sl, same_int])
  refine (end_x hd4 hks.1 d1 d2 hkb (by omega)).mono ?_
  rintro _ hh ⟨e0, rfl⟩
  replace e0 := e0.symm
  subst e0
  repeat ((with_reducible refine WDM_cons ?_; simp only [dw1, List.append]; try simp only [dw2, zrA, zrM, zrR, zrO, zrE]); simp only [core, zrA, zrS, zrM, zrL, zrE, reduceCtorEq, zrD, ziE, ziL, ziN, cored, LP4, lp4, LC4, lc4, LV4, lv4, LE4, le4, r1, r3, same_one, same_sl, same_int])
  refine (endE_x he4 g1' g2' hkb (by omega)).mono ?_
  rintro _ hh ⟨e0, rfl⟩
  replace e0 := e0.symm
  subst e0
  repeat ((with_reducible refine WDM_cons ?_; simp only [dw1, List.append]; try simp only [dw2, zrA, zrM, zrR, zrO, zrE]); simp only [core, zrA, zrS, zrM, zrL, zrE, reduceCtorEq, zrD, ziE, ziL, ziN, cored, LP4, lp4, LC4, lc4, LV4, lv4, LE4, le4, r1, r3, ce2, same_one, same_sl, same_int])
  refine (synced_x hd4 hks.1).mono ?_
  rintro _ hh ⟨e0, rfl⟩
  replace e0 := e0.symm
  subst e0
  have hfst := full_first s.full.1
  rcases Classical.em (l = []) with hl0 | hl0
  case' inl =>
    have c0i : ((0 : Int) < (l.length : Int)) = False := by simp only [eq_iff_iff, iff_false]; rw [hl0]; simp
    have cf : (base != base + (bs.length : Int)) = false := by rw [hfst.1 hl0]; exact bne_self_eq_false _
    repeat ((with_reducible refine WDM_cons ?_; simp only [dw1, List.append]; try simp only [dw2, zrA, zrM, zrR, zrO, zrE]); simp only [core, zrA, zrS, zrM, zrL, zrE, reduceCtorEq, zrD, ziE, ziL, ziN, cored, LP4, lp4, LC4, lc4, LV4, lv4, LE4, le4, r1, r3, ce3, c0i, same_one, same_sl, same_int])
  case' inr =>
    have c0n : 0 < l.length := List.length_pos_iff.2 hl0
    have c0i : ((0 : Int) < (l.length : Int)) = True := by simp only [eq_iff_iff, iff_true]; omega
    have c0j : (0 < l.length) = True := by simp only [eq_iff_iff, iff_true]; omega
    obtain ⟨x, l2, hx⟩ := List.exists_cons_of_ne_nil hl0
    have hx1 := hfst.2 x l2 hx
    have hR4 : IsSl RRec (fun b => h1.n ≤ b) h4 vE l := (OwnR.sl hR).ext ((E3.trans (E4.mono (by omega))).mono (Nat.le_refl _)) (Nat.le_refl _)
    obtain ⟨c, hc1, hld, hld0⟩ := hR4.atE (T := tabOf Try.prog NT0) (Ext.refl _ _) RRec_z (i := 0) (x := x) (by rw [hx]; rfl)
    obtain ⟨vb, rfl, hvb, hx0⟩ := RRec_is.1 hc1
    simp only [Nat.zero_mul, Nat.add_zero] at hld hld0
    have cf : (base != x.1) = false := by rw [hx1]; exact bne_self_eq_false _
    repeat ((with_reducible refine WDM_cons ?_; simp only [dw1, List.append]; try simp only [dw2, zrA, zrM, zrR, zrO, zrE]); simp only [core, zrA, zrS, zrM, zrL, zrE, reduceCtorEq, zrD, ziE, ziL, ziN, cored, LP4, lp4, LC4, lc4, LV4, lv4, LE4, le4, r1, r3, ce3, c0i, c0j, hld, hld0, same_one, same_sl, same_int])
  all_goals
    refine (first_x hj4 hd4 hks.1).mono ?_
    rintro _ hh ⟨e0, rfl⟩
    replace e0 := e0.symm
    subst e0
    simp only [core, zrA, zrS, zrM, zrL, zrE, reduceCtorEq, zrD, ziE, ziL, ziN, cf]
    generalize htt : TM.set _ 119 _ = tt
    have hn : tt.n = 169 := by rw [← htt]; simp only [core, zrA, zrS, zrM, zrL, zrE, reduceCtorEq, zrD, ziE, ziL, ziN]
    have g1 : tt.get 1 = .ptr H.n 0 := by rw [← htt]; simp only [core, zrA, zrS, zrM, zrL, zrE, reduceCtorEq, zrD, ziE, ziL, ziN]
    have g2 : tt.get 2 = .ptr (H.n + 1) 0 := by rw [← htt]; simp only [core, zrA, zrS, zrM, zrL, zrE, reduceCtorEq, zrD, ziE, ziL, ziN]
    have g3 : tt.get 3 = .ptr h2.n 0 := by rw [← htt]; simp only [core, zrA, zrS, zrM, zrL, zrE, reduceCtorEq, zrD, ziE, ziL, ziN]
    have g7 : tt.get 7 = .ptr h4.n 0 := by rw [← htt]; simp only [core, zrA, zrS, zrM, zrL, zrE, reduceCtorEq, zrD, ziE, ziL, ziN]
    have g119 : tt.get 119 = .fn (.func 58) [] [.ptr h3.n 0] := by rw [← htt]; simp only [core, zrA, zrS, zrM, zrL, zrE, reduceCtorEq, zrD, ziE, ziL, ziN]
    clear htt
    obtain ⟨h5, hh5⟩ : ∃ h5, h5 = h4.push (.cells [.lit (.int .i64 0)] 3) := ⟨_, rfl⟩
    have E5 : Ext h4.n h4 h5 := hh5 ▸ (Ext.refl _ _).push _ (Nat.le_refl _)
    have I5 : h5.at h4.n = some (.cells [.lit (.int .i64 0)] 3) := hh5 ▸ at_push_n _ _
    have n5 : h5.n = h4.n + 1 := by rw [hh5, n_push]
    rw [← hh5]
    clear hh5
    have B4 := E14.at (by omega) B1
    refine WB_rangeW rfl (fv := .fn (.func 58) [] [.ptr h3.n 0]) (by simp only [core, zrA, zrS, zrM, zrL, zrE, reduceCtorEq, zrD, ziE, ziL, ziN, g119]) rfl fun LO hLO => ?_
    refine (records1_x (lp := h5.n + 1) Q4 hJ4 hlen.1 hlen.2.2 (fun i h => Ext h4.n h4 h ∧ h.at h4.n = some (.cells [.lit (.int .i64 (i : Nat))] 3) ∧ h.at h5.n = some .defd ∧ h.at (h5.n + 1) = some (.loop LO)) (fun _ => False) (fun i h j => j.1)
      (fun i h h' ⟨j1, j2, j3, j4⟩ e => ⟨j1.trans (e.mono j1.1), (e.2 _ (at_lt j2)).trans j2, (e.2 _ (at_lt j3)).trans j3, (e.2 _ (at_lt j4)).trans j4⟩) ?_ ?_).mono ?_
    · rintro i x h0 h vb hx ⟨j1', j2', j3', j4'⟩ e hvb
      have j1 := j1'.trans (e.mono j1'.1)
      have j2 := (e.2 _ (at_lt j2')).trans j2'
      have j3 := (e.2 _ (at_lt j3')).trans j3'
      have j4 := (e.2 _ (at_lt j4')).trans j4'
      have hlt := (List.getElem?_eq_some_iff.1 hx).1
      refine WR_round hLO j4 rfl ?_
      simp only [core, zrA, zrS, zrM, zrL, zrE, reduceCtorEq, zrD, ziE, ziL, ziN, sp_cons, sp_nil, hn]
      refine WB_beginL hLO rfl j4 ?_
      obtain ⟨hb, hhb⟩ : ∃ hb, hb = h.put (h5.n + 1) (.loop (busyL LO)) := ⟨_, rfl⟩
      have EB : Ext h4.n h4 hb := hhb ▸ j1.put _ (by omega)
      have b2 : hb.at h4.n = some (.cells [.lit (.int .i64 (i : Nat))] 3) := hhb ▸ (at_put_ne _ (by omega)).trans j2
      have b3 : hb.at h5.n = some .defd := hhb ▸ (at_put_ne _ (by omega)).trans j3
      have b4 : hb.at (h5.n + 1) = some (.loop (busyL LO)) := hhb ▸ at_put_same _ (at_lt j4)
      have nb : hb.n = h.n := hhb ▸ n_put _ _ _
      have bv : IsSl RByte (fun b => h0.n ≤ b) hb vb x.2 := hvb.lift fun b hb' _ => ⟨hhb ▸ at_put_ne _ (by have := at_lt j4'; omega), hb'⟩
      rw [← hhb]
      clear hhb
      have lb2 := at_lt b2
      have LB2 := ld_at (T := tabOf Try.prog NT0) b2
      have VB := EB.at lv4 V4
      have LVB := ld_at (T := tabOf Try.prog NT0) VB
      have lvb := at_lt VB
      have CB := EB.at lc4 C4
      have LCB := ld_at (T := tabOf Try.prog NT0) CB
      have lcb := at_lt CB
      have SB := S4.ext EB
      have LPB := ld_at (T := tabOf Try.prog NT0) SB.pr
      have lpb := at_lt SB.pr
      have hRB : IsSl RRec (fun b => h1.n ≤ b) hb vE l := ((OwnR.sl hR).ext (E3.trans (E4.mono (by omega))) (Nat.le_refl _)).ext EB (Nat.le_refl _)
      obtain ⟨c, hc1, hld, hld0⟩ := hRB.atE (T := tabOf Try.prog NT0) (Ext.refl _ _) RRec_z hx
      obtain ⟨ve, rfl, hve, hx0⟩ := RRec_is.1 hc1
      have y1 := hve.isSl
      have y2 := bv.isSl
      have cge : ((l.length : Int) ≤ (i : Int)) = False := by simp only [eq_iff_iff, iff_false]; omega
      have cx : (x.1 != x.1) = false := bne_self_eq_false _
      simp only [core, zrA, zrS, zrM, zrL, zrE, reduceCtorEq, zrD, ziE, ziL, ziN, sp_cons, sp_nil, hn, g1, g2, g3, g7, LB2, lb2, LVB, lvb, LCB, lcb, LPB, lpb, r1, r3, cge, cx, hlt, hld, hld0, aundef]
      refine (same_x bv hve).mono ?_
      rintro _ hh ⟨e0, rfl⟩
      replace e0 := e0.symm
      subst e0
      obtain ⟨vp, vlp, -, hjB, -, -, xlB, hLB⟩ := SB.ps.e
      simp only [core, zrA, zrS, zrM, zrL, zrE, reduceCtorEq, zrD, ziE, ziL, ziN, sp_cons, sp_nil, hn, g1, g2, g3, g7, LCB, lcb, LPB, lpb]
      refine (readJ_x hjB (own_sl hLB xlB fun b h => h.1) hlen.1 hlen.2.2).mono ?_
      rintro _ h6 ⟨E6, v6, rfl, o6⟩
      rw [stp_rdR s.full.1 x (List.mem_of_getElem? hx)] at o6 ⊢
      have n6 := E6.1
      have cn : ((0 : Int) != 0) = false := by decide
      simp only [core, zrA, zrS, zrM, zrL, zrE, reduceCtorEq, zrD, ziE, ziL, ziN, sp_cons, sp_nil, hn, g1, g2, g3, g7]
      refine (same_x ((VwB.ofOwn o6).sl) (bv.ext E6 (Nat.le_refl _))).mono ?_
      rintro _ hh ⟨e0, rfl⟩
      replace e0 := e0.symm
      subst e0
      simp only [core, zrA, zrS, zrM, zrL, zrE, reduceCtorEq, zrD, ziE, ziL, ziN, sp_cons, sp_nil, hn, g1, g2, g3, g7]
      refine num_x.mono ?_
      rintro _ hh ⟨e0, rfl⟩
      replace e0 := e0.symm
      subst e0
      have i6 := E6.at lb2 b2
      have li6 := at_lt i6
      have LI6 := ld_at (T := tabOf Try.prog NT0) i6
      have d6 := E6.at (at_lt b3) b3
      have l6 := E6.at (at_lt b4) b4
      have hw := wrap_succ hlt (by omega)
      simp only [core, zrA, zrS, zrM, zrL, zrE, reduceCtorEq, zrD, ziE, ziL, ziN, sp_cons, sp_nil, hn, g1, g2, g3, g7, cn, i6, li6, LI6, hw]
      refine ⟨_, (at_put_ne _ (by omega)).trans l6, true, rfl, fun _ => ⟨?_, ?_, ?_, ?_⟩, fun h => by cases h⟩
      · exact ((EB.trans (E6.mono EB.1)).put _ (Nat.le_refl _)).put _ (by omega)
      · exact (at_put_ne _ (by omega)).trans (at_put li6)
      · exact (at_put_ne _ (by omega)).trans ((at_put_ne _ (by omega)).trans d6)
      · exact (at_put_same _ (by rw [n_put]; exact at_lt l6)).trans (by rw [hLO]; rfl)
    · have up : ∀ b y, h5.at b = some y → ((h5.push .defd).push (.loop LO)).at b = some y := fun b y hy => by
        have := at_lt hy
        exact (at_push_lt _ (by rw [n_push]; omega)).trans ((at_push_lt _ this).trans hy)
      refine ⟨(E5.push _ E5.1).push _ (by rw [n_push]; have := E5.1; omega), up _ _ I5, ?_, ?_⟩
      · exact (at_push_lt _ (by rw [n_push]; omega)).trans (at_push_n _ _)
      · have := at_push_n (h5.push .defd) (.loop LO)
        rw [n_push] at this
        exact this
    · rintro _ h (⟨j1, j2, j3, j4⟩ | hf)
      · refine ⟨LO, j4, by rw [hLO]; simp, ?_⟩
        obtain ⟨hb, hhb⟩ : ∃ hb, hb = h.put (h5.n + 1) (.loop { LO with state := .exhausted }) := ⟨_, rfl⟩
        have EB : Ext h4.n h4 hb := hhb ▸ j1.put _ (by omega)
        have b2 : hb.at h4.n = some (.cells [.lit (.int .i64 (l.length : Nat))] 3) := hhb ▸ (at_put_ne _ (by omega)).trans j2
        have b3 : hb.at h5.n = some .defd := hhb ▸ (at_put_ne _ (by omega)).trans j3
        rw [← hhb]
        clear hhb
        have lb2 := at_lt b2
        have LB2 := ld_at (T := tabOf Try.prog NT0) b2
        have VB := EB.at lv4 V4
        have LVB := ld_at (T := tabOf Try.prog NT0) VB
        have lvb := at_lt VB
        have RB := EB.at (at_lt B4) B4
        have lrb := at_lt RB
        have ceq : ((l.length : Int) == (l.length : Int)) = true := beq_self_eq_true _
        rw [hLO]
        simp only [core, zrA, zrS, zrM, zrL, zrE, reduceCtorEq, zrD, ziE, ziL, ziN, Option.map_none, Option.toList_none, List.nil_append, hn, g1, g2, g3, g7, LB2, lb2, LVB, lvb, RB, lrb, r1, r3, ceq]
        have E0B : Ext H.n H hb := (E1.trans (E14.mono (by omega))).trans (EB.mono (by omega))
        have R9 : ((hb.put (H.n + 1) (.cells [.lit (.bool true)] 4)).put h5.n .gone).at (H.n + 1) = some (.cells [.lit (.bool true)] 4) := (at_put_ne _ (by omega)).trans (at_put lrb)
        refine ⟨(at_put_ne _ (by omega)).trans b3, [.lit (.bool true)], ?_, (E0B.put _ (by omega)).put _ (by omega), rfl⟩
        rw [ld_at (T := tabOf Try.prog NT0) R9]
        simp only [core, zrA, zrS, zrM, zrL, zrE, reduceCtorEq, zrD, ziE, ziL, ziN]
      · exact hf.elim
end Go.Proofs.Ytcnbamdmngaliaa.Ex
end

section

set_option linter.unusedSimpArgs false
set_option linter.unusedVariables false
set_option maxRecDepth 10000
set_option maxHeartbeats 4000000
namespace Go.Proofs.Ytcnbamdmngaliaa.Ex
open Go
/-- A step leaves what is below n0. -/
theorem Nx.below {X X' : Nat → Prop} {H h' : AH} {n0 : Nat} (N : Nx X X' H h') (hX : ∀ b, X b → n0 ≤ b) (hn : n0 ≤ H.n) : Ext n0 H h' := ⟨N.n, fun b hb => N.k b (by omega) (fun h => by have := hX b h; omega)⟩
theorem open_x {n0 p : Nat} {B : Int} {H : AH} {X Y : Nat → Prop} {d e : Nat} {size base synced limit : Int} {bs : List UInt8} {v u q1 q2 : AV} (hpr : H.at p = some (.cells [.ptr d 0, q1, .ptr e 0, q2] 40))
    (hd : H.at d = some (dkC size base v synced limit)) (ho : VwB 0 H v bs) (xv : SlF X v) (hX : X d) (hXlt : ∀ b, X b → b < H.n) (he : H.at e = some (ekC size base u synced limit)) (hu : IsSl RByte (fun b => Y b ∧ b ≠ e) H u bs) (hY : Y e) (hYlt : ∀ b, Y b → b < H.n)
    (dj : ∀ b, X b → ¬ Y b) (pX : ¬ X p) (pY : ¬ Y p) (hn0 : ∀ b, X b ∨ Y b ∨ b = p → n0 ≤ b) (ok : DOk size base bs synced limit) (hm : limit < 0) (hB : base + bs.length ≤ B) (hH : n0 ≤ H.n) :
    WC Try.prog (tabOf Try.prog NT0) S0 13 [.ptr p 0] H fun r h' => r = .lit (.bool true) ∧ Ext n0 H h' ∧ ∃ l a rest, Full base bs l a rest ∧ ∃ X' Y' j k bs' sy', St n0 p B h' X' Y' j d k e size base sy' limit rest.length bs' l := by
  refine WC_fn Try.func13 rfl rfl ?_
  have lp := at_lt hpr
  have LP := ld_at (T := tabOf Try.prog NT0) hpr
  simp only [core, zrA, zrS, zrM, zrL, zrE, reduceCtorEq, zrD, ziE, ziL, ziN, Try.ntmps13, LP, lp]
  refine (openJ_x hd ho xv hX hXlt ok hm).mono ?_
  rintro _ h1 ⟨l, a, rest, hf, X1, j, ps1, N1, rfl⟩
  have n1 := N1.n
  have hpr1 := (N1.k p lp pX).trans hpr
  have lp1 := at_lt hpr1
  have LP1 := ld_at (T := tabOf Try.prog NT0) hpr1
  simp only [core, zrA, zrS, zrM, zrL, zrE, reduceCtorEq, zrD, ziE, ziL, ziN]
  refine num_x.mono ?_
  rintro _ h2 ⟨e2, rfl⟩
  replace e2 := e2.symm
  subst e2
  have ce : ((0 : Int) != 0) = false := by decide
  simp only [core, zrA, zrS, zrM, zrL, zrE, reduceCtorEq, zrD, ziE, ziL, ziN, ce, LP1, lp1]
  have ey : ∀ b, Y b → h1.at b = H.at b := fun b hb => N1.k b (hYlt b hb) fun h => dj b h hb
  have he1 := (ey e hY).trans he
  have hu1 : IsSl RByte (fun b => Y b ∧ b ≠ e) h1 u bs := hu.lift fun b hb _ => ⟨ey b hb.1, hb⟩
  refine (openK_x he1 hu1 hY (fun b hb => Nat.lt_of_lt_of_le (hYlt b hb) n1) ok hm).mono ?_
  rintro _ h2 ⟨l', a', rest', hf', Y2, k, ds2, N2, rfl⟩
  obtain ⟨rfl, rfl, rfl⟩ := Full.uniq l l' hf hf'
  have n2 := N2.n
  have x1 : ∀ b, X1 b → ¬ Y b := fun b hb hy => (N1.x b hb).elim (fun h => dj b h hy) fun h => by have := hYlt b hy; omega
  have ps2 := ps1.lift n2 fun b hb => N2.k b (ps1.lt b hb) (x1 b hb)
  have dj2 : ∀ b, X1 b → ¬ Y2 b := fun b hb hy => (N2.x b hy).elim (fun h => x1 b hb h) fun h => by have := ps1.lt b hb; omega
  have pX1 : ¬ X1 p := fun h => (N1.x p h).elim pX fun h => by omega
  have pY2 : ¬ Y2 p := fun h => (N2.x p h).elim pY fun h => by omega
  have hpr2 := (N2.k p lp1 pY).trans hpr1
  have lp2 := at_lt hpr2
  simp only [core, zrA, zrS, zrM, zrL, zrE, reduceCtorEq, zrD, ziE, ziL, ziN, hpr2, lp2]
  obtain ⟨h3, hh3⟩ : ∃ h3, h3 = (h2.put p (.cells [.ptr d 0, .ptr j 0, .ptr e 0, q2] 40)).put p (.cells [.ptr d 0, .ptr j 0, .ptr e 0, .ptr k 0] 40) := ⟨_, rfl⟩
  have n3 : h3.n = h2.n := by rw [hh3, n_put, n_put]
  have A3 : h3.at p = some (.cells [.ptr d 0, .ptr j 0, .ptr e 0, .ptr k 0] 40) := hh3 ▸ at_put (by rw [n_put]; exact lp2)
  have K3 : ∀ b, b ≠ p → h3.at b = h2.at b := fun b hb => by rw [hh3, at_put_ne _ (Ne.symm hb), at_put_ne _ (Ne.symm hb)]
  rw [← hh3]
  have ps3 := ps2.lift (by omega) fun b hb => K3 b fun h => pX1 (h ▸ hb)
  have ds3 := ds2.lift (by omega) fun b hb => K3 b fun h => pY2 (h ▸ hb)
  have hlen := hf.1.len
  obtain ⟨y, hy, hst⟩ := hf.1.cut
  have hyl : bs.length = y.length + rest.length := by rw [hy, List.length_append]
  have htk : bs.take (a - base).toNat = y := by rw [hy]; exact List.take_left' (by omega)
  rw [htk] at ps3 ds3
  have okl := ok.l
  have oky := ok.y
  have S3 : St n0 p B h3 X1 Y2 j d k e size base (if a < synced then a else synced) limit rest.length y l := by
    refine ⟨A3, ps3, ds3, dj2, pX1, pY2, fun b hb => ?_, ⟨ok.s, ok.b, by omega, by split <;> omega, .inl hm⟩, ⟨by rw [show base + (y.length : Int) = a by omega]; exact hst, unfr_nil⟩, by omega⟩
    rcases hb with h | h | h
    · rcases N1.x b h with h | h
      · exact hn0 b (.inl h)
      · omega
    · rcases N2.x b h with h | h
      · exact hn0 b (.inr (.inl h))
      · omega
    · exact hn0 b (.inr (.inr h))
  have E03 : Ext n0 H h3 := ((N1.below (fun b hb => hn0 b (.inl hb)) hH).trans (N2.below (fun b hb => hn0 b (.inr (.inl hb))) (by omega))).trans ⟨by omega, fun b hb => K3 b fun h => by have := hn0 p (.inr (.inr rfl)); omega⟩
  obtain ⟨v3, vl3, q1', q2', q3', -⟩ := ps3.e
  have ds3k := ds3.ks
  have L3 := ld_at (T := tabOf Try.prog NT0) A3
  have l3 := at_lt A3
  unfold kjC at ds3k
  have LK := ld_at (T := tabOf Try.prog NT0) ds3k
  have lk := at_lt ds3k
  rw [WB_regionD [0, 2, 3, 4, 5, 6, 7, 8, 1, 9, 10, 11, 12, 13, 14] 26958712494791499982551115995050805373564177121064391105851905048576 (by kernel_rfl)]
  repeat ((with_reducible refine WDM_cons ?_; simp only [dw1]; try simp only [dw2, zrA, zrM, zrR, zrO, zrE]); simp only [core, zrA, zrS, zrM, zrL, zrE, reduceCtorEq, zrD, ziE, ziL, ziN, cored, L3, l3, LK, lk])
  refine (torn_x q2').mono ?_
  rintro _ h4 ⟨e4, rfl⟩
  replace e4 := e4.symm
  subst e4
  have cb : (((rest.length : Nat) : Int) == (rest.length : Int)) = true := beq_self_eq_true _
  repeat ((with_reducible refine WDM_cons ?_; simp only [dw1]; try simp only [dw2, zrA, zrM, zrR, zrO, zrE]); simp only [core, zrA, zrS, zrM, zrL, zrE, reduceCtorEq, zrD, ziE, ziL, ziN, cored, L3, l3, LK, lk, cb, same_int, same_one])
  refine (alike_x S3).mono ?_
  rintro _ h4 ⟨E4, rfl⟩
  have S4 := S3.ext E4
  have L4 := ld_at (T := tabOf Try.prog NT0) (E4.at l3 A3)
  have l4 := at_lt (E4.at l3 A3)
  have LK4 := ld_at (T := tabOf Try.prog NT0) (E4.at lk ds3k)
  have lk4 := at_lt (E4.at lk ds3k)
  repeat ((with_reducible refine WDM_cons ?_; simp only [dw1]; try simp only [dw2, zrA, zrM, zrR, zrO, zrE]); simp only [core, zrA, zrS, zrM, zrL, zrE, reduceCtorEq, zrD, ziE, ziL, ziN, cored, L4, l4, LK4, lk4, cb, same_int, same_one])
  exact ⟨E03.trans (E4.mono (by omega)), l, a, rest, hf, X1, Y2, j, k, y, _, S4⟩
end Go.Proofs.Ytcnbamdmngaliaa.Ex
end

section

set_option linter.unusedSimpArgs false
set_option linter.unusedVariables false
set_option maxRecDepth 10000
set_option maxHeartbeats 4000000
namespace Go.Proofs.Ytcnbamdmngaliaa.Ex
open Go
/-- The program's step, then the document's. -/
theorem St.two {n0 p : Nat} {B B' : Int} {H h1 h2 : AH} {X X' Y Y' : Nat → Prop} {j d k e : Nat} {size base synced limit torn base' sy' li' : Int} {bs bs' : List UInt8} {l l' : RecL} (s : St n0 p B H X Y j d k e size base synced limit torn bs l) (hn : n0 ≤ H.n)
    (N1 : Nx X X' H h1) (P1 : PS X' h1 j d size base' sy' li' torn bs' l') (N2 : Nx Y Y' h1 h2) (D2 : DS Y' h2 k e size base' sy' li' torn bs') (ok : DOk size base' bs' sy' li') (hf : Full base' bs' l' (base' + bs'.length) []) (hB : base' + bs'.length ≤ B') :
    St n0 p B' h2 X' Y' j d k e size base' sy' li' torn bs' l' ∧ Ext n0 H h2 := by
  have n1 := N1.n
  have n2 := N2.n
  have lp := at_lt s.pr
  have xy : ∀ b, X' b → ¬ Y b := fun b hb hy => (N1.x b hb).elim (fun h => s.dj b h hy) fun h => by have := s.ds.lt b hy; omega
  refine ⟨⟨(N2.k p (by omega) s.pY).trans ((N1.k p lp s.pX).trans s.pr), P1.lift n2 fun b hb => N2.k b (P1.lt b hb) (xy b hb), D2, fun b hb hy => (N2.x b hy).elim (xy b hb) fun h => by have := P1.lt b hb; omega, fun h => (N1.x p h).elim s.pX fun h => by omega, fun h => (N2.x p h).elim s.pY fun h => by omega, fun b hb => ?_, ok, hf, hB⟩, (N1.below (fun b hb => s.n0 b (.inl hb)) hn).trans (N2.below (fun b hb => s.n0 b (.inr (.inl hb))) (by omega))⟩
  rcases hb with h | h | h
  · rcases N1.x b h with h | h
    · exact s.n0 b (.inl h)
    · omega
  · rcases N2.x b h with h | h
    · exact s.n0 b (.inr (.inl h))
    · omega
  · exact s.n0 b (.inr (.inr h))
/-- The document's step, then the program's. -/
theorem St.two' {n0 p : Nat} {B B' : Int} {H h1 h2 : AH} {X X' Y Y' : Nat → Prop} {j d k e : Nat} {size base synced limit torn base' sy' li' : Int} {bs bs' : List UInt8} {l l' : RecL} (s : St n0 p B H X Y j d k e size base synced limit torn bs l) (hn : n0 ≤ H.n)
    (N1 : Nx Y Y' H h1) (D1 : DS Y' h1 k e size base' sy' li' torn bs') (N2 : Nx X X' h1 h2) (P2 : PS X' h2 j d size base' sy' li' torn bs' l') (ok : DOk size base' bs' sy' li') (hf : Full base' bs' l' (base' + bs'.length) []) (hB : base' + bs'.length ≤ B') :
    St n0 p B' h2 X' Y' j d k e size base' sy' li' torn bs' l' ∧ Ext n0 H h2 := by
  have n1 := N1.n
  have n2 := N2.n
  have lp := at_lt s.pr
  have yx : ∀ b, Y' b → ¬ X b := fun b hb hy => (N1.x b hb).elim (fun h => s.dj b hy h) fun h => by have := s.ps.lt b hy; omega
  refine ⟨⟨(N2.k p (by omega) s.pX).trans ((N1.k p lp s.pY).trans s.pr), P2, D1.lift n2 fun b hb => N2.k b (D1.lt b hb) (yx b hb), fun b hb hy => (N2.x b hb).elim (yx b hy) fun h => by have := D1.lt b hy; omega, fun h => (N2.x p h).elim s.pX fun h => by omega, fun h => (N1.x p h).elim s.pY fun h => by omega, fun b hb => ?_, ok, hf, hB⟩, (N1.below (fun b hb => s.n0 b (.inr (.inl hb))) hn).trans (N2.below (fun b hb => s.n0 b (.inl hb)) (by omega))⟩
  rcases hb with h | h | h
  · rcases N2.x b h with h | h
    · exact s.n0 b (.inl h)
    · omega
  · rcases N1.x b h with h | h
    · exact s.n0 b (.inr (.inl h))
    · omega
  · exact s.n0 b (.inr (.inr h))
/-- The document's side behind a step of the program's. -/
theorem St.dsKeep {n0 p : Nat} {B : Int} {H h1 : AH} {X X' Y : Nat → Prop} {j d k e : Nat} {size base synced limit torn : Int} {bs : List UInt8} {l : RecL} (s : St n0 p B H X Y j d k e size base synced limit torn bs l) (N1 : Nx X X' H h1) : DS Y h1 k e size base synced limit torn bs :=
  s.ds.lift N1.n fun b hb => N1.k b (s.ds.lt b hb) fun h => s.dj b h hb
theorem St.psKeep {n0 p : Nat} {B : Int} {H h1 : AH} {X Y Y' : Nat → Prop} {j d k e : Nat} {size base synced limit torn : Int} {bs : List UInt8} {l : RecL} (s : St n0 p B H X Y j d k e size base synced limit torn bs l) (N1 : Nx Y Y' H h1) : PS X h1 j d size base synced limit torn bs l :=
  s.ps.lift N1.n fun b hb => N1.k b (s.ps.lt b hb) fun h => s.dj b hb h
theorem St.prX {n0 p : Nat} {B : Int} {H h1 : AH} {X X' Y : Nat → Prop} {j d k e : Nat} {size base synced limit torn : Int} {bs : List UInt8} {l : RecL} (s : St n0 p B H X Y j d k e size base synced limit torn bs l) (N1 : Nx X X' H h1) : h1.at p = some (.cells [.ptr d 0, .ptr j 0, .ptr e 0, .ptr k 0] 40) := (N1.k p (at_lt s.pr) s.pX).trans s.pr
theorem St.prY {n0 p : Nat} {B : Int} {H h1 : AH} {X Y Y' : Nat → Prop} {j d k e : Nat} {size base synced limit torn : Int} {bs : List UInt8} {l : RecL} (s : St n0 p B H X Y j d k e size base synced limit torn bs l) (N1 : Nx Y Y' H h1) : h1.at p = some (.cells [.ptr d 0, .ptr j 0, .ptr e 0, .ptr k 0] 40) := (N1.k p (at_lt s.pr) s.pY).trans s.pr
theorem St.mono {n0 p : Nat} {B B' : Int} {H : AH} {X Y : Nat → Prop} {j d k e : Nat} {size base synced limit torn : Int} {bs : List UInt8} {l : RecL} (s : St n0 p B H X Y j d k e size base synced limit torn bs l) (hB : B ≤ B') : St n0 p B' H X Y j d k e size base synced limit torn bs l :=
  ⟨s.pr, s.ps, s.ds, s.dj, s.pX, s.pY, s.n0, s.ok, s.full, Int.le_trans s.b hB⟩
/-! Append: what both answer. -/
def apR (size base : Int) (bs ys : List UInt8) : Int × Int := if 524288 < ys.length then (0, 27) else if size - bs.length < ys.length + 8 then (0, 28) else (base + bs.length, 0)
def apB (size : Int) (bs ys : List UInt8) : List UInt8 := if 524288 < ys.length ∨ size - bs.length < ys.length + 8 then bs else bs ++ frameB ys
def apL (size base : Int) (bs ys : List UInt8) (l : RecL) : RecL := if 524288 < ys.length ∨ size - bs.length < ys.length + 8 then l else l ++ [(base + bs.length, ys)]
theorem appendJ_u {X F : Nat → Prop} {H : AH} {j d : Nat} {size base synced limit torn : Int} {bs ys : List UInt8} {l : RecL} {x : AV} (hp : PS X H j d size base synced limit torn bs l) (hk : DOk size base bs synced limit) (hx : IsSl RByte F H x ys) (hF : ∀ b, F b → ¬ X b) (hl : l.length ≤ 100000000) :
    WC Try.prog (tabOf Try.prog NT0) S0 18 [.ptr j 0, x] H fun r h' => r = .tup [.lit (.int .i64 (apR size base bs ys).1), .lit (.int .i64 (apR size base bs ys).2)] ∧ ∃ X', PS X' h' j d size base synced limit torn (apB size bs ys) (apL size base bs ys l) ∧ Nx X X' H h' := by
  refine (appendJ_x hp hk hx hF hl).mono ?_
  intro r h hr
  unfold apR apB apL
  by_cases c1 : 524288 < ys.length
  · rw [if_pos c1] at hr
    obtain ⟨rfl, rfl⟩ := hr
    rw [if_pos c1, if_pos (.inl c1), if_pos (.inl c1)]
    exact ⟨rfl, X, hp, .refl⟩
  · rw [if_neg c1] at hr
    by_cases c2 : size - (bs.length : Int) < ys.length + 8
    · rw [if_pos c2] at hr
      obtain ⟨hE, rfl⟩ := hr
      rw [if_neg c1, if_pos c2, if_pos (.inr c2), if_pos (.inr c2)]
      exact ⟨rfl, X, hp.ext hE, .ext hE⟩
    · rw [if_neg c2] at hr
      rw [if_neg c1, if_neg c2, if_neg (fun h => h.elim c1 c2), if_neg (fun h => h.elim c1 c2)]
      exact hr
theorem appendK_u {Y F : Nat → Prop} {H : AH} {k e : Nat} {size base synced limit torn : Int} {bs ys : List UInt8} {x : AV} (hp : DS Y H k e size base synced limit torn bs) (hk : DOk size base bs synced limit) (hx : IsSl RByte F H x ys) :
    WC Try.prog (tabOf Try.prog NT0) S0 31 [.ptr k 0, x] H fun r h' => r = .tup [.lit (.int .i64 (apR size base bs ys).1), .lit (.int .i64 (apR size base bs ys).2)] ∧ ∃ Y', DS Y' h' k e size base synced limit torn (apB size bs ys) ∧ Nx Y Y' H h' := by
  refine (appendK_x hp hk hx).mono ?_
  intro r h hr
  unfold apR apB
  by_cases c1 : 524288 < ys.length
  · rw [if_pos c1] at hr
    obtain ⟨rfl, rfl⟩ := hr
    rw [if_pos c1, if_pos (.inl c1)]
    exact ⟨rfl, Y, hp, .refl⟩
  · rw [if_neg c1] at hr
    by_cases c2 : size - (bs.length : Int) < ys.length + 8
    · rw [if_pos c2] at hr
      obtain ⟨hE, rfl⟩ := hr
      rw [if_neg c1, if_pos c2, if_pos (.inr c2)]
      exact ⟨rfl, Y, hp.ext hE, .ext hE⟩
    · rw [if_neg c2] at hr
      rw [if_neg c1, if_neg c2, if_neg (fun h => h.elim c1 c2)]
      exact hr
/-- The plain law of Append. -/
theorem ap_law {size base synced limit : Int} {bs ys : List UInt8} {l : RecL} (ok : DOk size base bs synced limit) (hf : Full base bs l (base + bs.length) []) :
    DOk size base (apB size bs ys) synced limit ∧ Full base (apB size bs ys) (apL size base bs ys l) (base + (apB size bs ys).length) [] ∧ base + ((apB size bs ys).length : Int) ≤ base + bs.length + 524296 := by
  unfold apB apL
  by_cases c : 524288 < ys.length ∨ size - (bs.length : Int) < ys.length + 8
  · rw [if_pos c, if_pos c]
    exact ⟨ok, hf, by omega⟩
  · rw [if_neg c, if_neg c]
    have c1 : ys.length ≤ 524288 := Nat.not_lt.1 fun h => c (.inl h)
    have c2 : ¬ size - (bs.length : Int) < ys.length + 8 := fun h => c (.inr h)
    have hfl : (frameB ys).length = ys.length + 8 := by
      unfold frameB
      simp only [List.length_append, leB_length]
      omega
    have h := hf.frame c1
    have hlen : ((bs ++ frameB ys).length : Int) = bs.length + (ys.length + 8 : Nat) := by rw [List.length_append, hfl]; omega
    have oy := ok.y
    have ol := ok.l
    refine ⟨⟨ok.s, ok.b, by omega, by omega, ok.m⟩, ?_, by omega⟩
    rw [hlen, ← Int.add_assoc]
    exact h
/-- What Trim leaves, in plain words. -/
theorem idx_split {at_ : Int} : ∀ {l : RecL}, idxR at_ l ≠ l.length → ∃ c, l = l.take (idxR at_ l) ++ (at_, c) :: l.drop (idxR at_ l + 1) ∧ l.drop (idxR at_ l) = (at_, c) :: l.drop (idxR at_ l + 1)
  | [], h => absurd rfl h
  | x :: l, h => by
    by_cases c : x.1 = at_
    · have : idxR at_ (x :: l) = 0 := by show (if x.1 = at_ then 0 else _) = 0; rw [if_pos c]
      rw [this]
      subst c
      exact ⟨x.2, rfl, rfl⟩
    · have e : idxR at_ (x :: l) = idxR at_ l + 1 := by show (if x.1 = at_ then 0 else idxR at_ l + 1) = _; rw [if_neg c]
      rw [e] at h ⊢
      obtain ⟨c', h1, h2⟩ := idx_split (at_ := at_) (l := l) (fun hh => h (by rw [hh]; rfl))
      refine ⟨c', ?_, ?_⟩
      · rw [List.take_succ_cons, List.drop_succ_cons, List.cons_append, ← h1]
      · rw [List.drop_succ_cons, List.drop_succ_cons, ← h2]
theorem trim_law {base at_ : Int} {bs : List UInt8} {l : RecL} (hf : Full base bs l (base + bs.length) []) (hc : ¬ (idxR at_ l = l.length ∧ at_ ≠ base + bs.length)) (h1 : base ≤ at_) (h2 : at_ ≤ base + bs.length) :
    Full at_ (bs.drop (at_ - base).toNat) (l.drop (idxR at_ l)) (at_ + ((bs.drop (at_ - base).toNat).length : Int)) [] := by
  have hl : at_ + ((bs.drop (at_ - base).toNat).length : Int) = base + bs.length := by rw [List.length_drop]; omega
  rw [hl]
  by_cases c : idxR at_ l = l.length
  · have e : at_ = base + bs.length := by
      apply Classical.byContradiction
      intro h
      exact hc ⟨c, h⟩
    rw [c, List.drop_length, List.drop_of_length_le (by omega), ← e]
    exact ⟨.nil, unfr_nil⟩
  · obtain ⟨x, e1, e2⟩ := idx_split c
    rw [e2]
    have := hf.1
    rw [e1] at this
    exact ⟨(Stp.from this).2, unfr_nil⟩
theorem trim_froz {base : Int} {bs : List UInt8} {l : RecL} (hf : Full base bs l (base + bs.length) []) (hc : ¬ (idxR base l = l.length ∧ base ≠ base + bs.length)) : l.drop (idxR base l) = l := by
  have h := trim_law hf hc (Int.le_refl _) (by omega)
  rw [Int.sub_self, show (0 : Int).toNat = 0 from rfl, List.drop_zero] at h
  exact (Full.uniq _ _ h hf).1
end Go.Proofs.Ytcnbamdmngaliaa.Ex
end

section

set_option linter.unusedSimpArgs false
set_option linter.unusedVariables false
set_option maxRecDepth 10000
set_option maxHeartbeats 4000000
namespace Go.Proofs.Ytcnbamdmngaliaa.Ex
open Go
theorem TrimO.nx {X : Nat → Prop} {H h' : AH} {j d : Nat} {size base synced limit torn at_ : Int} {bs : List UInt8} {l : RecL} {sy : Int} {fr : Prop} {r : AV} (o : TrimO X H h' j d size base synced limit torn at_ bs l sy fr r) : ∃ X', Nx X X' H h' := by
  by_cases c : idxR at_ l = l.length ∧ at_ ≠ base + bs.length
  · obtain ⟨-, rfl⟩ := o.none c
    exact ⟨X, .refl⟩
  · by_cases c2 : base ≤ at_ ∧ at_ ≤ sy
    · by_cases c3 : fr
      · obtain ⟨-, X', -, h⟩ := o.froz c c2 c3
        exact ⟨X', h⟩
      · obtain ⟨-, X', -, h⟩ := o.ok c c2 c3
        exact ⟨X', h⟩
    · obtain ⟨-, X', -, h⟩ := o.arg c c2
      exact ⟨X', h⟩
theorem TrimK.nx {Y : Nat → Prop} {H h' : AH} {k e : Nat} {size base synced limit torn at_ : Int} {bs : List UInt8} {l : RecL} {sy : Int} {fr : Prop} {r : AV} (o : TrimK Y H h' k e size base synced limit torn at_ bs l sy fr r) : ∃ Y', Nx Y Y' H h' := by
  by_cases c : idxR at_ l = l.length ∧ at_ ≠ base + bs.length
  · exact ⟨Y, .ext (o.none c).2⟩
  · by_cases c2 : base ≤ at_ ∧ at_ ≤ sy
    · by_cases c3 : fr
      · obtain ⟨-, X', -, h⟩ := o.froz c c2 c3
        exact ⟨X', h⟩
      · obtain ⟨-, X', -, h⟩ := o.ok c c2 c3
        exact ⟨X', h⟩
    · obtain ⟨-, X', -, h⟩ := o.arg c c2
      exact ⟨X', h⟩
theorem St.trimmed {n0 p : Nat} {B : Int} {H h1 h2 : AH} {X Y : Nat → Prop} {j d k e : Nat} {size base synced limit torn at_ : Int} {bs : List UInt8} {l : RecL} {r1 r2 : AV} (s : St n0 p B H X Y j d k e size base synced limit torn bs l) (hn : n0 ≤ H.n) (hB : B ≤ 4611686018427387904)
    (o1 : TrimO X H h1 j d size base synced limit torn at_ bs l (if 0 ≤ limit ∧ limit < base + bs.length then synced else base + bs.length) (0 ≤ limit ∧ limit < base + bs.length) r1)
    (o2 : TrimK Y h1 h2 k e size base synced limit torn at_ bs l (if 0 ≤ limit ∧ limit < base + bs.length then synced else base + bs.length) (0 ≤ limit ∧ limit < base + bs.length) r2) :
    ∃ v : Int, r1 = .lit (.int .i64 v) ∧ r2 = .lit (.int .i64 v) ∧ ∃ X' Y' base' sy' bs' l', (St n0 p B h2 X' Y' j d k e size base' sy' limit torn bs' l' ∧ Ext n0 H h2) ∧ ∀ b, X' b ∨ Y' b → X b ∨ Y b ∨ H.n ≤ b := by
  have fx : ∀ {X' Y' : Nat → Prop}, Nx X X' H h1 → Nx Y Y' h1 h2 → ∀ b, X' b ∨ Y' b → X b ∨ Y b ∨ H.n ≤ b := fun N1 N2 b hb => by
    have n1 := N1.n
    rcases hb with h | h
    · rcases N1.x b h with h | h
      · exact .inl h
      · exact .inr (.inr h)
    · rcases N2.x b h with h | h
      · exact .inr (.inl h)
      · exact .inr (.inr (by omega))
  obtain ⟨SY, hSY⟩ : ∃ SY, SY = if 0 ≤ limit ∧ limit < base + (bs.length : Int) then synced else base + bs.length := ⟨_, rfl⟩
  rw [← hSY] at o1 o2
  have oy := s.ok.y
  have ol := s.ok.l
  have om := s.ok.m
  have os := s.ok.s
  have ob := s.ok.b
  have sb := s.b
  have hsy : base ≤ SY ∧ SY ≤ base + bs.length ∧ (limit < 0 ∨ SY ≤ limit) := by
    rw [hSY]
    split
    · rename_i c; omega
    · rename_i c; omega
  have ok1 : DOk size base bs SY limit := ⟨os, ob, ol, ⟨hsy.1, hsy.2.1⟩, hsy.2.2⟩
  by_cases c : idxR at_ l = l.length ∧ at_ ≠ base + bs.length
  · obtain ⟨rfl, rfl⟩ := o1.none c
    obtain ⟨rfl, E⟩ := o2.none c
    exact ⟨2, rfl, rfl, X, Y, base, synced, bs, l, ⟨s.ext E, E.mono hn⟩, fx .refl (.ext E)⟩
  · by_cases c2 : base ≤ at_ ∧ at_ ≤ SY
    · by_cases c3 : 0 ≤ limit ∧ limit < base + (bs.length : Int)
      · obtain ⟨rfl, X', P, N1⟩ := o1.froz c c2 c3
        obtain ⟨rfl, Y', D, N2⟩ := o2.froz c c2 c3
        have hl : (if base = at_ then l.drop (idxR at_ l) else l) = l := by
          split
          · rename_i hb
            subst hb
            exact trim_froz s.full c
          · rfl
        rw [hl] at P
        exact ⟨0, rfl, rfl, X', Y', base, SY, bs, l, s.two hn N1 P N2 D ok1 s.full s.b, fx N1 N2⟩
      · obtain ⟨rfl, X', P, N1⟩ := o1.ok c c2 c3
        obtain ⟨rfl, Y', D, N2⟩ := o2.ok c c2 c3
        have hl : ((bs.drop (at_ - base).toNat).length : Int) = base + bs.length - at_ := by rw [List.length_drop]; omega
        exact ⟨0, rfl, rfl, X', Y', at_, SY, _, _, s.two hn N1 P N2 D ⟨os, by omega, by omega, by omega, hsy.2.2⟩ (trim_law s.full c c2.1 (by omega)) (by omega), fx N1 N2⟩
    · obtain ⟨rfl, X', P, N1⟩ := o1.arg c c2
      obtain ⟨rfl, Y', D, N2⟩ := o2.arg c c2
      exact ⟨22, rfl, rfl, X', Y', base, SY, bs, l, s.two hn N1 P N2 D ok1 s.full s.b, fx N1 N2⟩
structure OpD where
  k : UInt8
  n : Int
  b : List UInt8
def ROp : Rep OpD := RMap (fun x => (x.k, x.n, x.b)) (RPair RByte (RPair RInt (RSl RByte)))
theorem ROp_is {F : Nat → Prop} {h : AH} {c : List AV} {x : OpD} : ROp.is F h c x ↔ ∃ vb, c = [.lit (.int .u8 x.k.toNat), .lit (.int .i64 x.n), vb] ∧ IsSl RByte F h vb x.b ∧ I64 x.n := by
  constructor
  · rintro ⟨c1, c2, rfl, rfl, c3, c4, rfl, ⟨rfl, h1⟩, h2⟩
    obtain ⟨v, rfl, h3⟩ := RSl_is.1 h2
    exact ⟨v, rfl, h3, h1⟩
  · rintro ⟨vb, rfl, h1, h2⟩
    exact ⟨_, _, rfl, rfl, _, _, rfl, ⟨rfl, h2⟩, RSl_is.2 ⟨vb, rfl, h1⟩⟩
theorem ROp_z : ROp.z = 3 := rfl
def opV (x : OpD) (vb : AV) : AV := .agg [.lit (.int .u8 x.k.toNat), .lit (.int .i64 x.n), vb]
theorem rem8 (k : UInt8) : Int.tmod (k.toNat : Int) 8 = ((k.toNat % 8 : Nat) : Int) := by
  rw [Int.tmod_eq_emod_of_nonneg (by omega)]
  omega
/-- What a step leaves. -/
def StN (n0 p : Nat) (B : Int) (H h' : AH) (d e : Nat) (size : Int) : Prop := Ext n0 H h' ∧ ∃ X Y j k base synced limit torn bs l, St n0 p B h' X Y j d k e size base synced limit torn bs l
theorem doA_x {n0 p : Nat} {B : Int} {H : AH} {X Y : Nat → Prop} {j d k e : Nat} {size base synced limit torn : Int} {bs : List UInt8} {l : RecL} {x : OpD} {vb : AV} (s : St n0 p B H X Y j d k e size base synced limit torn bs l) (hn : n0 ≤ H.n) (hB : B ≤ 4611686018427387904)
    (hx : IsSl RByte (fun b => b < n0) H vb x.b) (hxl : x.b.length ≤ 140737488351232) (hk : x.k.toNat % 8 ≤ 2) :
    WC Try.prog (tabOf Try.prog NT0) S0 16 [.ptr p 0, opV x vb] H fun r h' => r = .lit (.bool true) ∧ StN n0 p (B + 524296) H h' d e size := by
  refine WC_fn Try.func16 rfl rfl ?_
  have hrem := rem8 x.k
  have h80 : ¬ (8 : Int) = 0 := by decide
  have b1 := hx.isSl
  have b2 := hx.one
  have b3 := hx.cells
  have q00 : ((0 : Int) == 0) = true := rfl
  have q10 : ((1 : Int) == 0) = false := rfl
  have q11 : ((1 : Int) == 1) = true := rfl
  have q20 : ((2 : Int) == 0) = false := rfl
  have q21 : ((2 : Int) == 1) = false := rfl
  have q22 : ((2 : Int) == 2) = true := rfl
  obtain ⟨h1, hh1⟩ : ∃ h1, h1 = H.push (.cells [.lit (.int .u8 x.k.toNat), .lit (.int .i64 x.n), vb] 47) := ⟨_, rfl⟩
  have E1 : Ext H.n H h1 := hh1 ▸ (Ext.refl _ _).push _ (Nat.le_refl _)
  have O1 : h1.at H.n = some (.cells [.lit (.int .u8 x.k.toNat), .lit (.int .i64 x.n), vb] 47) := hh1 ▸ at_push_n _ _
  have n1 : h1.n = H.n + 1 := hh1 ▸ n_push _ _
  have LO1 := ld_at (T := tabOf Try.prog NT0) O1
  have lo1 := at_lt O1
  have hx1 := hx.ext E1 (Nat.le_refl _)
  have hlen := s.len
  have hm : x.k.toNat % 8 = 0 ∨ x.k.toNat % 8 = 1 ∨ x.k.toNat % 8 = 2 := by omega
  rcases hm with hm | hm | hm <;> rw [hm] at hrem
  case' inl => rw [show ((0 : Nat) : Int) = 0 from rfl] at hrem
  case' inr.inl => rw [show ((1 : Nat) : Int) = 1 from rfl] at hrem
  case' inr.inr => rw [show ((2 : Nat) : Int) = 2 from rfl] at hrem
  all_goals
    simp only [core, zrA, zrS, zrM, zrL, zrE, reduceCtorEq, zrD, ziE, ziL, ziN, Try.ntmps16, opV, b1, b2, b3, hrem, h80, q00, q10, q11, q20, q21, q22, ← hh1, LO1, lo1]
    refine (lend_x hx1 hxl).mono ?_
    rintro _ h2 ⟨E2, W2, rfl⟩
    have n2 := E2.1
    have E12 := E1.trans (E2.mono (by omega))
    have S2 := s.ext E12
    have LP2 := ld_at (T := tabOf Try.prog NT0) S2.pr
    have lp2 := at_lt S2.pr
    have O2 := E2.at lo1 O1
    have hg : IsSl RByte (fun b => b = h1.n) h2 (.sl h1.n 1 x.b.length (.kn (x.b.length + 1))) x.b := by
      refine IsSl.mkBytes rfl (row := bL (lendB x.b)) (by unfold getR; rw [W2]) ?_ fun b off n cap e => by cases e; exact Nat.le_succ _
      unfold cut
      rw [if_pos (by rw [len_bL, lendB_len]; omega), drop_bL, take_bL]
      congr 2
      show (x.b ++ [90]).take x.b.length = x.b
      exact List.take_left' rfl
    simp only [core, zrA, zrS, zrM, zrL, zrE, reduceCtorEq, zrD, ziE, ziL, ziN, LP2, lp2]
    refine (appendJ_u S2.ps s.ok hg (fun b hb hX => by have := s.ps.lt b hX; omega) hlen.1).mono ?_
    rintro _ h3 ⟨rfl, X3, P3, N3⟩
    have n3 := N3.n
    have D3 := S2.dsKeep N3
    have pr3 := S2.prX N3
    have LP3 := ld_at (T := tabOf Try.prog NT0) pr3
    have lp3 := at_lt pr3
    have xlt : ∀ b, X b → b < H.n := s.ps.lt
    have ylt : ∀ b, Y b → b < H.n := s.ds.lt
    have O3 := (N3.k H.n (by omega) (fun h => by have := xlt _ h; omega)).trans O2
    have LO3 := ld_at (T := tabOf Try.prog NT0) O3
    have lo3 := at_lt O3
    have W3 := (N3.k h1.n (by have := at_lt W2; omega) (fun h => by have := xlt _ h; omega)).trans W2
    have hx3 : IsSl RByte (fun b => b < n0) h3 vb x.b := (hx.ext E12 (Nat.le_refl _)).lift fun b hb hlt => ⟨N3.k b hlt (fun h => by have := s.n0 b (.inl h); omega), hb⟩
    simp only [core, zrA, zrS, zrM, zrL, zrE, reduceCtorEq, zrD, ziE, ziL, ziN]
    rw [WB_regionD [0, 1, 2, 3, 4, 5, 6, 7, 8, 9, 10, 11] 11145607399672859468538244715896040119603200 (by kernel_rfl)]
    repeat ((with_reducible refine WDM_cons ?_; simp only [dw1]; try simp only [dw2, zrA, zrM, zrR, zrO, zrE]); simp only [core, zrA, zrS, zrM, zrL, zrE, reduceCtorEq, zrD, ziE, ziL, ziN, cored, LP3, lp3, LO3, lo3, b1, same_one, same_sl])
    refine (appendK_u D3 s.ok hx3).mono ?_
    rintro _ h4 ⟨rfl, Y4, D4, N4⟩
    have n4 := N4.n
    obtain ⟨ok4, full4, b4⟩ := ap_law (ys := x.b) s.ok s.full
    have sb := s.b
    have T4 := S2.two (B' := B + 524296) (by omega) N3 P3 N4 D4 ok4 full4 (by omega)
    have pr4 := T4.1.pr
    have LP4 := ld_at (T := tabOf Try.prog NT0) pr4
    have lp4 := at_lt pr4
    have O4 := (N4.k H.n (by omega) (fun h => by have := ylt _ h; omega)).trans O3
    have LO4 := ld_at (T := tabOf Try.prog NT0) O4
    have lo4 := at_lt O4
    have W4 := (N4.k h1.n (by have := at_lt W3; omega) (fun h => by have := ylt _ h; omega)).trans W3
    have hx4 : IsSl RByte (fun b => b < n0) h4 vb x.b := hx3.lift fun b hb hlt => ⟨N4.k b hlt (fun h => by have := s.n0 b (.inr (.inl h)); omega), hb⟩
    repeat ((with_reducible refine WDM_cons ?_; simp only [dw1]; try simp only [dw2, zrA, zrM, zrR, zrO, zrE]); simp only [core, zrA, zrS, zrM, zrL, zrE, reduceCtorEq, zrD, ziE, ziL, ziN, cored, LP4, lp4, LO4, lo4, b1, same_one, same_sl])
    refine num_x.mono ?_
    rintro _ hh ⟨e0, rfl⟩
    replace e0 := e0.symm
    subst e0
    have ceq : ((apR size base bs x.b).2 == (apR size base bs x.b).2) = true := beq_self_eq_true _
    simp only [core, zrA, zrS, zrM, zrL, zrE, reduceCtorEq, zrD, ziE, ziL, ziN, LO4, lo4, ceq]
    refine (kept_x W4 hx4 hxl).mono ?_
    rintro _ hh ⟨e0, rfl⟩
    replace e0 := e0.symm
    subst e0
    simp only [core, zrA, zrS, zrM, zrL, zrE, reduceCtorEq, zrD, ziE, ziL, ziN]
    exact ⟨(E12.mono hn).trans T4.2, _, _, _, _, _, _, _, _, _, _, T4.1⟩
end Go.Proofs.Ytcnbamdmngaliaa.Ex
end

section

set_option linter.unusedSimpArgs false
set_option linter.unusedVariables false
set_option maxRecDepth 10000
set_option maxHeartbeats 4000000
namespace Go.Proofs.Ytcnbamdmngaliaa.Ex
open Go
theorem sync_ok {size base synced limit : Int} {bs : List UInt8} (ok : DOk size base bs synced limit) : DOk size base bs (if 0 ≤ limit ∧ limit < base + bs.length then synced else base + bs.length) limit := by
  have oy := ok.y
  have om := ok.m
  refine ⟨ok.s, ok.b, ok.l, ?_, ?_⟩ <;> split <;> omega
theorem TrimO.val {X : Nat → Prop} {H h' : AH} {j d : Nat} {size base synced limit torn at_ : Int} {bs : List UInt8} {l : RecL} {sy : Int} {fr : Prop} {r : AV} (o : TrimO X H h' j d size base synced limit torn at_ bs l sy fr r) : ∃ v : Int, r = .lit (.int .i64 v) := by
  by_cases c : idxR at_ l = l.length ∧ at_ ≠ base + bs.length
  · exact ⟨_, (o.none c).1⟩
  · by_cases c2 : base ≤ at_ ∧ at_ ≤ sy
    · by_cases c3 : fr
      · exact ⟨_, (o.froz c c2 c3).1⟩
      · exact ⟨_, (o.ok c c2 c3).1⟩
    · exact ⟨_, (o.arg c c2).1⟩
theorem arm_ok {size base synced limit n : Int} {bs : List UInt8} (ok : DOk size base bs synced limit) : DOk size base bs synced (armL limit (base + bs.length) n) := by
  have oy := ok.y
  have om := ok.m
  have hA := armN_le n
  refine ⟨ok.s, ok.b, ok.l, ok.y, .inr ?_⟩
  unfold armL
  split <;> omega
theorem do3_x {n0 p : Nat} {B : Int} {H : AH} {X Y : Nat → Prop} {j d k e : Nat} {size base synced limit torn : Int} {bs : List UInt8} {l : RecL} {x : OpD} {vb : AV} (s : St n0 p B H X Y j d k e size base synced limit torn bs l) (hn : n0 ≤ H.n) (hB : B ≤ 4611686018427387904)
    (hx : IsSl RByte (fun b => b < n0) H vb x.b) (hI : I64 x.n) (hm : x.k.toNat % 8 = 3) :
    WC Try.prog (tabOf Try.prog NT0) S0 16 [.ptr p 0, opV x vb] H fun r h' => r = .lit (.bool true) ∧ StN n0 p (B + 524296) H h' d e size := by
  refine WC_fn Try.func16 rfl rfl ?_
  have hrem := rem8 x.k
  rw [hm, show ((3 : Nat) : Int) = 3 from rfl] at hrem
  have h80 : ¬ (8 : Int) = 0 := by decide
  have b1 := hx.isSl
  have b2 := hx.one
  have b3 := hx.cells
  have q30 : ((3 : Int) == 0) = false := rfl
  have q31 : ((3 : Int) == 1) = false := rfl
  have q32 : ((3 : Int) == 2) = false := rfl
  have q33 : ((3 : Int) == 3) = true := rfl
  obtain ⟨h1, hh1⟩ : ∃ h1, h1 = H.push (.cells [.lit (.int .u8 x.k.toNat), .lit (.int .i64 x.n), vb] 47) := ⟨_, rfl⟩
  have E1 : Ext H.n H h1 := hh1 ▸ (Ext.refl _ _).push _ (Nat.le_refl _)
  have O1 : h1.at H.n = some (.cells [.lit (.int .u8 x.k.toNat), .lit (.int .i64 x.n), vb] 47) := hh1 ▸ at_push_n _ _
  have n1 : h1.n = H.n + 1 := hh1 ▸ n_push _ _
  have LO1 := ld_at (T := tabOf Try.prog NT0) O1
  have lo1 := at_lt O1
  have hlen := s.len
  have hkb := s.ok.b
  have hks := s.ok.s
  have sb := s.b
  have xlt : ∀ b, X b → b < H.n := s.ps.lt
  have ylt : ∀ b, Y b → b < H.n := s.ds.lt
  have S1 := s.ext E1
  have LP1 := ld_at (T := tabOf Try.prog NT0) S1.pr
  have lp1 := at_lt S1.pr
  obtain ⟨u, he, hu⟩ := S1.ds.es
  have u1 := hu.isSl
  have u2 := hu.lenD
  have hkj := S1.ds.ks
  unfold kjC at hkj
  have LK := ld_at (T := tabOf Try.prog NT0) hkj
  have lk := at_lt hkj
  simp only [core, zrA, zrS, zrM, zrL, zrE, reduceCtorEq, zrD, ziE, ziL, ziN, Try.ntmps16, opV, b1, b2, b3, hrem, h80, q30, q31, q32, q33, ← hh1, LO1, lo1, LP1, lp1, LK, lk]
  refine (syncE_x he u1 u2 hkb (by omega)).mono ?_
  rintro _ h2 ⟨rfl, m2⟩
  obtain ⟨D2, N2⟩ := S1.ds.num hu m2
  have P2 := S1.psKeep N2
  have pr2 := S1.prY N2
  have LP2 := ld_at (T := tabOf Try.prog NT0) pr2
  have lp2 := at_lt pr2
  obtain ⟨v, vl, hd, hj, ho, xv, xl, hL⟩ := P2.e
  have v1 := ho.isSl
  have v2 := ho.lenD
  simp only [core, zrA, zrS, zrM, zrL, zrE, reduceCtorEq, zrD, ziE, ziL, ziN, LP2, lp2]
  refine (syncJ_x hj hd hks.1 v1 v2 hkb (by omega)).mono ?_
  rintro _ h3 ⟨rfl, m3⟩
  obtain ⟨X3, P3, N3⟩ := P2.step hd hj ho xv xl hL (m3.cg (by simp)) m3.at_ (ho.lift fun b off n cap e => m3.ne b (fun eb => ho.sep hd (by decide) off n cap (by rw [← eb]; exact e))) fun b _ h => h
  try simp only [core, zrA, zrS, zrM, zrL, zrE, reduceCtorEq, zrD, ziE, ziL, ziN]
  refine num_x.mono ?_
  rintro _ hh ⟨e0, rfl⟩
  replace e0 := e0.symm
  subst e0
  have q00 : ((0 : Int) == 0) = true := rfl
  simp only [core, zrA, zrS, zrM, zrL, zrE, reduceCtorEq, zrD, ziE, ziL, ziN, q00]
  have T3 := S1.two' (B' := B + 524296) (by omega) N2 D2 N3 P3 (sync_ok s.ok) s.full (by omega)
  exact ⟨(E1.mono hn).trans T3.2, _, _, _, _, _, _, _, _, _, _, T3.1⟩
theorem do4_x {n0 p : Nat} {B : Int} {H : AH} {X Y : Nat → Prop} {j d k e : Nat} {size base synced limit torn : Int} {bs : List UInt8} {l : RecL} {x : OpD} {vb : AV} (s : St n0 p B H X Y j d k e size base synced limit torn bs l) (hn : n0 ≤ H.n) (hB : B ≤ 4611686018427387904)
    (hx : IsSl RByte (fun b => b < n0) H vb x.b) (hI : I64 x.n) (hm : x.k.toNat % 8 = 4) :
    WC Try.prog (tabOf Try.prog NT0) S0 16 [.ptr p 0, opV x vb] H fun r h' => r = .lit (.bool true) ∧ StN n0 p (B + 524296) H h' d e size := by
  refine WC_fn Try.func16 rfl rfl ?_
  have hrem := rem8 x.k
  rw [hm, show ((4 : Nat) : Int) = 4 from rfl] at hrem
  have h80 : ¬ (8 : Int) = 0 := by decide
  have b1 := hx.isSl
  have b2 := hx.one
  have b3 := hx.cells
  have q40 : ((4 : Int) == 0) = false := rfl
  have q41 : ((4 : Int) == 1) = false := rfl
  have q42 : ((4 : Int) == 2) = false := rfl
  have q43 : ((4 : Int) == 3) = false := rfl
  have q44 : ((4 : Int) == 4) = true := rfl
  obtain ⟨h1, hh1⟩ : ∃ h1, h1 = H.push (.cells [.lit (.int .u8 x.k.toNat), .lit (.int .i64 x.n), vb] 47) := ⟨_, rfl⟩
  have E1 : Ext H.n H h1 := hh1 ▸ (Ext.refl _ _).push _ (Nat.le_refl _)
  have O1 : h1.at H.n = some (.cells [.lit (.int .u8 x.k.toNat), .lit (.int .i64 x.n), vb] 47) := hh1 ▸ at_push_n _ _
  have n1 : h1.n = H.n + 1 := hh1 ▸ n_push _ _
  have LO1 := ld_at (T := tabOf Try.prog NT0) O1
  have lo1 := at_lt O1
  have hlen := s.len
  have hkb := s.ok.b
  have hks := s.ok.s
  have sb := s.b
  have xlt : ∀ b, X b → b < H.n := s.ps.lt
  have ylt : ∀ b, Y b → b < H.n := s.ds.lt
  have S1 := s.ext E1
  have LP1 := ld_at (T := tabOf Try.prog NT0) S1.pr
  have lp1 := at_lt S1.pr
  obtain ⟨v, vl, hd, hj, ho, xv, xl, hL⟩ := S1.ps.e
  simp only [core, zrA, zrS, zrM, zrL, zrE, reduceCtorEq, zrD, ziE, ziL, ziN, Try.ntmps16, opV, b1, b2, b3, hrem, h80, q40, q41, q42, q43, q44, ← hh1, LO1, lo1, LP1, lp1]
  rw [WB_regionD [0, 1, 2, 3, 4, 5, 6, 7, 8, 9, 10, 11] 11145607399672859468538244715896040119603200 (by kernel_rfl)]
  repeat ((with_reducible refine WDM_cons ?_; simp only [dw1]; try simp only [dw2, zrA, zrM, zrR, zrO, zrE]); simp only [core, zrA, zrS, zrM, zrL, zrE, reduceCtorEq, zrD, ziE, ziL, ziN, cored, LO1, lo1, LP1, lp1, same_one, same_int])
  refine (readJ_x hj (own_sl hL xl fun b h => h.1) hlen.1 hlen.2.2).mono ?_
  rintro _ h2 ⟨E2, w1, rfl, o1⟩
  have S2 := S1.ext E2
  have LP2 := ld_at (T := tabOf Try.prog NT0) S2.pr
  have lp2 := at_lt S2.pr
  have O2 := E2.at lo1 O1
  have LO2 := ld_at (T := tabOf Try.prog NT0) O2
  have lo2 := at_lt O2
  obtain ⟨u, he, hu⟩ := S2.ds.es
  repeat ((with_reducible refine WDM_cons ?_; simp only [dw1]; try simp only [dw2, zrA, zrM, zrR, zrO, zrE]); simp only [core, zrA, zrS, zrM, zrL, zrE, reduceCtorEq, zrD, ziE, ziL, ziN, cored, LO2, lo2, LP2, lp2, same_one, same_int])
  try simp only [core, zrA, zrS, zrM, zrL, zrE, reduceCtorEq, zrD, ziE, ziL, ziN]
  rw [WB_regionD [0, 1, 2, 3, 4, 5, 6, 7, 8, 9, 10, 11] 11145607399672859468538244715896040119603200 (by kernel_rfl)]
  repeat ((with_reducible refine WDM_cons ?_; simp only [dw1]; try simp only [dw2, zrA, zrM, zrR, zrO, zrE]); simp only [core, zrA, zrS, zrM, zrL, zrE, reduceCtorEq, zrD, ziE, ziL, ziN, cored, LO2, lo2, LP2, lp2, same_one, same_int])
  refine (readK_x S2.ds.ks he hkb hu (by omega) s.full).mono ?_
  rintro _ h3 ⟨E3, w2, rfl, o2⟩
  have S3 := S2.ext E3
  have LP3 := ld_at (T := tabOf Try.prog NT0) S3.pr
  have lp3 := at_lt S3.pr
  have O3 := E3.at lo2 O2
  have LO3 := ld_at (T := tabOf Try.prog NT0) O3
  have lo3 := at_lt O3
  repeat ((with_reducible refine WDM_cons ?_; simp only [dw1]; try simp only [dw2, zrA, zrM, zrR, zrO, zrE]); simp only [core, zrA, zrS, zrM, zrL, zrE, reduceCtorEq, zrD, ziE, ziL, ziN, cored, LO3, lo3, LP3, lp3, same_one, same_int])
  try simp only [core, zrA, zrS, zrM, zrL, zrE, reduceCtorEq, zrD, ziE, ziL, ziN]
  refine (same_x ((VwB.ofOwn o1).sl.ext E3 (Nat.le_refl _)) o2).mono ?_
  rintro _ hh ⟨e0, rfl⟩
  replace e0 := e0.symm
  subst e0
  try simp only [core, zrA, zrS, zrM, zrL, zrE, reduceCtorEq, zrD, ziE, ziL, ziN]
  refine num_x.mono ?_
  rintro _ hh ⟨e0, rfl⟩
  replace e0 := e0.symm
  subst e0
  have ceq : ((rdR x.n l).2 == (rdR x.n l).2) = true := beq_self_eq_true _
  simp only [core, zrA, zrS, zrM, zrL, zrE, reduceCtorEq, zrD, ziE, ziL, ziN, ceq]
  have n2 := E2.1
  have n3 := E3.1
  exact ⟨((E1.trans (E2.mono (by omega))).trans (E3.mono (by omega))).mono hn, _, _, _, _, _, _, _, _, _, _, S3.mono (by omega)⟩
theorem do6_x {n0 p : Nat} {B : Int} {H : AH} {X Y : Nat → Prop} {j d k e : Nat} {size base synced limit torn : Int} {bs : List UInt8} {l : RecL} {x : OpD} {vb : AV} (s : St n0 p B H X Y j d k e size base synced limit torn bs l) (hn : n0 ≤ H.n) (hB : B ≤ 4611686018427387904)
    (hx : IsSl RByte (fun b => b < n0) H vb x.b) (hI : I64 x.n) (hm : x.k.toNat % 8 = 6) :
    WC Try.prog (tabOf Try.prog NT0) S0 16 [.ptr p 0, opV x vb] H fun r h' => r = .lit (.bool true) ∧ StN n0 p (B + 524296) H h' d e size := by
  refine WC_fn Try.func16 rfl rfl ?_
  have hrem := rem8 x.k
  rw [hm, show ((6 : Nat) : Int) = 6 from rfl] at hrem
  have h80 : ¬ (8 : Int) = 0 := by decide
  have b1 := hx.isSl
  have b2 := hx.one
  have b3 := hx.cells
  have q60 : ((6 : Int) == 0) = false := rfl
  have q61 : ((6 : Int) == 1) = false := rfl
  have q62 : ((6 : Int) == 2) = false := rfl
  have q63 : ((6 : Int) == 3) = false := rfl
  have q64 : ((6 : Int) == 4) = false := rfl
  have q65 : ((6 : Int) == 5) = false := rfl
  have q66 : ((6 : Int) == 6) = true := rfl
  obtain ⟨h1, hh1⟩ : ∃ h1, h1 = H.push (.cells [.lit (.int .u8 x.k.toNat), .lit (.int .i64 x.n), vb] 47) := ⟨_, rfl⟩
  have E1 : Ext H.n H h1 := hh1 ▸ (Ext.refl _ _).push _ (Nat.le_refl _)
  have O1 : h1.at H.n = some (.cells [.lit (.int .u8 x.k.toNat), .lit (.int .i64 x.n), vb] 47) := hh1 ▸ at_push_n _ _
  have n1 : h1.n = H.n + 1 := hh1 ▸ n_push _ _
  have LO1 := ld_at (T := tabOf Try.prog NT0) O1
  have lo1 := at_lt O1
  have hlen := s.len
  have hkb := s.ok.b
  have hks := s.ok.s
  have sb := s.b
  have xlt : ∀ b, X b → b < H.n := s.ps.lt
  have ylt : ∀ b, Y b → b < H.n := s.ds.lt
  have S1 := s.ext E1
  have LP1 := ld_at (T := tabOf Try.prog NT0) S1.pr
  have lp1 := at_lt S1.pr
  obtain ⟨v, vl, hd, hj, ho, xv, xl, hL⟩ := S1.ps.e
  simp only [core, zrA, zrS, zrM, zrL, zrE, reduceCtorEq, zrD, ziE, ziL, ziN, Try.ntmps16, opV, b1, b2, b3, hrem, h80, q60, q61, q62, q63, q64, q65, q66, ← hh1, LO1, lo1, LP1, lp1]
  rw [WB_regionD [0, 1, 2, 3, 4, 5, 6] 277626700742784 (by kernel_rfl)]
  repeat ((with_reducible refine WDM_cons ?_; simp only [dw1]; try simp only [dw2, zrA, zrM, zrR, zrO, zrE]); simp only [core, zrA, zrS, zrM, zrL, zrE, reduceCtorEq, zrD, ziE, ziL, ziN, cored, LO1, lo1, LP1, lp1, same_one, same_int])
  refine (crashD_x hd hks.1 hkb (ho.toSl (F := fun _ => True) fun _ _ _ _ _ => trivial) (by omega) s.ok.y s.ok.m).mono ?_
  rintro _ h2 ⟨rfl, m2⟩
  have hT := crT_le (keep := x.n) s.ok.y.2 s.ok.m
  have oy := s.ok.y
  have ol := s.ok.l
  obtain ⟨T, hTT⟩ : ∃ T, T = crT (base + bs.length) synced limit x.n := ⟨_, rfl⟩
  rw [← hTT] at hT m2
  have hs3 := ho.sl3 (k := (T - base).toNat) (by omega)
  have ld := at_lt hd
  have apd : ∀ b off n cap, sl3 (T - base).toNat v = .sl b off n cap → b ≠ d := fun b off n cap e eb => hs3.2 d (ho.sep hd (by decide)) off n cap (by rw [← eb]; exact e)
  have V2 := hs3.1.lift fun b off n cap e => m2.ne b (apd b off n cap e)
  have ok2 : DOk size base (bs.take (T - base).toNat) T (-1) := by
    have hl : (bs.take (T - base).toNat).length = (T - base).toNat := by rw [List.length_take]; omega
    exact ⟨hks, hkb, by omega, by omega, .inl (by omega)⟩
  have xv2 : SlF X (sl3 (T - base).toNat v) := fun b off n cap e => by
    apply Classical.byContradiction
    intro h
    exact hs3.2 b (fun off n cap e => h (xv b off n cap e)) off n cap e
  have n2 := m2.n
  have N2 : Nx X X h1 h2 := ⟨by omega, fun b _ hX => m2.ne b (fun eb => hX (by rw [eb]; exact s.ps.d)), fun b h => .inl h⟩
  have D2 := S1.dsKeep N2
  have pr2 := S1.prX N2
  have LP2 := ld_at (T := tabOf Try.prog NT0) pr2
  have lp2 := at_lt pr2
  have O2 := (N2.k H.n (by omega) (fun h => by have := xlt _ h; omega)).trans O1
  have LO2 := ld_at (T := tabOf Try.prog NT0) O2
  have lo2 := at_lt O2
  obtain ⟨u, he, hu⟩ := D2.es
  repeat ((with_reducible refine WDM_cons ?_; simp only [dw1]; try simp only [dw2, zrA, zrM, zrR, zrO, zrE]); simp only [core, zrA, zrS, zrM, zrL, zrE, reduceCtorEq, zrD, ziE, ziL, ziN, cored, LO2, lo2, LP2, lp2, same_one, same_int])
  try simp only [core, zrA, zrS, zrM, zrL, zrE, reduceCtorEq, zrD, ziE, ziL, ziN]
  rw [WB_regionD [0, 1, 2, 3, 4, 5, 6] 277626700742784 (by kernel_rfl)]
  repeat ((with_reducible refine WDM_cons ?_; simp only [dw1]; try simp only [dw2, zrA, zrM, zrR, zrO, zrE]); simp only [core, zrA, zrS, zrM, zrL, zrE, reduceCtorEq, zrD, ziE, ziL, ziN, cored, LO2, lo2, LP2, lp2, same_one, same_int])
  refine (crashE_x he hkb hu (by omega) s.ok.y s.ok.m).mono ?_
  rintro _ h3 ⟨rfl, C3, u3, he3, hu3⟩
  rw [← hTT] at he3 hu3
  obtain ⟨Y3, D3, N3⟩ := D2.step C3 he3 hu3
  have n3 := C3.n
  have pr3 := (N3.k p lp2 s.pY).trans pr2
  have ed : ∀ b, X b → h3.at b = h2.at b := fun b hb => N3.k b (by have := xlt b hb; omega) (s.dj b hb)
  have hd3 := (ed d s.ps.d).trans m2.at_
  have V3 := V2.lift fun b off n cap e => ed b (xv2 b off n cap e)
  obtain ⟨u4, he4, hu4⟩ := D3.es
  repeat ((with_reducible refine WDM_cons ?_; simp only [dw1]; try simp only [dw2, zrA, zrM, zrR, zrO, zrE]); simp only [core, zrA, zrS, zrM, zrL, zrE, reduceCtorEq, zrD, ziE, ziL, ziN, cored, LO2, lo2, LP2, lp2, same_one, same_int])
  try simp only [core, zrA, zrS, zrM, zrL, zrE, reduceCtorEq, zrD, ziE, ziL, ziN]
  refine (open_x (n0 := n0) (B := B + 524296) pr3 hd3 V3 xv2 s.ps.d (fun b hb => by have := xlt b hb; omega) he4 (hu4.lift fun b hb _ => ⟨rfl, hb.1, hb.2.1⟩) D3.ey D3.lt (fun b hb hy => (N3.x b hy).elim (s.dj b hb) fun h => by have := xlt b hb; omega) s.pX (fun h => (N3.x p h).elim s.pY fun h => by omega) (fun b hb => ?_) ok2 (by omega) (by have := ok2.l; rw [List.length_take]; omega) (by omega)).mono ?_
  · rcases hb with h | h | h
    · exact s.n0 b (.inl h)
    · rcases N3.x b h with h | h
      · exact s.n0 b (.inr (.inl h))
      · omega
    · exact s.n0 b (.inr (.inr h))
  · rintro _ h4 ⟨rfl, E4, l', a', rest', hf', X5, Y5, j5, k5, bs5, sy5, S5⟩
    simp only [core, zrA, zrS, zrM, zrL, zrE, reduceCtorEq, zrD, ziE, ziL, ziN]
    refine ⟨((E1.mono hn).trans ((N2.below (fun b hb => s.n0 b (.inl hb)) (by omega)).trans (N3.below (fun b hb => s.n0 b (.inr (.inl hb))) (by omega)))).trans E4, _, _, _, _, _, _, _, _, _, _, S5⟩
theorem do7_x {n0 p : Nat} {B : Int} {H : AH} {X Y : Nat → Prop} {j d k e : Nat} {size base synced limit torn : Int} {bs : List UInt8} {l : RecL} {x : OpD} {vb : AV} (s : St n0 p B H X Y j d k e size base synced limit torn bs l) (hn : n0 ≤ H.n) (hB : B ≤ 4611686018427387904)
    (hx : IsSl RByte (fun b => b < n0) H vb x.b) (hI : I64 x.n) (hm : x.k.toNat % 8 = 7) :
    WC Try.prog (tabOf Try.prog NT0) S0 16 [.ptr p 0, opV x vb] H fun r h' => r = .lit (.bool true) ∧ StN n0 p (B + 524296) H h' d e size := by
  refine WC_fn Try.func16 rfl rfl ?_
  have hrem := rem8 x.k
  rw [hm, show ((7 : Nat) : Int) = 7 from rfl] at hrem
  have h80 : ¬ (8 : Int) = 0 := by decide
  have b1 := hx.isSl
  have b2 := hx.one
  have b3 := hx.cells
  have q70 : ((7 : Int) == 0) = false := rfl
  have q71 : ((7 : Int) == 1) = false := rfl
  have q72 : ((7 : Int) == 2) = false := rfl
  have q73 : ((7 : Int) == 3) = false := rfl
  have q74 : ((7 : Int) == 4) = false := rfl
  have q75 : ((7 : Int) == 5) = false := rfl
  have q76 : ((7 : Int) == 6) = false := rfl
  obtain ⟨h1, hh1⟩ : ∃ h1, h1 = H.push (.cells [.lit (.int .u8 x.k.toNat), .lit (.int .i64 x.n), vb] 47) := ⟨_, rfl⟩
  have E1 : Ext H.n H h1 := hh1 ▸ (Ext.refl _ _).push _ (Nat.le_refl _)
  have O1 : h1.at H.n = some (.cells [.lit (.int .u8 x.k.toNat), .lit (.int .i64 x.n), vb] 47) := hh1 ▸ at_push_n _ _
  have n1 : h1.n = H.n + 1 := hh1 ▸ n_push _ _
  have LO1 := ld_at (T := tabOf Try.prog NT0) O1
  have lo1 := at_lt O1
  have hlen := s.len
  have hkb := s.ok.b
  have hks := s.ok.s
  have sb := s.b
  have xlt : ∀ b, X b → b < H.n := s.ps.lt
  have ylt : ∀ b, Y b → b < H.n := s.ds.lt
  have S1 := s.ext E1
  have LP1 := ld_at (T := tabOf Try.prog NT0) S1.pr
  have lp1 := at_lt S1.pr
  obtain ⟨v, vl, hd, hj, ho, xv, xl, hL⟩ := S1.ps.e
  have v1 := ho.isSl
  have v2 := ho.lenD
  simp only [core, zrA, zrS, zrM, zrL, zrE, reduceCtorEq, zrD, ziE, ziL, ziN, Try.ntmps16, opV, b1, b2, b3, hrem, h80, q70, q71, q72, q73, q74, q75, q76, ← hh1, LO1, lo1, LP1, lp1]
  rw [WB_regionD [0, 1, 2, 3, 4, 5, 6] 277626700742784 (by kernel_rfl)]
  repeat ((with_reducible refine WDM_cons ?_; simp only [dw1]; try simp only [dw2, zrA, zrM, zrR, zrO, zrE]); simp only [core, zrA, zrS, zrM, zrL, zrE, reduceCtorEq, zrD, ziE, ziL, ziN, cored, LO1, lo1, LP1, lp1, same_one, same_int])
  refine (arm_x hd hks.1 v1 v2 hkb (by omega)).mono ?_
  rintro _ h2 ⟨rfl, m2⟩
  obtain ⟨X2, P2, N2⟩ := S1.ps.step hd hj ho xv xl hL (m2.cg (by simp)) m2.at_ (ho.lift fun b off n cap e => m2.ne b (fun eb => ho.sep hd (by decide) off n cap (by rw [← eb]; exact e))) fun b _ h => h
  have n2 := m2.n
  have D2 := S1.dsKeep N2
  have pr2 := S1.prX N2
  have LP2 := ld_at (T := tabOf Try.prog NT0) pr2
  have lp2 := at_lt pr2
  have O2 := (N2.k H.n (by omega) (fun h => by have := xlt _ h; omega)).trans O1
  have LO2 := ld_at (T := tabOf Try.prog NT0) O2
  have lo2 := at_lt O2
  obtain ⟨u, he, hu⟩ := D2.es
  have u1 := hu.isSl
  have u2 := hu.lenD
  repeat ((with_reducible refine WDM_cons ?_; simp only [dw1]; try simp only [dw2, zrA, zrM, zrR, zrO, zrE]); simp only [core, zrA, zrS, zrM, zrL, zrE, reduceCtorEq, zrD, ziE, ziL, ziN, cored, LO2, lo2, LP2, lp2, same_one, same_int])
  try simp only [core, zrA, zrS, zrM, zrL, zrE, reduceCtorEq, zrD, ziE, ziL, ziN]
  rw [WB_regionD [0, 1, 2, 3, 4, 5, 6] 277626700742784 (by kernel_rfl)]
  repeat ((with_reducible refine WDM_cons ?_; simp only [dw1]; try simp only [dw2, zrA, zrM, zrR, zrO, zrE]); simp only [core, zrA, zrS, zrM, zrL, zrE, reduceCtorEq, zrD, ziE, ziL, ziN, cored, LO2, lo2, LP2, lp2, same_one, same_int])
  refine (armE_x he u1 u2 hkb (by omega)).mono ?_
  rintro _ h3 ⟨rfl, m3⟩
  obtain ⟨D3, N3⟩ := D2.num hu m3
  repeat ((with_reducible refine WDM_cons ?_; simp only [dw1]; try simp only [dw2, zrA, zrM, zrR, zrO, zrE]); simp only [core, zrA, zrS, zrM, zrL, zrE, reduceCtorEq, zrD, ziE, ziL, ziN, cored, LO2, lo2, LP2, lp2, same_one, same_int])
  try simp only [core, zrA, zrS, zrM, zrL, zrE, reduceCtorEq, zrD, ziE, ziL, ziN]
  have T3 := S1.two (B' := B + 524296) (by omega) N2 P2 N3 D3 (arm_ok s.ok) s.full (by omega)
  exact ⟨(E1.mono hn).trans T3.2, _, _, _, _, _, _, _, _, _, _, T3.1⟩
theorem do5_x {n0 p : Nat} {B : Int} {H : AH} {X Y : Nat → Prop} {j d k e : Nat} {size base synced limit torn : Int} {bs : List UInt8} {l : RecL} {x : OpD} {vb : AV} (s : St n0 p B H X Y j d k e size base synced limit torn bs l) (hn : n0 ≤ H.n) (hB : B ≤ 4611686018427387904)
    (hx : IsSl RByte (fun b => b < n0) H vb x.b) (hI : I64 x.n) (hm : x.k.toNat % 8 = 5) :
    WC Try.prog (tabOf Try.prog NT0) S0 16 [.ptr p 0, opV x vb] H fun r h' => r = .lit (.bool true) ∧ StN n0 p (B + 524296) H h' d e size := by
  refine WC_fn Try.func16 rfl rfl ?_
  have hrem := rem8 x.k
  rw [hm, show ((5 : Nat) : Int) = 5 from rfl] at hrem
  have h80 : ¬ (8 : Int) = 0 := by decide
  have b1 := hx.isSl
  have b2 := hx.one
  have b3 := hx.cells
  have q50 : ((5 : Int) == 0) = false := rfl
  have q51 : ((5 : Int) == 1) = false := rfl
  have q52 : ((5 : Int) == 2) = false := rfl
  have q53 : ((5 : Int) == 3) = false := rfl
  have q54 : ((5 : Int) == 4) = false := rfl
  have q55 : ((5 : Int) == 5) = true := rfl
  obtain ⟨h1, hh1⟩ : ∃ h1, h1 = H.push (.cells [.lit (.int .u8 x.k.toNat), .lit (.int .i64 x.n), vb] 47) := ⟨_, rfl⟩
  have E1 : Ext H.n H h1 := hh1 ▸ (Ext.refl _ _).push _ (Nat.le_refl _)
  have O1 : h1.at H.n = some (.cells [.lit (.int .u8 x.k.toNat), .lit (.int .i64 x.n), vb] 47) := hh1 ▸ at_push_n _ _
  have n1 : h1.n = H.n + 1 := hh1 ▸ n_push _ _
  have LO1 := ld_at (T := tabOf Try.prog NT0) O1
  have lo1 := at_lt O1
  have hlen := s.len
  have hkb := s.ok.b
  have hks := s.ok.s
  have sb := s.b
  have xlt : ∀ b, X b → b < H.n := s.ps.lt
  have ylt : ∀ b, Y b → b < H.n := s.ds.lt
  have S1 := s.ext E1
  have LP1 := ld_at (T := tabOf Try.prog NT0) S1.pr
  have lp1 := at_lt S1.pr
  obtain ⟨u, he, hu⟩ := S1.ds.es
  simp only [core, zrA, zrS, zrM, zrL, zrE, reduceCtorEq, zrD, ziE, ziL, ziN, Try.ntmps16, opV, b1, b2, b3, hrem, h80, q50, q51, q52, q53, q54, q55, ← hh1, LO1, lo1, LP1, lp1]
  refine (recordsE_x S1.ds.ks he hkb hu (by omega)).mono ?_
  rintro _ h2 ⟨E2, l', a', rest', vE, hf', rfl, hR⟩
  obtain ⟨rfl, rfl, rfl⟩ := Full.uniq l l' s.full hf'
  have n2 := E2.1
  have S2 := S1.ext E2
  have O2 := E2.at lo1 O1
  have LO2 := ld_at (T := tabOf Try.prog NT0) O2
  have lo2 := at_lt O2
  have LP2 := ld_at (T := tabOf Try.prog NT0) S2.pr
  have lp2 := at_lt S2.pr
  have r1 := hR.isSl
  have r3 := hR.lenD
  have tail : ∀ (K : Prop), True := fun _ => trivial
  rcases Classical.em (l = []) with hl0 | hl0
  case' inl =>
    have c0i : ((0 : Int) < (l.length : Int)) = False := by simp only [eq_iff_iff, iff_false]; rw [hl0]; simp
    simp only [core, zrA, zrS, zrM, zrL, zrE, reduceCtorEq, zrD, ziE, ziL, ziN, r1, r3, c0i, LO2, lo2, LP2, lp2]
    obtain ⟨AT, hAT⟩ : ∃ AT : Int, AT = base + bs.length := ⟨_, rfl⟩
    rw [← hAT]
  case' inr =>
    have c0n : 0 < l.length := List.length_pos_iff.2 hl0
    have c0i : ((0 : Int) < (l.length : Int)) = True := by simp only [eq_iff_iff, iff_true]; omega
    obtain ⟨IX, hIX, hIl⟩ : ∃ IX : Nat, IntKind.i64.wrap (Int.tmod (IntKind.u64.wrap x.n) (IntKind.u64.wrap (l.length : Int))) = (IX : Int) ∧ IX < l.length := by
      have h1 : IntKind.u64.wrap (l.length : Int) = (l.length : Int) := IntWalk.u64_in _ ⟨by omega, by omega⟩
      have h2 : IntKind.u64.wrap x.n = x.n % 18446744073709551616 := by simp [IntKind.wrap, IntKind.bits, IntKind.signed]
      rw [h1, h2, Int.tmod_eq_emod_of_nonneg (by omega)]
      have h3 := Int.emod_lt_of_pos (x.n % 18446744073709551616) (show (0 : Int) < l.length by omega)
      have h4 := Int.emod_nonneg (x.n % 18446744073709551616) (show (l.length : Int) ≠ 0 by omega)
      refine ⟨(x.n % 18446744073709551616 % (l.length : Int)).toNat, (wrap_in (by omega) (by omega)).trans (by omega), by omega⟩
    have h6 : ¬ IntKind.u64.wrap (l.length : Int) = 0 := by rw [IntWalk.u64_in _ ⟨by omega, by omega⟩]; omega
    obtain ⟨y, hy⟩ : ∃ y, l[IX]? = some y := ⟨_, List.getElem?_eq_getElem hIl⟩
    have hR2 : IsSl RRec (fun b => h1.n ≤ b) h2 vE l := OwnR.sl hR
    obtain ⟨c, hc1, hld, hld0⟩ := hR2.atE (T := tabOf Try.prog NT0) (Ext.refl _ _) RRec_z hy
    obtain ⟨vy, rfl, hvy, hy0⟩ := RRec_is.1 hc1
    have hIlt : (IX < l.length) = True := by simp only [eq_iff_iff, iff_true]; exact hIl
    simp only [core, zrA, zrS, zrM, zrL, zrE, reduceCtorEq, zrD, ziE, ziL, ziN, r1, r3, c0i, LO2, lo2, LP2, lp2, h6, hIX, hIlt, hld, hld0]
    obtain ⟨AT, hAT⟩ : ∃ AT : Int, AT = y.1 := ⟨_, rfl⟩
    rw [← hAT]
  all_goals
    rw [WB_regionD [0, 1, 2, 3, 4, 7, 8, 9, 10, 11, 5, 6, 12, 13, 14, 15, 16, 17, 18, 19, 20, 23, 24, 25, 26, 27, 28, 21, 22, 29, 30, 31, 32] 3316158517607899679322832364493860927303012242035396558025531341865138583263338249356934175544544698607408977586120762730615721167316789531462326723636219651891905584784914698018337852416298026962619826728596897285089970937764408962368904304727280861781030472670201374462687690405544286218152254950012875749620737636197218648064 (by kernel_rfl)]
    repeat ((with_reducible refine WDM_cons ?_; simp only [dw1]; try simp only [dw2, zrA, zrM, zrR, zrO, zrE]); simp only [core, zrA, zrS, zrM, zrL, zrE, reduceCtorEq, zrD, ziE, ziL, ziN, cored, LO2, lo2, LP2, lp2, same_one, same_int])
    refine (trimJ_x S2.ps s.ok hlen.1).mono ?_
    rintro _ h3 o1
    obtain ⟨v1, rfl⟩ := o1.val
    obtain ⟨X3, N3⟩ := o1.nx
    have n3 := N3.n
    have D3 := S2.dsKeep N3
    have LP3 := ld_at (T := tabOf Try.prog NT0) (S2.prX N3)
    have lp3 := at_lt (S2.prX N3)
    have O3 := (N3.k H.n (by omega) (fun h => by have := xlt _ h; omega)).trans O2
    have LO3 := ld_at (T := tabOf Try.prog NT0) O3
    have lo3 := at_lt O3
    repeat ((with_reducible refine WDM_cons ?_; simp only [dw1]; try simp only [dw2, zrA, zrM, zrR, zrO, zrE]); simp only [core, zrA, zrS, zrM, zrL, zrE, reduceCtorEq, zrD, ziE, ziL, ziN, cored, LO3, lo3, LP3, lp3, same_one, same_int])
    refine num_x.mono ?_
    rintro _ hh ⟨e0, rfl⟩
    replace e0 := e0.symm
    subst e0
    repeat ((with_reducible refine WDM_cons ?_; simp only [dw1]; try simp only [dw2, zrA, zrM, zrR, zrO, zrE]); simp only [core, zrA, zrS, zrM, zrL, zrE, reduceCtorEq, zrD, ziE, ziL, ziN, cored, LO3, lo3, LP3, lp3, same_one, same_int])
    refine (trimK_x D3 s.ok s.full).mono ?_
    rintro _ h4 o2
    obtain ⟨v2, e1, rfl, X4, Y4, base4, sy4, bs4, l4, ⟨S4, E4⟩, F4⟩ := S2.trimmed (by omega) hB o1 o2
    cases e1
    have ceq : (v1 == v1) = true := beq_self_eq_true _
    have LP4 := ld_at (T := tabOf Try.prog NT0) S4.pr
    have lp4 := at_lt S4.pr
    obtain ⟨Y4', N4⟩ := o2.nx
    have n4 := N4.n
    have O4 := (N4.k H.n (by omega) (fun h => by have := ylt _ h; omega)).trans O3
    have LO4 := ld_at (T := tabOf Try.prog NT0) O4
    have lo4 := at_lt O4
    repeat ((with_reducible refine WDM_cons ?_; simp only [dw1]; try simp only [dw2, zrA, zrM, zrR, zrO, zrE]); simp only [core, zrA, zrS, zrM, zrL, zrE, reduceCtorEq, zrD, ziE, ziL, ziN, cored, LO4, lo4, LP4, lp4, ceq, same_one, same_int])
    refine (trimJ_x S4.ps S4.ok S4.len.1).mono ?_
    rintro _ h5 p1
    obtain ⟨w1, rfl⟩ := p1.val
    obtain ⟨X5, N5⟩ := p1.nx
    have n5 := N5.n
    have D5 := S4.dsKeep N5
    have LP5 := ld_at (T := tabOf Try.prog NT0) (S4.prX N5)
    have lp5 := at_lt (S4.prX N5)
    have x4 : ¬ (X4 H.n ∨ Y4 H.n) := fun h => by
      rcases F4 H.n h with h | h | h
      · have := xlt _ h; omega
      · have := ylt _ h; omega
      · omega
    have O5 := (N5.k H.n (by omega) (fun h => x4 (.inl h))).trans O4
    have LO5 := ld_at (T := tabOf Try.prog NT0) O5
    have lo5 := at_lt O5
    repeat ((with_reducible refine WDM_cons ?_; simp only [dw1]; try simp only [dw2, zrA, zrM, zrR, zrO, zrE]); simp only [core, zrA, zrS, zrM, zrL, zrE, reduceCtorEq, zrD, ziE, ziL, ziN, cored, LO5, lo5, LP5, lp5, same_one, same_int])
    refine num_x.mono ?_
    rintro _ hh ⟨e0, rfl⟩
    replace e0 := e0.symm
    subst e0
    repeat ((with_reducible refine WDM_cons ?_; simp only [dw1]; try simp only [dw2, zrA, zrM, zrR, zrO, zrE]); simp only [core, zrA, zrS, zrM, zrL, zrE, reduceCtorEq, zrD, ziE, ziL, ziN, cored, LO5, lo5, LP5, lp5, same_one, same_int])
    refine (trimK_x D5 S4.ok S4.full).mono ?_
    rintro _ h6 p2
    obtain ⟨w2, e1, rfl, X6, Y6, base6, sy6, bs6, l6, ⟨S6, E6⟩, F6⟩ := S4.trimmed (by omega) hB p1 p2
    cases e1
    have ceq2 : (w1 == w1) = true := beq_self_eq_true _
    repeat ((with_reducible refine WDM_cons ?_; simp only [dw1]; try simp only [dw2, zrA, zrM, zrR, zrO, zrE]); simp only [core, zrA, zrS, zrM, zrL, zrE, reduceCtorEq, zrD, ziE, ziL, ziN, cored, LO5, lo5, LP5, lp5, ceq2, same_one, same_int])
    exact ⟨((E1.trans (E2.mono (by omega))).mono hn).trans (E4.trans E6), _, _, _, _, _, _, _, _, _, _, S6.mono (by omega)⟩
end Go.Proofs.Ytcnbamdmngaliaa.Ex
end

section

set_option linter.unusedSimpArgs false
set_option linter.unusedVariables false
set_option maxRecDepth 10000
set_option maxHeartbeats 4000000
namespace Go.Proofs.Ytcnbamdmngaliaa.Ex
open Go
section
variable {P : Program} {T : TT} {t : TM} {h : AH} {o : Oper} {e : TypeId}
theorem a_nilnil {i : Nat} (hv : t.get i = .lit (.pointer none)) (hp : pur P (binOp .eql e (.pointer none) (.pointer none)) = some (.ok (.bool true))) : aBin P T o t h .eql e (.tmp i) (.const (.pointer none)) = some (.val (.lit (.bool true)), h) := by
  unfold aBin
  rw [ev_tmp, hv, ev_nilp]
  simp only [hp, ofPV_bool]
end
theorem do_x {n0 p : Nat} {B : Int} {H : AH} {X Y : Nat → Prop} {j d k e : Nat} {size base synced limit torn : Int} {bs : List UInt8} {l : RecL} {x : OpD} {vb : AV} (s : St n0 p B H X Y j d k e size base synced limit torn bs l) (hn : n0 ≤ H.n) (hB : B ≤ 4611686018427387904)
    (hx : IsSl RByte (fun b => b < n0) H vb x.b) (hxl : x.b.length ≤ 140737488351232) (hI : I64 x.n) :
    WC Try.prog (tabOf Try.prog NT0) S0 16 [.ptr p 0, opV x vb] H fun r h' => r = .lit (.bool true) ∧ StN n0 p (B + 524296) H h' d e size := by
  have h8 : x.k.toNat % 8 < 8 := Nat.mod_lt _ (by decide)
  by_cases c2 : x.k.toNat % 8 ≤ 2
  · exact doA_x s hn hB hx hxl c2
  by_cases c3 : x.k.toNat % 8 = 3
  · exact do3_x s hn hB hx hI c3
  by_cases c4 : x.k.toNat % 8 = 4
  · exact do4_x s hn hB hx hI c4
  by_cases c5 : x.k.toNat % 8 = 5
  · exact do5_x s hn hB hx hI c5
  by_cases c6 : x.k.toNat % 8 = 6
  · exact do6_x s hn hB hx hI c6
  · exact do7_x s hn hB hx hI (by omega)
theorem ready_x {H : AH} {size : Int} :
    WC Try.prog (tabOf Try.prog NT0) S0 15 [.lit (.int .i64 size)] H fun r h' => Ext H.n H h' ∧ ((r = .tup [.lit (.pointer none), .lit (.bool true)]) ∨ (0 < size ∧ size ≤ 4194304 ∧ ∃ p, r = .tup [.ptr p 0, .lit (.bool true)] ∧ ∃ X Y j d k e base synced limit torn bs l, St H.n p size h' X Y j d k e size base synced limit torn bs l)) := by
  refine WC_fn Try.func15 rfl rfl ?_
  by_cases c1 : 4194304 < size
  · simp only [core, zrA, zrS, zrM, zrL, zrE, reduceCtorEq, zrD, ziE, ziL, ziN, Try.ntmps15, c1]
    exact ⟨Ext.refl _ _, .inl trivial⟩
  simp only [core, zrA, zrS, zrM, zrL, zrE, reduceCtorEq, zrD, ziE, ziL, ziN, Try.ntmps15, c1]
  refine newD_x.mono ?_
  rintro r h1 hr
  by_cases c2 : size < 1
  · rw [if_pos (.inl c2)] at hr
    obtain ⟨rfl, rfl⟩ := hr
    simp only [core, zrA, zrS, zrM, zrL, zrE, reduceCtorEq, zrD, ziE, ziL, ziN]
    refine newE_x.mono ?_
    rintro r h1 hr
    rw [if_pos (.inl c2)] at hr
    obtain ⟨rfl, rfl⟩ := hr
    simp only [core, zrA, zrS, zrM, zrL, zrE, reduceCtorEq, zrD, ziE, ziL, ziN]
    refine num_x.mono ?_
    rintro _ hh ⟨e0, rfl⟩
    replace e0 := e0.symm
    subst e0
    have q1 : ((22 : Int) != 22) = false := rfl
    have q2 : ((22 : Int) != 0) = true := rfl
    simp only [core, zrA, zrS, zrM, zrL, zrE, reduceCtorEq, zrD, ziE, ziL, ziN, q1, q2]
    exact ⟨Ext.refl _ _, .inl trivial⟩
  rw [if_neg (by omega)] at hr
  obtain ⟨hh1, rfl⟩ := hr
  have E1 : Ext H.n H h1 := hh1 ▸ (Ext.refl _ _).push _ (Nat.le_refl _)
  have A1 : h1.at H.n = some (dkC size 0 (.lit (.slice none 0 0)) 0 (-1)) := hh1 ▸ at_push_n _ _
  have n1 : h1.n = H.n + 1 := hh1 ▸ n_push _ _
  clear hh1
  simp only [core, zrA, zrS, zrM, zrL, zrE, reduceCtorEq, zrD, ziE, ziL, ziN]
  refine newE_x.mono ?_
  rintro r h2 hr
  rw [if_neg (by omega)] at hr
  obtain ⟨hh2, rfl⟩ := hr
  have E2 : Ext h1.n h1 h2 := hh2 ▸ (Ext.refl _ _).push _ (Nat.le_refl _)
  have A2 : h2.at h1.n = some (ekC size 0 (.lit (.slice none 0 0)) 0 (-1)) := hh2 ▸ at_push_n _ _
  have n2 : h2.n = h1.n + 1 := hh2 ▸ n_push _ _
  clear hh2
  simp only [core, zrA, zrS, zrM, zrL, zrE, reduceCtorEq, zrD, ziE, ziL, ziN]
  refine num_x.mono ?_
  rintro _ hh ⟨e0, rfl⟩
  replace e0 := e0.symm
  subst e0
  have q1 : ((0 : Int) != 0) = false := rfl
  simp only [core, zrA, zrS, zrM, zrL, zrE, reduceCtorEq, zrD, ziE, ziL, ziN, q1]
  obtain ⟨h3, hh3⟩ : ∃ h3, h3 = h2.push (.cells [.ptr H.n 0, .lit (.pointer none), .ptr h1.n 0, .lit (.pointer none)] 40) := ⟨_, rfl⟩
  have E3 : Ext h2.n h2 h3 := hh3 ▸ (Ext.refl _ _).push _ (Nat.le_refl _)
  have P3 : h3.at h2.n = some (.cells [.ptr H.n 0, .lit (.pointer none), .ptr h1.n 0, .lit (.pointer none)] 40) := hh3 ▸ at_push_n _ _
  have n3 : h3.n = h2.n + 1 := hh3 ▸ n_push _ _
  rw [← hh3]
  clear hh3
  have A3 := (E3.at (by omega) (E2.at (by omega) A1))
  have B3 := E3.at (by omega) A2
  refine (open_x (n0 := H.n) (B := size) (X := fun b => b = H.n) (Y := fun b => b = h1.n) P3 A3 .nil (fun b off n cap e => by cases e) rfl (fun b hb => by omega) B3 .bytesNil rfl (fun b hb => by omega) (fun b hb hc => by omega) (by omega) (by omega) (fun b hb => by omega) ⟨by omega, by omega, by simp; omega, by simp, .inl (by omega)⟩ (by omega) (by simp; omega) (by omega)).mono ?_
  rintro _ h4 ⟨rfl, E4, l, a, rest, -, X', Y', j, k, bs, sy, S⟩
  simp only [core, zrA, zrS, zrM, zrL, zrE, reduceCtorEq, zrD, ziE, ziL, ziN]
  exact ⟨((E1.trans (E2.mono (by omega))).trans (E3.mono (by omega))).trans E4, .inr ⟨by omega, by omega, h2.n, rfl, X', Y', j, H.n, k, h1.n, _, _, _, _, _, _, S⟩⟩
theorem runs_m {F : Nat → Prop} {H : AH} {v : AV} {size : Int} {ops : List OpD} (hv : IsSl ROp F H v ops) (hF : ∀ b, F b → b < H.n) (hl : Sm 40 ops) (hok : ∀ x ∈ ops, x.b.length ≤ 140737488351232) :
    WC Try.prog (tabOf Try.prog NT0) S0 4 [.lit (.int .i64 size), v] H fun r h' => r = .lit (.bool true) := by
  refine WC_fn Try.func4 rfl rfl ?_
  unfold Sm at hl
  have s1 := hv.isSl
  have s2 := hv.lenD
  simp only [core, zrA, zrS, zrM, zrL, zrE, reduceCtorEq, zrD, ziE, ziL, ziN, Try.ntmps4]
  refine ready_x.mono ?_
  rintro _ h1 ⟨E1, rfl | ⟨z1, z2, p, rfl, X, Y, j, d, k, e, base, synced, limit, torn, bs, l, S⟩⟩
  · have hpt : pur Try.prog (binOp .eql 36 (.pointer none) (.pointer none)) = some (.ok (.bool true)) := by kernel_rfl
    simp only [core, zrA, zrS, zrM, zrL, zrE, reduceCtorEq, zrD, ziE, ziL, ziN, a_nilnil, hpt]
    refine awake04_c ?_
    simp only [core, zrA, zrS, zrM, zrL, zrE, reduceCtorEq, zrD, ziE, ziL, ziN]
    try trivial
  simp only [core, zrA, zrS, zrM, zrL, zrE, reduceCtorEq, zrD, ziE, ziL, ziN, s1, s2]
  refine WB_for ops.length (fun i t h => (Ext H.n H h ∧ ∃ X Y j d k e base synced limit torn bs l, St H.n p (size + i * 524296) h X Y j d k e size base synced limit torn bs l) ∧ t.n = 39 ∧ t.get 5 = .ptr p 0 ∧ t.get 22 = v ∧ t.get 23 = .lit (.int .i64 ops.length) ∧ t.get 24 = .lit (.int .i64 i)) ?_ ?_ _ _ ?_
  · rintro i t h hlt hc ⟨⟨E, X, Y, j, d, k, e, base, synced, limit, torn, bs, l, S⟩, hn, g5, g22, g23, g24⟩ ih
    obtain ⟨x, hx⟩ : ∃ x, ops[i]? = some x := ⟨_, List.getElem?_eq_getElem hlt⟩
    have hxm := List.mem_of_getElem? hx
    have hw := wrap_succ hlt (by omega)
    obtain ⟨c, hc1, hld, hld0⟩ := hv.atE (T := tabOf Try.prog NT0) E ROp_z hx
    obtain ⟨vb, rfl, hvb, hI⟩ := ROp_is.1 hc1
    have b1 := hvb.isSl
    have b2 := hvb.one
    have b3 := hvb.cells
    simp only [core, zrA, zrS, zrM, zrL, zrE, reduceCtorEq, zrD, ziE, ziL, ziN, hn, g5, g22, g23, g24, s1, s2, hlt, hc, hld, hld0, b1, b2, b3]
    obtain ⟨h2, hh2⟩ : ∃ h2, h2 = h.push (.cells [.lit (.int .u8 x.k.toNat), .lit (.int .i64 x.n), vb] 47) := ⟨_, rfl⟩
    have E2 : Ext h.n h h2 := hh2 ▸ (Ext.refl _ _).push _ (Nat.le_refl _)
    rw [← hh2]
    clear hh2
    have En := E.1
    have E2' : Ext H.n H h2 := E.trans (E2.mono En)
    have hvb' : IsSl RByte (fun b => b < H.n) h2 vb x.b := (hvb.ext E2' (Nat.le_refl _)).lift fun b hb _ => ⟨rfl, hF b hb⟩
    refine (do_x (x := x) (vb := vb) (S.ext E2) E2'.1 (by omega) hvb' (hok x hxm) hI).mono ?_
    rintro _ h3 ⟨rfl, E3, X3, Y3, j3, k3, base3, sy3, li3, to3, bs3, l3, S3⟩
    simp only [core, zrA, zrS, zrM, zrL, zrE, reduceCtorEq, zrD, ziE, ziL, ziN, hn, g5, g22, g23, g24]
    refine (alike_x S3).mono ?_
    rintro _ h4 ⟨E4, rfl⟩
    have n3 := E3.1
    have n2 := E2'.1
    simp only [core, zrA, zrS, zrM, zrL, zrE, reduceCtorEq, zrD, ziE, ziL, ziN, hn, g5, g22, g23, g24, hw]
    refine ih _ _ ⟨⟨(E2'.trans E3).trans (E4.mono (by omega)), X3, Y3, j3, _, k3, _, base3, sy3, li3, to3, bs3, l3, (S3.ext E4).mono (by omega)⟩, ?_⟩
    simp only [core, zrA, zrS, zrM, zrL, zrE, reduceCtorEq, zrD, ziE, ziL, ziN, hn, g5, g22, g23, g24]
  · rintro t h hc ⟨⟨E, -⟩, hn, g5, g22, g23, g24⟩
    simp only [core, zrA, zrS, zrM, zrL, zrE, reduceCtorEq, zrD, ziE, ziL, ziN, hn, g5, g22, g23, g24, hc]
    refine awake04_c ?_
    simp only [core, zrA, zrS, zrM, zrL, zrE, reduceCtorEq, zrD, ziE, ziL, ziN, hn, g5, g22, g23, g24]
    try trivial
  · simp only [core, zrA, zrS, zrM, zrL, zrE, reduceCtorEq, zrD, ziE, ziL, ziN]
    exact ⟨⟨E1, X, Y, j, d, k, e, base, synced, limit, torn, bs, l, S.mono (by omega)⟩, by simp⟩
end Go.Proofs.Ytcnbamdmngaliaa.Ex
end

section

set_option linter.unusedSimpArgs false
set_option linter.unusedVariables false
namespace Go.Proofs.Ytcnbamdmngaliaa.Ex
open Go Go.RowKit Go.ChangeShapes Go.WideShapes Go.ChangeAt
section
variable {H : Type} {enc : TypeId × Value → H} {W : World}
theorem opensA_u8 : OpensA enc Try.prog W 5 RByte (fun _ => True) := by
  refine ⟨by kernel_rfl, fun fuel cs x h _ => ?_⟩
  obtain ⟨n, rfl, rfl, hw⟩ := DataW.trod_int Try.underlying5 h
  simp only [Lit.wf, IntKind.min, IntKind.max, IntKind.signed, IntKind.bits] at hw
  simp at hw
  refine ⟨rfl, by simp; rfl, UInt8.ofNat n.toNat, ?_, trivial, Nat.zero_le _⟩
  show [AV.lit (Value.int .u8 n)] = [AV.lit (Value.int .u8 ((UInt8.ofNat n.toNat).toNat : Int))]
  rw [UInt8.toNat_ofNat', show ((n.toNat % 2 ^ 8 : Nat) : Int) = n by omega]
theorem opensA_bytes : OpensA enc Try.prog W 22 (RSl RByte) (fun ys => ys.length * 1 ≤ 140737488351232 ∧ ∀ y ∈ ys, True) :=
  opensA_list Try.underlying22 (by kernel_rfl) (by kernel_rfl) (by decide) opensA_u8
theorem opensA_Op : OpensA enc Try.prog W 47 ROp (fun x => x.b.length ≤ 140737488351232) :=
  opensA_struct (ts := [5, 3, 22]) (fun x : OpD => (x.k, x.n, x.b)) (fun y => ⟨y.1, y.2.1, y.2.2⟩) (fun y => rfl) Try.underlying47 (by rfl) (by kernel_rfl) (by kernel_rfl) (opensL_cons opensA_u8 (opensL_cons (opensA_int Try.underlying3 (by kernel_rfl)) (opensL_one opensA_bytes))) (fun y ⟨_, _, h1⟩ => by have h2 := h1.1; show y.2.2.length ≤ _; omega)
theorem opensA_Ops : OpensA enc Try.prog W 43 (RSl ROp) (fun ys => Sm 40 ys ∧ ∀ y ∈ ys, y.b.length ≤ 140737488351232) :=
  opensA_list Try.underlying43 (by kernel_rfl) (by kernel_rfl) (by decide) opensA_Op
end
end Go.Proofs.Ytcnbamdmngaliaa.Ex
namespace Go.Proofs.Ytcnbamdmngaliaa
open Go.RowKit Go.ChangeShapes Go.WideShapes Go.ChangeAt
set_option maxRecDepth 100000 in
theorem journalRuns_walk {H : Type} {enc : TypeId × Value → H} {W : World} {base : Nat} {v0 v1 : Value} {d0 d1 : DataW H} {p0 p1 : List MemPlace}
    (k0 : Value.okWide Try.prog W .any base 3 v0) (h0 : DataW.Trod enc Try.prog W 0 (fun _ => true) true 3 v0 d0 p0)
    (k1 : Value.okWide Try.prog W .any base 43 v1) (h1 : DataW.Trod enc Try.prog W 0 (fun _ => true) true 43 v1 d1 p1)
    {ts : List TypeId} {ds : List (DataW H)} (hsz : (DataW.weightsEach Try.prog ([3, 43] ++ ts) ([d0, d1] ++ ds)).all (· ≤ reachBytes) = true) :
    Calls Try.prog 4 #[v0, v1] W fun e w' => e = .returned (.bool true) ∧ Below W.heap.size W w' := by
  obtain ⟨n, rfl, rfl, rfl, wf⟩ := open_int Try.underlying3 k0 h0
  obtain ⟨v, l, r1, i1, ok1⟩ := Ex.open_sl Ex.opensA_Ops Try.underlying43 k1 h1 (weights_le hsz (j := 1) rfl rfl)
  exact Ex.law_join (Ex.rels_cons (Ex.rel_lit rfl) (Ex.rels_cons r1 Ex.rels_nil)) (Ex.runs_m (size := n) i1 (fun b hb => hb) ok1.1 ok1.2)
end Go.Proofs.Ytcnbamdmngaliaa
end
