/- Part 5 of the proof: Psh, On1, On2, On3, On4, On5, On6, On7, On8, Cl1, On9, Clp, Eq, Eqn, Opc, Jn, Ivo, Plh, Cl2, Op10, Op11, Op12. -/
import Derived.Laws.StructEq
import Derived.Test.YtfbpjobjdmmgiaaGreatM4
open Nat renaming reduceAdd → zrA, reduceSub → zrS, reduceMul → zrM, reduceLT → zrL, reduceEqDiff → zrE, reduceLeDiff → zrD, reduceShiftRight → zrR, reduceMod → zrO
open Int renaming reduceLE → ziE, reduceLT → ziL, reduceToNat → ziN
section

set_option linter.unusedSimpArgs false
set_option linter.unusedVariables false
namespace Go.Proofs.YtfbpjobjdmmgiaaGreat.Ex
open Go
theorem IsSl.ofAt {α : Type} {R : Rep α} {F : Nat → Prop} {h : AH} {p : Nat} {e : TypeId} {L : List (List AV)} {xs : List α} {n : Nat} (hat : h.at p = some (.cells L.flatten e)) (hF : F p) (he : Els R F h L xs) (hn : xs.length = n) : IsSl R F h (.sl p 0 n (.kn n)) xs := by
  subst hn
  have hl := flat_len (z := R.z) he.lens
  refine .mk ⟨he.lens, .inr ⟨p, 0, .kn xs.length, L.flatten, by rw [he.1], by unfold getR; rw [hat], ?_⟩⟩ (fun b off n cap e => by cases e; exact hF) (fun b off n cap e => by cases e; exact Nat.le_refl _) he
  unfold cut
  rw [if_pos (by rw [hl]; omega), List.drop_zero, ← hl, List.take_length]
end Go.Proofs.YtfbpjobjdmmgiaaGreat.Ex
end

section

set_option linter.unusedSimpArgs false
set_option linter.unusedVariables false
set_option maxRecDepth 10000
set_option maxHeartbeats 4000000
namespace Go.Proofs.YtfbpjobjdmmgiaaGreat.Ex
open Go
def bz4 : List AV := [.lit (.int .i64 0), .lit (.int .i64 0), .lit (.slice none 0 0), .lit (.slice none 0 0)]
def zK (n : Nat) : List AV := rep bz4 n
section
variable {d : Option Nat} {ty ps af : _} {g : _} {t : TM} {h : AH}
theorem a_mkB {i : Nat} {n : Nat} (hi : t.get i = .lit (.int .i64 n)) (hn : n ≤ 1000000000) :
    aop Tryz.prog (tabOf Tryz.prog NT0) ⟨d, .makeSlice 67 (.tmp i) (.tmp i), ty, ps, af, g⟩ t h = some (.val (.sl h.n 0 n (.kn n)), h.push (.cells (zK n) 109)) := by
  have e1 : und (tabOf Tryz.prog NT0) 67 = some (.slice 109) := by kernel_rfl
  have h00 : (tabOf Tryz.prog NT0 109).map (fun i => (i.bytes, i.zero.cells, i.size)) = some (64, bz4, 4) := by kernel_rfl
  obtain ⟨i0, h0, he⟩ := Option.map_eq_some_iff.1 h00
  obtain ⟨hb, hz, hs⟩ : i0.bytes = 64 ∧ i0.zero.cells = bz4 ∧ i0.size = 4 := by
    simp only [Prod.mk.injEq] at he
    exact he
  show aMakeSlice _ t h _ _ _ = _
  unfold aMakeSlice
  rw [e1, show evalA t (.tmp i) = some (t.get i) from rfl, hi]
  simp only [Option.bind_some, natA_int]
  rw [if_pos (Int.natCast_nonneg n)]
  simp only [Int.toNat_natCast, h0, hb, hz, hs]
  rw [if_pos (by simp; refine ⟨⟨by omega, by omega⟩, rfl⟩)]
  rfl
end
theorem zK_succ (n : Nat) : zK (n + 1) = bz4 ++ zK n := rfl
theorem zK_len (n : Nat) : (zK n).length = n * 4 := by
  induction n with
  | zero => rfl
  | succ n ih => rw [zK_succ, List.length_append, ih]; show 4 + _ = _; omega
theorem put_row {K : List (List AV)} {i n : Nat} (hK : K.length = i) (hk4 : ∀ c ∈ K, c.length = 4) (hi : i < n) (a b c d : AV) :
    put (K.flatten ++ zK (n - i)) (i * 4) [a, b, c, d] = some ((K ++ [[a, b, c, d]]).flatten ++ zK (n - (i + 1))) := by
  have hl : K.flatten.length = i * 4 := by rw [flat_len hk4, hK]
  have hz : n - i = (n - (i + 1)) + 1 := by omega
  unfold put
  rw [if_pos (by rw [List.length_append, hl, zK_len]; show i * 4 + 4 ≤ _; omega)]
  congr 1
  rw [List.take_left' hl, hz, zK_succ, ← List.append_assoc, List.drop_left' (by rw [List.length_append, hl]; rfl)]
  simp
/-- A map of the run's own, with rows from n0 on, none of them p0. -/
structure OwnMp (n0 p0 : Nat) (h : AH) (m : MapD) (vo vp vb : AV) : Prop where
  o : OwnE ROsd n0 h vo 121 m.osds
  p : OwnE RPool n0 h vp 102 m.pools
  b : IsSl RBkt (fun k => n0 ≤ k ∧ Apart vo k ∧ Apart vp k ∧ k ≠ p0) h vb m.buckets
  ao : Apart vo p0
  ap : Apart vp p0
theorem OwnMp.mono {n0 n1 p0 : Nat} {h : AH} {m : MapD} {vo vp vb : AV} (hm : OwnMp n0 p0 h m vo vp vb) (hn : n1 ≤ n0) : OwnMp n1 p0 h m vo vp vb :=
  ⟨hm.o.mono hn, hm.p.mono hn, hm.b.lift fun b hb _ => ⟨rfl, by omega, hb.2⟩, hm.ao, hm.ap⟩
theorem OwnMp.at {n0 p0 : Nat} {F : Nat → Prop} {h : AH} {m : MapD} {vo vp vb : AV} (hm : OwnMp n0 p0 h m vo vp vb) (hF : ∀ k, n0 ≤ k → F k) : MpAt F h m vo vp vb :=
  ⟨hm.o.toSl hF, hm.p.toSl hF, hm.b.lift fun b hb _ => ⟨rfl, hF b hb.1⟩⟩
theorem OwnMp.ext {n0 n1 p0 : Nat} {h h' : AH} {m : MapD} {vo vp vb : AV} (hm : OwnMp n0 p0 h m vo vp vb) (he : Ext n1 h h') (hn : h.n ≤ n1) : OwnMp n0 p0 h' m vo vp vb :=
  ⟨hm.o.ext he hn, hm.p.ext he hn, hm.b.ext he hn, hm.ao, hm.ap⟩
/-- A block from outside. -/
theorem OwnMp.lt {n0 p0 p1 : Nat} {h : AH} {m : MapD} {vo vp vb : AV} (hm : OwnMp n0 p0 h m vo vp vb) (hn : h.n ≤ p1) : OwnMp n0 p1 h m vo vp vb :=
  ⟨hm.o, hm.p, hm.b.lift fun b hb hlt => ⟨rfl, hb.1, hb.2.1, hb.2.2.1, by omega⟩, hm.o.apart hn, hm.p.apart hn⟩
theorem OwnL.apartLt {α : Type} {R : Rep α} {G : Nat → Prop} {n0 : Nat} {h : AH} {v : AV} {e : TypeId} {xs : List α} (ho : OwnL R G n0 h v e xs) {b : Nat} (hb : b < n0) : Apart v b := fun off n cap hv => by
  obtain ⟨L, h1, h2⟩ := ho
  rcases h1.2 with ⟨hh, _⟩ | ⟨p, hh, hp, hat⟩
  · rw [hh] at hv; cases hv
  · rw [hh] at hv; cases hv; omega
theorem OwnE.apartLt {α : Type} {R : Rep α} {n0 b : Nat} {h : AH} {d : AV} {e : TypeId} {xs : List α} (hd : OwnE R n0 h d e xs) (hb : b < n0) : Apart d b := by
  rcases hd with ho | ⟨rfl, p, hp, rfl, hat⟩
  · exact OwnL.apartLt ho hb
  · exact fun off n cap e => by cases e; omega
theorem OwnE.put_ap {α : Type} {R : Rep α} {n0 p : Nat} {h : AH} {d : AV} {e : TypeId} {xs : List α} {x : AB} (hd : OwnE R n0 h d e xs) (hp : Apart d p) : OwnE R n0 (h.put p x) d e xs := by
  rcases hd with ho | ⟨rfl, q, hq, rfl, hat⟩
  · refine .inl (ho.lift (fun b off n cap ev => ?_) (fun b hb => hb.elim))
    exact at_put_ne _ (fun hh => hp off n cap (hh ▸ ev))
  · exact .inr ⟨rfl, q, hq, rfl, (at_put_ne _ (fun hh => hp 0 0 (.kn 0) (by rw [hh]))).trans hat⟩
theorem copyM_x {F : Nat → Prop} {H : AH} {m : MapD} {vo vp vb : AV} (hm : MpAt F H m vo vp vb) (hok : OkMp m) (hb : m.buckets.length ≤ 1000000000) :
    WC Tryz.prog (tabOf Tryz.prog NT0) S0 23 [mpV m vo vp vb] H fun r h' => Ext H.n H h' ∧ ∃ ro rp rb, r = mpV m ro rp rb ∧ ∀ p0, p0 < H.n → OwnMp H.n p0 h' m ro rp rb := by
  refine WC_fn Tryz.func23 rfl rfl ?_
  obtain ⟨⟨lo, -⟩, ⟨lp, -⟩, lb, hbk⟩ := hok
  have o1 := hm.o.one
  have o2 := hm.p.one
  have o3 := hm.b.one
  have s1 := hm.o.isSl
  have s2 := hm.p.isSl
  have s3 := hm.b.isSl
  simp only [core, zrA, zrS, zrM, zrL, zrE, reduceCtorEq, zrD, ziE, ziL, ziN, Tryz.ntmps23, mpV, o1, o2, o3]
  obtain ⟨hp, hhp⟩ : ∃ hp, hp = (H.push (.cells [.lit (.int .i64 m.epoch), vo, vp, vb, .lit (.int .i64 m.leaf)] 69)).push (.cells [.lit (.int .i64 0), .lit (.slice none 0 0), .lit (.slice none 0 0), .lit (.slice none 0 0), .lit (.int .i64 0)] 69) := ⟨_, rfl⟩
  have EP : Ext H.n H hp := hhp ▸ ((Ext.refl _ _).push _ (Nat.le_refl _)).push _ (by rw [n_push]; omega)
  have P0 : hp.at H.n = some (.cells [.lit (.int .i64 m.epoch), vo, vp, vb, .lit (.int .i64 m.leaf)] 69) := hhp ▸ (at_push_lt _ (by rw [n_push]; omega)).trans (at_push_n _ _)
  have Z0 : hp.at (H.n + 1) = some (.cells [.lit (.int .i64 0), .lit (.slice none 0 0), .lit (.slice none 0 0), .lit (.slice none 0 0), .lit (.int .i64 0)] 69) := hhp ▸ at_push_n _ _
  have nP : hp.n = H.n + 2 := by rw [hhp, n_push, n_push]
  have LP0 := ld_at (T := tabOf Tryz.prog NT0) P0
  rw [← hhp]
  clear hhp
  rw [WB_regionD [0, 1, 3, 4, 2, 6, 5, 7, 8, 9] 632895786129742360360258634752 (by kernel_rfl)]
  repeat ((with_reducible refine WDM_cons ?_; simp only [dw1]; try simp only [dw2, zrA, zrM, zrR, zrO, zrE]); simp only [core, zrA, zrS, zrM, zrL, zrE, reduceCtorEq, zrD, ziE, ziL, ziN, cored, LP0, s1, s2, s3])
  refine (cloneO_o (hm.o.ext EP (Nat.le_refl _)) lo).mono ?_
  rintro ro h3 ⟨e3, ro1⟩
  have P3 := (e3.2 _ (at_lt P0)).trans P0
  have Z3 := (e3.2 _ (at_lt Z0)).trans Z0
  have LP3 := ld_at (T := tabOf Tryz.prog NT0) P3
  have E3 := EP.step e3
  have r1 := (ro1.toSl (F := fun _ => True) (fun _ _ => trivial)).isSl
  have r2 := (ro1.toSl (F := fun _ => True) (fun _ _ => trivial)).one
  repeat ((with_reducible refine WDM_cons ?_; simp only [dw1]; try simp only [dw2, zrA, zrM, zrR, zrO, zrE]); simp only [core, zrA, zrS, zrM, zrL, zrE, reduceCtorEq, zrD, ziE, ziL, ziN, cored, LP3, s1, s2, s3, r1, r2])
  refine (cloneP_o (hm.p.ext E3 (Nat.le_refl _)) lp).mono ?_
  rintro rp h4 ⟨e4, rp1⟩
  have P4 := (e4.2 _ (at_lt P3)).trans P3
  have Z4 := (e4.2 _ (at_lt Z3)).trans Z3
  have LP4 := ld_at (T := tabOf Tryz.prog NT0) P4
  have E4 := E3.step e4
  have l4 := at_lt P4
  have l6 := at_lt Z4
  have l3 : hp.n ≤ h3.n := e3.1
  have l5 : h3.n ≤ h4.n := e4.1
  have q1 := (rp1.toSl (F := fun _ => True) (fun _ _ => trivial)).isSl
  have q2 := (rp1.toSl (F := fun _ => True) (fun _ _ => trivial)).one
  have d3 := hm.b.lenD
  repeat ((with_reducible refine WDM_cons ?_; simp only [dw1]; try simp only [dw2, zrA, zrM, zrR, zrO, zrE]); simp only [core, zrA, zrS, zrM, zrL, zrE, reduceCtorEq, zrD, ziE, ziL, ziN, cored, LP4, P4, l4, r1, r2, q1, q2, s1, s2, s3, Z4, l6, d3])
  rw [a_mkB (n := m.buckets.length) (by simp only [core, zrA, zrS, zrM, zrL, zrE, reduceCtorEq, zrD, ziE, ziL, ziN]) hb]
  obtain ⟨h5, hh5⟩ : ∃ h5, h5 = (h4.put H.n (.cells [.lit (.int .i64 m.epoch), ro, vp, vb, .lit (.int .i64 m.leaf)] 69)).put H.n (.cells [.lit (.int .i64 m.epoch), ro, rp, vb, .lit (.int .i64 m.leaf)] 69) := ⟨_, rfl⟩
  have n5 : h5.n = h4.n := by rw [hh5, n_put, n_put]
  have P5 : h5.at H.n = some (.cells [.lit (.int .i64 m.epoch), ro, rp, vb, .lit (.int .i64 m.leaf)] 69) := hh5 ▸ at_put_same _ (by rw [n_put]; exact l4)
  have k5 : ∀ b, b ≠ H.n → h5.at b = h4.at b := fun b hb => by rw [hh5, at_put_ne _ (Ne.symm hb), at_put_ne _ (Ne.symm hb)]
  have o5 : OwnE ROsd hp.n h5 ro 121 m.osds := hh5 ▸ ((ro1.ext e4 (Nat.le_refl _)).put (by omega)).put (by omega)
  have p5 : OwnE RPool h3.n h5 rp 102 m.pools := hh5 ▸ (rp1.put (by omega)).put (by omega)
  have E5 : Ext H.n H h5 := hh5 ▸ (E4.put _ (Nat.le_refl _)).put _ (Nat.le_refl _)
  rw [← hh5]
  clear hh5
  obtain ⟨h6, hh6⟩ : ∃ h6, h6 = h5.push (.cells (zK m.buckets.length) 109) := ⟨_, rfl⟩
  have e6 : Ext h5.n h5 h6 := hh6 ▸ (Ext.refl _ _).push _ (Nat.le_refl _)
  have Q6 : h6.at h5.n = some (.cells (zK m.buckets.length) 109) := hh6 ▸ at_push_n _ _
  have n6 : h6.n = h5.n + 1 := by rw [hh6, n_push]
  have P6 := (e6.2 _ (at_lt P5)).trans P5
  have E6 := E5.step e6
  have o6 := o5.ext e6 (Nat.le_refl _)
  have p6 := p5.ext e6 (Nat.le_refl _)
  have LP6 := ld_at (T := tabOf Tryz.prog NT0) P6
  have Z6 : h6.at (H.n + 1) = some (.cells [.lit (.int .i64 0), .lit (.slice none 0 0), .lit (.slice none 0 0), .lit (.slice none 0 0), .lit (.int .i64 0)] 69) := (e6.2 _ (by omega)).trans ((k5 _ (by omega)).trans Z4)
  rw [← hh6]
  clear hh6 e6
  simp only [core, zrA, zrS, zrM, zrL, zrE, reduceCtorEq, zrD, ziE, ziL, ziN, n5, s3, d3, LP6]
  rw [n5] at Q6
  obtain ⟨q, hq⟩ : ∃ q, q = h4.n := ⟨_, rfl⟩
  obtain ⟨n, hN⟩ : ∃ n, n = m.buckets.length := ⟨_, rfl⟩
  have aq1 : Apart ro q := (ro1.ext e4 (Nat.le_refl _)).apart (by omega)
  have aq2 : Apart rp q := rp1.apart (by omega)
  rw [← hq, ← hN]
  rw [← hq, ← hN] at Q6
  have qs1 : isSl (.sl q 0 n (.kn n)) = true := rfl
  have qs2 : lenD (.sl q 0 n (.kn n)) = n := rfl
  have qs3 : slB (.sl q 0 n (.kn n)) = q := rfl
  have qs4 : slO (.sl q 0 n (.kn n)) = 0 := rfl
  refine WB_for n (fun i t h => ∃ K, h.at q = some (.cells (K.flatten ++ zK (n - i)) 109) ∧ K.length = i ∧ Els RBkt (fun k => h6.n ≤ k ∧ Apart ro k ∧ Apart rp k ∧ k ≠ q) h K (m.buckets.take i) ∧ Ext q h6 h ∧ OwnE ROsd hp.n h ro 121 m.osds ∧ OwnE RPool h3.n h rp 102 m.pools ∧ t.n = 35 ∧ t.get 1 = .ptr H.n 0 ∧ t.get 2 = .ptr (H.n + 1) 0 ∧ t.get 3 = .sl q 0 n (.kn n) ∧ t.get 19 = vb ∧ t.get 20 = .lit (.int .i64 n) ∧ t.get 21 = .lit (.int .i64 i)) ?_ ?_ _ _ ?_
  · rintro i t h hlt hc ⟨K, hat, hK, hE, he, ho, hp', hn, g1, g2, g3, g19, g20, g21⟩ ih
    obtain ⟨x, hx⟩ : ∃ x, m.buckets[i]? = some x := ⟨_, List.getElem?_eq_getElem (by omega)⟩
    have E1 : Ext H.n H h := E6.trans (he.mono (by omega))
    obtain ⟨c, hc1, hld, hld0⟩ := hm.b.atE (T := tabOf Tryz.prog NT0) E1 RBkt_z hx
    obtain ⟨va, vw, rfl, ha, hw, hi⟩ := RBkt_is.1 hc1
    have a1 := ha.one
    have w1 := hw.one
    obtain ⟨la, lw⟩ := hbk x (List.mem_of_getElem? hx)
    have hws := wrap_succ (n := n) hlt (by unfold Sm at lb; omega)
    rw [← hN] at d3
    simp only [core, zrA, zrS, zrM, zrL, zrE, reduceCtorEq, zrD, ziE, ziL, ziN, s3, d3, hn, g1, g2, g3, g19, g20, g21, hlt, hc, hld, hld0, hws, a1, w1]
    obtain ⟨hA, hhA⟩ : ∃ hA, hA = h.push (.cells [.lit (.int .i64 x.id), .lit (.int .i64 x.kind), va, vw] 109) := ⟨_, rfl⟩
    have eA : Ext h.n h hA := hhA ▸ (Ext.refl _ _).push _ (Nat.le_refl _)
    rw [← hhA]
    clear hhA
    have EA := E1.step eA
    refine (bkt_x x (ha.ext EA (Nat.le_refl _)) (hw.ext EA (Nat.le_refl _)) la lw).mono ?_
    rintro _ hB ⟨eB, ra, rw1, rfl, b1, b2⟩
    have u1 := (b1.toSl (F := fun _ => True) (fun _ _ => trivial)).one
    have u2 := (b2.toSl (F := fun _ => True) (fun _ _ => trivial)).one
    have lq := at_lt hat
    have lA := eA.1
    have lBn := eB.1
    have hatB := (eB.2 _ (by omega)).trans ((eA.2 _ lq).trans hat)
    have lB := at_lt hatB
    have hput := put_row (n := n) hK (fun c hc => hE.lens c hc) hlt (.lit (.int .i64 x.id)) (.lit (.int .i64 x.kind)) ra rw1
    simp only [corem, WB_cond_s, put, ldL, WB_label, List.nil_append, List.drop_zero, List.take_zero, zrA, zrS, zrM, zrL, zrE, reduceCtorEq, zrD, ziE, ziL, ziN, -put, bktV, qs1, qs2, qs3, qs4, u1, u2, hlt, hatB, lB, hput, hws, hn, g1, g2, g3, g19, g20, g21]
    have lh6 := he.1
    have hn0 := E1.1
    have lEB := eB.1
    refine ih _ _ ⟨_, at_put_same _ lB, by simp [hK], ?_, ((he.trans (eA.mono (by omega))).trans (eB.mono (by omega))).put _ (Nat.le_refl _), ((ho.ext eA (Nat.le_refl _)).ext eB (Nat.le_refl _)).put_ap aq1, ((hp'.ext eA (Nat.le_refl _)).ext eB (Nat.le_refl _)).put_ap aq2, ?_⟩
    · rw [List.take_add_one, hx]
      refine (hE.lift fun b hb hlb => ⟨?_, hb⟩).snoc (RBkt_is.2 ⟨ra, rw1, rfl, (b1.put_ap ?_).toSl ?_, (b2.put_ap ?_).toSl ?_, hi.1, hi.2⟩)
      · rw [at_put_ne _ (Ne.symm hb.2.2.2), eB.2 _ (by omega), eA.2 _ hlb]
      · exact b1.apartLt (by omega)
      · exact fun b hb => ⟨by omega, ho.apart (by omega), hp'.apart (by omega), by omega⟩
      · exact b2.apartLt (by omega)
      · exact fun b hb => ⟨by omega, ho.apart (by omega), hp'.apart (by omega), by omega⟩
    · simp only [core, zrA, zrS, zrM, zrL, zrE, reduceCtorEq, zrD, ziE, ziL, ziN, hn, g1, g2, g3, g19, g20, g21]
  · rintro t h hc ⟨K, hat, hK, hE, he, ho, hp', hn, g1, g2, g3, g19, g20, g21⟩
    have lh6 := he.1
    have PH := (he.2 _ (by omega)).trans P6
    have ZH := (he.2 _ (by omega)).trans Z6
    have LPH := ld_at (T := tabOf Tryz.prog NT0) PH
    have lPH := at_lt PH
    have lZH := at_lt ZH
    have hne : ¬ H.n = H.n + 1 := by omega
    rw [← hN] at d3
    simp only [core, zrA, zrS, zrM, zrL, zrE, reduceCtorEq, zrD, ziE, ziL, ziN, s3, d3, hn, g1, g2, g3, g19, g20, g21, hc, PH, ZH, LPH, lPH, lZH, r1, r2, q1, q2, qs1, hne]
    rw [Nat.sub_self, show zK 0 = [] from rfl, List.append_nil] at hat
    rw [hN, List.take_length] at hE
    refine ⟨((E6.trans (he.mono (by omega))).put _ (Nat.le_refl _)).put _ (by omega), _, _, _, rfl, fun p0 hp0 => ⟨(((ho.put_ap ?_).put_ap ?_).mono (by omega)), (((hp'.put_ap ?_).put_ap ?_).mono (by omega)), ?_, ho.apartLt (by omega), hp'.apartLt (by omega)⟩⟩
    · exact ho.apartLt (by omega)
    · exact ho.apartLt (by omega)
    · exact hp'.apartLt (by omega)
    · exact hp'.apartLt (by omega)
    · refine IsSl.ofAt (e := 109) (L := K) ?_ ⟨by omega, aq1, aq2, by omega⟩ (hE.lift fun b hb hlb => ⟨?_, by have := hb.1; omega, hb.2.1, hb.2.2.1, by have := hb.1; omega⟩) hN.symm
      · rw [at_put_ne _ (by omega), at_put_ne _ (by omega), hat]
      · have := hb.1
        rw [at_put_ne _ (by omega), at_put_ne _ (by omega)]
  · refine ⟨[], ?_, rfl, Els.nil, Ext.refl _ _, o6, p6, ?_⟩
    · exact Q6
    · simp only [core, zrA, zrS, zrM, zrL, zrE, reduceCtorEq, zrD, ziE, ziL, ziN]
      simp
end Go.Proofs.YtfbpjobjdmmgiaaGreat.Ex
end

section

set_option linter.unusedSimpArgs false
set_option linter.unusedVariables false
set_option maxRecDepth 10000
set_option maxHeartbeats 4000000
namespace Go.Proofs.YtfbpjobjdmmgiaaGreat.Ex
open Go
/-- What a row that grows does to the rest. -/
theorem Fr.toExtL {α : Type} {R : Rep α} {G : Nat → Prop} {n0 : Nat} {h h1 : AH} {v v1 : AV} {e : TypeId} {xs : List α} (f : Fr h v h1 v1) (ho : OwnL R G n0 h v e xs) (hn0 : n0 ≤ h.n) : Ext n0 h h1 := ⟨f.1, fun b hb => (f.2 b (by omega) (ho.apartLt hb)).1⟩
theorem lenA1 {L : List BktD} {b : BktD} {i n k : Nat} (h1 : L.length ≤ i) (h2 : i < n) (h3 : n = k) (sb : (k + 1) * 64 ≤ 140737488355328) : ((L ++ [b]).length + 1) * 64 ≤ 140737488355328 := by
  have : (L ++ [b]).length = L.length + 1 := by simp
  omega
theorem lenA2 {L : List BktD} {i n k : Nat} (h1 : L.length ≤ i + 1) (h2 : i < n) (h3 : n = k) (sb : (k + 1) * 64 ≤ 140737488355328) : ((L).length + 1) * 64 ≤ 140737488355328 := by
  omega
theorem lenA3 {l k : Nat} (h1 : l ≤ k) (sb : (k + 1) * 64 ≤ 140737488355328) : (l + 1) * 64 ≤ 140737488355328 := by omega
/-- A row of buckets of which a block below is written. -/
theorem OwnL.putLt {α : Type} {R : Rep α} {n0 p : Nat} {h : AH} {d : AV} {e : TypeId} {xs : List α} {x : AB} (ho : OwnL R (fun k => n0 ≤ k) n0 h d e xs) (hp : p < n0) : OwnL R (fun k => n0 ≤ k) n0 (h.put p x) d e xs := by
  refine ho.lift (fun b off n cap ev => ?_) (fun b hb _ _ => at_put_ne _ (by omega))
  · obtain ⟨L, h1, h2⟩ := ho
    rcases h1.2 with ⟨hh, _⟩ | ⟨q, hh, hq, hat⟩
    · rw [hh] at ev; cases ev
    · rw [hh] at ev
      cases ev
      exact at_put_ne _ (by omega)
theorem wb_x {F : Nat → Prop} {H : AH} {m : MapD} {vo vp vb va vw : AV} (b : BktD) (hm : MpAt F H m vo vp vb) (sb : (m.buckets.length + 1) * 64 ≤ 140737488355328) (hbk : ∀ b ∈ m.buckets, Sm 8 b.items ∧ Sm 8 b.weights) (ha : IsSl RInt F H va b.items) (hw : IsSl RInt F H vw b.weights) (la : Sm 8 b.items) (lw : Sm 8 b.weights) (hi : I64 b.id ∧ I64 b.kind) :
    WC Tryz.prog (tabOf Tryz.prog NT0) S0 50 [mpV m vo vp vb, bktV b va vw] H fun r h' => Ext H.n H h' ∧ ∃ rb, r = mpV (withB m b) vo vp rb ∧ IsSl RBkt (fun k => H.n ≤ k) h' rb (wbL m.buckets b) := by
  refine WC_fn Tryz.func50 rfl rfl ?_
  have o1 := hm.o.one
  have o2 := hm.p.one
  have o3 := hm.b.one
  have s3 := hm.b.isSl
  have d3 := hm.b.lenD
  have a1 := ha.one
  have w1 := hw.one
  have a2 := ha.isSl
  have a3 := ha.lenD
  simp only [core, zrA, zrS, zrM, zrL, zrE, reduceCtorEq, zrD, ziE, ziL, ziN, Tryz.ntmps50, mpV, bktV, o1, o2, o3, a1, w1, a2, a3, s3, d3]
  obtain ⟨hp, hhp⟩ : ∃ hp, hp = ((H.push (.cells [.lit (.int .i64 m.epoch), vo, vp, vb, .lit (.int .i64 m.leaf)] 69)).push (.cells [.lit (.int .i64 b.id), .lit (.int .i64 b.kind), va, vw] 109)).push (.cells [.lit (.int .i64 0), .lit (.slice none 0 0), .lit (.slice none 0 0), .lit (.slice none 0 0), .lit (.int .i64 0)] 69) := ⟨_, rfl⟩
  have EP : Ext H.n H hp := hhp ▸ (((Ext.refl _ _).push _ (Nat.le_refl _)).push _ (by rw [n_push]; omega)).push _ (by rw [n_push, n_push]; omega)
  have P0 : hp.at H.n = some (.cells [.lit (.int .i64 m.epoch), vo, vp, vb, .lit (.int .i64 m.leaf)] 69) := hhp ▸ ((at_push_lt _ (by rw [n_push, n_push]; omega)).trans (at_push_lt _ (by rw [n_push]; omega))).trans (at_push_n _ _)
  have B0 : hp.at (H.n + 1) = some (.cells [.lit (.int .i64 b.id), .lit (.int .i64 b.kind), va, vw] 109) := hhp ▸ (at_push_lt _ (by rw [n_push, n_push]; omega)).trans (at_push_n _ _)
  have Z0 : hp.at (H.n + 2) = some (.cells [.lit (.int .i64 0), .lit (.slice none 0 0), .lit (.slice none 0 0), .lit (.slice none 0 0), .lit (.int .i64 0)] 69) := hhp ▸ at_push_n _ _
  have nP : hp.n = H.n + 3 := by rw [hhp, n_push, n_push, n_push]
  rw [← hhp]
  clear hhp
  obtain ⟨n, hN⟩ : ∃ n, n = m.buckets.length := ⟨_, rfl⟩
  rw [← hN] at d3
  have hd0 : decide (b.items.length = 0) = decide ((b.items.length : Int) = 0) := by
    by_cases h : b.items.length = 0
    · rw [decide_eq_true h, decide_eq_true (by omega)]
    · rw [decide_eq_false h, decide_eq_false (by omega)]
  rw [← hN]
  refine WB_for n (fun i t h => (∃ s, OwnK hp.n h s ((m.buckets.take i).foldl (wbStep b) ([], decide (b.items.length = 0))).1 ∧ Ext hp.n hp h ∧ t.get 5 = s) ∧ t.get 6 = .lit (.bool ((m.buckets.take i).foldl (wbStep b) ([], decide (b.items.length = 0))).2) ∧ t.n = 55 ∧ t.get 2 = .ptr H.n 0 ∧ t.get 3 = .ptr (H.n + 1) 0 ∧ t.get 4 = .ptr (H.n + 2) 0 ∧ t.get 14 = vb ∧ t.get 15 = .lit (.int .i64 n) ∧ t.get 16 = .lit (.int .i64 i)) ?_ ?_ _ _ ?_
  · rintro i t h hlt hc ⟨⟨s, ho, he, g5⟩, g6, hn, g2, g3, g4, g14, g15, g16⟩ ih
    obtain ⟨x, hx⟩ : ∃ x, m.buckets[i]? = some x := ⟨_, List.getElem?_eq_getElem (by omega)⟩
    have hlen : ((m.buckets.take i).foldl (wbStep b) ([], decide (b.items.length = 0))).1.length ≤ i + 1 := by
      have h1 := wbFold_len (b := b) (m.buckets.take i) ([], decide (b.items.length = 0))
      have h2 := nB_le (decide (b.items.length = 0))
      have h3 : (m.buckets.take i).length ≤ i := by rw [List.length_take]; omega
      simp only [List.length_nil] at h1
      omega
    have hnB : ((m.buckets.take i).foldl (wbStep b) ([], decide (b.items.length = 0))).2 = false → ((m.buckets.take i).foldl (wbStep b) ([], decide (b.items.length = 0))).1.length ≤ i := fun hf => by
      have h1 := wbFold_len (b := b) (m.buckets.take i) ([], decide (b.items.length = 0))
      have h2 := nB_le (decide (b.items.length = 0))
      have h3 : (m.buckets.take i).length ≤ i := by rw [List.length_take]; omega
      rw [hf] at h1
      have h4 : nB false = 1 := rfl
      simp only [List.length_nil] at h1
      omega
    have hsucc := fold_succ (wbStep b) ([], decide (b.items.length = 0)) hx
    obtain ⟨S, hS⟩ : ∃ S, S = (m.buckets.take i).foldl (wbStep b) ([], decide (b.items.length = 0)) := ⟨_, rfl⟩
    rw [← hS] at ho g6 hlen hnB hsucc
    rw [hsucc] at ih
    clear hS hsucc
    obtain ⟨L, put⟩ := S
    simp only at ho g6 hlen hnB
    have E1 : Ext H.n H h := EP.trans (he.mono (by omega))
    obtain ⟨c, hc1, hld, hld0⟩ := hm.b.atE (T := tabOf Tryz.prog NT0) E1 RBkt_z hx
    obtain ⟨va2, vw2, rfl, ha2, hw2, hi2⟩ := RBkt_is.1 hc1
    have x1 := ha2.one
    have x2 := hw2.one
    obtain ⟨la2, lw2⟩ := hbk x (List.mem_of_getElem? hx)
    have hws := wrap_succ (n := n) hlt (by omega)
    have BH := (he.2 _ (by omega)).trans B0
    have LB := ld_at (T := tabOf Tryz.prog NT0) BH
    have lBH := at_lt BH
    have lhn := he.1
    obtain ⟨hA, hhA⟩ : ∃ hA, hA = h.push (.cells [.lit (.int .i64 x.id), .lit (.int .i64 x.kind), va2, vw2] 109) := ⟨_, rfl⟩
    have eA : Ext h.n h hA := hhA ▸ (Ext.refl _ _).push _ (Nat.le_refl _)
    have XA : hA.at h.n = some (.cells [.lit (.int .i64 x.id), .lit (.int .i64 x.kind), va2, vw2] 109) := hhA ▸ at_push_n _ _
    have LXA := ld_at (T := tabOf Tryz.prog NT0) XA
    have lXA := at_lt XA
    have nA : hA.n = h.n + 1 := by rw [hhA, n_push]
    have BA := (eA.2 _ lBH).trans BH
    have LBA := ld_at (T := tabOf Tryz.prog NT0) BA
    have lBA := at_lt BA
    have EA := E1.step eA
    have oA := ho.ext eA (Nat.le_refl _)
    have s1 := (ho.toSl (F := fun _ => True) (fun _ _ => trivial) (fun _ _ => trivial)).isSl
    have s2 := (ho.toSl (F := fun _ => True) (fun _ _ => trivial) (fun _ _ => trivial)).one
    have heA : Ext hp.n hp hA := he.trans (eA.mono (by omega))
    cases put with
    | true =>
      by_cases ceq : x.id = b.id
      · have hst : wbStep b (L, true) x = (L, true) := by
          unfold wbStep
          simp [ceq]
        rw [hst] at ih
        have cqn : (x.id != b.id) = false := by simp [ceq]
        simp only [core, zrA, zrS, zrM, zrL, zrE, reduceCtorEq, zrD, ziE, ziL, ziN, ← hhA, cqn, LXA, LBA, lXA, lBA, hn, g2, g3, g4, g14, g15, g16, g5, g6, hlt, hc, hld, hld0, hws, x1, x2, a1, w1, a2, a3, s3, d3]
        refine ih _ _ ⟨⟨_, oA, heA, by simp only [core, zrA, zrS, zrM, zrL, zrE, reduceCtorEq, zrD, ziE, ziL, ziN, hn, g2, g3, g4, g14, g15, g16, g5, g6]⟩, by simp only [core, zrA, zrS, zrM, zrL, zrE, reduceCtorEq, zrD, ziE, ziL, ziN, hn, g2, g3, g4, g14, g15, g16, g5, g6], ?_⟩
        simp only [core, zrA, zrS, zrM, zrL, zrE, reduceCtorEq, zrD, ziE, ziL, ziN, hn, g2, g3, g4, g14, g15, g16, g5, g6]
      · have hst : wbStep b (L, true) x = (L ++ [x], true) := by
          unfold wbStep
          simp [ceq]
        rw [hst] at ih
        have cqn : (x.id != b.id) = true := by simp [ceq]
        simp only [core, zrA, zrS, zrM, zrL, zrE, reduceCtorEq, zrD, ziE, ziL, ziN, ← hhA, cqn, LXA, LBA, lXA, lBA, hn, g2, g3, g4, g14, g15, g16, g5, g6, hlt, hc, hld, hld0, hws, x1, x2, a1, w1, a2, a3, s3, d3]
        refine (bkt_x x (ha2.ext EA (Nat.le_refl _)) (hw2.ext EA (Nat.le_refl _)) la2 lw2).mono ?_
        rintro _ hB2 ⟨eB2, ra2, rw2, rfl, p2, q2⟩
        have t2 := (p2.toSl (F := fun _ => True) (fun _ _ => trivial)).one
        have u2 := (q2.toSl (F := fun _ => True) (fun _ _ => trivial)).one
        have lB2 := eB2.1
        have eC2 : Ext hA.n hA (hB2.push (.cells [.lit (.int .i64 x.id), .lit (.int .i64 x.kind), ra2, rw2] 109)) := eB2.push _ eB2.1
        simp only [core, zrA, zrS, zrM, zrL, zrE, reduceCtorEq, zrD, ziE, ziL, ziN, bktV, t2, u2, hn, g2, g3, g4, g14, g15, g16, g5, g6, hlt, hc, hld, hld0, hws, x1, x2, a1, w1, a2, a3, s3, d3]
        have hl2 : ((L).length + 1) * 64 ≤ 140737488355328 := lenA2 (by first | exact hlen | exact Nat.le_succ_of_le hlen) hlt hN sb
        have hn2 : hp.n ≤ hA.n := by omega
        refine WOp_app (push_bkt oA hn2 eC2 (at_push_n _ _) (p2.ext ((Ext.refl hB2.n hB2).push _ (Nat.le_refl _)) (Nat.le_refl _)) (q2.ext ((Ext.refl hB2.n hB2).push _ (Nat.le_refl _)) (Nat.le_refl _)) hi2 hl2) ?_
        rintro s2' hC2 ⟨oC2, fC2⟩
        have he2 : Ext hp.n hp hC2 := heA.trans (fC2.toExtL oA (by omega))
        have z2 := (oC2.toSl (F := fun _ => True) (fun _ _ => trivial) (fun _ _ => trivial)).isSl
        simp only [core, zrA, zrS, zrM, zrL, zrE, reduceCtorEq, zrD, ziE, ziL, ziN, z2, hn, g2, g3, g4, g14, g15, g16, g5, g6, hlt, hc, hld, hld0, hws, x1, x2, a1, w1, a2, a3, s3, d3]
        refine ih _ _ ⟨⟨_, oC2, he2, by simp only [core, zrA, zrS, zrM, zrL, zrE, reduceCtorEq, zrD, ziE, ziL, ziN, hn, g2, g3, g4, g14, g15, g16, g5, g6]⟩, by simp only [core, zrA, zrS, zrM, zrL, zrE, reduceCtorEq, zrD, ziE, ziL, ziN, hn, g2, g3, g4, g14, g15, g16, g5, g6], ?_⟩
        simp only [core, zrA, zrS, zrM, zrL, zrE, reduceCtorEq, zrD, ziE, ziL, ziN, hn, g2, g3, g4, g14, g15, g16, g5, g6]
    | false =>
      have hlen := hnB rfl
      by_cases cle : x.id ≤ b.id
      · simp only [core, zrA, zrS, zrM, zrL, zrE, reduceCtorEq, zrD, ziE, ziL, ziN, ← hhA, cle, LXA, LBA, lXA, lBA, hn, g2, g3, g4, g14, g15, g16, g5, g6, hlt, hc, hld, hld0, hws, x1, x2, a1, w1, a2, a3, s3, d3]
        refine (bkt_x b (ha.ext EA (Nat.le_refl _)) (hw.ext EA (Nat.le_refl _)) la lw).mono ?_
        rintro _ hB1 ⟨eB1, ra1, rw1, rfl, p1, q1⟩
        have t1 := (p1.toSl (F := fun _ => True) (fun _ _ => trivial)).one
        have u1 := (q1.toSl (F := fun _ => True) (fun _ _ => trivial)).one
        have lB1 := eB1.1
        have eC1 : Ext hA.n hA (hB1.push (.cells [.lit (.int .i64 b.id), .lit (.int .i64 b.kind), ra1, rw1] 109)) := eB1.push _ eB1.1
        simp only [core, zrA, zrS, zrM, zrL, zrE, reduceCtorEq, zrD, ziE, ziL, ziN, bktV, t1, u1, hn, g2, g3, g4, g14, g15, g16, g5, g6, hlt, hc, hld, hld0, hws, x1, x2, a1, w1, a2, a3, s3, d3]
        have hl1 : ((L).length + 1) * 64 ≤ 140737488355328 := lenA2 (by first | exact hlen | exact Nat.le_succ_of_le hlen) hlt hN sb
        have hn1 : hp.n ≤ hA.n := by omega
        refine WOp_app (push_bkt oA hn1 eC1 (at_push_n _ _) (p1.ext ((Ext.refl hB1.n hB1).push _ (Nat.le_refl _)) (Nat.le_refl _)) (q1.ext ((Ext.refl hB1.n hB1).push _ (Nat.le_refl _)) (Nat.le_refl _)) hi hl1) ?_
        rintro s1' hC1 ⟨oC1, fC1⟩
        have he1 : Ext hp.n hp hC1 := heA.trans (fC1.toExtL oA (by omega))
        have z1 := (oC1.toSl (F := fun _ => True) (fun _ _ => trivial) (fun _ _ => trivial)).isSl
        obtain ⟨X1, -⟩ := fC1.box XA (ho.apart (Nat.le_refl _))
        have LX1 := ld_at (T := tabOf Tryz.prog NT0) X1
        have lX1 := at_lt X1
        have B1' := (he1.2 _ (by omega)).trans B0
        have LB1' := ld_at (T := tabOf Tryz.prog NT0) B1'
        have lB1' := at_lt B1'
        have E1c : Ext H.n H hC1 := EP.trans (he1.mono (by omega))
        have ln1 := he1.1
        by_cases ceq : x.id = b.id
        · have hst : wbStep b (L, false) x = (L ++ [b], true) := by
            unfold wbStep
            simp [ceq]
          rw [hst] at ih
          have cqn : (x.id != b.id) = false := by simp [ceq]
          simp only [core, zrA, zrS, zrM, zrL, zrE, reduceCtorEq, zrD, ziE, ziL, ziN, cqn, LX1, LB1', lX1, lB1', z1, hn, g2, g3, g4, g14, g15, g16, g5, g6, hlt, hc, hld, hld0, hws, x1, x2, a1, w1, a2, a3, s3, d3]
          refine ih _ _ ⟨⟨_, oC1, he1, by simp only [core, zrA, zrS, zrM, zrL, zrE, reduceCtorEq, zrD, ziE, ziL, ziN, hn, g2, g3, g4, g14, g15, g16, g5, g6]⟩, by simp only [core, zrA, zrS, zrM, zrL, zrE, reduceCtorEq, zrD, ziE, ziL, ziN, hn, g2, g3, g4, g14, g15, g16, g5, g6], ?_⟩
          simp only [core, zrA, zrS, zrM, zrL, zrE, reduceCtorEq, zrD, ziE, ziL, ziN, hn, g2, g3, g4, g14, g15, g16, g5, g6]
        · have hst : wbStep b (L, false) x = (L ++ [b] ++ [x], true) := by
            unfold wbStep
            simp [ceq, cle]
          rw [hst] at ih
          have cqn : (x.id != b.id) = true := by simp [ceq]
          simp only [core, zrA, zrS, zrM, zrL, zrE, reduceCtorEq, zrD, ziE, ziL, ziN, cqn, LX1, LB1', lX1, lB1', z1, hn, g2, g3, g4, g14, g15, g16, g5, g6, hlt, hc, hld, hld0, hws, x1, x2, a1, w1, a2, a3, s3, d3]
          refine (bkt_x x (ha2.ext E1c (Nat.le_refl _)) (hw2.ext E1c (Nat.le_refl _)) la2 lw2).mono ?_
          rintro _ hB2 ⟨eB2, ra2, rw2, rfl, p2, q2⟩
          have t2 := (p2.toSl (F := fun _ => True) (fun _ _ => trivial)).one
          have u2 := (q2.toSl (F := fun _ => True) (fun _ _ => trivial)).one
          have lB2 := eB2.1
          have eC2 : Ext hC1.n hC1 (hB2.push (.cells [.lit (.int .i64 x.id), .lit (.int .i64 x.kind), ra2, rw2] 109)) := eB2.push _ eB2.1
          simp only [core, zrA, zrS, zrM, zrL, zrE, reduceCtorEq, zrD, ziE, ziL, ziN, bktV, t2, u2, hn, g2, g3, g4, g14, g15, g16, g5, g6, hlt, hc, hld, hld0, hws, x1, x2, a1, w1, a2, a3, s3, d3]
          have hl2 : ((L ++ [b]).length + 1) * 64 ≤ 140737488355328 := lenA1 hlen hlt hN sb
          have hn2 : hp.n ≤ hC1.n := by omega
          refine WOp_app (push_bkt oC1 hn2 eC2 (at_push_n _ _) (p2.ext ((Ext.refl hB2.n hB2).push _ (Nat.le_refl _)) (Nat.le_refl _)) (q2.ext ((Ext.refl hB2.n hB2).push _ (Nat.le_refl _)) (Nat.le_refl _)) hi2 hl2) ?_
          rintro s2' hC2 ⟨oC2, fC2⟩
          have he2 : Ext hp.n hp hC2 := he1.trans (fC2.toExtL oC1 (by omega))
          have z2 := (oC2.toSl (F := fun _ => True) (fun _ _ => trivial) (fun _ _ => trivial)).isSl
          simp only [core, zrA, zrS, zrM, zrL, zrE, reduceCtorEq, zrD, ziE, ziL, ziN, z2, hn, g2, g3, g4, g14, g15, g16, g5, g6, hlt, hc, hld, hld0, hws, x1, x2, a1, w1, a2, a3, s3, d3]
          refine ih _ _ ⟨⟨_, oC2, he2, by simp only [core, zrA, zrS, zrM, zrL, zrE, reduceCtorEq, zrD, ziE, ziL, ziN, hn, g2, g3, g4, g14, g15, g16, g5, g6]⟩, by simp only [core, zrA, zrS, zrM, zrL, zrE, reduceCtorEq, zrD, ziE, ziL, ziN, hn, g2, g3, g4, g14, g15, g16, g5, g6], ?_⟩
          simp only [core, zrA, zrS, zrM, zrL, zrE, reduceCtorEq, zrD, ziE, ziL, ziN, hn, g2, g3, g4, g14, g15, g16, g5, g6]
      · skip
        by_cases ceq : x.id = b.id
        · exact absurd (by omega) cle
        · have hst : wbStep b (L, false) x = (L ++ [x], false) := by
            unfold wbStep
            simp [ceq, cle]
          rw [hst] at ih
          have cqn : (x.id != b.id) = true := by simp [ceq]
          simp only [core, zrA, zrS, zrM, zrL, zrE, reduceCtorEq, zrD, ziE, ziL, ziN, ← hhA, cqn, cle, LXA, LBA, lXA, lBA, hn, g2, g3, g4, g14, g15, g16, g5, g6, hlt, hc, hld, hld0, hws, x1, x2, a1, w1, a2, a3, s3, d3]
          refine (bkt_x x (ha2.ext EA (Nat.le_refl _)) (hw2.ext EA (Nat.le_refl _)) la2 lw2).mono ?_
          rintro _ hB2 ⟨eB2, ra2, rw2, rfl, p2, q2⟩
          have t2 := (p2.toSl (F := fun _ => True) (fun _ _ => trivial)).one
          have u2 := (q2.toSl (F := fun _ => True) (fun _ _ => trivial)).one
          have lB2 := eB2.1
          have eC2 : Ext hA.n hA (hB2.push (.cells [.lit (.int .i64 x.id), .lit (.int .i64 x.kind), ra2, rw2] 109)) := eB2.push _ eB2.1
          simp only [core, zrA, zrS, zrM, zrL, zrE, reduceCtorEq, zrD, ziE, ziL, ziN, bktV, t2, u2, hn, g2, g3, g4, g14, g15, g16, g5, g6, hlt, hc, hld, hld0, hws, x1, x2, a1, w1, a2, a3, s3, d3]
          have hl2 : ((L).length + 1) * 64 ≤ 140737488355328 := lenA2 (by first | exact hlen | exact Nat.le_succ_of_le hlen) hlt hN sb
          have hn2 : hp.n ≤ hA.n := by omega
          refine WOp_app (push_bkt oA hn2 eC2 (at_push_n _ _) (p2.ext ((Ext.refl hB2.n hB2).push _ (Nat.le_refl _)) (Nat.le_refl _)) (q2.ext ((Ext.refl hB2.n hB2).push _ (Nat.le_refl _)) (Nat.le_refl _)) hi2 hl2) ?_
          rintro s2' hC2 ⟨oC2, fC2⟩
          have he2 : Ext hp.n hp hC2 := heA.trans (fC2.toExtL oA (by omega))
          have z2 := (oC2.toSl (F := fun _ => True) (fun _ _ => trivial) (fun _ _ => trivial)).isSl
          simp only [core, zrA, zrS, zrM, zrL, zrE, reduceCtorEq, zrD, ziE, ziL, ziN, z2, hn, g2, g3, g4, g14, g15, g16, g5, g6, hlt, hc, hld, hld0, hws, x1, x2, a1, w1, a2, a3, s3, d3]
          refine ih _ _ ⟨⟨_, oC2, he2, by simp only [core, zrA, zrS, zrM, zrL, zrE, reduceCtorEq, zrD, ziE, ziL, ziN, hn, g2, g3, g4, g14, g15, g16, g5, g6]⟩, by simp only [core, zrA, zrS, zrM, zrL, zrE, reduceCtorEq, zrD, ziE, ziL, ziN, hn, g2, g3, g4, g14, g15, g16, g5, g6], ?_⟩
          simp only [core, zrA, zrS, zrM, zrL, zrE, reduceCtorEq, zrD, ziE, ziL, ziN, hn, g2, g3, g4, g14, g15, g16, g5, g6]
  · rintro t h hc ⟨⟨s, ho, he, g5⟩, g6, hn, g2, g3, g4, g14, g15, g16⟩
    rw [hN, List.take_length] at ho g6
    have hlen : (m.buckets.foldl (wbStep b) ([], decide (b.items.length = 0))).2 = false → (m.buckets.foldl (wbStep b) ([], decide (b.items.length = 0))).1.length ≤ m.buckets.length := fun hf => by
      have h1 := wbFold_len (b := b) m.buckets ([], decide (b.items.length = 0))
      have h2 := nB_le (decide (b.items.length = 0))
      rw [hf] at h1
      have h4 : nB false = 1 := rfl
      simp only [List.length_nil] at h1
      omega
    have hwb : (withB m b).buckets = if (m.buckets.foldl (wbStep b) ([], decide (b.items.length = 0))).2 then (m.buckets.foldl (wbStep b) ([], decide (b.items.length = 0))).1 else (m.buckets.foldl (wbStep b) ([], decide (b.items.length = 0))).1 ++ [b] := rfl
    obtain ⟨S, hS⟩ : ∃ S, S = m.buckets.foldl (wbStep b) ([], decide (b.items.length = 0)) := ⟨_, rfl⟩
    rw [← hS] at ho g6 hlen hwb
    clear hS
    obtain ⟨L, put⟩ := S
    simp only at ho g6 hlen hwb
    have E1 : Ext H.n H h := EP.trans (he.mono (by omega))
    have s1 := (ho.toSl (F := fun _ => True) (fun _ _ => trivial) (fun _ _ => trivial)).isSl
    have s2 := (ho.toSl (F := fun _ => True) (fun _ _ => trivial) (fun _ _ => trivial)).one
    have BH := (he.2 _ (by omega)).trans B0
    have LB := ld_at (T := tabOf Tryz.prog NT0) BH
    have lBH := at_lt BH
    have PH := (he.2 _ (by omega)).trans P0
    have LP := ld_at (T := tabOf Tryz.prog NT0) PH
    have lPH := at_lt PH
    have ZH := (he.2 _ (by omega)).trans Z0
    have lZH := at_lt ZH
    have lhn := he.1
    have hne : ¬ H.n = H.n + 2 := by omega
    cases put with
    | true =>
      simp only [core, zrA, zrS, zrM, zrL, zrE, reduceCtorEq, zrD, ziE, ziL, ziN, hn, g2, g3, g4, g14, g15, g16, g5, g6, hc, a1, w1, a2, a3, s3, d3, o1, o2, o3, s1, s2, LB, lBH, LP, lPH, PH, ZH, lZH, hne]
      refine ⟨(E1.put _ (Nat.le_refl _)).put _ (by omega), s, rfl, ?_⟩
      show IsSl RBkt _ _ s (withB m b).buckets
      rw [hwb, if_pos rfl]
      exact ((ho.putLt (by omega)).putLt (by omega)).toSl (fun k hk => by omega) (fun k hk => by omega)
    | false =>
      simp only [core, zrA, zrS, zrM, zrL, zrE, reduceCtorEq, zrD, ziE, ziL, ziN, hn, g2, g3, g4, g14, g15, g16, g5, g6, hc, a1, w1, a2, a3, s3, d3, o1, o2, o3, s1, s2, LB, lBH, LP, lPH, PH, ZH, lZH, hne]
      refine (bkt_x b (ha.ext E1 (Nat.le_refl _)) (hw.ext E1 (Nat.le_refl _)) la lw).mono ?_
      rintro _ hB1 ⟨eB1, ra1, rw1, rfl, p1, q1⟩
      have t1 := (p1.toSl (F := fun _ => True) (fun _ _ => trivial)).one
      have u1 := (q1.toSl (F := fun _ => True) (fun _ _ => trivial)).one
      have eC1 : Ext h.n h (hB1.push (.cells [.lit (.int .i64 b.id), .lit (.int .i64 b.kind), ra1, rw1] 109)) := eB1.push _ eB1.1
      simp only [core, zrA, zrS, zrM, zrL, zrE, reduceCtorEq, zrD, ziE, ziL, ziN, bktV, t1, u1, hn, g2, g3, g4, g14, g15, g16, g5, g6, s1, s2]
      have hl1 : (L.length + 1) * 64 ≤ 140737488355328 := lenA3 (hlen rfl) sb
      refine WOp_app (push_bkt ho lhn eC1 (at_push_n _ _) (p1.ext ((Ext.refl hB1.n hB1).push _ (Nat.le_refl _)) (Nat.le_refl _)) (q1.ext ((Ext.refl hB1.n hB1).push _ (Nat.le_refl _)) (Nat.le_refl _)) hi hl1) ?_
      rintro s1' hC1 ⟨oC1, fC1⟩
      have he1 : Ext hp.n hp hC1 := he.trans (fC1.toExtL ho lhn)
      have z1 := (oC1.toSl (F := fun _ => True) (fun _ _ => trivial) (fun _ _ => trivial)).isSl
      have z2 := (oC1.toSl (F := fun _ => True) (fun _ _ => trivial) (fun _ _ => trivial)).one
      have PC := (he1.2 _ (by omega)).trans P0
      have LPC := ld_at (T := tabOf Tryz.prog NT0) PC
      have lPC := at_lt PC
      have ZC := (he1.2 _ (by omega)).trans Z0
      have lZC := at_lt ZC
      simp only [core, zrA, zrS, zrM, zrL, zrE, reduceCtorEq, zrD, ziE, ziL, ziN, z1, z2, hn, g2, g3, g4, g14, g15, g16, g5, g6, PC, LPC, lPC, ZC, lZC, o1, o2, o3, hne]
      refine ⟨((EP.trans (he1.mono (by omega))).put _ (Nat.le_refl _)).put _ (by omega), s1', rfl, ?_⟩
      show IsSl RBkt _ _ s1' (withB m b).buckets
      rw [hwb, if_neg (by simp)]
      exact ((oC1.putLt (by omega)).putLt (by omega)).toSl (fun k hk => by omega) (fun k hk => by omega)
  · refine ⟨⟨_, OwnL.nil, Ext.refl _ _, by simp only [core, zrA, zrS, zrM, zrL, zrE, reduceCtorEq, zrD, ziE, ziL, ziN]⟩, ?_, ?_⟩
    · have hd : ((b.items.length : Int) == 0) = decide (b.items.length = 0) := by
        by_cases h : b.items.length = 0
        · rw [h]; rfl
        · rw [decide_eq_false h]; simp; exact fun hh => h (by rw [hh]; rfl)
      simp only [core, zrA, zrS, zrM, zrL, zrE, reduceCtorEq, zrD, ziE, ziL, ziN, hd, List.take_zero, List.foldl_nil]
    · simp only [core, zrA, zrS, zrM, zrL, zrE, reduceCtorEq, zrD, ziE, ziL, ziN]
      simp
end Go.Proofs.YtfbpjobjdmmgiaaGreat.Ex
end

section

set_option linter.unusedSimpArgs false
set_option linter.unusedVariables false
set_option maxRecDepth 10000
set_option maxHeartbeats 4000000
namespace Go.Proofs.YtfbpjobjdmmgiaaGreat.Ex
open Go
theorem Sm_le {α : Type} {n : Nat} {l : List α} {k : Nat} (h : l.length ≤ k) (hk : k * n ≤ 140737488351232) : Sm n l := Nat.le_trans (Nat.mul_le_mul_right n h) hk
theorem withB_ok {m : MapD} {b : BktD} (sb : (m.buckets.length + 1) * 64 ≤ 140737488351232) (hbk : ∀ b ∈ m.buckets, Sm 8 b.items ∧ Sm 8 b.weights) (la : Sm 8 b.items) (lw : Sm 8 b.weights) : OkM (withB m b) :=
  ⟨Sm_le (wbL_len m.buckets b) sb, wbL_ok (P := fun b => Sm 8 b.items ∧ Sm 8 b.weights) ⟨la, lw⟩ hbk, trivial⟩
theorem up47 {k : Nat} (h : k ≤ 140737488351232) : k ≤ 140737488355328 := by omega
theorem mayBkt_x {F : Nat → Prop} {H : AH} {m : MapD} {vo vp vb va vw : AV} (b : BktD) (hm : MpAt F H m vo vp vb) (sb : (m.buckets.length + 1) * 64 ≤ 140737488351232) (hbk : ∀ b ∈ m.buckets, Sm 8 b.items ∧ Sm 8 b.weights) (ha : IsSl RInt F H va b.items) (hw : IsSl RInt F H vw b.weights) (la : Sm 8 b.items) (lw : Sm 8 b.weights) (hi : I64 b.id ∧ I64 b.kind) :
    WC Tryz.prog (tabOf Tryz.prog NT0) S0 48 [mpV m vo vp vb, bktV b va vw] H fun r h' => Ext H.n H h' ∧ r = .lit (.int .i64 (mayBktF m b)) := by
  refine WC_fn Tryz.func48 rfl rfl ?_
  have o1 := hm.o.one
  have o2 := hm.p.one
  have o3 := hm.b.one
  have a1 := ha.one
  have w1 := hw.one
  have a2 := ha.isSl
  have a3 := ha.lenD
  obtain ⟨hp, hhp⟩ : ∃ hp, hp = (H.push (.cells [.lit (.int .i64 m.epoch), vo, vp, vb, .lit (.int .i64 m.leaf)] 69)).push (.cells [.lit (.int .i64 b.id), .lit (.int .i64 b.kind), va, vw] 109) := ⟨_, rfl⟩
  have EP : Ext H.n H hp := hhp ▸ ((Ext.refl _ _).push _ (Nat.le_refl _)).push _ (by rw [n_push]; omega)
  have P0 : hp.at H.n = some (.cells [.lit (.int .i64 m.epoch), vo, vp, vb, .lit (.int .i64 m.leaf)] 69) := hhp ▸ (at_push_lt _ (by rw [n_push]; omega)).trans (at_push_n _ _)
  have B0 : hp.at (H.n + 1) = some (.cells [.lit (.int .i64 b.id), .lit (.int .i64 b.kind), va, vw] 109) := hhp ▸ at_push_n _ _
  have nP : hp.n = H.n + 2 := by rw [hhp, n_push, n_push]
  have LP0 := ld_at (T := tabOf Tryz.prog NT0) P0
  have LB0 := ld_at (T := tabOf Tryz.prog NT0) B0
  have lP0 := at_lt P0
  have lB0 := at_lt B0
  unfold mayBktF
  by_cases c1 : b.id < -32
  · rw [if_pos (.inl c1)]
    simp only [core, zrA, zrS, zrM, zrL, zrE, reduceCtorEq, zrD, ziE, ziL, ziN, Tryz.ntmps48, mpV, bktV, ← hhp, c1, o1, o2, o3, a1, w1, a2, a3, LP0, LB0, lP0, lB0]
    first | exact ⟨EP, trivial⟩ | exact EP
  by_cases c2 : -1 < b.id
  · rw [if_pos (.inr c2)]
    simp only [core, zrA, zrS, zrM, zrL, zrE, reduceCtorEq, zrD, ziE, ziL, ziN, Tryz.ntmps48, mpV, bktV, ← hhp, c1, c2, o1, o2, o3, a1, w1, a2, a3, LP0, LB0, lP0, lB0]
    first | exact ⟨EP, trivial⟩ | exact EP
  rw [if_neg (by omega)]
  simp only [core, zrA, zrS, zrM, zrL, zrE, reduceCtorEq, zrD, ziE, ziL, ziN, Tryz.ntmps48, mpV, bktV, ← hhp, c1, c2, o1, o2, o3, a1, w1, a2, a3, LP0, LB0, lP0, lB0]
  clear hhp
  refine (bucket_x b.id (hm.ext EP (Nat.le_refl _)) (Sm_le (Nat.le_succ _) sb) hbk).mono ?_
  rintro _ h2 ⟨e2, va2, vw2, rfl, b1, b2⟩
  have q1 := b1.one
  have q2 := b2.one
  have E2 := EP.step e2
  have P2 := (e2.2 _ lP0).trans P0
  have B2 := (e2.2 _ lB0).trans B0
  have ln2 := e2.1
  obtain ⟨h3, hh3⟩ : ∃ h3, h3 = h2.push (.cells [.lit (.int .i64 (bucketG m b.id).id), .lit (.int .i64 (bucketG m b.id).kind), va2, vw2] 109) := ⟨_, rfl⟩
  have e3 : Ext h2.n h2 h3 := hh3 ▸ (Ext.refl _ _).push _ (Nat.le_refl _)
  have P3 := (e3.2 _ (at_lt P2)).trans P2
  have B3 := (e3.2 _ (at_lt B2)).trans B2
  have LP3 := ld_at (T := tabOf Tryz.prog NT0) P3
  have LB3 := ld_at (T := tabOf Tryz.prog NT0) B3
  have lP3 := at_lt P3
  have lB3 := at_lt B3
  have E3 := E2.step e3
  have key : ∀ (hq : ¬ ((bucketF m b.id).isNone = true ∧ b.items = [])), WC Tryz.prog (tabOf Tryz.prog NT0) S0 50 [mpV m vo vp vb, bktV b va vw] h3 (fun r h' => ∃ rb, Ext h3.n h3 h' ∧ r = mpV (withB m b) vo vp rb ∧ MpAt (fun k => F k ∨ h3.n ≤ k) h' (withB m b) vo vp rb) := fun _ => by
    refine (wb_x b (hm.ext E3 (Nat.le_refl _)) (up47 sb) hbk (ha.ext E3 (Nat.le_refl _)) (hw.ext E3 (Nat.le_refl _)) la lw hi).mono ?_
    rintro _ h4 ⟨e4, rb, rfl, ib⟩
    have hm4 := (hm.ext E3 (Nat.le_refl _)).ext e4 (Nat.le_refl _)
    exact ⟨rb, e4, rfl, hm4.o.lift fun b hb _ => ⟨rfl, .inl hb⟩, hm4.p.lift fun b hb _ => ⟨rfl, .inl hb⟩, ib.lift fun b hb _ => ⟨rfl, .inr hb⟩⟩
  have hfin : (if goodF (withB m b) = true then (0 : Int) else 22) = errC (withB m b) := by unfold errC; rw [check_good]
  cases hb : (bucketF m b.id) with
  | none =>
    rw [hb] at key
    by_cases ci : b.items = []
    · have ci0 : ((b.items.length : Int) == 0) = true := by rw [ci]; rfl
      simp only [core, zrA, zrS, zrM, zrL, zrE, reduceCtorEq, zrD, ziE, ziL, ziN, q1, q2, bktV, ← hh3, hb, ci0, a1, w1, a2, a3, LP3, LB3, lP3, lB3, Option.isSome_none, Option.isNone_none]
      rw [if_pos ci]
      first | exact ⟨E3, rfl⟩ | exact E3
    · have ci0 : ((b.items.length : Int) == 0) = false := by
        rw [Bool.eq_false_iff]
        intro hh
        simp at hh
        exact ci hh
      simp only [core, zrA, zrS, zrM, zrL, zrE, reduceCtorEq, zrD, ziE, ziL, ziN, q1, q2, bktV, ← hh3, hb, ci0, a1, w1, a2, a3, LP3, LB3, lP3, lB3, Option.isSome_none, Option.isNone_none]
      rw [if_neg ci, hfin]
      refine (key (fun hh => ci hh.2)).mono ?_
      rintro _ h4 ⟨rb, e4, rfl, hm4⟩
      simp only [core, zrA, zrS, zrM, zrL, zrE, reduceCtorEq, zrD, ziE, ziL, ziN]
      refine (check_x hm4 (withB_ok sb hbk la lw)).mono ?_
      rintro _ h5 ⟨e5, rfl⟩
      simp only [core, zrA, zrS, zrM, zrL, zrE, reduceCtorEq, zrD, ziE, ziL, ziN]
      first | exact ⟨(E3.step e4).step e5, trivial⟩ | exact (E3.step e4).step e5
  | some y =>
    rw [hb] at key
    simp only [core, zrA, zrS, zrM, zrL, zrE, reduceCtorEq, zrD, ziE, ziL, ziN, q1, q2, bktV, ← hh3, hb, a1, w1, a2, a3, LP3, LB3, lP3, lB3, Option.isSome_some, Option.isNone_some]
    rw [if_neg (fun hh => by cases hh.1), hfin]
    refine (key (fun hh => by cases hh.1)).mono ?_
    rintro _ h4 ⟨rb, e4, rfl, hm4⟩
    simp only [core, zrA, zrS, zrM, zrL, zrE, reduceCtorEq, zrD, ziE, ziL, ziN]
    refine (check_x hm4 (withB_ok sb hbk la lw)).mono ?_
    rintro _ h5 ⟨e5, rfl⟩
    simp only [core, zrA, zrS, zrM, zrL, zrE, reduceCtorEq, zrD, ziE, ziL, ziN]
    first | exact ⟨(E3.step e4).step e5, trivial⟩ | exact (E3.step e4).step e5
theorem May_x {F : Nat → Prop} {H : AH} {m : MapD} {vo vp vb va vw : AV} (c : ChD) (hm : MpAt F H m vo vp vb) (so : Sm 40 m.osds) (sp : Sm 32 m.pools) (sb : (m.buckets.length + 1) * 64 ≤ 140737488351232) (hbk : ∀ b ∈ m.buckets, Sm 8 b.items ∧ Sm 8 b.weights) (ha : IsSl RInt F H va c.bucket.items) (hw : IsSl RInt F H vw c.bucket.weights) (la : Sm 8 c.bucket.items) (lw : Sm 8 c.bucket.weights) (hi : I64 c.bucket.id ∧ I64 c.bucket.kind) :
    WC Tryz.prog (tabOf Tryz.prog NT0) S0 30 [mpV m vo vp vb, chV c va vw] H fun r h' => Ext H.n H h' ∧ r = .lit (.int .i64 (chMay m c)) := by
  refine WC_fn Tryz.func30 rfl rfl ?_
  have o1 := hm.o.one
  have o2 := hm.p.one
  have o3 := hm.b.one
  have a1 := ha.one
  have w1 := hw.one
  have a2 := ha.isSl
  have w2 := hw.isSl
  simp only [core, zrA, zrS, zrM, zrL, zrE, reduceCtorEq, zrD, ziE, ziL, ziN, Tryz.ntmps30, mpV, chV, o1, o2, o3, a1, w1]
  obtain ⟨hp, hhp⟩ : ∃ hp, hp = (H.push (.cells [.lit (.int .i64 m.epoch), vo, vp, vb, .lit (.int .i64 m.leaf)] 69)).push (.cells [.lit (.int .i64 c.kind), .lit (.int .i64 c.osd), .lit (.int .i64 c.value), .lit (.int .i64 c.pool.id), .lit (.int .i64 c.pool.size), .lit (.int .i64 c.pool.min), .lit (.int .i64 c.pool.pgs), .lit (.int .i64 c.bucket.id), .lit (.int .i64 c.bucket.kind), va, vw] 111) := ⟨_, rfl⟩
  have EP : Ext H.n H hp := hhp ▸ ((Ext.refl _ _).push _ (Nat.le_refl _)).push _ (by rw [n_push]; omega)
  have P0 : hp.at H.n = some (.cells [.lit (.int .i64 m.epoch), vo, vp, vb, .lit (.int .i64 m.leaf)] 69) := hhp ▸ (at_push_lt _ (by rw [n_push]; omega)).trans (at_push_n _ _)
  have B0 : hp.at (H.n + 1) = some (.cells [.lit (.int .i64 c.kind), .lit (.int .i64 c.osd), .lit (.int .i64 c.value), .lit (.int .i64 c.pool.id), .lit (.int .i64 c.pool.size), .lit (.int .i64 c.pool.min), .lit (.int .i64 c.pool.pgs), .lit (.int .i64 c.bucket.id), .lit (.int .i64 c.bucket.kind), va, vw] 111) := hhp ▸ at_push_n _ _
  have LP0 := ld_at (T := tabOf Tryz.prog NT0) P0
  have LB0 := ld_at (T := tabOf Tryz.prog NT0) B0
  have lP0 := at_lt P0
  have lB0 := at_lt B0
  rw [← hhp]
  clear hhp
  have hmp := hm.ext EP (Nat.le_refl _)
  have hap := ha.ext EP (Nat.le_refl _)
  have hwp := hw.ext EP (Nat.le_refl _)
  have hO : isOs c.kind → chMay m c = if c.osd < 0 ∨ 8 ≤ c.osd then 22 else mayOsdF m c := fun h => by unfold chMay; rw [if_pos h]
  by_cases k1 : c.kind = 1
  · have k1e : (c.kind == 1) = true := by simp [k1]
    rw [hO (by unfold isOs; omega)]
    by_cases c1 : c.osd < 0
    · rw [if_pos (.inl c1)]
      simp only [core, zrA, zrS, zrM, zrL, zrE, reduceCtorEq, zrD, ziE, ziL, ziN, LP0, LB0, lP0, lB0, o1, o2, o3, a1, w1, a2, w2, k1e, c1]
      first | exact ⟨EP, trivial⟩ | exact EP
    by_cases c2 : 8 ≤ c.osd
    · rw [if_pos (.inr c2)]
      simp only [core, zrA, zrS, zrM, zrL, zrE, reduceCtorEq, zrD, ziE, ziL, ziN, LP0, LB0, lP0, lB0, o1, o2, o3, a1, w1, a2, w2, k1e, c1, c2]
      first | exact ⟨EP, trivial⟩ | exact EP
    rw [if_neg (by omega)]
    simp only [core, zrA, zrS, zrM, zrL, zrE, reduceCtorEq, zrD, ziE, ziL, ziN, LP0, LB0, lP0, lB0, o1, o2, o3, a1, w1, a2, w2, k1e, c1, c2]
    refine (mayOsd_x c hmp so a1 w1).mono ?_
    rintro _ h2 ⟨e2, rfl⟩
    simp only [core, zrA, zrS, zrM, zrL, zrE, reduceCtorEq, zrD, ziE, ziL, ziN]
    first | exact ⟨EP.step e2, trivial⟩ | exact EP.step e2
  have k1e : (c.kind == 1) = false := by simp [k1]
  by_cases k2 : c.kind = 2
  · have k2e : (c.kind == 2) = true := by simp [k2]
    rw [hO (by unfold isOs; omega)]
    by_cases c1 : c.osd < 0
    · rw [if_pos (.inl c1)]
      simp only [core, zrA, zrS, zrM, zrL, zrE, reduceCtorEq, zrD, ziE, ziL, ziN, LP0, LB0, lP0, lB0, o1, o2, o3, a1, w1, a2, w2, k1e, k2e, c1]
      first | exact ⟨EP, trivial⟩ | exact EP
    by_cases c2 : 8 ≤ c.osd
    · rw [if_pos (.inr c2)]
      simp only [core, zrA, zrS, zrM, zrL, zrE, reduceCtorEq, zrD, ziE, ziL, ziN, LP0, LB0, lP0, lB0, o1, o2, o3, a1, w1, a2, w2, k1e, k2e, c1, c2]
      first | exact ⟨EP, trivial⟩ | exact EP
    rw [if_neg (by omega)]
    simp only [core, zrA, zrS, zrM, zrL, zrE, reduceCtorEq, zrD, ziE, ziL, ziN, LP0, LB0, lP0, lB0, o1, o2, o3, a1, w1, a2, w2, k1e, k2e, c1, c2]
    refine (mayOsd_x c hmp so a1 w1).mono ?_
    rintro _ h2 ⟨e2, rfl⟩
    simp only [core, zrA, zrS, zrM, zrL, zrE, reduceCtorEq, zrD, ziE, ziL, ziN]
    first | exact ⟨EP.step e2, trivial⟩ | exact EP.step e2
  have k2e : (c.kind == 2) = false := by simp [k2]
  by_cases k3 : c.kind = 3
  · have k3e : (c.kind == 3) = true := by simp [k3]
    rw [hO (by unfold isOs; omega)]
    by_cases c1 : c.osd < 0
    · rw [if_pos (.inl c1)]
      simp only [core, zrA, zrS, zrM, zrL, zrE, reduceCtorEq, zrD, ziE, ziL, ziN, LP0, LB0, lP0, lB0, o1, o2, o3, a1, w1, a2, w2, k1e, k2e, k3e, c1]
      first | exact ⟨EP, trivial⟩ | exact EP
    by_cases c2 : 8 ≤ c.osd
    · rw [if_pos (.inr c2)]
      simp only [core, zrA, zrS, zrM, zrL, zrE, reduceCtorEq, zrD, ziE, ziL, ziN, LP0, LB0, lP0, lB0, o1, o2, o3, a1, w1, a2, w2, k1e, k2e, k3e, c1, c2]
      first | exact ⟨EP, trivial⟩ | exact EP
    rw [if_neg (by omega)]
    simp only [core, zrA, zrS, zrM, zrL, zrE, reduceCtorEq, zrD, ziE, ziL, ziN, LP0, LB0, lP0, lB0, o1, o2, o3, a1, w1, a2, w2, k1e, k2e, k3e, c1, c2]
    refine (mayOsd_x c hmp so a1 w1).mono ?_
    rintro _ h2 ⟨e2, rfl⟩
    simp only [core, zrA, zrS, zrM, zrL, zrE, reduceCtorEq, zrD, ziE, ziL, ziN]
    first | exact ⟨EP.step e2, trivial⟩ | exact EP.step e2
  have k3e : (c.kind == 3) = false := by simp [k3]
  by_cases k4 : c.kind = 4
  · have k4e : (c.kind == 4) = true := by simp [k4]
    rw [hO (by unfold isOs; omega)]
    by_cases c1 : c.osd < 0
    · rw [if_pos (.inl c1)]
      simp only [core, zrA, zrS, zrM, zrL, zrE, reduceCtorEq, zrD, ziE, ziL, ziN, LP0, LB0, lP0, lB0, o1, o2, o3, a1, w1, a2, w2, k1e, k2e, k3e, k4e, c1]
      first | exact ⟨EP, trivial⟩ | exact EP
    by_cases c2 : 8 ≤ c.osd
    · rw [if_pos (.inr c2)]
      simp only [core, zrA, zrS, zrM, zrL, zrE, reduceCtorEq, zrD, ziE, ziL, ziN, LP0, LB0, lP0, lB0, o1, o2, o3, a1, w1, a2, w2, k1e, k2e, k3e, k4e, c1, c2]
      first | exact ⟨EP, trivial⟩ | exact EP
    rw [if_neg (by omega)]
    simp only [core, zrA, zrS, zrM, zrL, zrE, reduceCtorEq, zrD, ziE, ziL, ziN, LP0, LB0, lP0, lB0, o1, o2, o3, a1, w1, a2, w2, k1e, k2e, k3e, k4e, c1, c2]
    refine (mayOsd_x c hmp so a1 w1).mono ?_
    rintro _ h2 ⟨e2, rfl⟩
    simp only [core, zrA, zrS, zrM, zrL, zrE, reduceCtorEq, zrD, ziE, ziL, ziN]
    first | exact ⟨EP.step e2, trivial⟩ | exact EP.step e2
  have k4e : (c.kind == 4) = false := by simp [k4]
  by_cases k5 : c.kind = 5
  · have k5e : (c.kind == 5) = true := by simp [k5]
    have hC : chMay m c = mayPoolF m c.pool := by unfold chMay; rw [if_neg (by unfold isOs; omega), if_pos k5]
    rw [hC]
    simp only [core, zrA, zrS, zrM, zrL, zrE, reduceCtorEq, zrD, ziE, ziL, ziN, LP0, LB0, lP0, lB0, o1, o2, o3, a1, w1, a2, w2, k1e, k2e, k3e, k4e, k5e]
    refine (mayPool_x c.pool hmp sp).mono ?_
    rintro _ h2 ⟨e2, rfl⟩
    simp only [core, zrA, zrS, zrM, zrL, zrE, reduceCtorEq, zrD, ziE, ziL, ziN]
    first | exact ⟨EP.step e2, trivial⟩ | exact EP.step e2
  have k5e : (c.kind == 5) = false := by simp [k5]
  by_cases k6 : c.kind = 6
  · have k6e : (c.kind == 6) = true := by simp [k6]
    have hC : chMay m c = mayBktF m c.bucket := by unfold chMay; rw [if_neg (by unfold isOs; omega), if_neg k5, if_pos k6]
    rw [hC]
    simp only [core, zrA, zrS, zrM, zrL, zrE, reduceCtorEq, zrD, ziE, ziL, ziN, LP0, LB0, lP0, lB0, o1, o2, o3, a1, w1, a2, w2, k1e, k2e, k3e, k4e, k5e, k6e]
    refine (mayBkt_x c.bucket hmp sb hbk hap hwp la lw hi).mono ?_
    rintro _ h2 ⟨e2, rfl⟩
    simp only [core, zrA, zrS, zrM, zrL, zrE, reduceCtorEq, zrD, ziE, ziL, ziN]
    first | exact ⟨EP.step e2, trivial⟩ | exact EP.step e2
  have k6e : (c.kind == 6) = false := by simp [k6]
  by_cases k7 : c.kind = 7
  · have k7e : (c.kind == 7) = true := by simp [k7]
    have hC : chMay m c = if c.value < 0 ∨ 3 < c.value then 22 else 0 := by unfold chMay; rw [if_neg (by unfold isOs; omega), if_neg k5, if_neg k6, if_pos k7]
    rw [hC]
    by_cases c1 : c.value < 0
    · rw [if_pos (.inl c1)]
      simp only [core, zrA, zrS, zrM, zrL, zrE, reduceCtorEq, zrD, ziE, ziL, ziN, LP0, LB0, lP0, lB0, o1, o2, o3, a1, w1, a2, w2, k1e, k2e, k3e, k4e, k5e, k6e, k7e, c1]
      first | exact ⟨EP, trivial⟩ | exact EP
    by_cases c2 : 3 < c.value
    · rw [if_pos (.inr c2)]
      simp only [core, zrA, zrS, zrM, zrL, zrE, reduceCtorEq, zrD, ziE, ziL, ziN, LP0, LB0, lP0, lB0, o1, o2, o3, a1, w1, a2, w2, k1e, k2e, k3e, k4e, k5e, k6e, k7e, c1, c2]
      first | exact ⟨EP, trivial⟩ | exact EP
    rw [if_neg (by omega)]
    simp only [core, zrA, zrS, zrM, zrL, zrE, reduceCtorEq, zrD, ziE, ziL, ziN, LP0, LB0, lP0, lB0, o1, o2, o3, a1, w1, a2, w2, k1e, k2e, k3e, k4e, k5e, k6e, k7e, c1, c2]
    first | exact ⟨EP, trivial⟩ | exact EP
  have k7e : (c.kind == 7) = false := by simp [k7]
  have hC : chMay m c = 22 := by unfold chMay; rw [if_neg (by unfold isOs; omega), if_neg k5, if_neg k6, if_neg k7]
  rw [hC]
  simp only [core, zrA, zrS, zrM, zrL, zrE, reduceCtorEq, zrD, ziE, ziL, ziN, LP0, LB0, lP0, lB0, o1, o2, o3, a1, w1, a2, w2, k1e, k2e, k3e, k4e, k5e, k6e, k7e]
  first | exact ⟨EP, trivial⟩ | exact EP
end Go.Proofs.YtfbpjobjdmmgiaaGreat.Ex
end

section

set_option linter.unusedSimpArgs false
set_option linter.unusedVariables false
set_option maxRecDepth 10000
set_option maxHeartbeats 4000000
namespace Go.Proofs.YtfbpjobjdmmgiaaGreat.Ex
open Go
section
variable {α : Type}
/-- Elements whose cells are known. -/
structure FlatC (R : Rep α) (cf : α → List AV) (z : Nat) (ok : α → Prop) : Prop where
  hz : R.z = z
  z0 : 0 < z
  len : ∀ x, (cf x).length = z
  is : ∀ F h c x, R.is F h c x ↔ c = cf x ∧ ok x
variable {R : Rep α} {cf : α → List AV} {z : Nat} {ok : α → Prop}
theorem FlatC.flat (hR : FlatC R cf z ok) : FlatR R := fun F G h h' c x hh => (hR.is _ _ _ _).2 ((hR.is _ _ _ _).1 hh)
theorem flatMap_len (hl : ∀ x, (cf x).length = z) : ∀ l : List α, (l.flatMap cf).length = l.length * z
  | [] => by simp
  | x :: r => by rw [List.flatMap_cons, List.length_append, flatMap_len hl r, hl, List.length_cons, Nat.succ_mul]; omega
theorem flatMap_split {l : List α} {i : Nat} {x : α} (hx : l[i]? = some x) : l.flatMap cf = (l.take i).flatMap cf ++ (cf x ++ (l.drop (i + 1)).flatMap cf) := by
  obtain ⟨hi, rfl⟩ := List.getElem?_eq_some_iff.1 hx
  conv => lhs; rw [← List.take_append_drop i l, List.drop_eq_getElem_cons hi]
  rw [List.flatMap_append, List.flatMap_cons]
theorem put_flat {l : List α} {i k : Nat} {x y : α} {v : AV} (hl : ∀ x, (cf x).length = z) (hx : l[i]? = some x) (hk : k < z) (hy : cf y = (cf x).set k v) : put (l.flatMap cf) (i * z + k) [v] = some ((l.set i y).flatMap cf) := by
  obtain ⟨hi, hxe⟩ := List.getElem?_eq_some_iff.1 hx
  have h2 : (l.set i y)[i]? = some y := by rw [List.getElem?_set_self hi]
  have ht : (l.set i y).take i = l.take i := by rw [List.take_set_of_le (Nat.le_refl i)]
  have hd : (l.set i y).drop (i + 1) = l.drop (i + 1) := by rw [List.drop_set_of_lt (by omega)]
  have h3 := flatMap_len hl (l.take i)
  rw [List.length_take, Nat.min_eq_left (by omega)] at h3
  rw [flatMap_split hx, flatMap_split h2, ht, hd, hy]
  unfold put
  rw [if_pos (by simp only [List.length_append, h3, hl, List.length_singleton]; omega)]
  congr 1
  have hkl : k < (cf x).length := by rw [hl]; exact hk
  have t1 : ((l.take i).flatMap cf ++ (cf x ++ (l.drop (i + 1)).flatMap cf)).take (i * z + k) = (l.take i).flatMap cf ++ (cf x).take k := by
    rw [← h3, List.take_length_add_append, List.take_append_of_le_length (by omega)]
  have t2 : ((l.take i).flatMap cf ++ (cf x ++ (l.drop (i + 1)).flatMap cf)).drop (i * z + k + [v].length) = (cf x).drop (k + 1) ++ (l.drop (i + 1)).flatMap cf := by
    rw [show i * z + k + [v].length = ((l.take i).flatMap cf).length + (k + 1) by rw [h3]; rfl, List.drop_length_add_append, List.drop_append_of_le_length (by omega)]
  rw [t1, t2, List.set_eq_take_append_cons_drop, if_pos hkl]
  simp only [List.append_assoc, List.cons_append, List.nil_append]
theorem put_el {l : List α} {i : Nat} {y : α} (hl : ∀ x, (cf x).length = z) (hi : i < l.length) : put (l.flatMap cf) (i * z) (cf y) = some ((l.set i y).flatMap cf) := by
  have hx : l[i]? = some l[i] := List.getElem?_eq_getElem hi
  have h2 : (l.set i y)[i]? = some y := by rw [List.getElem?_set_self hi]
  have ht : (l.set i y).take i = l.take i := by rw [List.take_set_of_le (Nat.le_refl i)]
  have hd : (l.set i y).drop (i + 1) = l.drop (i + 1) := by rw [List.drop_set_of_lt (by omega)]
  have h3 := flatMap_len hl (l.take i)
  rw [List.length_take, Nat.min_eq_left (by omega)] at h3
  rw [flatMap_split hx, flatMap_split h2, ht, hd]
  unfold put
  rw [if_pos (by simp only [List.length_append, h3, hl]; omega)]
  congr 1
  have hkl : (cf l[i]).length = z := hl _
  have t1 : ((l.take i).flatMap cf ++ (cf l[i] ++ (l.drop (i + 1)).flatMap cf)).take (i * z) = (l.take i).flatMap cf := List.take_left' h3
  have t2 : ((l.take i).flatMap cf ++ (cf l[i] ++ (l.drop (i + 1)).flatMap cf)).drop (i * z + (cf y).length) = (l.drop (i + 1)).flatMap cf := by
    rw [← List.append_assoc]
    exact List.drop_left' (by rw [List.length_append, h3, hl, hl])
  rw [t1, t2, List.append_assoc]
/-- A row of the run's own, as cells. -/
theorem OwnL.row {G : Nat → Prop} {n0 : Nat} {h : AH} {v : AV} {e : TypeId} {xs : List α} (hR : FlatC R cf z ok) (ho : OwnL R G n0 h v e xs) (hne : xs ≠ []) :
    ∃ p, v = .sl p 0 xs.length (.un z) ∧ n0 ≤ p ∧ h.at p = some (.cells (xs.flatMap cf) e) ∧ ∀ x ∈ xs, ok x := by
  obtain ⟨L, ⟨h1, h2⟩, h3, h4⟩ := ho
  rcases h2 with ⟨rfl, rfl⟩ | ⟨p, rfl, hp, hat⟩
  · exact absurd (List.eq_nil_of_length_eq_zero h3.symm) hne
  · have hL : ∀ (L : List (List AV)) (xs : List α), L.length = xs.length → (∀ (i : Nat) c x, L[i]? = some c → xs[i]? = some x → c = cf x) → L.flatten = xs.flatMap cf := by
      intro L
      induction L with
      | nil => intro xs hl _; cases xs with | nil => rfl | cons => cases hl
      | cons a r ih =>
        intro xs hl hh
        cases xs with
        | nil => cases hl
        | cons x xs =>
          rw [List.flatten_cons, List.flatMap_cons, hh 0 a x rfl rfl, ih xs (by simpa using hl) (fun i c y a b => hh (i + 1) c y (by simpa using a) (by simpa using b))]
    refine ⟨p, by rw [h3, hR.hz], hp, by rw [hat, hL L xs h3 fun i c x a b => ((hR.is _ _ _ _).1 (h4 i c x a b)).1], fun x hx => ?_⟩
    obtain ⟨i, hi, rfl⟩ := List.mem_iff_getElem.1 hx
    exact ((hR.is _ _ _ _).1 (h4 i L[i] xs[i] (List.getElem?_eq_getElem (by omega)) (List.getElem?_eq_getElem hi))).2
theorem OwnL.ofRow {G : Nat → Prop} {n0 : Nat} {h : AH} {e : TypeId} {xs : List α} {p n : Nat} (hR : FlatC R cf z ok) (hn : n = xs.length) (hp : n0 ≤ p) (hat : h.at p = some (.cells (xs.flatMap cf) e)) (hx : ∀ x ∈ xs, ok x) : OwnL R G n0 h (.sl p 0 n (.un z)) e xs := by
  subst hn
  refine ⟨xs.map cf, ⟨?_, .inr ⟨p, ?_, hp, ?_⟩⟩, ?_, fun i c x h1 h2 => ?_⟩
  · intro c hc; obtain ⟨n, _, rfl⟩ := List.mem_map.1 hc; rw [hR.len, hR.hz]
  · rw [List.length_map, hR.hz]
  · rw [hat, List.flatMap_def]
  · simp
  · rw [List.getElem?_map, h2] at h1
    simp only [Option.map_some, Option.some.injEq] at h1
    exact (hR.is _ _ _ _).2 ⟨h1.symm, hx x (List.mem_of_getElem? h2)⟩
/-- One more behind an own row of flat elements. -/
theorem OwnE.snoc {T : TT} {t e e' : TypeId} {by' p n0 : Nat} {zv : AV} {c : List AV} {y : α} {cap : Cap} {h : AH} {v : AV} {xs : List α} (hR : FlatC R cf z ok) (ho : OwnE R n0 h v e xs) (hu : und T t = some (.slice e)) (hz : sizeT T e = some R.z) (hzv : zeroT T e = some zv) (hb : bytesT T e = some by')
    (hzl : zv.cells.length = R.z) (h0 : 0 < R.z) (h200 : R.z ≤ 200) (hp : h.at p = some (.cells c e')) (hc : R.is (fun _ => False) h c y) (hn : xs.length + 1 ≤ 4611686018427387904) (hby : (xs.length + 1) * by' ≤ 140737488355328) (hn0 : n0 ≤ h.n) :
    ∃ s' h', appendA T h t t v (.sl p 0 1 cap) = some (s', h') ∧ OwnE R n0 h' s' e (xs ++ [y]) ∧ Fr h v h' s' := by
  rcases ho with ho | ⟨rfl, q, hq, rfl, hat⟩
  · obtain ⟨s', h', a, b, d, f⟩ := ho.snoc hu hu hz hzv hb hzl h0 h200 hp (cap := cap) (hR.flat _ _ _ _ _ _ hc) hn hby hn0
    exact ⟨s', h', a, .inl b, d.1, f⟩
  · obtain ⟨rfl, hok⟩ := (hR.is _ _ _ _).1 hc
    have hg : getR h p = some (cf y) := by unfold getR; rw [hp]
    have hl1 : (cf y).length = R.z := by rw [hR.len, hR.hz]
    rcases append_fresh (T := T) (h := h) (t := t) (tx := t) (e := e) (M := [cf y]) (p := q) (x := .sl p 0 1 cap) hu hu hz hzv hb hzl h0 h200 hat (by
        simp only [srcA, hg, cut]
        rw [if_pos (by omega)]
        simp [hl1 ▸ List.take_length]) rfl (by intro c hc; rw [List.mem_singleton.1 hc, hl1]) (by rw [List.flatten_cons, List.flatten_nil, List.append_nil, List.all_eq_true]; exact fun v hv => R.one hc v hv) (by simp) (by simpa using hby) with ⟨hM, ha⟩ | ⟨hM, ha⟩
    · cases hM
    · refine ⟨_, _, ha, .inl ?_, by rw [n_push]; omega, fun b hb hab => ⟨at_push_lt _ hb, fun off n cap e => by cases e; omega⟩⟩
      have := OwnL.ofRow (G := fun _ => False) (n0 := n0) (h := h.push (.cells [cf y].flatten e)) (e := e) (xs := [y]) (p := h.n) (n := 1) hR rfl hn0 (by rw [at_push_n]; simp) (fun x hx => by rw [List.mem_singleton.1 hx]; exact hok)
      rw [hR.hz]
      exact this
/-- Rows of other elements lie elsewhere. -/
theorem OwnE.sep {β : Type} {R : Rep α} {S : Rep β} {n0 n1 : Nat} {h : AH} {v u : AV} {e e2 : TypeId} {xs : List α} {ys : List β} (ho : OwnE R n0 h v e xs) (hu : OwnE S n1 h u e2 ys) (hne : e ≠ e2) : ∀ b off n cap, v = .sl b off n cap → Apart u b := by
  have hat : ∀ {γ : Type} {R : Rep γ} {n0 : Nat} {v : AV} {e : TypeId} {xs : List γ}, OwnE R n0 h v e xs → ∀ b off n cap, v = .sl b off n cap → ∃ l, h.at b = some (.cells l e) := by
    intro γ R n0 v e xs ho b off n cap hv
    rcases ho with ⟨L, h1, h2⟩ | ⟨rfl, p, hp, rfl, hat⟩
    · rcases h1.2 with ⟨hh, _⟩ | ⟨p, hh, hp, hat⟩
      · rw [hh] at hv; cases hv
      · rw [hh] at hv; cases hv; exact ⟨_, hat⟩
    · cases hv; exact ⟨_, hat⟩
  intro b off n cap hv off2 n2 cap2 hu2
  obtain ⟨l1, k1⟩ := hat ho b off n cap hv
  obtain ⟨l2, k2⟩ := hat hu b off2 n2 cap2 hu2
  rw [k1] at k2
  cases k2
  exact hne rfl
theorem OwnE.keep {R : Rep α} {n0 : Nat} {h h' : AH} {v : AV} {e : TypeId} {xs : List α} (ho : OwnE R n0 h v e xs) (hk : ∀ b off n cap, v = .sl b off n cap → h'.at b = h.at b) : OwnE R n0 h' v e xs := by
  rcases ho with ho | ⟨rfl, p, hp, rfl, hat⟩
  · exact .inl (ho.lift hk (fun b hb => hb.elim))
  · exact .inr ⟨rfl, p, hp, rfl, (hk _ _ _ _ rfl).trans hat⟩
theorem OwnE.blt {R : Rep α} {n0 : Nat} {h : AH} {v : AV} {e : TypeId} {xs : List α} (ho : OwnE R n0 h v e xs) : ∀ b off n cap, v = .sl b off n cap → b < h.n := by
  intro b off n cap hv
  rcases ho with ⟨L, h1, h2⟩ | ⟨rfl, p, hp, rfl, hat⟩
  · rcases h1.2 with ⟨hh, _⟩ | ⟨p, hh, hp, hat⟩
    · rw [hh] at hv; cases hv
    · rw [hh] at hv; cases hv; exact at_lt hat
  · cases hv; exact at_lt hat
/-- A row beside one that grows. -/
theorem OwnE.fr {β : Type} {R : Rep α} {S : Rep β} {n0 n1 : Nat} {h h' : AH} {v u u' : AV} {e e2 : TypeId} {xs : List α} {ys : List β} (ho : OwnE R n0 h v e xs) (hu : OwnE S n1 h u e2 ys) (hne : e ≠ e2) (f : Fr h u h' u') : OwnE R n0 h' v e xs :=
  ho.keep fun b off n cap hv => (f.2 b (ho.blt b off n cap hv) (ho.sep hu hne b off n cap hv)).1
end
section
def oC' (o : OsdD) : List AV := [.lit (.bool o.ex), .lit (.bool o.up), .lit (.int .i64 o.weight), .lit (.int .i64 o.boot), .lit (.int .i64 o.upFrom), .lit (.int .i64 o.upThru)]
def okO (x : OsdD) : Prop := I64 x.weight ∧ I64 x.boot ∧ I64 x.upFrom ∧ I64 x.upThru
theorem flatO : FlatC ROsd oC' 6 okO := ⟨rfl, by decide, fun x => rfl, fun F h c x => ROsd_is⟩
def pC' (p : PoolD) : List AV := [.lit (.int .i64 p.id), .lit (.int .i64 p.size), .lit (.int .i64 p.min), .lit (.int .i64 p.pgs)]
def okP (x : PoolD) : Prop := I64 x.id ∧ I64 x.size ∧ I64 x.min ∧ I64 x.pgs
theorem flatP : FlatC RPool pC' 4 okP := ⟨rfl, by decide, fun x => rfl, fun F h c x => RPool_is⟩
end
end Go.Proofs.YtfbpjobjdmmgiaaGreat.Ex
end

section

set_option linter.unusedSimpArgs false
set_option linter.unusedVariables false
set_option maxRecDepth 10000
set_option maxHeartbeats 4000000
namespace Go.Proofs.YtfbpjobjdmmgiaaGreat.Ex
open Go
/-- What a change must be read as. -/
structure ChIn (F : Nat → Prop) (H : AH) (c : ChD) (va vw : AV) : Prop where
  a : IsSl RInt F H va c.bucket.items
  w : IsSl RInt F H vw c.bucket.weights
  la : Sm 8 c.bucket.items
  lw : Sm 8 c.bucket.weights
  hi : I64 c.bucket.id ∧ I64 c.bucket.kind
  hp : okP c.pool
  hv : I64 c.value
/-- Sizes of a map that may be changed. -/
structure MpSz (m : MapD) : Prop where
  so : Sm 40 m.osds
  sp : (m.pools.length + 1) * 32 ≤ 140737488351232
  sb : (m.buckets.length + 1) * 64 ≤ 140737488351232
  bk : ∀ b ∈ m.buckets, Sm 8 b.items ∧ Sm 8 b.weights
def mC (m : MapD) (vo vp vb : AV) : AB := .cells [.lit (.int .i64 m.epoch), vo, vp, vb, .lit (.int .i64 m.leaf)] 69
def cC (c : ChD) (va vw : AV) : AB := .cells [.lit (.int .i64 c.kind), .lit (.int .i64 c.osd), .lit (.int .i64 c.value), .lit (.int .i64 c.pool.id), .lit (.int .i64 c.pool.size), .lit (.int .i64 c.pool.min), .lit (.int .i64 c.pool.pgs), .lit (.int .i64 c.bucket.id), .lit (.int .i64 c.bucket.kind), va, vw] 111
def mz : AB := .cells [.lit (.int .i64 0), .lit (.slice none 0 0), .lit (.slice none 0 0), .lit (.slice none 0 0), .lit (.int .i64 0)] 69
theorem made_boxes {H : AH} (x y z : AB) : ∃ hp, hp = ((H.push x).push y).push z ∧ Ext H.n H hp ∧ hp.at H.n = some x ∧ hp.at (H.n + 1) = some y ∧ hp.at (H.n + 2) = some z ∧ hp.n = H.n + 3 :=
  ⟨_, rfl, (((Ext.refl _ _).push _ (Nat.le_refl _)).push _ (by rw [n_push]; omega)).push _ (by rw [n_push, n_push]; omega),
    ((at_push_lt _ (by rw [n_push, n_push]; omega)).trans (at_push_lt _ (by rw [n_push]; omega))).trans (at_push_n _ _), (at_push_lt _ (by rw [n_push, n_push]; omega)).trans (at_push_n _ _), at_push_n _ _, by rw [n_push, n_push, n_push]⟩
theorem made6_x {F : Nat → Prop} {H : AH} {m : MapD} {vo vp vb va vw : AV} {n0 p0 : Nat} (c : ChD) (hm : OwnMp n0 p0 H m vo vp vb) (hn0 : n0 ≤ H.n) (hp0 : p0 < H.n) (hz : MpSz m) (hc : ChIn F H c va vw) (hk : c.kind = 6) :
    WC Tryz.prog (tabOf Tryz.prog NT0) S0 31 [mpV m vo vp vb, chV c va vw] H fun r h' => Ext n0 H h' ∧ h'.at p0 = H.at p0 ∧ ∃ ro rp rb, r = mpV (chMade m c) ro rp rb ∧ OwnMp n0 p0 h' (chMade m c) ro rp rb := by
  refine WC_fn Tryz.func31 rfl rfl ?_
  have hmA := hm.at (F := fun _ => True) fun _ _ => trivial
  have o1 := hmA.o.one
  have o2 := hmA.p.one
  have o3 := hmA.b.one
  have a1 := hc.a.one
  have w1 := hc.w.one
  have s1 := hmA.o.isSl
  have s2 := hmA.p.isSl
  have s3 := hmA.b.isSl
  have k5e : (c.kind == 5) = false := by rw [hk]; rfl
  have k6e : (c.kind == 6) = true := by rw [hk]; rfl
  obtain ⟨hp, hhp, EP, P0, C0, Z0, nP⟩ := made_boxes (H := H) (mC m vo vp vb) (cC c va vw) mz
  unfold mC at P0 hhp
  unfold cC at C0 hhp
  unfold mz at Z0 hhp
  have LP := ld_at (T := tabOf Tryz.prog NT0) P0
  have LC := ld_at (T := tabOf Tryz.prog NT0) C0
  have lP := at_lt P0
  have lC := at_lt C0
  simp only [core, zrA, zrS, zrM, zrL, zrE, reduceCtorEq, zrD, ziE, ziL, ziN, Tryz.ntmps31, mpV, chV, o1, o2, o3, a1, w1, ← hhp, LP, LC, lP, lC, k5e, k6e, s1, s2, s3]
  refine (wb_x c.bucket (hmA.ext EP (Nat.le_refl _)) (up47 hz.sb) hz.bk ((hc.a.lift (G := fun _ => True) fun _ _ _ => ⟨rfl, trivial⟩).ext EP (Nat.le_refl _)) ((hc.w.lift (G := fun _ => True) fun _ _ _ => ⟨rfl, trivial⟩).ext EP (Nat.le_refl _)) hc.la hc.lw hc.hi).mono ?_
  rintro _ h2 ⟨e2, rb, rfl, ib⟩
  have q3 := ib.one
  have Z2 := (e2.2 _ (at_lt Z0)).trans Z0
  have lZ2 := at_lt Z2
  have hE : chMade m c = withB m c.bucket := by unfold chMade; rw [if_neg (by omega), if_pos hk]
  have l2 := e2.1
  simp only [core, zrA, zrS, zrM, zrL, zrE, reduceCtorEq, zrD, ziE, ziL, ziN, mpV, o1, o2, q3, Z2, lZ2]
  have E2 := EP.step e2
  have m2 := hm.ext E2 (Nat.le_refl _)
  refine ⟨(E2.mono hn0).put _ (by omega), (E2.put _ (by omega)).2 _ hp0, vo, vp, rb, by rw [hE], ?_⟩
  rw [hE]
  refine ⟨m2.o.put_ap (hm.o.apart (by omega)), m2.p.put_ap (hm.p.apart (by omega)), ?_, hm.ao, hm.ap⟩
  show IsSl RBkt _ _ rb (withB m c.bucket).buckets
  exact ib.lift fun b hb _ => ⟨at_put_ne _ (by omega), by omega, hm.o.apart (by omega), hm.p.apart (by omega), by omega⟩
theorem made7_x {F : Nat → Prop} {H : AH} {m : MapD} {vo vp vb va vw : AV} {n0 p0 : Nat} (c : ChD) (hm : OwnMp n0 p0 H m vo vp vb) (hn0 : n0 ≤ H.n) (hp0 : p0 < H.n) (hz : MpSz m) (hc : ChIn F H c va vw) (hk : c.kind = 7) :
    WC Tryz.prog (tabOf Tryz.prog NT0) S0 31 [mpV m vo vp vb, chV c va vw] H fun r h' => Ext n0 H h' ∧ h'.at p0 = H.at p0 ∧ ∃ ro rp rb, r = mpV (chMade m c) ro rp rb ∧ OwnMp n0 p0 h' (chMade m c) ro rp rb := by
  refine WC_fn Tryz.func31 rfl rfl ?_
  have hmA := hm.at (F := fun _ => True) fun _ _ => trivial
  have o1 := hmA.o.one
  have o2 := hmA.p.one
  have o3 := hmA.b.one
  have a1 := hc.a.one
  have w1 := hc.w.one
  have s1 := hmA.o.isSl
  have s2 := hmA.p.isSl
  have s3 := hmA.b.isSl
  have k5e : (c.kind == 5) = false := by rw [hk]; rfl
  have k6e : (c.kind == 6) = false := by rw [hk]; rfl
  have k7e : (c.kind == 7) = true := by rw [hk]; rfl
  obtain ⟨hp, hhp, EP, P0, C0, Z0, nP⟩ := made_boxes (H := H) (mC m vo vp vb) (cC c va vw) mz
  unfold mC at P0 hhp
  unfold cC at C0 hhp
  unfold mz at Z0 hhp
  have LP := ld_at (T := tabOf Tryz.prog NT0) P0
  have LC := ld_at (T := tabOf Tryz.prog NT0) C0
  have lP := at_lt P0
  have lC := at_lt C0
  have lZ := at_lt Z0
  have hne : ¬ H.n = H.n + 2 := by omega
  have hE : chMade m c = { m with leaf := c.value } := by unfold chMade; rw [if_neg (by omega), if_neg (by omega), if_pos hk]
  simp only [core, zrA, zrS, zrM, zrL, zrE, reduceCtorEq, zrD, ziE, ziL, ziN, Tryz.ntmps31, mpV, chV, o1, o2, o3, a1, w1, ← hhp, LP, LC, P0, Z0, lP, lC, lZ, k5e, k6e, k7e, s1, s2, s3, hne]
  refine ⟨((EP.put _ (Nat.le_refl _)).put _ (by omega)).mono hn0, ((EP.put _ (Nat.le_refl _)).put _ (by omega)).2 _ hp0, vo, vp, vb, by rw [hE], ?_⟩
  rw [hE]
  have mp := hm.ext EP (Nat.le_refl _)
  refine ⟨(mp.o.put_ap (hm.o.apart (by omega))).put_ap (hm.o.apart (by omega)), (mp.p.put_ap (hm.p.apart (by omega))).put_ap (hm.p.apart (by omega)), ?_, hm.ao, hm.ap⟩
  have hbl : IsSl RBkt (fun k => (n0 ≤ k ∧ Apart vo k ∧ Apart vp k ∧ k ≠ p0) ∧ k < H.n) hp vb m.buckets := hm.b.lift fun b hb hlt => ⟨EP.2 _ hlt, hb, hlt⟩
  exact hbl.lift fun b hb _ => ⟨by have := hb.2; rw [at_put_ne _ (by omega), at_put_ne _ (by omega)], hb.1⟩
end Go.Proofs.YtfbpjobjdmmgiaaGreat.Ex
end

section

set_option linter.unusedSimpArgs false
set_option linter.unusedVariables false
set_option maxRecDepth 10000
set_option maxHeartbeats 4000000
namespace Go.Proofs.YtfbpjobjdmmgiaaGreat.Ex
open Go
theorem insA_eq {h : AH} {v : AV} {b2 o2 : Nat} {k2 : Cap} {l2 new : List AV} (hv : isSl v = true) (hbig : (lenD v + 1) * 32 ≤ 140737488355328) (hg2 : getR h b2 = some l2) (hc2 : cut l2 o2 4 = some new) (h1 : new.all AV.one = true) :
    appendA (tabOf Tryz.prog NT0) h 66 66 v (.sl b2 o2 1 k2) = appendB h 102 4 1 new v := by
  have e1 : und (tabOf Tryz.prog NT0) 66 = some (.slice 102) := by kernel_rfl
  have h00 : (tabOf Tryz.prog NT0 102).map (fun i => (i.bytes, i.zero.cells.length, i.size)) = some (32, 4, 4) := by kernel_rfl
  obtain ⟨i0, h0, he⟩ := Option.map_eq_some_iff.1 h00
  obtain ⟨hb, hz, hs⟩ : i0.bytes = 32 ∧ i0.zero.cells.length = 4 ∧ i0.size = 4 := by
    simp only [Prod.mk.injEq] at he
    exact he
  have hlv : lenA v = some (lenD v) := by
    obtain ⟨n, ⟨rfl, _⟩ | ⟨b, off, cap, rfl⟩⟩ := SlN.of hv <;> rfl
  have hsrc : srcA h 4 (.sl b2 o2 1 k2) = some new := by
    simp only [srcA, hg2]
    exact hc2
  have hnl : new.length = 4 := by
    unfold cut at hc2
    split at hc2
    · cases hc2
      rw [List.length_take, List.length_drop]
      omega
    · cases hc2
  unfold appendA
  have f1 : Nat.ble (lenD v + 1) 4611686018427387904 = true := Nat.ble_eq_true_of_le (by omega)
  have f2 : Nat.ble ((lenD v + 1) * 32) 140737488355328 = true := Nat.ble_eq_true_of_le hbig
  have hlu : lenA (.sl b2 o2 1 k2) = some 1 := rfl
  rw [e1, hlv, hlu]
  simp only [h0, hb, hz, hs, hsrc, hnl, h1, f1, f2]
  rfl
theorem OwnE.capOk {α : Type} {R : Rep α} {n0 : Nat} {h : AH} {v : AV} {e : TypeId} {xs : List α} (ho : OwnE R n0 h v e xs) : CapOk R.z v := by
  obtain ⟨L, -, -, hc, -⟩ := (ho.toSl (F := fun _ => True) (fun _ _ => trivial)).out
  exact hc
theorem made5_x {F : Nat → Prop} {H : AH} {m : MapD} {vo vp vb va vw : AV} {n0 p0 : Nat} (c : ChD) (hm : OwnMp n0 p0 H m vo vp vb) (hn0 : n0 ≤ H.n) (hp0 : p0 < H.n) (hz : MpSz m) (hc : ChIn F H c va vw) (hk : c.kind = 5) :
    WC Tryz.prog (tabOf Tryz.prog NT0) S0 31 [mpV m vo vp vb, chV c va vw] H fun r h' => Ext n0 H h' ∧ h'.at p0 = H.at p0 ∧ ∃ ro rp rb, r = mpV (chMade m c) ro rp rb ∧ OwnMp n0 p0 h' (chMade m c) ro rp rb := by
  refine WC_fn Tryz.func31 rfl rfl ?_
  have hmA := hm.at (F := fun _ => True) fun _ _ => trivial
  have o1 := hmA.o.one
  have o2 := hmA.p.one
  have o3 := hmA.b.one
  have a1 := hc.a.one
  have w1 := hc.w.one
  have s1 := hmA.o.isSl
  have s2 := hmA.p.isSl
  have d2 := hmA.p.lenD
  have s3 := hmA.b.isSl
  have k5e : (c.kind == 5) = true := by rw [hk]; rfl
  obtain ⟨hp, hhp, EP, P0, C0, Z0, nP⟩ := made_boxes (H := H) (mC m vo vp vb) (cC c va vw) mz
  unfold mC at P0 hhp
  unfold cC at C0 hhp
  unfold mz at Z0 hhp
  have LP := ld_at (T := tabOf Tryz.prog NT0) P0
  have LC := ld_at (T := tabOf Tryz.prog NT0) C0
  have lP := at_lt P0
  have lC := at_lt C0
  have lZ := at_lt Z0
  have hne : ¬ H.n = H.n + 2 := by omega
  have hE : chMade m c = { m with pools := insP m.pools c.pool } := by unfold chMade; rw [if_pos hk]
  have hsp : m.pools.length < 4611686018427387904 := by have := hz.sp; omega
  have mp := hm.ext EP (Nat.le_refl _)
  have hbl : IsSl RBkt (fun k => (n0 ≤ k ∧ Apart vo k ∧ Apart vp k ∧ k ≠ p0) ∧ k < H.n) hp vb m.buckets := hm.b.lift fun b hb hlt => ⟨EP.2 _ hlt, hb, hlt⟩
  simp only [core, zrA, zrS, zrM, zrL, zrE, reduceCtorEq, zrD, ziE, ziL, ziN, Tryz.ntmps31, mpV, chV, o1, o2, o3, a1, w1, ← hhp, LP, LC, lP, lC, k5e, s1, s2, s3]
  obtain ⟨n, hN⟩ : ∃ n, n = m.pools.length := ⟨_, rfl⟩
  rw [← hN] at d2 hsp
  -- the end: box and result written over a heap where the pools' row is new
  have fin : ∀ (h : AH) (rp : AV), hp.n ≤ h.n → (∀ b, b < hp.n → Apart vp b → h.at b = hp.at b) → OwnE RPool n0 h rp 102 (insP m.pools c.pool) → (∀ b, b < hp.n → Apart vp b → Apart rp b) →
      Ext n0 H ((h.put H.n (.cells [.lit (.int .i64 m.epoch), vo, rp, vb, .lit (.int .i64 m.leaf)] 69)).put (H.n + 2) (.cells [.lit (.int .i64 m.epoch), vo, rp, vb, .lit (.int .i64 m.leaf)] 69)) ∧
      ((h.put H.n (.cells [.lit (.int .i64 m.epoch), vo, rp, vb, .lit (.int .i64 m.leaf)] 69)).put (H.n + 2) (.cells [.lit (.int .i64 m.epoch), vo, rp, vb, .lit (.int .i64 m.leaf)] 69)).at p0 = H.at p0 ∧
      OwnMp n0 p0 ((h.put H.n (.cells [.lit (.int .i64 m.epoch), vo, rp, vb, .lit (.int .i64 m.leaf)] 69)).put (H.n + 2) (.cells [.lit (.int .i64 m.epoch), vo, rp, vb, .lit (.int .i64 m.leaf)] 69)) { m with pools := insP m.pools c.pool } vo rp vb := by
    intro h rp hhn hk ho hap
    refine ⟨(Ext.put _ (Ext.put _ ⟨by have := EP.1; omega, fun b hb => ?_⟩ hn0) (by omega)), ?_, ⟨?_, ?_, ?_, hm.ao, hap _ (by omega) hm.ap⟩⟩
    · rw [hk b (by have := EP.1; omega) (hm.p.apartLt hb)]
      exact EP.2 b (by omega)
    · rw [at_put_ne _ (by omega), at_put_ne _ (by omega), hk _ (by omega) hm.ap]
      exact EP.2 _ hp0
    · refine ((mp.o.keep fun b off n cap hv => hk b (mp.o.blt b off n cap hv) (mp.o.sep mp.p (by decide) b off n cap hv)).put_ap (hm.o.apart (by omega))).put_ap (hm.o.apart (by omega))
    · exact (ho.put_ap (hap _ (by omega) (hm.p.apart (by omega)))).put_ap (hap _ (by omega) (hm.p.apart (by omega)))
    · refine hbl.lift fun b hb hlt => ⟨?_, hb.1.1, hb.1.2.1, hap b (by omega) hb.1.2.2.1, hb.1.2.2.2⟩
      have := hb.2
      rw [at_put_ne _ (by omega), at_put_ne _ (by omega)]
      exact hk b (by omega) hb.1.2.2.1
  refine WB_ind (fun (i : Nat) t h => h = hp ∧ i ≤ n ∧ (∀ j, j < i → (m.pools.getD j pool0).id < c.pool.id) ∧ t.n = 138 ∧ t.get 2 = .ptr H.n 0 ∧ t.get 3 = .ptr (H.n + 1) 0 ∧ t.get 4 = .ptr (H.n + 2) 0 ∧ t.get 5 = .lit (.int .i64 i)) (fun i => n - i) ?_ 0 _ _ ?_
  · rintro i t h ⟨rfl, hin, hj, hn, g2, g3, g4, g5⟩ ih
    by_cases hlt : i < n
    · obtain ⟨x, hx⟩ : ∃ x, m.pools[i]? = some x := ⟨_, List.getElem?_eq_getElem (by omega)⟩
      obtain ⟨cc, hc1, hld, hld0⟩ := hmA.p.atE (T := tabOf Tryz.prog NT0) EP RPool_z hx
      obtain ⟨rfl, hokx⟩ := RPool_is.1 hc1
      have hltI : ((i : Int) < (n : Int)) = True := by simp only [eq_iff_iff, iff_true]; omega
      have hws := wrap_succ hlt (by omega)
      by_cases hxl : x.id < c.pool.id
      · simp only [core, zrA, zrS, zrM, zrL, zrE, reduceCtorEq, zrD, ziE, ziL, ziN]
        rw [WB_regionD [0, 1, 2, 3, 4, 5, 6, 7, 8, 9, 10, 11, 12, 13, 14, 15, 16] 497317544944576001011160041067678386381011072683367138058344116058555441232145599692800 (by kernel_rfl)]
        repeat ((with_reducible refine WDM_cons ?_; simp only [dw1]; try simp only [dw2, zrA, zrM, zrR, zrO, zrE]); simp only [core, zrA, zrS, zrM, zrL, zrE, reduceCtorEq, zrD, ziE, ziL, ziN, cored, LP, LC, lP, lC, s2, d2, hn, g2, g3, g4, g5, hlt, hltI, hld, hld0, hxl])
        simp only [core, zrA, zrS, zrM, zrL, zrE, reduceCtorEq, zrD, ziE, ziL, ziN, hws, hn, g2, g3, g4, g5]
        refine ih (i + 1) _ _ ⟨rfl, hlt, fun j hji => ?_, ?_⟩ (by omega)
        · by_cases hji2 : j = i
          · subst hji2
            rw [List.getD_eq_getElem?_getD, hx]
            exact hxl
          · exact hj j (by omega)
        · simp only [core, zrA, zrS, zrM, zrL, zrE, reduceCtorEq, zrD, ziE, ziL, ziN, hn, g2, g3, g4, g5]
      · have hne0 : m.pools ≠ [] := fun hh => by rw [hh] at hx; simp at hx
        have row : ∃ q, vp = .sl q 0 m.pools.length (.un 4) ∧ n0 ≤ q ∧ q < H.n ∧ h.at q = some (.cells (m.pools.flatMap pC') 102) ∧ ∀ x ∈ m.pools, okP x := by
          rcases mp.p with ho | ⟨hh, _⟩
          · obtain ⟨q, hv, hq, hat, hok⟩ := ho.row flatP hne0
            exact ⟨q, hv, hq, hm.p.blt q _ _ _ hv, hat, hok⟩
          · exact absurd hh hne0
        obtain ⟨q, hv, hq, hqH, hat, hok⟩ := row
        have lq := at_lt hat
        have hq0 : ¬ q = H.n := by omega
        by_cases hxe : x.id = c.pool.id
        · have hxeb : (x.id == c.pool.id) = true := by simp [hxe]
          have hput := put_el (cf := pC') (z := 4) (y := c.pool) (fun _ => rfl) (show i < m.pools.length by omega)
          simp only [pC'] at hput
          have hv1 : slB vp = q := by rw [hv]; rfl
          have hv2 : slO vp = 0 := by rw [hv]; rfl
          have hat' : h.at (slB vp) = some (.cells (m.pools.flatMap pC') 102) := by rw [hv1]; exact hat
          have lq' := at_lt hat'
          have hput' : put (m.pools.flatMap pC') (slO vp + i * 4) [.lit (.int .i64 c.pool.id), .lit (.int .i64 c.pool.size), .lit (.int .i64 c.pool.min), .lit (.int .i64 c.pool.pgs)] = some ((m.pools.set i c.pool).flatMap pC') := by
            rw [hv2, Nat.zero_add]; exact hput
          obtain ⟨h2, hh2⟩ : ∃ h2, h2 = h.put q (.cells ((m.pools.set i c.pool).flatMap pC') 102) := ⟨_, rfl⟩
          have W2 : h2.at q = some (.cells ((m.pools.set i c.pool).flatMap pC') 102) := hh2 ▸ at_put_same _ lq
          have k2 : ∀ b, b ≠ q → h2.at b = h.at b := fun b hb => hh2 ▸ at_put_ne _ (Ne.symm hb)
          have n2 : h2.n = h.n := by rw [hh2, n_put]
          have P2 := (k2 _ (by omega)).trans P0
          have Z2 := (k2 _ (by omega)).trans Z0
          have LP2 := ld_at (T := tabOf Tryz.prog NT0) P2
          have lZ2 := at_lt Z2
          have hh2' : h.put (slB vp) (.cells ((m.pools.set i c.pool).flatMap pC') 102) = h2 := by rw [hv1]; exact hh2.symm
          simp only [core, zrA, zrS, zrM, zrL, zrE, reduceCtorEq, zrD, ziE, ziL, ziN]
          rw [WB_regionD [0, 1, 2, 3, 4, 5, 6, 7, 8, 9, 10, 11, 12, 13, 14, 15, 16] 497317544944576001011160041067678386381011072683367138058344116058555441232145599692800 (by kernel_rfl)]
          repeat ((with_reducible refine WDM_cons ?_; simp only [dw1]; try simp only [dw2, zrA, zrM, zrR, zrO, zrE]); simp only [core, zrA, zrS, zrM, zrL, zrE, reduceCtorEq, zrD, ziE, ziL, ziN, cored, LP, LC, lP, lC, s2, d2, hn, g2, g3, g4, g5, hlt, hltI, hld, hld0, hxl])
          rw [WB_regionD [0, 1, 2, 3, 4, 5, 6, 7, 8, 9, 10, 11, 12, 13, 14, 15, 16] 497317544944576001011160041067678386381011072683367138058344116058555441232145599692800 (by kernel_rfl)]
          repeat ((with_reducible refine WDM_cons ?_; simp only [dw1]; try simp only [dw2, zrA, zrM, zrR, zrO, zrE]); simp only [corem, WB_cond_s, put, ldL, WB_label, List.nil_append, List.drop_zero, List.take_zero, zrA, zrS, zrM, zrL, zrE, reduceCtorEq, zrD, ziE, ziL, ziN, cored, -put, LP, LC, lP, lC, s2, d2, hn, g2, g3, g4, g5, hlt, hltI, hld, hld0, hxl, hxeb, hat', lq', hput', hh2', LP2, Z2, lZ2, o1, o2, o3])
          have hI : insP m.pools c.pool = m.pools.set i c.pool := insP_eq hx hj hxe
          have E2 : Ext n0 H h2 := ⟨by have := EP.1; omega, fun b hb => (k2 b (by omega)).trans (EP.2 b (by omega))⟩
          have hqp : p0 ≠ q := fun hh => hm.ap 0 _ _ (hh ▸ hv)
          refine ⟨E2.put _ (by omega), by rw [at_put_ne _ (by omega), k2 _ hqp]; exact EP.2 _ hp0, vo, vp, vb, by rw [hE], ?_⟩
          rw [hE, hI]
          have hsep := mp.o.sep mp.p (by decide)
          refine ⟨((mp.o.keep fun b off n cap hv' => k2 b (fun hh => hsep b off n cap hv' 0 _ _ (hh ▸ hv))).put_ap (hm.o.apart (by omega))), ?_, ?_, hm.ao, hm.ap⟩
          · refine OwnE.put_ap (.inl ?_) (hm.p.apart (by omega))
            rw [hv]
            exact OwnL.ofRow flatP (by simp) hq W2 fun y hy => by
              rcases List.mem_or_eq_of_mem_set hy with hy | rfl
              · exact hok y hy
              · exact hc.hp
          · refine hbl.lift fun b hb hlt => ⟨?_, hb.1⟩
            have := hb.2
            rw [at_put_ne _ (by omega)]
            exact k2 b fun hh => hb.1.2.2.1 0 _ _ (hh ▸ hv)
        · have hxeb : (x.id == c.pool.id) = false := by simp [hxe]
          simp only [core, zrA, zrS, zrM, zrL, zrE, reduceCtorEq, zrD, ziE, ziL, ziN]
          rw [WB_regionD [0, 1, 2, 3, 4, 5, 6, 7, 8, 9, 10, 11, 12, 13, 14, 15, 16] 497317544944576001011160041067678386381011072683367138058344116058555441232145599692800 (by kernel_rfl)]
          repeat ((with_reducible refine WDM_cons ?_; simp only [dw1]; try simp only [dw2, zrA, zrM, zrR, zrO, zrE]); simp only [core, zrA, zrS, zrM, zrL, zrE, reduceCtorEq, zrD, ziE, ziL, ziN, cored, LP, LC, lP, lC, s2, d2, hn, g2, g3, g4, g5, hlt, hltI, hld, hld0, hxl])
          rw [WB_regionD [0, 1, 2, 3, 4, 5, 6, 7, 8, 9, 10, 11, 12, 13, 14, 15, 16] 497317544944576001011160041067678386381011072683367138058344116058555441232145599692800 (by kernel_rfl)]
          repeat ((with_reducible refine WDM_cons ?_; simp only [dw1]; try simp only [dw2, zrA, zrM, zrR, zrO, zrE]); simp only [core, zrA, zrS, zrM, zrL, zrE, reduceCtorEq, zrD, ziE, ziL, ziN, cored, LP, LC, lP, lC, s2, d2, hn, g2, g3, g4, g5, hlt, hltI, hld, hld0, hxl, hxeb])
          rw [hv]
          have hcut : cut (m.pools.flatMap pC') 0 (m.pools.length * 4) = some (m.pools.flatMap pC') := by
            unfold cut
            have := flatMap_len (cf := pC') (z := 4) (fun _ => rfl) m.pools
            rw [if_pos (by omega), List.drop_zero, ← this, List.take_length]
          have hIg : insP m.pools c.pool = m.pools.take i ++ c.pool :: m.pools.drop i := insP_gt hx hj (by omega)
          have hrow : (m.pools.flatMap pC').take (i * 4) ++ pC' c.pool ++ (m.pools.flatMap pC').drop (i * 4) = (insP m.pools c.pool).flatMap pC' := by
            have h3 := flatMap_len (cf := pC') (z := 4) (fun _ => rfl) (m.pools.take i)
            rw [List.length_take, Nat.min_eq_left (by omega)] at h3
            have h4 : m.pools.flatMap pC' = (m.pools.take i).flatMap pC' ++ (m.pools.drop i).flatMap pC' := by rw [← List.flatMap_append, List.take_append_drop]
            rw [hIg, List.flatMap_append, List.flatMap_cons, h4, List.take_left' h3, List.drop_left' h3, List.append_assoc]
          have hlenI : (insP m.pools c.pool).length = m.pools.length + 1 := by rw [hIg]; simp; omega
          refine ins_c (l2 := pC' c.pool) (new := pC' c.pool) ((at_push_lt _ lq).trans hat) (at_push_n _ _) hcut rfl (by have := hz.sp; omega) (by omega) rfl ?_ (by omega) ?_
          · rw [List.all_eq_true]
            intro v hv'
            obtain ⟨y, _, hy⟩ := List.mem_flatMap.1 hv'
            simp only [pC', List.mem_cons, List.not_mem_nil, or_false] at hy
            rcases hy with rfl | rfl | rfl | rfl <;> rfl
          rw [hrow]
          obtain ⟨h2, hh2⟩ : ∃ h2, h2 = ((h.push (.cells (pC' c.pool) 102)).put q .gone).push (.cells ((insP m.pools c.pool).flatMap pC') 102) := ⟨_, rfl⟩
          have n2 : h2.n = h.n + 2 := by rw [hh2, n_push, n_put, n_push]
          have W2 : h2.at (h.n + 1) = some (.cells ((insP m.pools c.pool).flatMap pC') 102) := by
            have := at_push_n ((h.push (.cells (pC' c.pool) 102)).put q .gone) (.cells ((insP m.pools c.pool).flatMap pC') 102)
            rw [n_put, n_push] at this
            rw [hh2]
            exact this
          have k2 : ∀ b, b < h.n → b ≠ q → h2.at b = h.at b := fun b hb hbq => by
            rw [hh2, at_push_lt _ (by rw [n_put, n_push]; omega), at_put_ne _ (Ne.symm hbq), at_push_lt _ hb]
          have hgo : (h.push (.cells (pC' c.pool) 102)).n = h.n + 1 := n_push _ _
          have hpc : ((h.push (.cells [.lit (.int .i64 c.pool.id), .lit (.int .i64 c.pool.size), .lit (.int .i64 c.pool.min), .lit (.int .i64 c.pool.pgs)] 102)).put q .gone).push (.cells ((insP m.pools c.pool).flatMap pC') 102) = h2 := hh2.symm
          have hone : (AV.sl (h.n + 1) 0 (m.pools.length + 1) (.un 4)).one = true := rfl
          have P2 := (k2 _ lP (by omega)).trans P0
          have Z2 := (k2 _ lZ (by omega)).trans Z0
          have LP2 := ld_at (T := tabOf Tryz.prog NT0) P2
          have lZ2 := at_lt Z2
          have lP2 := at_lt P2
          simp only [core, zrA, zrS, zrM, zrL, zrE, reduceCtorEq, zrD, ziE, ziL, ziN, hpc, P2, LP2, lP2, Z2, lZ2, o1, o3, hne, hn, g2, g3, g4, g5]
          obtain ⟨f1, f3, f2⟩ := fin h2 (.sl (h.n + 1) 0 (m.pools.length + 1) (.un 4)) (by omega) (fun b hb hab => k2 b hb (fun hh => hab 0 _ _ (hh ▸ hv))) (.inl (OwnL.ofRow flatP hlenI.symm (by omega) W2 (by
            rw [hIg]
            intro y hy
            rcases List.mem_append.1 hy with hy | hy
            · exact hok y (List.mem_of_mem_take hy)
            · rcases List.mem_cons.1 hy with rfl | hy
              · exact hc.hp
              · exact hok y (List.mem_of_mem_drop hy)))) (fun b hb _ off n cap e => by cases e; omega)
          exact ⟨f1, f3, vo, _, vb, by rw [hE], by rw [hE]; exact f2⟩
    · have hltI : ((i : Int) < (n : Int)) = False := by simp only [eq_iff_iff, iff_false]; omega
      simp only [core, zrA, zrS, zrM, zrL, zrE, reduceCtorEq, zrD, ziE, ziL, ziN]
      rw [WB_regionD [0, 1, 2, 3, 4, 5, 6, 7, 8, 9, 10, 11, 12, 13, 14, 15, 16] 497317544944576001011160041067678386381011072683367138058344116058555441232145599692800 (by kernel_rfl)]
      repeat ((with_reducible refine WDM_cons ?_; simp only [dw1]; try simp only [dw2, zrA, zrM, zrR, zrO, zrE]); simp only [core, zrA, zrS, zrM, zrL, zrE, reduceCtorEq, zrD, ziE, ziL, ziN, cored, LP, LC, lP, lC, s2, d2, hn, g2, g3, g4, g5, hlt, hltI])
      rw [WB_regionD [0, 1, 2, 3, 4, 5, 6, 7, 8, 9, 10, 11, 12, 13, 14, 15, 16] 497317544944576001011160041067678386381011072683367138058344116058555441232145599692800 (by kernel_rfl)]
      repeat ((with_reducible refine WDM_cons ?_; simp only [dw1]; try simp only [dw2, zrA, zrM, zrR, zrO, zrE]); simp only [core, zrA, zrS, zrM, zrL, zrE, reduceCtorEq, zrD, ziE, ziL, ziN, cored, LP, LC, lP, lC, s2, d2, hn, g2, g3, g4, g5, hlt, hltI])
      have hid : i = lenD vp := by omega
      obtain ⟨h1, hh1⟩ : ∃ h1, h1 = h.push (.cells [.lit (.int .i64 c.pool.id), .lit (.int .i64 c.pool.size), .lit (.int .i64 c.pool.min), .lit (.int .i64 c.pool.pgs)] 102) := ⟨_, rfl⟩
      have e1 : Ext h.n h h1 := hh1 ▸ (Ext.refl _ _).push _ (Nat.le_refl _)
      have A1 : h1.at h.n = some (.cells (pC' c.pool) 102) := hh1 ▸ at_push_n _ _
      have n1 : h1.n = h.n + 1 := by rw [hh1, n_push]
      rw [← hh1, hid]
      clear hh1
      have p1 := mp.p.ext e1 (Nat.le_refl _)
      have hg2 : getR h1 h.n = some (pC' c.pool) := by unfold getR; rw [A1]
      have hbig : (lenD vp + 1) * 32 ≤ 140737488355328 := by have := hz.sp; omega
      have hIe : insP m.pools c.pool = m.pools ++ [c.pool] := insP_end fun j hjl => hj j (by omega)
      obtain ⟨s', h2, ha, hs', f2⟩ := p1.snoc (T := tabOf Tryz.prog NT0) (t := 66) (y := c.pool) (cap := .kn 1) flatP (by kernel_rfl) (by kernel_rfl) (zv := .agg [.lit (.int .i64 0), .lit (.int .i64 0), .lit (.int .i64 0), .lit (.int .i64 0)]) (by kernel_rfl) (by' := 32) (by kernel_rfl) rfl (by decide) (by decide) A1 (RPool_is.2 ⟨rfl, hc.hp⟩) (by omega) (by rw [← d2.trans hN]; exact hbig) (by omega)
      rw [insA_eq s2 hbig hg2 rfl rfl] at ha
      refine insA_c s2 mp.p.capOk hg2 rfl hbig rfl ha ?_
      have fr : Fr h vp h2 s' := (Fr.ext e1).trans f2
      have ap0 := hm.p.apart (b := H.n) (by omega)
      have ap2 := hm.p.apart (b := H.n + 2) (by omega)
      have P2 := (fr.2 _ lP ap0).1.trans P0
      have Z2 := (fr.2 _ lZ ap2).1.trans Z0
      have LP2 := ld_at (T := tabOf Tryz.prog NT0) P2
      have lZ2 := at_lt Z2
      have lP2 := at_lt P2
      have q1 := (hs'.toSl (F := fun _ => True) (fun _ _ => trivial)).one
      simp only [core, zrA, zrS, zrM, zrL, zrE, reduceCtorEq, zrD, ziE, ziL, ziN, P2, LP2, lP2, Z2, lZ2, o1, o3, q1, hne, hn, g2, g3, g4, g5]
      have f0 := fr.1
      obtain ⟨f1, f3, f2⟩ := fin h2 s' (by omega) (fun b hb hab => (fr.2 b hb hab).1) (by rw [hIe]; exact hs') (fun b hb hab => (fr.2 b hb hab).2)
      exact ⟨f1, f3, vo, _, vb, by rw [hE], by rw [hE]; exact f2⟩
  · refine ⟨rfl, Nat.zero_le _, fun j hj => by omega, ?_⟩
    simp only [core, zrA, zrS, zrM, zrL, zrE, reduceCtorEq, zrD, ziE, ziL, ziN]
    simp
end Go.Proofs.YtfbpjobjdmmgiaaGreat.Ex
end

section

set_option linter.unusedSimpArgs false
set_option linter.unusedVariables false
set_option maxRecDepth 10000
set_option maxHeartbeats 4000000
namespace Go.Proofs.YtfbpjobjdmmgiaaGreat.Ex
open Go
theorem grow_step {l : List OsdD} {k n : Nat} (h : n + 1 ≤ l.length + k) (hk : k = 0 ∨ l.length + k ≤ n + 1) : l ++ List.replicate k osd0 = growO l n := by
  unfold growO
  congr 2
  omega
theorem rep_succ (l : List OsdD) (k : Nat) : l ++ List.replicate k osd0 ++ [osd0] = l ++ List.replicate (k + 1) osd0 := by
  rw [List.replicate_succ', List.append_assoc]
theorem okO0 : okO osd0 := by unfold okO I64 osd0; decide
theorem wrap_I64 (n : Int) : I64 (IntKind.i64.wrap n) := by rw [IntKind.wrap_i64]; unfold I64; omega
theorem madeO_x {F : Nat → Prop} {H : AH} {m : MapD} {vo vp vb va vw : AV} {n0 p0 : Nat} (c : ChD) {k : Nat} (hm : OwnMp n0 p0 H m vo vp vb) (hn0 : n0 ≤ H.n) (hp0 : p0 < H.n) (hz : MpSz m) (hc : ChIn F H c va vw) (hk : isOs c.kind) (ho : c.osd = (k : Int)) (hk8 : k < 8) :
    WC Tryz.prog (tabOf Tryz.prog NT0) S0 31 [mpV m vo vp vb, chV c va vw] H fun r h' => Ext n0 H h' ∧ h'.at p0 = H.at p0 ∧ ∃ ro rp rb, r = mpV (chMade m c) ro rp rb ∧ OwnMp n0 p0 h' (chMade m c) ro rp rb := by
  refine WC_fn Tryz.func31 rfl rfl ?_
  have hmA := hm.at (F := fun _ => True) fun _ _ => trivial
  have o1 := hmA.o.one
  have o2 := hmA.p.one
  have o3 := hmA.b.one
  have a1 := hc.a.one
  have w1 := hc.w.one
  have s1 := hmA.o.isSl
  have s2 := hmA.p.isSl
  have d1 := hmA.o.lenD
  have s3 := hmA.b.isSl
  have k5e : (c.kind == 5) = false := by unfold isOs at hk; simp; omega
  have k6e : (c.kind == 6) = false := by unfold isOs at hk; simp; omega
  have k7e : (c.kind == 7) = false := by unfold isOs at hk; simp; omega
  obtain ⟨hp, hhp, EP, P0, C0, Z0, nP⟩ := made_boxes (H := H) (mC m vo vp vb) (cC c va vw) mz
  unfold mC at P0 hhp
  unfold cC at C0 hhp
  unfold mz at Z0 hhp
  have LP := ld_at (T := tabOf Tryz.prog NT0) P0
  have LC := ld_at (T := tabOf Tryz.prog NT0) C0
  have lP := at_lt P0
  have lC := at_lt C0
  have lZ := at_lt Z0
  have hne : ¬ H.n = H.n + 2 := by omega
  have hE : chMade m c = setO m k (newOs m.epoch (osdG m (k : Int)) c.kind c.value) := by
    unfold chMade
    unfold isOs at hk
    rw [if_neg (by omega), if_neg (by omega), if_neg (by omega), ho]
    rfl
  have mp := hm.ext EP (Nat.le_refl _)
  have hbl : IsSl RBkt (fun k => n0 ≤ k ∧ Apart vo k ∧ Apart vp k ∧ k < H.n ∧ k ≠ p0) hp vb m.buckets := hm.b.lift fun b hb hlt => ⟨EP.2 _ hlt, hb.1, hb.2.1, hb.2.2.1, hlt, hb.2.2.2⟩
  have hso : m.osds.length < 4611686018427387904 := by have := hz.so; unfold Sm at this; omega
  simp only [core, zrA, zrS, zrM, zrL, zrE, reduceCtorEq, zrD, ziE, ziL, ziN, Tryz.ntmps31, mpV, chV, o1, o2, o3, a1, w1, ← hhp, LP, LC, lP, lC, k5e, k6e, k7e, s1, s2, s3]
  refine WB_ind (fun (j : Nat) t h => ∃ v, h.at H.n = some (.cells [.lit (.int .i64 m.epoch), v, vp, vb, .lit (.int .i64 m.leaf)] 69) ∧ h.at (H.n + 1) = hp.at (H.n + 1) ∧ h.at (H.n + 2) = hp.at (H.n + 2) ∧ (j = 0 ∨ m.osds.length + j ≤ k + 1) ∧
      OwnE ROsd n0 h v 121 (m.osds ++ List.replicate j osd0) ∧ OwnE RPool n0 h vp 102 m.pools ∧ IsSl RBkt (fun k => n0 ≤ k ∧ Apart v k ∧ Apart vp k ∧ k < H.n ∧ k ≠ p0) h vb m.buckets ∧ Apart v p0 ∧ h.at p0 = H.at p0 ∧ Ext n0 H h ∧ hp.n ≤ h.n ∧ Apart v H.n ∧ Apart v (H.n + 1) ∧ Apart v (H.n + 2) ∧ t.n = 138 ∧ t.get 2 = .ptr H.n 0 ∧ t.get 3 = .ptr (H.n + 1) 0 ∧ t.get 4 = .ptr (H.n + 2) 0) (fun j => k + 1 - j) ?_ 0 _ _ ?_
  · rintro j t h ⟨v, PH, CH, ZH, hj, ov, ovp, ib, avp, hp0e, EH, lhn, av0, av1, av2, hn, g2, g3, g4⟩ ih
    rw [C0] at CH
    rw [Z0] at ZH
    have LPH := ld_at (T := tabOf Tryz.prog NT0) PH
    have LCH := ld_at (T := tabOf Tryz.prog NT0) CH
    have lPH := at_lt PH
    have lCH := at_lt CH
    have lZH := at_lt ZH
    have ovs := ov.toSl (F := fun _ => True) (fun _ _ => trivial)
    have t1 := ovs.isSl
    have t2 := ovs.lenD
    have t3 := ovs.one
    obtain ⟨n, hN⟩ : ∃ n, n = (m.osds ++ List.replicate j osd0).length := ⟨_, rfl⟩
    have hN' : n = m.osds.length + j := by rw [hN, List.length_append, List.length_replicate]
    rw [← hN] at t2
    by_cases hlt : n ≤ k
    · have hltI : ((n : Int) ≤ (k : Int)) = True := by simp only [eq_iff_iff, iff_true]; omega
      have ap2 := hm.p.apart (b := H.n) (by omega)
      simp only [core, zrA, zrS, zrM, zrL, zrE, reduceCtorEq, zrD, ziE, ziL, ziN, hn, g2, g3, g4, LPH, LCH, lPH, lCH, t1, t2, t3, s2, s3, ho, hltI]
      have A1 := at_push_n h (.cells (oC' osd0) 121)
      have eA : Ext h.n h (h.push (.cells (oC' osd0) 121)) := (Ext.refl _ _).push _ (Nat.le_refl _)
      refine WOp_app ((ov.ext eA (Nat.le_refl _)).snoc (T := tabOf Tryz.prog NT0) (y := osd0) (cap := .kn 1) flatO (by kernel_rfl) (by kernel_rfl) (zv := .agg [.lit (.bool false), .lit (.bool false), .lit (.int .i64 0), .lit (.int .i64 0), .lit (.int .i64 0), .lit (.int .i64 0)]) (by kernel_rfl) (by' := 40) (by kernel_rfl) rfl (by decide) (by decide) A1 (ROsd_is.2 ⟨rfl, okO0⟩) (by rw [← hN]; omega) (by rw [← hN]; omega) (by rw [n_push]; have := EH.1; omega)) ?_
      rintro s' h2 ⟨os', f2⟩
      have lfn := f2.1
      rw [n_push] at lfn
      have P1 : (h.push (.cells (oC' osd0) 121)).at H.n = _ := (at_push_lt _ lPH).trans PH
      have C1 : (h.push (.cells (oC' osd0) 121)).at (H.n + 1) = _ := (at_push_lt _ lCH).trans CH
      have Z1 : (h.push (.cells (oC' osd0) 121)).at (H.n + 2) = _ := (at_push_lt _ lZH).trans ZH
      obtain ⟨P2, bp0⟩ := f2.box P1 av0
      obtain ⟨C2, bp1⟩ := f2.box C1 av1
      obtain ⟨Z2, bp2⟩ := f2.box Z1 av2
      have LP2 := ld_at (T := tabOf Tryz.prog NT0) P2
      have lP2 := at_lt P2
      have q1 := (os'.toSl (F := fun _ => True) (fun _ _ => trivial)).one
      have q2 := (os'.toSl (F := fun _ => True) (fun _ _ => trivial)).isSl
      simp only [core, zrA, zrS, zrM, zrL, zrE, reduceCtorEq, zrD, ziE, ziL, ziN, hn, g2, g3, g4, P2, LP2, lP2, q1, q2]
      refine ih (j + 1) _ _ ⟨s', at_put_same _ lP2, by rw [at_put_ne _ (by omega), C2, C0], by rw [at_put_ne _ (by omega), Z2, Z0], .inr (by omega), ?_, ?_, ?_, (f2.2 _ (by rw [n_push]; omega) avp).2, by rw [at_put_ne _ (by omega), (f2.2 _ (by rw [n_push]; omega) avp).1, at_push_lt _ (by omega)]; exact hp0e, ?_, by rw [n_put]; omega, bp0, bp1, bp2, ?_⟩ (by omega)
      · rw [← rep_succ]
        exact os'.put_ap bp0
      · exact ((ovp.ext eA (Nat.le_refl _)).fr (ov.ext eA (Nat.le_refl _)) (by decide) f2).put_ap (hm.p.apart (by omega))
      · refine ib.lift fun b hb hlb => ?_
        obtain ⟨k1, k2⟩ := f2.2 b (by rw [n_push]; omega) hb.2.1
        have := hb.2.2.2.1
        exact ⟨by rw [at_put_ne _ (by omega), k1, at_push_lt _ hlb], hb.1, k2, hb.2.2.1, hb.2.2.2⟩
      · refine Ext.put _ ⟨by have := EH.1; omega, fun b hb => ?_⟩ hn0
        have := EH.1
        rw [(f2.2 b (by rw [n_push]; omega) (ov.apartLt hb)).1, at_push_lt _ (by omega)]
        exact EH.2 b hb
      · simp only [core, zrA, zrS, zrM, zrL, zrE, reduceCtorEq, zrD, ziE, ziL, ziN, hn, g2, g3, g4]
    · have hltI : ((n : Int) ≤ (k : Int)) = False := by simp only [eq_iff_iff, iff_false]; omega
      have hgr : m.osds ++ List.replicate j osd0 = growO m.osds k := grow_step (by omega) hj
      have hkn : k < n := by omega
      obtain ⟨l, hl⟩ : ∃ l, l = m.osds ++ List.replicate j osd0 := ⟨_, rfl⟩
      rw [← hl] at ov ovs hN hgr
      obtain ⟨x, hx⟩ : ∃ x, l[k]? = some x := ⟨_, List.getElem?_eq_getElem (by omega)⟩
      have hxG : osdG m (k : Int) = x := by
        rw [osdG_get (by omega), Int.toNat_natCast, ← grow_get m.osds k k, ← hgr, List.getD_eq_getElem?_getD, hx]
        rfl
      have hlne : l ≠ [] := fun hh => by rw [hh] at hx; simp at hx
      have row : ∃ q, v = .sl q 0 l.length (.un 6) ∧ n0 ≤ q ∧ h.at q = some (.cells (l.flatMap oC') 121) ∧ ∀ x ∈ l, okO x := by
        rcases ov with hov | ⟨hh, _⟩
        · exact hov.row flatO hlne
        · exact absurd hh hlne
      obtain ⟨q, hv, hq, hat, hok⟩ := row
      have hv1 : slB v = q := by rw [hv]; rfl
      have hv2 : slO v = 0 := by rw [hv]; rfl
      have hat' : h.at (slB v) = some (.cells (l.flatMap oC') 121) := by rw [hv1]; exact hat
      have lq := at_lt hat
      have lq' := at_lt hat'
      obtain ⟨cc, hc1, hld, hld0⟩ := ovs.at (T := tabOf Tryz.prog NT0) ROsd_z hx
      obtain ⟨rfl, okx⟩ := ROsd_is.1 hc1
      have hq0 : q ≠ H.n := fun hh => av0 0 _ _ (hh ▸ hv)
      have hq1 : q ≠ H.n + 1 := fun hh => av1 0 _ _ (hh ▸ hv)
      have hq2 : q ≠ H.n + 2 := fun hh => av2 0 _ _ (hh ▸ hv)
      have hsep := ovp.sep ov (by decide)
      have hb0 : ¬ slB v = H.n := by rw [hv1]; exact hq0
      have hb1 : ¬ slB v = H.n + 1 := by rw [hv1]; exact hq1
      have finO : ∀ (h' : AH) (y : OsdD) (X : AB), okO y → h'.n = h.n → (∀ b, b ≠ q → h'.at b = h.at b) → h'.at q = some (.cells ((l.set k y).flatMap oC') 121) → newOs m.epoch x c.kind c.value = y →
          Ext n0 H (h'.put (H.n + 2) X) ∧ (h'.put (H.n + 2) X).at p0 = H.at p0 ∧ ∃ ro rp rb, AV.agg [.lit (.int .i64 m.epoch), v, vp, vb, .lit (.int .i64 m.leaf)] = .agg [.lit (.int .i64 (chMade m c).epoch), ro, rp, rb, .lit (.int .i64 (chMade m c).leaf)] ∧ OwnMp n0 p0 (h'.put (H.n + 2) X) (chMade m c) ro rp rb := by
        intro h' y X oky hn' hk' hat2 hnew
        have hE' : chMade m c = { m with osds := l.set k y } := by rw [hE, hxG, hnew, hgr]; rfl
        refine ⟨Ext.put _ ⟨by have := EH.1; omega, fun b hb => (hk' b (by omega)).trans (EH.2 b hb)⟩ (by omega), by rw [at_put_ne _ (by omega), hk' _ (fun hh => avp 0 _ _ (hh ▸ hv))]; exact hp0e, v, vp, vb, by rw [hE'], ?_⟩
        rw [hE']
        refine ⟨?_, ?_, ?_, avp, hm.ap⟩
        · refine OwnE.put_ap (.inl ?_) av2
          rw [hv]
          exact OwnL.ofRow flatO (by simp) hq hat2 fun y' hy => by
            rcases List.mem_or_eq_of_mem_set hy with hy | rfl
            · exact hok y' hy
            · exact oky
        · exact (ovp.keep fun b off n cap hv' => hk' b (fun hh => hsep b off n cap hv' 0 _ _ (hh ▸ hv))).put_ap (hm.p.apart (by omega))
        · refine ib.lift fun b hb hlb => ⟨?_, hb.1, hb.2.1, hb.2.2.1, hb.2.2.2.2⟩
          have := hb.2.2.2.1
          rw [at_put_ne _ (by omega)]
          exact hk' b fun hh => hb.2.1 0 _ _ (hh ▸ hv)
      have hkl : k < l.length := by omega
      have pf : ∀ (l2 : List OsdD) (x2 y : OsdD) (f : Nat) (u : AV), l2[k]? = some x2 → f < 6 → oC' y = (oC' x2).set f u → put (l2.flatMap oC') (slO v + k * 6 + f) [u] = some ((l2.set k y).flatMap oC') := by
        intro l2 x2 y f u hx2 hf hy
        rw [hv2, Nat.zero_add]
        exact put_flat (fun _ => rfl) hx2 hf hy
      obtain ⟨ex, up, w, bt, uf, ut⟩ := x
      simp only at hld hld0
      have one1 : ∀ (h2 : AH) (y : OsdD), h2 = h.put (slB v) (.cells ((l.set k y).flatMap oC') 121) → h2.n = h.n ∧ (∀ b, b ≠ q → h2.at b = h.at b) ∧ h2.at q = some (.cells ((l.set k y).flatMap oC') 121) := by
        rintro h2 y rfl
        rw [hv1]
        exact ⟨n_put _ _ _, fun b hb => at_put_ne _ (Ne.symm hb), at_put_same _ lq⟩
      rcases hk with k1 | k1 | k1 | k1
      · have e1 : (c.kind == 1) = true := by simp [k1]
        have I64w : I64 (65536 : Int) := by unfold I64; decide
        cases ex with
        | true =>
          have hput0 := pf (l) ⟨true, up, w, bt, uf, ut⟩ ⟨true, up, w, bt, uf, ut⟩ 0 (.lit (.bool true)) hx (by decide) rfl
          simp only [Nat.add_zero] at hput0
          have hput1 := pf ((l).set k ⟨true, up, w, bt, uf, ut⟩) ⟨true, up, w, bt, uf, ut⟩ ⟨true, true, w, bt, uf, ut⟩ 1 (.lit (.bool true)) (List.getElem?_set_self (by first | exact hkl | (simp only [List.length_set]; exact hkl))) (by decide) rfl
          have hput2 := pf (((l).set k ⟨true, up, w, bt, uf, ut⟩).set k ⟨true, true, w, bt, uf, ut⟩) ⟨true, true, w, bt, uf, ut⟩ ⟨true, true, w, c.value, uf, ut⟩ 3 (.lit (.int .i64 c.value)) (List.getElem?_set_self (by first | exact hkl | (simp only [List.length_set]; exact hkl))) (by decide) rfl
          have hput3 := pf ((((l).set k ⟨true, up, w, bt, uf, ut⟩).set k ⟨true, true, w, bt, uf, ut⟩).set k ⟨true, true, w, c.value, uf, ut⟩) ⟨true, true, w, c.value, uf, ut⟩ ⟨true, true, w, c.value, (IntKind.i64.wrap (m.epoch + 1)), ut⟩ 4 (.lit (.int .i64 (IntKind.i64.wrap (m.epoch + 1)))) (List.getElem?_set_self (by first | exact hkl | (simp only [List.length_set]; exact hkl))) (by decide) rfl
          obtain ⟨h2, hh2⟩ : ∃ h2, h2 = ((((h).put (slB v) (.cells (((l).set k ⟨true, up, w, bt, uf, ut⟩).flatMap oC') 121)).put (slB v) (.cells ((((l).set k ⟨true, up, w, bt, uf, ut⟩).set k ⟨true, true, w, bt, uf, ut⟩).flatMap oC') 121)).put (slB v) (.cells (((((l).set k ⟨true, up, w, bt, uf, ut⟩).set k ⟨true, true, w, bt, uf, ut⟩).set k ⟨true, true, w, c.value, uf, ut⟩).flatMap oC') 121)).put (slB v) (.cells ((((((l).set k ⟨true, up, w, bt, uf, ut⟩).set k ⟨true, true, w, bt, uf, ut⟩).set k ⟨true, true, w, c.value, uf, ut⟩).set k ⟨true, true, w, c.value, (IntKind.i64.wrap (m.epoch + 1)), ut⟩).flatMap oC') 121) := ⟨_, rfl⟩
          have n2 : h2.n = h.n := by rw [hh2]; simp only [n_put]
          have k2 : ∀ b, b ≠ q → h2.at b = h.at b := fun b hb => by rw [hh2, hv1]; simp only [at_put_ne _ (Ne.symm hb)]
          have W2 : h2.at q = some (.cells ((l.set k ⟨true, true, w, c.value, (IntKind.i64.wrap (m.epoch + 1)), ut⟩).flatMap oC') 121) := by
            rw [hh2, hv1, at_put_same _ (by simp only [n_put]; exact lq)]
            simp only [List.set_set]
          have P2 := (k2 _ (Ne.symm hq0)).trans PH
          have Z2 := (k2 _ (Ne.symm hq2)).trans ZH
          have LP2 := ld_at (T := tabOf Tryz.prog NT0) P2
          have lZ2 := at_lt Z2
          simp only [corem, WB_cond_s, put, ldL, WB_label, List.nil_append, List.drop_zero, List.take_zero, zrA, zrS, zrM, zrL, zrE, reduceCtorEq, zrD, ziE, ziL, ziN, -put, hn, g2, g3, g4, LPH, LCH, lPH, lCH, t1, t2, t3, s2, s3, ho, hltI, hkn, e1, hld, hld0, hb0, hb1, same_int, hat', lq', hput0, hput1, hput2, hput3, ← hh2, LP2, Z2, lZ2, o2, o3]
          rw [WB_regionD [0, 1, 2, 3, 4, 5, 6, 7, 8, 9, 10, 11, 12, 13, 14, 15, 16, 17, 18, 19, 20] 2839211736014648557665625145243202673207761677055053730083980496644075090390337902035124234349416132990381754724532346531952526884864 (by kernel_rfl)]
          repeat (first | ((with_reducible refine WDM_cons ?_; simp only [dw1]; try simp only [dw2, zrA, zrM, zrR, zrO, zrE]); simp only [corem, WB_cond_s, put, ldL, WB_label, List.nil_append, List.drop_zero, List.take_zero, zrA, zrS, zrM, zrL, zrE, reduceCtorEq, zrD, ziE, ziL, ziN, cored, -put, hn, g2, g3, g4, LPH, LCH, lPH, lCH, t1, t2, t3, s2, s3, ho, hltI, hkn, e1, hld, hld0, hb0, hb1, same_int, hat', lq', hput0, hput1, hput2, hput3, ← hh2, LP2, Z2, lZ2, o2, o3]) | simp only [corem, WB_cond_s, put, ldL, WB_label, List.nil_append, List.drop_zero, List.take_zero, zrA, zrS, zrM, zrL, zrE, reduceCtorEq, zrD, ziE, ziL, ziN, cored, -put, hn, g2, g3, g4, LPH, LCH, lPH, lCH, t1, t2, t3, s2, s3, ho, hltI, hkn, e1, hld, hld0, hb0, hb1, same_int, hat', lq', hput0, hput1, hput2, hput3, ← hh2, LP2, Z2, lZ2, o2, o3])
          exact finO h2 ⟨true, true, w, c.value, (IntKind.i64.wrap (m.epoch + 1)), ut⟩ _ ⟨okx.1, hc.hv, wrap_I64 _, okx.2.2.2⟩ n2 k2 W2 (by simp [newOs, k1])
        | false =>
          have hput0 := pf (l) ⟨false, up, w, bt, uf, ut⟩ ⟨false, up, 65536, bt, uf, ut⟩ 2 (.lit (.int .i64 65536)) hx (by decide) rfl
          have hput1 := pf ((l).set k ⟨false, up, 65536, bt, uf, ut⟩) ⟨false, up, 65536, bt, uf, ut⟩ ⟨true, up, 65536, bt, uf, ut⟩ 0 (.lit (.bool true)) (List.getElem?_set_self (by first | exact hkl | (simp only [List.length_set]; exact hkl))) (by decide) rfl
          simp only [Nat.add_zero] at hput1
          have hput2 := pf (((l).set k ⟨false, up, 65536, bt, uf, ut⟩).set k ⟨true, up, 65536, bt, uf, ut⟩) ⟨true, up, 65536, bt, uf, ut⟩ ⟨true, true, 65536, bt, uf, ut⟩ 1 (.lit (.bool true)) (List.getElem?_set_self (by first | exact hkl | (simp only [List.length_set]; exact hkl))) (by decide) rfl
          have hput3 := pf ((((l).set k ⟨false, up, 65536, bt, uf, ut⟩).set k ⟨true, up, 65536, bt, uf, ut⟩).set k ⟨true, true, 65536, bt, uf, ut⟩) ⟨true, true, 65536, bt, uf, ut⟩ ⟨true, true, 65536, c.value, uf, ut⟩ 3 (.lit (.int .i64 c.value)) (List.getElem?_set_self (by first | exact hkl | (simp only [List.length_set]; exact hkl))) (by decide) rfl
          have hput4 := pf (((((l).set k ⟨false, up, 65536, bt, uf, ut⟩).set k ⟨true, up, 65536, bt, uf, ut⟩).set k ⟨true, true, 65536, bt, uf, ut⟩).set k ⟨true, true, 65536, c.value, uf, ut⟩) ⟨true, true, 65536, c.value, uf, ut⟩ ⟨true, true, 65536, c.value, (IntKind.i64.wrap (m.epoch + 1)), ut⟩ 4 (.lit (.int .i64 (IntKind.i64.wrap (m.epoch + 1)))) (List.getElem?_set_self (by first | exact hkl | (simp only [List.length_set]; exact hkl))) (by decide) rfl
          obtain ⟨h2, hh2⟩ : ∃ h2, h2 = (((((h).put (slB v) (.cells (((l).set k ⟨false, up, 65536, bt, uf, ut⟩).flatMap oC') 121)).put (slB v) (.cells ((((l).set k ⟨false, up, 65536, bt, uf, ut⟩).set k ⟨true, up, 65536, bt, uf, ut⟩).flatMap oC') 121)).put (slB v) (.cells (((((l).set k ⟨false, up, 65536, bt, uf, ut⟩).set k ⟨true, up, 65536, bt, uf, ut⟩).set k ⟨true, true, 65536, bt, uf, ut⟩).flatMap oC') 121)).put (slB v) (.cells ((((((l).set k ⟨false, up, 65536, bt, uf, ut⟩).set k ⟨true, up, 65536, bt, uf, ut⟩).set k ⟨true, true, 65536, bt, uf, ut⟩).set k ⟨true, true, 65536, c.value, uf, ut⟩).flatMap oC') 121)).put (slB v) (.cells (((((((l).set k ⟨false, up, 65536, bt, uf, ut⟩).set k ⟨true, up, 65536, bt, uf, ut⟩).set k ⟨true, true, 65536, bt, uf, ut⟩).set k ⟨true, true, 65536, c.value, uf, ut⟩).set k ⟨true, true, 65536, c.value, (IntKind.i64.wrap (m.epoch + 1)), ut⟩).flatMap oC') 121) := ⟨_, rfl⟩
          have n2 : h2.n = h.n := by rw [hh2]; simp only [n_put]
          have k2 : ∀ b, b ≠ q → h2.at b = h.at b := fun b hb => by rw [hh2, hv1]; simp only [at_put_ne _ (Ne.symm hb)]
          have W2 : h2.at q = some (.cells ((l.set k ⟨true, true, 65536, c.value, (IntKind.i64.wrap (m.epoch + 1)), ut⟩).flatMap oC') 121) := by
            rw [hh2, hv1, at_put_same _ (by simp only [n_put]; exact lq)]
            simp only [List.set_set]
          have P2 := (k2 _ (Ne.symm hq0)).trans PH
          have Z2 := (k2 _ (Ne.symm hq2)).trans ZH
          have LP2 := ld_at (T := tabOf Tryz.prog NT0) P2
          have lZ2 := at_lt Z2
          simp only [corem, WB_cond_s, put, ldL, WB_label, List.nil_append, List.drop_zero, List.take_zero, zrA, zrS, zrM, zrL, zrE, reduceCtorEq, zrD, ziE, ziL, ziN, -put, hn, g2, g3, g4, LPH, LCH, lPH, lCH, t1, t2, t3, s2, s3, ho, hltI, hkn, e1, hld, hld0, hb0, hb1, same_int, hat', lq', hput0, hput1, hput2, hput3, hput4, ← hh2, LP2, Z2, lZ2, o2, o3]
          rw [WB_regionD [0, 1, 2, 3, 4, 5, 6, 7, 8, 9, 10, 11, 12, 13, 14, 15, 16, 17, 18, 19, 20] 2839211736014648557665625145243202673207761677055053730083980496644075090390337902035124234349416132990381754724532346531952526884864 (by kernel_rfl)]
          repeat (first | ((with_reducible refine WDM_cons ?_; simp only [dw1]; try simp only [dw2, zrA, zrM, zrR, zrO, zrE]); simp only [corem, WB_cond_s, put, ldL, WB_label, List.nil_append, List.drop_zero, List.take_zero, zrA, zrS, zrM, zrL, zrE, reduceCtorEq, zrD, ziE, ziL, ziN, cored, -put, hn, g2, g3, g4, LPH, LCH, lPH, lCH, t1, t2, t3, s2, s3, ho, hltI, hkn, e1, hld, hld0, hb0, hb1, same_int, hat', lq', hput0, hput1, hput2, hput3, hput4, ← hh2, LP2, Z2, lZ2, o2, o3]) | simp only [corem, WB_cond_s, put, ldL, WB_label, List.nil_append, List.drop_zero, List.take_zero, zrA, zrS, zrM, zrL, zrE, reduceCtorEq, zrD, ziE, ziL, ziN, cored, -put, hn, g2, g3, g4, LPH, LCH, lPH, lCH, t1, t2, t3, s2, s3, ho, hltI, hkn, e1, hld, hld0, hb0, hb1, same_int, hat', lq', hput0, hput1, hput2, hput3, hput4, ← hh2, LP2, Z2, lZ2, o2, o3])
          exact finO h2 ⟨true, true, 65536, c.value, (IntKind.i64.wrap (m.epoch + 1)), ut⟩ _ ⟨I64w, hc.hv, wrap_I64 _, okx.2.2.2⟩ n2 k2 W2 (by simp [newOs, k1])
      · have e1 : (c.kind == 1) = false := by simp [k1]
        have e2 : (c.kind == 2) = true := by simp [k1]
        have hput := pf l ⟨ex, up, w, bt, uf, ut⟩ ⟨ex, false, w, bt, uf, ut⟩ 1 (.lit (.bool false)) hx (by decide) rfl
        obtain ⟨h2, hh2⟩ : ∃ h2, h2 = h.put (slB v) (.cells ((l.set k ⟨ex, false, w, bt, uf, ut⟩).flatMap oC') 121) := ⟨_, rfl⟩
        obtain ⟨n2, k2, W2⟩ := one1 h2 _ hh2
        have P2 := (k2 _ (Ne.symm hq0)).trans PH
        have Z2 := (k2 _ (Ne.symm hq2)).trans ZH
        have LP2 := ld_at (T := tabOf Tryz.prog NT0) P2
        have lZ2 := at_lt Z2
        simp only [corem, WB_cond_s, put, ldL, WB_label, List.nil_append, List.drop_zero, List.take_zero, zrA, zrS, zrM, zrL, zrE, reduceCtorEq, zrD, ziE, ziL, ziN, -put, hn, g2, g3, g4, LPH, LCH, lPH, lCH, t1, t2, t3, s2, s3, ho, hltI, hkn, e1, e2, hat', lq', hput, ← hh2, LP2, Z2, lZ2, o2, o3]
        exact finO h2 ⟨ex, false, w, bt, uf, ut⟩ _ okx n2 k2 W2 (by simp [newOs, k1])
      · have e1 : (c.kind == 1) = false := by simp [k1]
        have e2 : (c.kind == 2) = false := by simp [k1]
        have e3 : (c.kind == 3) = true := by simp [k1]
        have hput := pf l ⟨ex, up, w, bt, uf, ut⟩ ⟨ex, up, c.value, bt, uf, ut⟩ 2 (.lit (.int .i64 c.value)) hx (by decide) rfl
        obtain ⟨h2, hh2⟩ : ∃ h2, h2 = h.put (slB v) (.cells ((l.set k ⟨ex, up, c.value, bt, uf, ut⟩).flatMap oC') 121) := ⟨_, rfl⟩
        obtain ⟨n2, k2, W2⟩ := one1 h2 _ hh2
        have P2 := (k2 _ (Ne.symm hq0)).trans PH
        have Z2 := (k2 _ (Ne.symm hq2)).trans ZH
        have LP2 := ld_at (T := tabOf Tryz.prog NT0) P2
        have lZ2 := at_lt Z2
        simp only [corem, WB_cond_s, put, ldL, WB_label, List.nil_append, List.drop_zero, List.take_zero, zrA, zrS, zrM, zrL, zrE, reduceCtorEq, zrD, ziE, ziL, ziN, -put, hn, g2, g3, g4, LPH, LCH, lPH, lCH, t1, t2, t3, s2, s3, ho, hltI, hkn, e1, e2, e3, hat', lq', hput, ← hh2, LP2, Z2, lZ2, o2, o3]
        exact finO h2 ⟨ex, up, c.value, bt, uf, ut⟩ _ ⟨hc.hv, okx.2⟩ n2 k2 W2 (by simp [newOs, k1])
      · have e1 : (c.kind == 1) = false := by simp [k1]
        have e2 : (c.kind == 2) = false := by simp [k1]
        have e3 : (c.kind == 3) = false := by simp [k1]
        have hput := pf l ⟨ex, up, w, bt, uf, ut⟩ ⟨ex, up, w, bt, uf, c.value⟩ 5 (.lit (.int .i64 c.value)) hx (by decide) rfl
        obtain ⟨h2, hh2⟩ : ∃ h2, h2 = h.put (slB v) (.cells ((l.set k ⟨ex, up, w, bt, uf, c.value⟩).flatMap oC') 121) := ⟨_, rfl⟩
        obtain ⟨n2, k2, W2⟩ := one1 h2 _ hh2
        have P2 := (k2 _ (Ne.symm hq0)).trans PH
        have Z2 := (k2 _ (Ne.symm hq2)).trans ZH
        have LP2 := ld_at (T := tabOf Tryz.prog NT0) P2
        have lZ2 := at_lt Z2
        simp only [corem, WB_cond_s, put, ldL, WB_label, List.nil_append, List.drop_zero, List.take_zero, zrA, zrS, zrM, zrL, zrE, reduceCtorEq, zrD, ziE, ziL, ziN, -put, hn, g2, g3, g4, LPH, LCH, lPH, lCH, t1, t2, t3, s2, s3, ho, hltI, hkn, e1, e2, e3, hat', lq', hput, ← hh2, LP2, Z2, lZ2, o2, o3]
        exact finO h2 ⟨ex, up, w, bt, uf, c.value⟩ _ ⟨okx.1, okx.2.1, okx.2.2.1, hc.hv⟩ n2 k2 W2 (by simp [newOs, k1])
  · refine ⟨vo, P0, rfl, rfl, .inl rfl, by rw [List.replicate_zero, List.append_nil]; exact mp.o, mp.p, hbl, hm.ao, EP.2 _ hp0, ⟨by have := EP.1; omega, fun b hb => EP.2 b (by omega)⟩, Nat.le_refl _, hm.o.apart (by omega), hm.o.apart (by omega), hm.o.apart (by omega), ?_⟩
    simp only [core, zrA, zrS, zrM, zrL, zrE, reduceCtorEq, zrD, ziE, ziL, ziN]
end Go.Proofs.YtfbpjobjdmmgiaaGreat.Ex
end

section

set_option linter.unusedSimpArgs false
set_option linter.unusedVariables false
set_option maxRecDepth 10000
set_option maxHeartbeats 4000000
namespace Go.Proofs.YtfbpjobjdmmgiaaGreat.Ex
open Go
theorem made_x {F : Nat → Prop} {H : AH} {m : MapD} {vo vp vb va vw : AV} {n0 p0 : Nat} (c : ChD) (hm : OwnMp n0 p0 H m vo vp vb) (hn0 : n0 ≤ H.n) (hp0 : p0 < H.n) (hz : MpSz m) (hc : ChIn F H c va vw) (hmay : chMay m c = 0) :
    WC Tryz.prog (tabOf Tryz.prog NT0) S0 31 [mpV m vo vp vb, chV c va vw] H fun r h' => Ext n0 H h' ∧ h'.at p0 = H.at p0 ∧ ∃ ro rp rb, r = mpV (chMade m c) ro rp rb ∧ OwnMp n0 p0 h' (chMade m c) ro rp rb := by
  by_cases k5 : c.kind = 5
  · exact made5_x c hm hn0 hp0 hz hc k5
  by_cases k6 : c.kind = 6
  · exact made6_x c hm hn0 hp0 hz hc k6
  by_cases k7 : c.kind = 7
  · exact made7_x c hm hn0 hp0 hz hc k7
  unfold chMay at hmay
  by_cases ki : isOs c.kind
  · rw [if_pos ki] at hmay
    by_cases ho : c.osd < 0 ∨ 8 ≤ c.osd
    · rw [if_pos ho] at hmay; cases hmay
    · exact madeO_x (k := c.osd.toNat) c hm hn0 hp0 hz hc ki (by omega) (by omega)
  · rw [if_neg ki, if_neg k5, if_neg k6, if_neg k7] at hmay
    cases hmay
theorem applyC_append : ∀ (a b : List ChD) (m : MapD), applyC m (a ++ b) = if (applyC m a).2 = 0 then applyC (applyC m a).1 b else applyC m a
  | [], b, m => by simp [applyC]
  | c :: r, b, m => by
    have e1 : ∀ l, applyC m (c :: l) = if chMay m c = 0 then applyC (chMade m c) l else (map0, chMay m c) := fun l => rfl
    rw [List.cons_append, e1, e1]
    by_cases h : chMay m c = 0
    · rw [if_pos h, if_pos h]
      exact applyC_append r b (chMade m c)
    · rw [if_neg h, if_neg h, if_neg h]
theorem applyC_succ {m n : MapD} {l : List ChD} {i : Nat} {c : ChD} (hc : l[i]? = some c) (h : applyC m (l.take i) = (n, 0)) : applyC m (l.take (i + 1)) = if chMay n c = 0 then (chMade n c, 0) else (map0, chMay n c) := by
  rw [List.take_add_one, hc, applyC_append, h]
  rw [if_pos rfl]
  rfl
theorem applyC_err {m n : MapD} {l : List ChD} {i : Nat} {c : ChD} (hc : l[i]? = some c) (h : applyC m (l.take i) = (n, 0)) (he : chMay n c ≠ 0) : applyC m l = (map0, chMay n c) := by
  conv => lhs; rw [← List.take_append_drop (i + 1) l]
  rw [applyC_append, applyC_succ hc h, if_neg he, if_neg he]
theorem applyC_epoch : ∀ {l : List ChD} {m : MapD}, (applyC m l).2 = 0 → (applyC m l).1.epoch = m.epoch
  | [], m, _ => rfl
  | c :: r, m, h => by
    unfold applyC at h ⊢
    by_cases hm : chMay m c = 0
    · rw [if_pos hm] at h ⊢
      exact (applyC_epoch h).trans (made_epoch m c)
    · rw [if_neg hm] at h
      exact absurd h hm
theorem OwnMp.putp {n0 p0 : Nat} {h : AH} {m : MapD} {vo vp vb : AV} {x : AB} (hm : OwnMp n0 p0 h m vo vp vb) : OwnMp n0 p0 (h.put p0 x) m vo vp vb :=
  ⟨hm.o.put_ap hm.ao, hm.p.put_ap hm.ap, hm.b.lift fun b hb _ => ⟨at_put_ne _ (Ne.symm hb.2.2.2), hb⟩, hm.ao, hm.ap⟩
theorem OwnMp.putLt {n0 p0 p : Nat} {h : AH} {m : MapD} {vo vp vb : AV} {x : AB} (hm : OwnMp n0 p0 h m vo vp vb) (hp : p < n0) : OwnMp n0 p0 (h.put p x) m vo vp vb :=
  ⟨hm.o.put_ap (hm.o.apartLt hp), hm.p.put_ap (hm.p.apartLt hp), hm.b.lift fun b hb _ => ⟨at_put_ne _ (by omega), hb⟩, hm.ao, hm.ap⟩
theorem at0 {F : Nat → Prop} {h : AH} : MpAt F h map0 (.lit (.slice none 0 0)) (.lit (.slice none 0 0)) (.lit (.slice none 0 0)) := ⟨.nil, .nil, .nil⟩
theorem Apply_x {F : Nat → Prop} {H : AH} {m : MapD} {vo vp vb vc : AV} (x : IncD) (hm : MpAt F H m vo vp vb) (hok : OkMp m) (hb : m.buckets.length ≤ 1000000000) (he : I64 m.epoch) (hcs : IsSl RCh F H vc x.changes) (sc : Sm 88 x.changes) (hsz : ∀ c ∈ x.changes, Sm 8 c.bucket.items ∧ Sm 8 c.bucket.weights)
    (hst : ∀ i n, i ≤ x.changes.length → applyC m (x.changes.take i) = (n, 0) → MpSz n) :
    WC Tryz.prog (tabOf Tryz.prog NT0) S0 19 [mpV m vo vp vb, incV x vc] H fun r h' => Ext H.n H h' ∧ ∃ ro rp rb, r = .tup [mpV (applyD m x).1 ro rp rb, .lit (.int .i64 (applyD m x).2)] ∧ MpAt (fun k => H.n ≤ k) h' (applyD m x).1 ro rp rb := by
  refine WC_fn Tryz.func19 rfl rfl ?_
  have o1 := hm.o.one
  have o2 := hm.p.one
  have o3 := hm.b.one
  have s1 := hm.o.isSl
  have s2 := hm.p.isSl
  have s3 := hm.b.isSl
  have c1 := hcs.one
  have c2 := hcs.isSl
  have c3 := hcs.lenD
  obtain ⟨hp, hhp, EP, P0, C0, Z0, nP⟩ := made_boxes (H := H) (mC m vo vp vb) (.cells [.lit (.int .i64 x.epoch), vc] 90) mz
  unfold mC at P0 hhp
  unfold mz at Z0 hhp
  have LP := ld_at (T := tabOf Tryz.prog NT0) P0
  have LC := ld_at (T := tabOf Tryz.prog NT0) C0
  have lP := at_lt P0
  have lC := at_lt C0
  have lZ := at_lt Z0
  unfold I64 at he
  by_cases hM : m.epoch = 9223372036854775807
  · have hMe : (m.epoch == 9223372036854775807) = true := by simp [hM]
    have hA : applyD m x = (map0, 126) := by unfold applyD; rw [if_pos (.inl hM)]
    simp only [core, zrA, zrS, zrM, zrL, zrE, reduceCtorEq, zrD, ziE, ziL, ziN, Tryz.ntmps19, mpV, incV, o1, o2, o3, c1, ← hhp, LP, LC, lP, lC, Z0, lZ, hMe]
    rw [hA]
    exact ⟨EP.put _ (by omega), _, _, _, rfl, at0⟩
  have hMe : (m.epoch == 9223372036854775807) = false := by simp [hM]
  have hws : IntKind.i64.wrap (m.epoch + 1) = m.epoch + 1 := wrap_in (by omega) (by omega)
  by_cases hE : x.epoch = m.epoch + 1
  · have hEe : (x.epoch != m.epoch + 1) = false := by simp [hE]
    simp only [core, zrA, zrS, zrM, zrL, zrE, reduceCtorEq, zrD, ziE, ziL, ziN, Tryz.ntmps19, mpV, incV, o1, o2, o3, c1, ← hhp, LP, LC, lP, lC, hMe, hws, hEe]
    refine (copyM_x (hm.ext EP (Nat.le_refl _)) hok hb).mono ?_
    rintro _ h3 ⟨e3, ro, rp, rb, rfl, hown⟩
    have P3 := (e3.2 _ lP).trans P0
    have C3 := (e3.2 _ lC).trans C0
    have Z3 := (e3.2 _ lZ).trans Z0
    have l3 := e3.1
    obtain ⟨h4, hh4⟩ : ∃ h4, h4 = h3.push (.cells [.lit (.int .i64 m.epoch), ro, rp, rb, .lit (.int .i64 m.leaf)] 69) := ⟨_, rfl⟩
    have e4 : Ext h3.n h3 h4 := hh4 ▸ (Ext.refl _ _).push _ (Nat.le_refl _)
    have W4 : h4.at h3.n = some (.cells [.lit (.int .i64 m.epoch), ro, rp, rb, .lit (.int .i64 m.leaf)] 69) := hh4 ▸ at_push_n _ _
    have n4 : h4.n = h3.n + 1 := by rw [hh4, n_push]
    have hw3 := hown 0 (by omega)
    have w1 := (hw3.at (F := fun _ => True) (fun _ _ => trivial)).o.one
    have w2 := (hw3.at (F := fun _ => True) (fun _ _ => trivial)).p.one
    have w3 := (hw3.at (F := fun _ => True) (fun _ _ => trivial)).b.one
    have C4 := (e4.2 _ (at_lt C3)).trans C3
    have Z4 := (e4.2 _ (at_lt Z3)).trans Z3
    have LC4 := ld_at (T := tabOf Tryz.prog NT0) C4
    have lC4 := at_lt C4
    have own4 := (hw3.lt (p1 := h3.n) (Nat.le_refl _)).ext e4 (Nat.le_refl _)
    simp only [core, zrA, zrS, zrM, zrL, zrE, reduceCtorEq, zrD, ziE, ziL, ziN, mpV, w1, w2, w3, ← hh4, LC4, lC4, c1, c2, c3]
    clear hh4
    obtain ⟨q, hq⟩ : ∃ q, q = h3.n := ⟨_, rfl⟩
    obtain ⟨N, hN⟩ : ∃ N, N = x.changes.length := ⟨_, rfl⟩
    rw [← hq] at W4 own4 n4
    rw [← hq, ← hN]
    rw [← hN] at c3
    have E4 : Ext hp.n hp h4 := e3.trans (e4.mono l3)
    refine WB_for N (fun i t h => ∃ n v1 v2 v3, applyC m (x.changes.take i) = (n, 0) ∧ h.at q = some (.cells [.lit (.int .i64 n.epoch), v1, v2, v3, .lit (.int .i64 n.leaf)] 69) ∧ OwnMp hp.n q h n v1 v2 v3 ∧ Ext hp.n hp h ∧ h4.n ≤ h.n ∧ t.n = 47 ∧ t.get 2 = .ptr H.n 0 ∧ t.get 3 = .ptr (H.n + 1) 0 ∧ t.get 4 = .ptr (H.n + 2) 0 ∧ t.get 6 = .ptr q 0 ∧ t.get 25 = vc ∧ t.get 26 = .lit (.int .i64 N) ∧ t.get 27 = .lit (.int .i64 i)) ?_ ?_ _ _ ?_
    · rintro i t h hlt hc ⟨n, v1, v2, v3, hap, WQ, own, he', lh4, hn, g2, g3, g4, g6, g25, g26, g27⟩ ih
      obtain ⟨c, hx⟩ : ∃ c, x.changes[i]? = some c := ⟨_, List.getElem?_eq_getElem (by omega)⟩
      have hzn := hst i n (by omega) hap
      have EH : Ext H.n H h := EP.trans (he'.mono (by omega))
      obtain ⟨cc, hc1, hld, hld0⟩ := hcs.atE (T := tabOf Tryz.prog NT0) EH RCh_z hx
      obtain ⟨va, vw, rfl, ha, hw, ⟨i1, i2, i3⟩, i4, i5⟩ := RCh_is.1 hc1
      have a1 := ha.one
      have b1 := hw.one
      obtain ⟨la, lw⟩ := hsz c (List.mem_of_getElem? hx)
      have hwi := wrap_succ (n := N) hlt (by have := sc; unfold Sm at this; omega)
      obtain ⟨hA, hhA⟩ : ∃ hA, hA = h.push (cC c va vw) := ⟨_, rfl⟩
      have eA : Ext h.n h hA := hhA ▸ (Ext.refl _ _).push _ (Nat.le_refl _)
      have XA : hA.at h.n = some (cC c va vw) := hhA ▸ at_push_n _ _
      have nA : hA.n = h.n + 1 := by rw [hhA, n_push]
      unfold cC at XA hhA
      have LXA := ld_at (T := tabOf Tryz.prog NT0) XA
      have QA := (eA.2 _ (at_lt WQ)).trans WQ
      have LQA := ld_at (T := tabOf Tryz.prog NT0) QA
      have EA := EH.step eA
      have ownA := own.ext eA (Nat.le_refl _)
      have m1 := ownA.at (F := fun _ => True) (fun _ _ => trivial)
      have y1 := m1.o.one
      have y2 := m1.p.one
      have y3 := m1.b.one
      have haA := (ha.ext EA (Nat.le_refl _)).lift (G := fun _ => True) fun _ _ _ => ⟨rfl, trivial⟩
      have hwA := (hw.ext EA (Nat.le_refl _)).lift (G := fun _ => True) fun _ _ _ => ⟨rfl, trivial⟩
      have f1 : hp.n ≤ h.n := he'.1
      have f2 : q < h.n := at_lt WQ
      simp only [core, zrA, zrS, zrM, zrL, zrE, reduceCtorEq, zrD, ziE, ziL, ziN, c2, c3, hn, g2, g3, g4, g6, g25, g26, g27, hlt, hc, hld, hld0, a1, b1, ← hhA, LXA, LQA, y1, y2, y3]
      refine (May_x c m1 hzn.so (Sm_le (Nat.le_succ _) hzn.sp) hzn.sb hzn.bk haA hwA la lw i5).mono ?_
      rintro _ h5 ⟨e5, rfl⟩
      have f5 := e5.1
      by_cases hmay : chMay n c = 0
      · have hmn : (chMay n c != 0) = false := by simp [hmay]
        have X5 := (e5.2 _ (at_lt XA)).trans XA
        have Q5 := (e5.2 _ (at_lt QA)).trans QA
        have LX5 := ld_at (T := tabOf Tryz.prog NT0) X5
        have LQ5 := ld_at (T := tabOf Tryz.prog NT0) Q5
        have lX5 := at_lt X5
        have lQ5 := at_lt Q5
        have own5 := ownA.ext e5 (Nat.le_refl _)
        simp only [core, zrA, zrS, zrM, zrL, zrE, reduceCtorEq, zrD, ziE, ziL, ziN, hn, g2, g3, g4, g6, g25, g26, g27, hmn, LX5, LQ5, a1, b1, y1, y2, y3]
        refine (made_x (F := fun _ => True) c own5 (by omega) (by omega) hzn ⟨haA.ext e5 (Nat.le_refl _), hwA.ext e5 (Nat.le_refl _), la, lw, i5, i4, i3⟩ hmay).mono ?_
        rintro _ h6 ⟨e6, k6, r1, r2, r3, rfl, own6⟩
        have Q6 := k6.trans Q5
        have lQ6 := at_lt Q6
        have m6 := own6.at (F := fun _ => True) (fun _ _ => trivial)
        have z1 := m6.o.one
        have z2 := m6.p.one
        have z3 := m6.b.one
        have f6 := e6.1
        simp only [core, zrA, zrS, zrM, zrL, zrE, reduceCtorEq, zrD, ziE, ziL, ziN, mpV, hn, g2, g3, g4, g6, g25, g26, g27, Q6, lQ6, z1, z2, z3, hwi]
        refine ih _ _ ⟨chMade n c, r1, r2, r3, by rw [applyC_succ hx hap, if_pos hmay], at_put_same _ lQ6, own6.putp, ?_, by rw [n_put]; omega, ?_⟩
        · exact ((he'.trans (eA.mono f1)).trans (e5.mono (by omega))).trans e6 |>.put _ (by omega)
        · simp only [core, zrA, zrS, zrM, zrL, zrE, reduceCtorEq, zrD, ziE, ziL, ziN, hn, g2, g3, g4, g6, g25, g26, g27]
      · have hmn : (chMay n c != 0) = true := by simp [hmay]
        have Z5 := ((((he'.trans (eA.mono f1)).trans (e5.mono (by omega)))).2 _ (by omega)).trans Z0
        have lZ5 := at_lt Z5
        have hD : applyD m x = (map0, chMay n c) := by
          unfold applyD
          rw [if_neg (fun hh => hh.elim hM (fun h => h hE)), applyC_err hx hap hmay, if_neg hmay]
        simp only [core, zrA, zrS, zrM, zrL, zrE, reduceCtorEq, zrD, ziE, ziL, ziN, hn, g2, g3, g4, g6, g25, g26, g27, hmn, Z5, lZ5]
        rw [hD]
        exact ⟨(EA.step e5).put _ (by omega), _, _, _, rfl, at0⟩
    · rintro t h hc ⟨n, v1, v2, v3, hap, WQ, own, he', lh4, hn, g2, g3, g4, g6, g25, g26, g27⟩
      rw [hN, List.take_length] at hap
      have EH : Ext H.n H h := EP.trans (he'.mono (by omega))
      have ZH := (he'.2 _ (by omega)).trans Z0
      have lZH := at_lt ZH
      have LQ := ld_at (T := tabOf Tryz.prog NT0) WQ
      have lQ := at_lt WQ
      have m1 := own.at (F := fun _ => True) (fun _ _ => trivial)
      have y1 := m1.o.one
      have y2 := m1.p.one
      have y3 := m1.b.one
      have hne : ¬ q = H.n + 2 := by omega
      have hep : n.epoch = m.epoch := by have := applyC_epoch (l := x.changes) (m := m) (by rw [hap]); rw [hap] at this; exact this
      have hD : applyD m x = ({ n with epoch := x.epoch }, 0) := by
        unfold applyD
        rw [if_neg (fun hh => hh.elim hM (fun h => h hE)), hap, if_pos rfl]
      rw [hep] at WQ LQ
      simp only [core, zrA, zrS, zrM, zrL, zrE, reduceCtorEq, zrD, ziE, ziL, ziN, hn, g2, g3, g4, g6, g25, g26, g27, hc, WQ, LQ, lQ, ZH, lZH, hws, hne, y1, y2, y3]
      rw [hD]
      refine ⟨(EH.put _ (by omega)).put _ (by omega), v1, v2, v3, by rw [← hE], ?_⟩
      have own7 : OwnMp hp.n q ((h.put q (.cells [.lit (.int .i64 (m.epoch + 1)), v1, v2, v3, .lit (.int .i64 n.leaf)] 69)).put (H.n + 2) (.cells [.lit (.int .i64 (m.epoch + 1)), v1, v2, v3, .lit (.int .i64 n.leaf)] 69)) n v1 v2 v3 := own.putp.putLt (by omega)
      have m7 := own7.at (F := fun k => H.n ≤ k) (fun _ hk => by omega)
      exact ⟨m7.o, m7.p, m7.b⟩
    · refine ⟨m, ro, rp, rb, rfl, W4, own4, E4, Nat.le_refl _, ?_⟩
      simp only [core, zrA, zrS, zrM, zrL, zrE, reduceCtorEq, zrD, ziE, ziL, ziN]
      rfl
  · have hEe : (x.epoch != m.epoch + 1) = true := by simp [hE]
    have hA : applyD m x = (map0, 126) := by unfold applyD; rw [if_pos (.inr hE)]
    simp only [core, zrA, zrS, zrM, zrL, zrE, reduceCtorEq, zrD, ziE, ziL, ziN, Tryz.ntmps19, mpV, incV, o1, o2, o3, c1, ← hhp, LP, LC, lP, lC, Z0, lZ, hMe, hws, hEe]
    rw [hA]
    exact ⟨EP.put _ (by omega), _, _, _, rfl, at0⟩
end Go.Proofs.YtfbpjobjdmmgiaaGreat.Ex
end

section

set_option linter.unusedSimpArgs false
set_option linter.unusedVariables false
set_option maxRecDepth 10000
set_option maxHeartbeats 4000000
namespace Go.Proofs.YtfbpjobjdmmgiaaGreat.Ex
open Go
section
variable {P : Program} {T : TT} {t : TM} {h : AH} {o : Oper} {e : TypeId}
theorem a_nilE {i : Nat} (hv : t.get i = .lit (.pointer none)) (hp : pur P (binOp .eql e (.pointer none) (.pointer none)) = some (.ok (.bool true))) : aBin P T o t h .eql e (.tmp i) (.const (.pointer none)) = some (.val (.lit (.bool true)), h) := by
  unfold aBin
  rw [ev_tmp, hv, ev_nilp]
  simp only [hp, ofPV_bool]
theorem a_nilN {i : Nat} (hv : t.get i = .lit (.pointer none)) (hp : pur P (binOp .neq e (.pointer none) (.pointer none)) = some (.ok (.bool false))) : aBin P T o t h .neq e (.tmp i) (.const (.pointer none)) = some (.val (.lit (.bool false)), h) := by
  unfold aBin
  rw [ev_tmp, hv, ev_nilp]
  simp only [hp, ofPV_bool]
end
structure CliD where
  k : Int
  i : Int
  boot : Int
  mons : Int
  tries : Int
def cliC (c : CliD) (m : MapD) (vo vp vb : AV) : AB := .cells [.lit (.int .i64 c.k), .lit (.int .i64 c.i), .lit (.int .i64 c.boot), .lit (.int .i64 c.mons), .lit (.int .i64 c.tries), .lit (.int .i64 m.epoch), vo, vp, vb, .lit (.int .i64 m.leaf), .lit (.int .i64 0), .lit (.pointer none), .lit (.pointer none)] 80
/-- A client at block q, with a map and nothing under way. -/
def Cl (q : Nat) (h : AH) (c : CliD) (m : MapD) : Prop := ∃ vo vp vb, h.at q = some (cliC c m vo vp vb) ∧ MpAt (fun k => q < k) h m vo vp vb
/-- All blocks but q are as they were. -/
def Kq (q : Nat) (H h : AH) : Prop := H.n ≤ h.n ∧ ∀ b, b < H.n → b ≠ q → h.at b = H.at b
theorem Kq.refl (q : Nat) (H : AH) : Kq q H H := ⟨Nat.le_refl _, fun _ _ _ => rfl⟩
theorem Kq.ext {q : Nat} {H h : AH} (e : Ext H.n H h) : Kq q H h := ⟨e.1, fun b hb _ => e.2 b hb⟩
theorem Kq.trans {q : Nat} {H h h' : AH} (a : Kq q H h) (b : Kq q h h') : Kq q H h' := ⟨Nat.le_trans a.1 b.1, fun x hx hq => (b.2 x (Nat.lt_of_lt_of_le hx a.1) hq).trans (a.2 x hx hq)⟩
theorem Kq.put {q : Nat} {H h : AH} (a : Kq q H h) (x : AB) : Kq q H (h.put q x) := ⟨by rw [n_put]; exact a.1, fun b hb hq => (at_put_ne _ (Ne.symm hq)).trans (a.2 b hb hq)⟩
theorem Kq.sl {q : Nat} {α : Type} {R : Rep α} {F : Nat → Prop} {H h : AH} {v : AV} {xs : List α} (a : Kq q H h) (hs : IsSl R F H v xs) (hF : ∀ b, F b → b ≠ q) : IsSl R F h v xs := hs.lift fun b hb hlt => ⟨a.2 b hlt (hF b hb), hb⟩
theorem Cl.ext {q : Nat} {H h : AH} {c : CliD} {m : MapD} (k : Cl q H c m) (e : Ext H.n H h) : Cl q h c m := by
  obtain ⟨vo, vp, vb, h1, h2⟩ := k
  exact ⟨vo, vp, vb, (e.2 _ (at_lt h1)).trans h1, h2.ext e (Nat.le_refl _)⟩
theorem Cl.lt {q : Nat} {H : AH} {c : CliD} {m : MapD} (k : Cl q H c m) : q < H.n := by
  obtain ⟨vo, vp, vb, h1, h2⟩ := k
  exact at_lt h1
theorem New_x {H : AH} (c : CliD) (hno : c.boot < 1 ∨ c.tries < 1 ∨ c.mons < 1 ∨ 5 < c.mons) :
    WC Tryz.prog (tabOf Tryz.prog NT0) S0 4 [.agg [.lit (.int .i64 c.k), .lit (.int .i64 c.i)], .lit (.int .i64 c.boot), .lit (.int .i64 c.mons), .lit (.int .i64 c.tries)] H fun r h' => Ext H.n H h' ∧ r = .tup [.lit (.pointer none), .lit (.int .i64 22)] := by
  refine WC_fn Tryz.func4 rfl rfl ?_
  have E0 : Ext H.n H (H.push (.cells [.lit (.int .i64 c.k), .lit (.int .i64 c.i)] 23)) := (Ext.refl _ _).push _ (Nat.le_refl _)
  by_cases h1 : c.boot < 1
  · simp only [core, zrA, zrS, zrM, zrL, zrE, reduceCtorEq, zrD, ziE, ziL, ziN, Tryz.ntmps4, h1]
    exact E0
  by_cases h2 : c.tries < 1
  · simp only [core, zrA, zrS, zrM, zrL, zrE, reduceCtorEq, zrD, ziE, ziL, ziN, Tryz.ntmps4, h1, h2]
    exact E0
  by_cases h3 : c.mons < 1
  · simp only [core, zrA, zrS, zrM, zrL, zrE, reduceCtorEq, zrD, ziE, ziL, ziN, Tryz.ntmps4, h1, h2, h3]
    exact E0
  have h4 : 5 < c.mons := by omega
  simp only [core, zrA, zrS, zrM, zrL, zrE, reduceCtorEq, zrD, ziE, ziL, ziN, Tryz.ntmps4, h1, h2, h3, h4]
  exact E0
theorem New_ok {H : AH} (c : CliD) (h1 : ¬ c.boot < 1) (h2 : ¬ c.tries < 1) (h3 : ¬ c.mons < 1) (h4 : ¬ 5 < c.mons) :
    WC Tryz.prog (tabOf Tryz.prog NT0) S0 4 [.agg [.lit (.int .i64 c.k), .lit (.int .i64 c.i)], .lit (.int .i64 c.boot), .lit (.int .i64 c.mons), .lit (.int .i64 c.tries)] H fun r h' => Ext H.n H h' ∧ ∃ q, r = .tup [.ptr q 0, .lit (.int .i64 0)] ∧ H.n ≤ q ∧ Cl q h' c map0 := by
  refine WC_fn Tryz.func4 rfl rfl ?_
  obtain ⟨hA, hhA⟩ : ∃ hA, hA = H.push (.cells [.lit (.int .i64 c.k), .lit (.int .i64 c.i)] 23) := ⟨_, rfl⟩
  have eA : Ext H.n H hA := hhA ▸ (Ext.refl _ _).push _ (Nat.le_refl _)
  have XA : hA.at H.n = some (.cells [.lit (.int .i64 c.k), .lit (.int .i64 c.i)] 23) := hhA ▸ at_push_n _ _
  have LXA := ld_at (T := tabOf Tryz.prog NT0) XA
  have lXA := at_lt XA
  simp only [core, zrA, zrS, zrM, zrL, zrE, reduceCtorEq, zrD, ziE, ziL, ziN, Tryz.ntmps4, h1, h2, h3, h4, ← hhA]
  rw [WB_regionD [0, 1, 2, 3, 4, 5, 6, 7, 8] 1205375957378261718138880 (by kernel_rfl)]
  repeat ((with_reducible refine WDM_cons ?_; simp only [dw1]; try simp only [dw2, zrA, zrM, zrR, zrO, zrE]); simp only [core, zrA, zrS, zrM, zrL, zrE, reduceCtorEq, zrD, ziE, ziL, ziN, cored, LXA, lXA])
  refine (empty_x).mono ?_
  rintro _ hB ⟨eB, rfl⟩
  have e2 := eA.trans (eB.mono eA.1)
  unfold mpV
  repeat ((with_reducible refine WDM_cons ?_; simp only [dw1]; try simp only [dw2, zrA, zrM, zrR, zrO, zrE]); simp only [core, zrA, zrS, zrM, zrL, zrE, reduceCtorEq, zrD, ziE, ziL, ziN, cored, LXA, lXA])
  have XB := (eB.2 _ lXA).trans XA
  have LXB := ld_at (T := tabOf Tryz.prog NT0) ((at_push_lt (.cells [.lit (.int .i64 c.k), .lit (.int .i64 c.i), .lit (.int .i64 c.boot), .lit (.int .i64 c.mons), .lit (.int .i64 c.tries), .lit (.int .i64 0), .lit (.slice none 0 0), .lit (.slice none 0 0), .lit (.slice none 0 0), .lit (.int .i64 0), .lit (.int .i64 0), .lit (.pointer none), .lit (.pointer none)] 80) (at_lt XB)).trans XB)
  refine ⟨?_, e2.push _ e2.1, hB.n, rfl, e2.1, _, _, _, at_push_n _ _, .nil, .nil, .nil⟩
  simp only [core, zrA, zrS, zrM, zrL, zrE, reduceCtorEq, zrD, ziE, ziL, ziN, cored, LXB, same_agg, same_int]
theorem made_x1 {q : Nat} {H : AH} {c : CliD} {m : MapD} (hq : Cl q H c m) (hb : 0 < c.boot) : WC Tryz.prog (tabOf Tryz.prog NT0) S0 18 [.ptr q 0] H fun r h' => r = .lit (.bool true) ∧ h' = H := by
  refine WC_fn Tryz.func18 rfl rfl ?_
  obtain ⟨vo, vp, vb, h1, h2⟩ := hq
  unfold cliC at h1
  have L := ld_at (T := tabOf Tryz.prog NT0) h1
  have l := at_lt h1
  simp only [core, zrA, zrS, zrM, zrL, zrE, reduceCtorEq, zrD, ziE, ziL, ziN, Tryz.ntmps18, L, l, hb]
  try exact ⟨rfl, rfl⟩
theorem Epoch_x {q : Nat} {H : AH} {c : CliD} {m : MapD} (hq : Cl q H c m) (hb : 0 < c.boot) : WC Tryz.prog (tabOf Tryz.prog NT0) S0 7 [.ptr q 0] H fun r h' => r = .lit (.int .i64 m.epoch) ∧ h' = H := by
  refine WC_fn Tryz.func7 rfl rfl ?_
  obtain ⟨vo, vp, vb, h1, h2⟩ := id hq
  unfold cliC at h1
  have L := ld_at (T := tabOf Tryz.prog NT0) h1
  have l := at_lt h1
  simp only [core, zrA, zrS, zrM, zrL, zrE, reduceCtorEq, zrD, ziE, ziL, ziN, Tryz.ntmps7, L, l]
  refine (made_x1 hq hb).mono ?_
  rintro _ _ ⟨rfl, rfl⟩
  simp only [core, zrA, zrS, zrM, zrL, zrE, reduceCtorEq, zrD, ziE, ziL, ziN, L, l]
  try exact ⟨rfl, rfl⟩
theorem Map_x {q : Nat} {H : AH} {c : CliD} {m : MapD} (hq : Cl q H c m) (hb : 0 < c.boot) (hok : OkMp m) (hlb : m.buckets.length ≤ 1000000000) :
    WC Tryz.prog (tabOf Tryz.prog NT0) S0 10 [.ptr q 0] H fun r h' => Ext H.n H h' ∧ ∃ ro rp rb, r = mpV m ro rp rb ∧ MpAt (fun k => H.n ≤ k) h' m ro rp rb := by
  refine WC_fn Tryz.func10 rfl rfl ?_
  obtain ⟨hA, hhA⟩ : ∃ hA, hA = H.push (.cells [.lit (.int .i64 0), .lit (.slice none 0 0), .lit (.slice none 0 0), .lit (.slice none 0 0), .lit (.int .i64 0)] 69) := ⟨_, rfl⟩
  have eA : Ext H.n H hA := hhA ▸ (Ext.refl _ _).push _ (Nat.le_refl _)
  have XA : hA.at H.n = some (.cells [.lit (.int .i64 0), .lit (.slice none 0 0), .lit (.slice none 0 0), .lit (.slice none 0 0), .lit (.int .i64 0)] 69) := hhA ▸ at_push_n _ _
  simp only [core, zrA, zrS, zrM, zrL, zrE, reduceCtorEq, zrD, ziE, ziL, ziN, Tryz.ntmps10, ← hhA]
  refine (made_x1 (hq.ext eA) hb).mono ?_
  rintro _ _ ⟨rfl, q5⟩
  replace q5 := q5.symm
  subst q5
  obtain ⟨vo, vp, vb, h1, h2⟩ := hq.ext eA
  unfold cliC at h1
  have L := ld_at (T := tabOf Tryz.prog NT0) h1
  have l := at_lt h1
  have o1 := h2.o.one
  have o2 := h2.p.one
  have o3 := h2.b.one
  simp only [core, zrA, zrS, zrM, zrL, zrE, reduceCtorEq, zrD, ziE, ziL, ziN, L, l, o1, o2, o3]
  refine (copyM_x h2 hok hlb).mono ?_
  rintro _ hB ⟨eB, ro, rp, rb, rfl, hown⟩
  have XB := (eB.2 _ (at_lt XA)).trans XA
  have nA : hA.n = H.n + 1 := by rw [hhA, n_push]
  have own := (hown H.n (by omega)).putLt (p := H.n) (x := .cells [.lit (.int .i64 m.epoch), ro, rp, rb, .lit (.int .i64 m.leaf)] 69) (by omega)
  have hO := own.at (F := fun k => H.n ≤ k) fun k hk => Nat.le_trans eA.1 hk
  have w1 := hO.o.one
  have w2 := hO.p.one
  have w3 := hO.b.one
  have lB := at_lt XB
  have E2 := eA.trans (eB.mono eA.1)
  have nB := eB.1
  unfold mpV
  simp only [core, zrA, zrS, zrM, zrL, zrE, reduceCtorEq, zrD, ziE, ziL, ziN, XB, lB, w1, w2, w3]
  exact ⟨E2.put _ (Nat.le_refl _), _, _, _, rfl, hO⟩
end Go.Proofs.YtfbpjobjdmmgiaaGreat.Ex
end

section

set_option linter.unusedSimpArgs false
set_option linter.unusedVariables false
set_option maxRecDepth 10000
set_option maxHeartbeats 4000000
namespace Go.Proofs.YtfbpjobjdmmgiaaGreat.Ex
open Go
theorem playC_append : ∀ (a b : List IncD) (l : List MapD), playC l (a ++ b) = if (playC l a).2 = 0 then playC (playC l a).1 b else playC l a
  | [], b, l => by simp [playC]
  | x :: r, b, l => by
    have e1 : ∀ q, playC l (x :: q) = if (applyD (l.getLastD map0) x).2 = 0 then playC (l ++ [(applyD (l.getLastD map0) x).1]) q else ([], (applyD (l.getLastD map0) x).2) := fun q => rfl
    rw [List.cons_append, e1, e1]
    by_cases h : (applyD (l.getLastD map0) x).2 = 0
    · rw [if_pos h, if_pos h]
      exact playC_append r b _
    · rw [if_neg h, if_neg h, if_neg h]
theorem playC_succ {l : List IncD} {ms : List MapD} {i : Nat} {x : IncD} (hx : l[i]? = some x) (h : playC [map0] (l.take i) = (ms, 0)) :
    playC [map0] (l.take (i + 1)) = if (applyD (ms.getLastD map0) x).2 = 0 then (ms ++ [(applyD (ms.getLastD map0) x).1], 0) else ([], (applyD (ms.getLastD map0) x).2) := by
  rw [List.take_add_one, hx, playC_append, h, if_pos rfl]
  rfl
theorem playC_err {l : List IncD} {ms : List MapD} {i : Nat} {x : IncD} (hx : l[i]? = some x) (h : playC [map0] (l.take i) = (ms, 0)) (he : (applyD (ms.getLastD map0) x).2 ≠ 0) : playC [map0] l = ([], (applyD (ms.getLastD map0) x).2) := by
  conv => lhs; rw [← List.take_append_drop (i + 1) l]
  rw [playC_append, playC_succ hx h, if_neg he, if_neg he]
def chgN (l : List IncD) : Nat := (l.map fun x => x.changes.length).sum
theorem chgN_take (l : List IncD) (i : Nat) : chgN (l.take i) ≤ chgN l := by
  unfold chgN
  conv => rhs; rw [← List.take_append_drop i l]
  rw [List.map_append, List.sum_append]
  omega
theorem chgN_mem {l : List IncD} {i : Nat} {x : IncD} (hx : l[i]? = some x) : chgN (l.take i) + x.changes.length ≤ chgN l := by
  obtain ⟨hi, rfl⟩ := List.getElem?_eq_some_iff.1 hx
  unfold chgN
  conv => rhs; rw [← List.take_append_drop i l, List.drop_eq_getElem_cons hi]
  rw [List.map_append, List.sum_append, List.map_cons, List.sum_cons]
  omega
theorem StOk.sz {m : MapD} {k : Nat} (h : StOk m k) (hk : k ≤ 1000000000) : MpSz m :=
  ⟨Sm_le h.no (by decide), Nat.le_trans (Nat.mul_le_mul_right 32 (Nat.succ_le_succ h.np)) (by omega), Nat.le_trans (Nat.mul_le_mul_right 64 (Nat.succ_le_succ h.nb)) (by omega), fun b hb => ⟨Sm_le (h.ni b hb).1 (by decide), Sm_le (h.ni b hb).2 (by decide)⟩⟩
theorem StOk.ok {m : MapD} {k : Nat} (h : StOk m k) (hk : k ≤ 1000000000) : OkMp m :=
  ⟨⟨Sm_le h.no (by decide), fun _ _ => trivial⟩, ⟨Sm_le h.np (by omega), fun _ _ => trivial⟩, Sm_le h.nb (by omega), fun b hb => ⟨Sm_le (h.ni b hb).1 (by decide), Sm_le (h.ni b hb).2 (by decide)⟩⟩
theorem StOk.leaf {m : MapD} {k : Nat} (h : StOk m k) : I64 m.leaf := by
  have := h.good
  unfold goodF at this
  simp only [Bool.and_eq_true, decide_eq_true_eq] at this
  unfold I64
  omega
theorem StOk.run {m n : MapD} {k j : Nat} {l : List ChD} (h : StOk m k) (hi : ∀ c ∈ l, c.bucket.items.length ≤ 1048576) (ha : applyC m (l.take j) = (n, 0)) : StOk n (k + l.length) := by
  have := (applyC_st h (l := l.take j) (fun c hc => hi c (List.mem_of_mem_take hc)) (by rw [ha])).1
  rw [ha] at this
  exact this.mono (by rw [List.length_take]; omega)
theorem RInc_z : RInc.z = 2 := rfl
theorem RInc_is {F : Nat → Prop} {h : AH} {c : List AV} {x : IncD} : RInc.is F h c x ↔ ∃ vc, c = [.lit (.int .i64 x.epoch), vc] ∧ IsSl RCh F h vc x.changes ∧ I64 x.epoch := by
  constructor
  · rintro ⟨_, _, rfl, ⟨rfl, h1⟩, h2⟩
    obtain ⟨vc, rfl, h3⟩ := RSl_is.1 h2
    exact ⟨vc, rfl, h3, h1⟩
  · rintro ⟨vc, rfl, h3, h1⟩
    exact ⟨_, _, rfl, ⟨rfl, h1⟩, RSl_is.2 ⟨vc, rfl, h3⟩⟩
/-- A row of maps of the run's own, that began as a row of one. -/
def OwnQ (n0 : Nat) (h : AH) (v : AV) (xs : List MapD) : Prop := OwnL RMp (fun k => n0 ≤ k) n0 h v 69 xs ∨ ∃ p c x, n0 ≤ p ∧ v = .sl p 0 1 (.kn 1) ∧ xs = [x] ∧ h.at p = some (.cells c 69) ∧ RMp.is (fun k => n0 ≤ k) h c x
theorem OwnQ.toSl {n0 : Nat} {h : AH} {v : AV} {xs : List MapD} (ho : OwnQ n0 h v xs) : IsSl RMp (fun k => n0 ≤ k) h v xs := by
  rcases ho with ho | ⟨p, c, x, hp, rfl, rfl, hat, hc⟩
  · exact ho.toSl (fun _ hk => hk) (fun _ hk => hk)
  · exact IsSl.ofAt (e := 69) (L := [c]) (by rw [hat]; simp) hp (Els.nil.snoc hc) rfl
theorem OwnQ.ext {n0 m : Nat} {h h' : AH} {v : AV} {xs : List MapD} (ho : OwnQ n0 h v xs) (he : Ext m h h') (hm : h.n ≤ m) : OwnQ n0 h' v xs := by
  rcases ho with ho | ⟨p, c, x, hp, rfl, rfl, hat, hc⟩
  · exact .inl (ho.ext he hm)
  · exact .inr ⟨p, c, x, hp, rfl, rfl, (he.2 _ (by have := at_lt hat; omega)).trans hat, RMp.lift hc fun b hb hlt => ⟨he.2 _ (by omega), hb⟩⟩
theorem OwnQ.snoc {n0 q : Nat} {h : AH} {v : AV} {xs : List MapD} {x : MapD} {c : List AV} {cap : Cap} {e' : TypeId} (ho : OwnQ n0 h v xs) (hq : h.at q = some (.cells c e')) (hc : RMp.is (fun k => n0 ≤ k ∧ Apart v k) h c x) (hn0 : n0 ≤ h.n) (hl : xs.length ≤ 1000000) :
    ∃ s' h', appendA (tabOf Tryz.prog NT0) h 33 33 v (.sl q 0 1 cap) = some (s', h') ∧ OwnQ n0 h' s' (xs ++ [x]) ∧ Ext n0 h h' := by
  rcases ho with ho | ⟨p, c1, x1, hp, rfl, rfl, hat, hc1⟩
  · obtain ⟨s', h', a, b, d, -⟩ := ho.snoc (T := tabOf Tryz.prog NT0) (t := 33) (tx := 33) (y := x) (cap := cap) (by kernel_rfl) (by kernel_rfl) (by kernel_rfl) (zv := .agg [.lit (.int .i64 0), .lit (.slice none 0 0), .lit (.slice none 0 0), .lit (.slice none 0 0), .lit (.int .i64 0)]) (by kernel_rfl) (by' := 88) (by kernel_rfl) rfl (by decide) (by decide) hq hc (by omega) (by omega) hn0
    exact ⟨s', h', a, .inl b, d⟩
  · have e1 : und (tabOf Tryz.prog NT0) 33 = some (.slice 69) := by kernel_rfl
    have h00 : (tabOf Tryz.prog NT0 69).map (fun i => (i.bytes, i.zero.cells.length, i.size)) = some (88, 5, 5) := by kernel_rfl
    obtain ⟨i0, h0, he⟩ := Option.map_eq_some_iff.1 h00
    obtain ⟨hb, hz, hs⟩ : i0.bytes = 88 ∧ i0.zero.cells.length = 5 ∧ i0.size = 5 := by
      simp only [Prod.mk.injEq] at he
      exact he
    have hg : getR h q = some c := by unfold getR; rw [hq]
    have hgp : getR h p = some c1 := by unfold getR; rw [hat]
    have hcl : c.length = 5 := RMp.len hc
    have hcl1 : c1.length = 5 := RMp.len hc1
    have hcut : cut c 0 (1 * 5) = some c := by unfold cut; rw [if_pos (by omega), List.drop_zero, List.take_of_length_le (by omega)]
    have hcut1 : cut c1 0 (1 * 5) = some c1 := by unfold cut; rw [if_pos (by omega), List.drop_zero, List.take_of_length_le (by omega)]
    have hsrc : srcA h 5 (.sl q 0 1 cap) = some c := by
      simp only [srcA, hg]
      exact hcut
    have hall : c.all AV.one = true := List.all_eq_true.2 fun v hv => RMp.one hc v hv
    have ha : appendA (tabOf Tryz.prog NT0) h 33 33 (.sl p 0 1 (.kn 1)) (.sl q 0 1 cap) = some (.sl h.n 0 2 (.un 5), h.push (.cells (c1 ++ c) 69)) := by
      unfold appendA
      have hlu : lenA (.sl q 0 1 cap) = some 1 := rfl
      have hlv : lenA (.sl p 0 1 (.kn 1)) = some 1 := rfl
      rw [e1, hlu, hlv]
      simp only [h0, hb, hz, hs, hsrc, hcl, hall]
      show appendB h 69 5 1 c (.sl p 0 1 (.kn 1)) = _
      unfold appendB
      show (match getR h p with
        | some l => match cut l 0 (1 * 5) with
          | some old => some (AV.sl h.n 0 2 (.un 5), h.push (.cells (old ++ c) 69))
          | none => none
        | none => none) = _
      rw [hgp]
      show (match cut c1 0 (1 * 5) with
          | some old => some (AV.sl h.n 0 2 (.un 5), h.push (.cells (old ++ c) 69))
          | none => none) = _
      rw [hcut1]
    refine ⟨_, _, ha, .inl ⟨[c1, c], ⟨?_, .inr ⟨h.n, rfl, hn0, by rw [at_push_n]; simp⟩⟩, ?_⟩, (Ext.refl _ _).push _ hn0⟩
    · intro y hy
      simp only [List.mem_cons, List.not_mem_nil, or_false] at hy
      rcases hy with rfl | rfl
      · exact hcl1
      · exact hcl
    · have k1 : ∀ b, b < h.n → (h.push (.cells (c1 ++ c) 69)).at b = h.at b := fun b hb => at_push_lt _ hb
      have e2 : Els RMp (fun b => n0 ≤ b ∧ Apart (.sl h.n 0 2 (.un 5)) b) (h.push (.cells (c1 ++ c) 69)) [c1] [x1] := Els.nil.snoc (RMp.lift hc1 fun b hb hlt => ⟨k1 b hlt, hb, fun off n cap e => by cases e; omega⟩)
      exact e2.snoc (RMp.lift hc fun b hb hlt => ⟨k1 b hlt, hb.1, fun off n cap e => by cases e; omega⟩)
end Go.Proofs.YtfbpjobjdmmgiaaGreat.Ex
end

section

set_option linter.unusedSimpArgs false
set_option linter.unusedVariables false
namespace Go.Proofs.YtfbpjobjdmmgiaaGreat.Ex
open Go
/-- A client's map behind a message of maps. -/
def stepD (m : MapD) : List IncD → MapD
  | [] => m
  | x :: r => if x.epoch ≤ m.epoch then stepD m r else if (applyD m x).2 = 0 then stepD (applyD m x).1 r else m
def wantN (i j b : Nat) : Nat := if i ≤ b ∧ b < j then j else b
/-- A row of maps in which each is made of the one before. -/
def Made (ms : List MapD) (l : List IncD) : Prop := ms.length = l.length + 1 ∧ ∀ i x, l[i]? = some x → (applyD (ms.getD i map0) x).2 = 0 ∧ (applyD (ms.getD i map0) x).1 = ms.getD (i + 1) map0
theorem getLastD_getD {l : List MapD} (h : l ≠ []) : l.getLastD map0 = l.getD (l.length - 1) map0 := by
  rw [List.getD_eq_getElem?_getD, last_get h]
  rfl
theorem playC_made : ∀ {r : List IncD} {ms : List MapD} {l : List IncD}, Made ms l → (playC ms r).2 = 0 → Made (playC ms r).1 (l ++ r)
  | [], ms, l, h, _ => by rw [List.append_nil]; exact h
  | x :: r, ms, l, h, h0 => by
    have e1 : playC ms (x :: r) = if (applyD (ms.getLastD map0) x).2 = 0 then playC (ms ++ [(applyD (ms.getLastD map0) x).1]) r else ([], (applyD (ms.getLastD map0) x).2) := rfl
    rw [e1] at h0 ⊢
    by_cases hm : (applyD (ms.getLastD map0) x).2 = 0
    · rw [if_pos hm] at h0 ⊢
      have hne : ms ≠ [] := fun hh => by have := h.1; rw [hh] at this; simp at this
      have hl := getLastD_getD hne
      rw [h.1, Nat.add_sub_cancel] at hl
      rw [show l ++ x :: r = (l ++ [x]) ++ r by simp]
      refine playC_made (l := l ++ [x]) ⟨by simp [h.1], fun i y hy => ?_⟩ h0
      by_cases hi : i < l.length
      · rw [List.getElem?_append_left hi] at hy
        obtain ⟨a, b⟩ := h.2 i y hy
        have k1 : (ms ++ [(applyD (ms.getLastD map0) x).1]).getD i map0 = ms.getD i map0 := by
          rw [List.getD_eq_getElem?_getD, List.getD_eq_getElem?_getD, List.getElem?_append_left (by rw [h.1]; omega)]
        have k2 : (ms ++ [(applyD (ms.getLastD map0) x).1]).getD (i + 1) map0 = ms.getD (i + 1) map0 := by
          rw [List.getD_eq_getElem?_getD, List.getD_eq_getElem?_getD, List.getElem?_append_left (by rw [h.1]; omega)]
        rw [k1, k2]
        exact ⟨a, b⟩
      · have hi2 : i = l.length := by
          have := (List.getElem?_eq_some_iff.1 hy).1
          simp at this
          omega
        subst hi2
        rw [List.getElem?_append_right (Nat.le_refl _), Nat.sub_self] at hy
        simp only [List.getElem?_cons_zero, Option.some.injEq] at hy
        subst hy
        have k1 : (ms ++ [(applyD (ms.getLastD map0) x).1]).getD l.length map0 = ms.getLastD map0 := by
          rw [hl, List.getD_eq_getElem?_getD, List.getD_eq_getElem?_getD, List.getElem?_append_left (by rw [h.1]; omega)]
        have k2 : (ms ++ [(applyD (ms.getLastD map0) x).1]).getD (l.length + 1) map0 = (applyD (ms.getLastD map0) x).1 := by
          rw [List.getD_eq_getElem?_getD, List.getElem?_append_right (by rw [h.1]; omega), h.1, Nat.sub_self]
          rfl
        rw [k1, k2]
        exact ⟨hm, rfl⟩
    · rw [if_neg hm] at h0
      exact absurd h0 hm
theorem playD_made {l : List IncD} (h : (playD l).2 = 0) : Made (playD l).1 l := by
  have := playC_made (r := l) (ms := [map0]) (l := []) ⟨rfl, fun i x hx => by simp at hx⟩ h
  rw [List.nil_append] at this
  exact this
theorem applyD_ok {m : MapD} {x : IncD} (h : (applyD m x).2 = 0) : x.epoch = m.epoch + 1 := by
  unfold applyD at h
  by_cases he : m.epoch = 9223372036854775807 ∨ ¬ x.epoch = m.epoch + 1
  · rw [if_pos he] at h; cases h
  · omega
theorem stepD_want {ms : List MapD} {l : List IncD} (hm : Made ms l) (he : ∀ i, i < ms.length → (ms.getD i map0).epoch = (i : Int)) : ∀ {k i b : Nat}, i + k ≤ l.length → b ≤ l.length → stepD (ms.getD b map0) ((l.drop i).take k) = ms.getD (wantN i (i + k) b) map0
  | 0, i, b, hi, hb => by
    rw [List.take_zero]
    unfold wantN
    rw [if_neg (by omega)]
    rfl
  | k + 1, i, b, hi, hb => by
    have hil : i < l.length := by omega
    rw [List.drop_eq_getElem_cons hil, List.take_succ_cons]
    obtain ⟨a1, a2⟩ := hm.2 i l[i] (List.getElem?_eq_getElem hil)
    have e1 := applyD_ok a1
    have e2 := he i (by have := hm.1; omega)
    have e3 := he b (by have := hm.1; omega)
    unfold stepD
    by_cases hle : i + 1 ≤ b
    · rw [if_pos (by omega), stepD_want hm he (k := k) (i := i + 1) (by omega) hb]
      congr 1
      unfold wantN
      split <;> split <;> omega
    · rw [if_neg (by omega)]
      by_cases hib : i = b
      · subst hib
        rw [if_pos a1, a2, stepD_want hm he (k := k) (i := i + 1) (by omega) (by omega)]
        congr 1
        unfold wantN
        split <;> split <;> omega
      · have : ¬ (applyD (ms.getD b map0) l[i]).2 = 0 := fun hh => by
          have := applyD_ok hh
          omega
        rw [if_neg this]
        congr 1
        unfold wantN
        rw [if_neg (by omega)]
theorem wantN_le {i j b n : Nat} (hj : j ≤ n) (hb : b ≤ n) : wantN i j b ≤ n := by unfold wantN; split <;> omega
end Go.Proofs.YtfbpjobjdmmgiaaGreat.Ex
end

section

set_option linter.unusedSimpArgs false
set_option linter.unusedVariables false
set_option maxRecDepth 10000
namespace Go.Proofs.YtfbpjobjdmmgiaaGreat.Ex
open Go
variable {P : Program}
theorem pur_bind {α β : Type} (s : Sem α) (f : α → Sem β) : pur P (s >>= f) = match pur P s with
    | some (.ok a) => pur P (f a)
    | some (.pan v) => some (.pan v)
    | none => none := by
  induction s with
  | pure a => rfl
  | program k ih => exact ih P
  | mark m k ih => exact ih
  | halt o => cases o <;> rfl
  | _ => rfl
theorem pur_program : pur P program = some (.ok P) := rfl
theorem pur_pure {α : Type} (a : α) : pur P (pure a) = some (.ok a) := rfl
theorem pur_ite {α : Type} {c : Prop} [Decidable c] (a b : Sem α) : pur P (if c then a else b) = if c then pur P a else pur P b := by split <;> rfl
theorem pur_und {t : TypeId} {d : TypeDesc} (h : P.underlying t = some d) : pur P (underlying t) = some (.ok d) := by
  show pur P (match P.underlying t with | some d => pure d | none => stuck "no such type") = _
  rw [h]
  rfl
theorem pur_equalIn_struct (d : Nat) (t : TypeId) (xs ys : Array Value) (ht : P.underlying t = some (.struct (P.fieldsOf t))) (hp : P.stoodInHeld t = false) : pur P (Op.equalIn (d + 1) t (.agg xs) (.agg ys)) = pur P (Op.eqFields d xs ys (P.fieldsOf t).toList) := by
  simp only [Op.equalIn, pur_bind, pur_und ht, pur_program, hp, Bool.false_eq_true, if_false]
  rw [← Array.forIn_toList]
  generalize (P.fieldsOf t).toList = fs
  clear ht
  induction fs with
  | nil => simp [Op.eqFields, pur_pure]
  | cons f fs ih =>
    simp only [List.forIn_cons, Op.eqFields, pur_bind, pur_ite]
    by_cases hn : f.name ≠ "_"
    · simp only [if_pos hn]
      cases pur P (part f.type xs f.offset) with
      | none => rfl
      | some r1 =>
        cases r1 with
        | pan v => rfl
        | ok a =>
          simp only
          cases pur P (part f.type ys f.offset) with
          | none => rfl
          | some r2 =>
            cases r2 with
            | pan v => rfl
            | ok b =>
              simp only
              cases pur P (Op.equalIn d f.type a b) with
              | none => rfl
              | some r3 =>
                cases r3 with
                | pan v => rfl
                | ok r =>
                  cases r
                  · simp [pur_pure]
                  · simp only [Bool.not_true, Bool.false_eq_true, if_false, pur_pure]
                    exact ih
    · simp only [if_neg hn, pur_pure]
      exact ih
theorem pur_equalIn_int (d : Nat) (t : TypeId) (k k' : IntKind) (a b : Int) (h : P.underlying t = some (.int k')) : pur P (Op.equalIn (d + 1) t (.int k a) (.int k b)) = some (.ok (a == b)) := by
  simp only [Op.equalIn, pur_bind, pur_und h]
  simp [pur_pure]
variable {d : Option Tmp} {ty : TypeId} {ps : String} {af : Array Edge} {g : Option (Nat × Bool)} {f : TypeId} {t : TM} {h : AH}
/-! The same as rules for the simplifier. -/
def aBinQ (P : Program) (T : TT) (o : Oper) (t : TM) (h : AH) (op : BinOp) (e : TypeId) (x y : Operand) : AR := aBinR P T o t h op e x y
end Go.Proofs.YtfbpjobjdmmgiaaGreat.Ex
end

section

set_option linter.unusedSimpArgs false
set_option linter.unusedVariables false
set_option maxRecDepth 10000
namespace Go.Proofs.YtfbpjobjdmmgiaaGreat.Ex
open Go
section
theorem pur_eq_node (a0 : Int) (a1 : Int) (b0 : Int) (b1 : Int) : pur Tryz.prog (Op.equal 23 (.agg #[.int .i64 a0, .int .i64 a1]) (.agg #[.int .i64 b0, .int .i64 b1])) = some (.ok ((a0 == b0) && (a1 == b1))) := by
  show pur Tryz.prog (Op.equalIn (9999 + 1) 23 (.agg #[.int .i64 a0, .int .i64 a1]) (.agg #[.int .i64 b0, .int .i64 b1])) = _
  rw [pur_equalIn_struct 9999 23 _ _ (by kernel_rfl) (by kernel_rfl)]
  obtain ⟨f0, f1, hf, n0, n1, t0, t1, z0, z1⟩ : ∃ f0 f1 : Field, (Tryz.prog.fieldsOf 23).toList = [f0, f1] ∧ f0.name ≠ "_" ∧ f1.name ≠ "_" ∧ f0.type = 3 ∧ f1.type = 3 ∧ f0.offset = 0 ∧ f1.offset = 1 := by
    unfold Program.fieldsOf
    rw [Tryz.underlying23]
    exact ⟨_, _, rfl, by decide, by decide, rfl, rfl, rfl, rfl⟩
  rw [hf]
  have p0 : ∀ (a0 : Int) (a1 : Int), pur Tryz.prog (part 3 #[.int .i64 a0, .int .i64 a1] 0) = some (.ok (.int .i64 a0)) := fun a0 a1 => by kernel_rfl
  have p1 : ∀ (a0 : Int) (a1 : Int), pur Tryz.prog (part 3 #[.int .i64 a0, .int .i64 a1] 1) = some (.ok (.int .i64 a1)) := fun a0 a1 => by kernel_rfl
  have qi : ∀ x y : Int, pur Tryz.prog (Op.equalIn 9999 3 (.int .i64 x) (.int .i64 y)) = some (.ok (x == y)) := fun x y => pur_equalIn_int 9998 3 .i64 .i64 x y Tryz.underlying3
  simp only [Op.eqFields, n0, t0, z0, p0, n1, t1, z1, p1, ne_eq, not_false_eq_true, if_true, pur_bind, qi, pur_ite, pur_pure]
  cases (a0 == b0) <;> cases (a1 == b1) <;> rfl
variable {d : Option Tmp} {ty : TypeId} {ps : String} {af : Array Edge} {g : Option (Nat × Bool)} {f : TypeId} {t : TM} {h : AH}
theorem a_nenode {i j : Nat} {a0 : Int} {a1 : Int} {b0 : Int} {b1 : Int} (hi : t.get i = .agg [.lit (.int .i64 a0), .lit (.int .i64 a1)]) (hj : t.get j = .agg [.lit (.int .i64 b0), .lit (.int .i64 b1)]) :
    aBin Tryz.prog (tabOf Tryz.prog NT0) ⟨d, .binOp .neq 23 (.tmp i) (.tmp j) f, ty, ps, af, g⟩ t h .neq 23 (.tmp i) (.tmp j) = some (.val (.lit (.bool (!((a0 == b0) && (a1 == b1))))), h) := by
  have e1 : evalA t (.tmp i) = some (.agg [.lit (.int .i64 a0), .lit (.int .i64 a1)]) := by rw [ev_tmp, hi]
  have e2 : evalA t (.tmp j) = some (.agg [.lit (.int .i64 b0), .lit (.int .i64 b1)]) := by rw [ev_tmp, hj]
  have l1 : litEnv t (.tmp i) = .agg #[.int .i64 a0, .int .i64 a1] := by unfold litEnv; rw [e1]; rfl
  have l2 : litEnv t (.tmp j) = .agg #[.int .i64 b0, .int .i64 b1] := by unfold litEnv; rw [e2]; rfl
  have hl : litOp Tryz.prog ⟨d, .binOp .neq 23 (.tmp i) (.tmp j) f, ty, ps, af, g⟩ t = some (.val (.lit (.bool (!((a0 == b0) && (a1 == b1)))))) := by
    unfold litOp
    rw [if_pos (by
      show (notSelect _ && litAll t [.tmp i, .tmp j]) = true
      simp only [litAll, e1, e2]
      rfl)]
    have : pur Tryz.prog (execOp (litEnv t) ⟨d, .binOp .neq 23 (.tmp i) (.tmp j) f, ty, ps, af, g⟩) = some (.ok (.value (.bool (!((a0 == b0) && (a1 == b1)))))) := by
      show pur Tryz.prog (do pure (Next.value (← (do eqGuard .neq 23 (.tmp i) (.tmp j) (litEnv t (.tmp i)) (litEnv t (.tmp j)); binOp .neq 23 (litEnv t (.tmp i)) (litEnv t (.tmp j)))))) = _
      rw [l1, l2]
      have hg : pur Tryz.prog (eqGuard .neq 23 (.tmp i) (.tmp j) (.agg #[.int .i64 a0, .int .i64 a1]) (.agg #[.int .i64 b0, .int .i64 b1])) = some (.ok ()) := by
        have hm : Tryz.prog.eqGuardType Tryz.prog.depth 23 = false := by kernel_rfl
        simp [eqGuard, pur_bind, pur_program, hm, pur_pure]
      have hb : pur Tryz.prog (binOp .neq 23 (.agg #[.int .i64 a0, .int .i64 a1]) (.agg #[.int .i64 b0, .int .i64 b1])) = some (.ok (.bool (!((a0 == b0) && (a1 == b1))))) := by
        show pur Tryz.prog (do pure (Value.bool (!(← Op.equal 23 (.agg #[.int .i64 a0, .int .i64 a1]) (.agg #[.int .i64 b0, .int .i64 b1]))))) = _
        simp only [pur_bind, pur_eq_node, pur_pure]
      simp only [pur_bind, hg, hb, pur_pure]
    rw [this]
    rfl
  unfold aBin
  rw [e1, e2]
  show orLit _ _ _ _ _ = _
  unfold orLit
  rw [hl]
def neMnode (h : AH) (r : AR) : AV → AV → AR
  | .agg [.lit (.int .i64 a0), .lit (.int .i64 a1)], .agg [.lit (.int .i64 b0), .lit (.int .i64 b1)] => some (.val (.lit (.bool (!((a0 == b0) && (a1 == b1))))), h)
  | _, _ => r
theorem neMnode_eq {r : AR} {a0 : Int} {a1 : Int} {b0 : Int} {b1 : Int} : neMnode h r (.agg [.lit (.int .i64 a0), .lit (.int .i64 a1)]) (.agg [.lit (.int .i64 b0), .lit (.int .i64 b1)]) = some (.val (.lit (.bool (!((a0 == b0) && (a1 == b1))))), h) := rfl
theorem a_neMnode {i j : Nat} : aBinR Tryz.prog (tabOf Tryz.prog NT0) ⟨d, .binOp .neq 23 (.tmp i) (.tmp j) f, ty, ps, af, g⟩ t h .neq 23 (.tmp i) (.tmp j) = neMnode h (aBinQ Tryz.prog (tabOf Tryz.prog NT0) ⟨d, .binOp .neq 23 (.tmp i) (.tmp j) f, ty, ps, af, g⟩ t h .neq 23 (.tmp i) (.tmp j)) (t.get i) (t.get j) := by
  unfold neMnode
  split
  · rename_i h1 h2
    exact a_nenode h1 h2
  · rfl
end
end Go.Proofs.YtfbpjobjdmmgiaaGreat.Ex
end

section

set_option linter.unusedSimpArgs false
set_option linter.unusedVariables false
namespace Go.Proofs.YtfbpjobjdmmgiaaGreat.Ex
open Go Go.RowKit Go.ChangeShapes Go.WideShapes Go.ChangeAt
def OkCh (x : ChD) : Prop := OkPool x.pool ∧ OkBkt x.bucket
def OkInc (x : IncD) : Prop := Sm 88 x.changes ∧ ∀ y ∈ x.changes, OkCh y
section
variable {H : Type} {enc : TypeId × Value → H} {W : World}
end
end Go.Proofs.YtfbpjobjdmmgiaaGreat.Ex
end

section

set_option linter.unusedSimpArgs false
set_option linter.unusedVariables false
namespace Go.Proofs.YtfbpjobjdmmgiaaGreat.Ex
open Go Go.RowKit Go.ChangeShapes Go.WideShapes Go.ChangeAt
theorem rels_absV {ρ : Nat → Value} {w : World} : ∀ {cs : List Value}, (∀ c ∈ cs, c.oneCell' = true) → rels ρ (mu0 w) w (cs.map (absV w)) cs
  | [], _ => rels_nil
  | c :: r, h => rels_cons (absV_rel (h c (by simp))) (rels_absV fun x hx => h x (by simp [hx]))
theorem law_join {W : World} {f : FuncId} {vs : List Value} {avs : List AV} (ha : rels (fun _ => default) (mu0 W) W avs vs) (hw : WC Tryz.prog (tabOf Tryz.prog NT0) S0 f avs (absH W) fun v h' => v = .lit (.bool true)) :
    Calls Tryz.prog f vs.toArray W fun e w' => e = .returned (.bool true) ∧ Below W.heap.size W w' := by
  obtain ⟨n, o, h1, hex, v, cm, rfl, rfl⟩ := hw
  refine (ex_callsH tab_sound noNG follows_mixed (sums_ok _ _) (absH_hr W) (absH_nw W) hex ha).mono fun e w' hy => ?_
  obtain ⟨v', μ', rfl, hb, hv⟩ := hy
  exact ⟨by rw [rel_bool_inv hv], hb⟩
theorem open_agg {ρ : Nat → Value} {P : Program} {H : Type} {enc : TypeId × Value → H} {W : World} {base : Nat} {t : TypeId} {v0 : Value} {d0 : DataW H} {p0 : List MemPlace} {d : TypeDesc} {α : Type} {R : Rep α} {B : α → Prop} (hO : OpensA enc P W t R B) (hu : P.underlying t = some d) (hd : isAggD d = true)
    (k0 : Value.okWide P W .any base t v0) (h0 : DataW.Trod enc P W 0 (fun _ => true) true t v0 d0 p0) (hw : ∀ n ∈ d0.weights P t, n ≤ reachBytes) :
    ∃ (cs : List AV) (y : α), rel ρ (mu0 W) W (.agg cs) v0 ∧ R.is (InH W) (absH W) cs y ∧ B y := by
  obtain ⟨cs, rfl, h1, h2⟩ := okWide_agg hu hd k0
  obtain ⟨fuel, hf⟩ := h0
  obtain ⟨h3, h4, y, h5, h6⟩ := hO.2 fuel cs.toList _ hf (List.all_eq_true.2 fun n hn => (by simpa using hw n hn))
  refine ⟨_, y, ?_, h5, h6.1⟩
  unfold rel
  exact ⟨cs.toList, by simp, rels_absV h4⟩
end Go.Proofs.YtfbpjobjdmmgiaaGreat.Ex
end

section

set_option linter.unusedSimpArgs false
set_option linter.unusedVariables false
namespace Go.Proofs.YtfbpjobjdmmgiaaGreat.Ex
open Go Go.RowKit Go.ChangeShapes Go.WideShapes Go.ChangeAt
theorem open_sl {P : Program} {H : Type} {enc : TypeId × Value → H} {W : World} {base : Nat} {t e : TypeId} {v0 : Value} {d0 : DataW H} {p0 : List MemPlace} {α : Type} {R : Rep α} {B : List α → Prop} (hO : OpensA enc P W t (RSl R) B) (hu : P.underlying t = some (.slice e))
    (k0 : Value.okWide P W .any base t v0) (h0 : DataW.Trod enc P W 0 (fun _ => true) true t v0 d0 p0) (hw : ∀ n ∈ d0.weights P t, n ≤ reachBytes) :
    ∃ (v : AV) (ys : List α), rel (fun _ => default) (mu0 W) W v v0 ∧ IsSl R (InH W) (absH W) v ys ∧ B ys := by
  obtain ⟨a, len, cap, rfl⟩ := okWide_slice hu k0
  obtain ⟨fuel, hf⟩ := h0
  obtain ⟨h3, h4, y, h5, h6⟩ := hO.2 fuel [Value.slice a len cap] _ hf (List.all_eq_true.2 fun n hn => (by simpa using hw n hn))
  obtain ⟨v', e', h5⟩ := RSl_is.1 h5
  cases e'
  exact ⟨_, y, absV_rel (h4 _ (by simp)), h5, h6.1⟩
end Go.Proofs.YtfbpjobjdmmgiaaGreat.Ex
end

section

set_option linter.unusedSimpArgs false
set_option linter.unusedVariables false
set_option maxRecDepth 10000
set_option maxHeartbeats 4000000
namespace Go.Proofs.YtfbpjobjdmmgiaaGreat.Ex
open Go
theorem chgN_succ {l : List IncD} {i : Nat} {x : IncD} (hx : l[i]? = some x) : chgN (l.take (i + 1)) = chgN (l.take i) + x.changes.length := by
  unfold chgN
  rw [List.take_add_one, hx, List.map_append, List.sum_append]
  rfl
theorem flat_bound {α : Type} {f : α → List UInt8} {k : Nat} : ∀ {l : List α}, (∀ x ∈ l, (f x).length ≤ k) → (l.flatMap f).length ≤ l.length * k
  | [], _ => by simp
  | x :: r, h => by
    have h1 := flat_bound (l := r) fun y hy => h y (by simp [hy])
    have h2 := h x (by simp)
    rw [List.flatMap_cons, List.length_append, List.length_cons, Nat.succ_mul]
    omega
theorem enc_st {m : MapD} {k : Nat} (h : StOk m k) (hk : k ≤ 2000000) : (encMap m).length ≤ 140737488355328 := by
  rw [encMap_len]
  have h1 := flat_bound (f := encOsd) (k := 34) (l := m.osds) fun x _ => by rw [encOsd_len]; omega
  have h2 := flat_bound (f := encPool) (k := 32) (l := m.pools) fun x _ => by rw [encPool_len]; omega
  have h3 := flat_bound (f := encBkt) (k := 17000000) (l := m.buckets) fun x hx => by
    have := h.ni x hx
    rw [encBkt_len]
    omega
  have := h.no
  have := h.np
  have := h.nb
  have h4 : m.buckets.length * 17000000 ≤ 2000000 * 17000000 := Nat.mul_le_mul_right _ (by omega)
  have h5 : m.pools.length * 32 ≤ 2000000 * 32 := Nat.mul_le_mul_right _ (by omega)
  have h6 : m.osds.length * 34 ≤ 8 * 34 := Nat.mul_le_mul_right _ (by omega)
  omega
theorem IsSl.loadExt {α : Type} {R : Rep α} {F : Nat → Prop} {T : TT} {h h' : AH} {v : AV} {xs : List α} (hs : IsSl R F h v xs) {i : Nat} {x : α} (hx : xs[i]? = some x) (he : Ext h.n h h') (e : TypeId) (off : Nat) : loadA T h' e (slB v) off = loadA T h e (slB v) off := by
  have hlt : slB v < h.n := by
    obtain ⟨L, r1, _, _, r3⟩ := hs.out
    rcases r1.2 with ⟨hh, h0⟩ | ⟨b, off, cap, row, hh, h1, h2⟩
    · have h4 := r3.1
      rw [h0] at h4
      have := (List.getElem?_eq_some_iff.1 hx).1
      simp at h4
      omega
    · rw [hh]
      exact getR_lt h1
  unfold loadA getR
  rw [he.2 _ hlt]
end Go.Proofs.YtfbpjobjdmmgiaaGreat.Ex
end

section

set_option linter.unusedSimpArgs false
set_option linter.unusedVariables false
set_option maxRecDepth 10000
set_option maxHeartbeats 4000000
namespace Go.Proofs.YtfbpjobjdmmgiaaGreat.Ex
open Go
/-- The message of maps of the law. -/
def msgL (k i : Int) (vi : AV) : List AV :=
  [.lit (.int .i64 15), .lit (.int .i64 1), .lit (.int .i64 0), .lit (.int .i64 k), .lit (.int .i64 i), .lit (.int .i64 0), .lit (.int .i64 0), .lit (.int .i64 0), .lit (.int .i64 0), .lit (.int .i64 0), .lit (.int .i64 0), .lit (.int .i64 0), .lit (.slice none 0 0), vi, .lit (.slice none 0 0),
   .lit (.int .i64 0), .lit (.int .i64 0), .lit (.int .i64 0), .lit (.int .i64 0), .lit (.int .i64 0), .lit (.int .i64 0), .lit (.int .i64 0), .lit (.int .i64 0), .lit (.int .i64 0), .lit (.slice none 0 0), .lit (.slice none 0 0), .lit (.slice none 0 0), .lit (.int .i64 0), .lit (.int .i64 0), .lit (.bool false), .lit (.int .i64 0), .lit (.string ⟨#[]⟩), .lit (.int .i64 0), .lit (.int .i64 0), .lit (.string ⟨#[]⟩), .lit (.int .i64 0), .lit (.int .i64 0), .lit (.slice none 0 0), .lit (.int .i64 0), .lit (.string ⟨#[]⟩), .lit (.slice none 0 0), .lit (.int .i64 0), .lit (.int .i64 0), .lit (.slice none 0 0), .lit (.slice none 0 0), .lit (.int .i64 0)]
theorem stepD_cons (m : MapD) (x : IncD) (r : List IncD) : stepD m (x :: r) = if x.epoch ≤ m.epoch then stepD m r else if (applyD m x).2 = 0 then stepD (applyD m x).1 r else m := rfl
theorem applyD_epoch {m : MapD} {x : IncD} (h : (applyD m x).2 = 0) : (applyD m x).1.epoch = x.epoch := by
  unfold applyD at h ⊢
  by_cases he : m.epoch = 9223372036854775807 ∨ ¬ x.epoch = m.epoch + 1
  · rw [if_pos he] at h; cases h
  rw [if_neg he] at h ⊢
  by_cases h0 : (applyC m x.changes).2 = 0
  · rw [if_pos h0]
  · rw [if_neg h0] at h
    exact absurd h h0
theorem Step_x {F : Nat → Prop} {H : AH} {q : Nat} {c : CliD} {m : MapD} {vi : AV} (l : List IncD) (k : Nat) (hq : Cl q H c m) (hb : 0 < c.boot) (hl : IsSl RInc F H vi l) (hF : ∀ b, F b → b ≠ q) (hlen : l.length ≤ 1000000) (hi : ∀ x ∈ l, ∀ c ∈ x.changes, c.bucket.items.length ≤ 1048576) (hsz : ∀ x ∈ l, Sm 88 x.changes ∧ ∀ c ∈ x.changes, Sm 8 c.bucket.items ∧ Sm 8 c.bucket.weights)
    (hst : StOk m k) (he : I64 m.epoch) (hk : k + chgN l ≤ 1000000000) :
    WC Tryz.prog (tabOf Tryz.prog NT0) S0 8 [.ptr q 0, .agg (msgL c.k c.i vi)] H fun r h' => Kq q H h' ∧ Cl q h' c (stepD m l) := by
  refine WC_fn Tryz.func8 rfl rfl ?_
  have s1 := hl.isSl
  have d1 := hl.lenD
  have c1 := hl.one
  obtain ⟨hp, hhp⟩ : ∃ hp, hp = H.push (.cells (msgL c.k c.i vi) 63) := ⟨_, rfl⟩
  have EP : Ext H.n H hp := hhp ▸ (Ext.refl _ _).push _ (Nat.le_refl _)
  have P0 : hp.at H.n = some (.cells (msgL c.k c.i vi) 63) := hhp ▸ at_push_n _ _
  have hqn := hq.lt
  have hqp := hq.ext EP
  unfold msgL at P0 hhp
  have LP := ld_at (T := tabOf Tryz.prog NT0) P0
  have lP := at_lt P0
  have lp0 := hl.ext EP (Nat.le_refl _)
  unfold msgL
  simp only [core, zrA, zrS, zrM, zrL, zrE, reduceCtorEq, zrD, ziE, ziL, ziN, Tryz.ntmps8, c1, ← hhp]
  rw [WB_regionD [0, 1, 2, 3, 4, 5, 6, 7, 8, 9, 10, 11] 11146288031902756625935560190634610435035136 (by kernel_rfl)]
  repeat ((with_reducible refine WDM_cons ?_; simp only [dw1]; try simp only [dw2, zrA, zrM, zrR, zrO, zrE]); simp only [core, zrA, zrS, zrM, zrL, zrE, reduceCtorEq, zrD, ziE, ziL, ziN, cored, LP, lP])
  refine (made_x1 hqp hb).mono ?_
  rintro _ _ ⟨rfl, q5⟩
  replace q5 := q5.symm
  subst q5
  obtain ⟨vo, vp, vb, h1, h2⟩ := id hqp
  unfold cliC at h1
  have L := ld_at (T := tabOf Tryz.prog NT0) h1
  have lq := at_lt h1
  have hpn : pur Tryz.prog (binOp .neq 77 (.pointer none) (.pointer none)) = some (.ok (.bool false)) := by kernel_rfl
  have hkk : (!((c.k == c.k) && (c.i == c.i))) = false := by simp
  have h15 : ((15 : Int) == 15) = true := rfl
  have h11 : ((1 : Int) == 1) = true := rfl
  repeat ((with_reducible refine WDM_cons ?_; simp only [dw1]; try simp only [dw2, zrA, zrM, zrR, zrO, zrE]); simp only [core, zrA, zrS, zrM, zrL, zrE, reduceCtorEq, zrD, ziE, ziL, ziN, cored, LP, lP, L, lq, a_neMnode, neMnode_eq, hkk, h15, h11, s1, d1])
  obtain ⟨N, hN⟩ : ∃ N, N = l.length := ⟨_, rfl⟩
  rw [← hN]
  rw [← hN] at d1
  refine WB_for N (fun i t h => ∃ n, Cl q h c n ∧ StOk n (k + chgN (l.take i)) ∧ I64 n.epoch ∧ stepD m l = stepD n (l.drop i) ∧ Kq q hp h ∧ t.n = 141 ∧ t.get 0 = .ptr q 0 ∧ t.get 3 = .ptr H.n 0 ∧ t.get 4 = .lit (.slice none 0 0) ∧ t.get 5 = .lit (.int .i64 m.epoch) ∧ t.get 39 = vi ∧ t.get 40 = .lit (.int .i64 N) ∧ t.get 41 = .lit (.int .i64 i)) ?_ ?_ _ _ ?_
  · rintro i t h hlt hc ⟨n, hcl, hsn, hen, hd, hkq, hn, g0, g3, g4, g5, g39, g40, g41⟩ ih
    obtain ⟨x, hx⟩ : ∃ x, l[i]? = some x := ⟨_, List.getElem?_eq_getElem (by omega)⟩
    have hxm := List.mem_of_getElem? hx
    have hl' := hkq.sl lp0 hF
    obtain ⟨cc, hc1, hld, hld0⟩ := hl'.at (T := tabOf Tryz.prog NT0) RInc_z hx
    obtain ⟨vc, rfl, hch, hex⟩ := RInc_is.1 hc1
    have v1 := hch.one
    have v2 := hch.isSl
    have v3 := hch.lenD
    have hwi := wrap_succ (n := N) hlt (by omega)
    obtain ⟨hA, hhA⟩ : ∃ hA, hA = h.push (.cells [.lit (.int .i64 x.epoch), vc] 90) := ⟨_, rfl⟩
    have eA : Ext h.n h hA := hhA ▸ (Ext.refl _ _).push _ (Nat.le_refl _)
    have XA : hA.at h.n = some (.cells [.lit (.int .i64 x.epoch), vc] 90) := hhA ▸ at_push_n _ _
    have LXA := ld_at (T := tabOf Tryz.prog NT0) XA
    have lXA := at_lt XA
    have hclA := hcl.ext eA
    have hkA := hkq.trans (.ext eA)
    obtain ⟨wo, wp, wb, y1, y2⟩ := id hclA
    have o1 := y2.o.one
    have o2 := y2.p.one
    have o3 := y2.b.one
    have p1 := y2.o.isSl
    have p2 := y2.p.isSl
    have p3 := y2.b.isSl
    unfold cliC at y1
    have LY := ld_at (T := tabOf Tryz.prog NT0) y1
    have lY := at_lt y1
    have hdc : l.drop i = x :: l.drop (i + 1) := by
      obtain ⟨hil, rfl⟩ := List.getElem?_eq_some_iff.1 hx
      exact List.drop_eq_getElem_cons hil
    have hchs : k + chgN (l.take i) + x.changes.length ≤ 1000000000 := Nat.le_trans (by have := chgN_mem hx; omega) hk
    have hsn' : StOk n (k + chgN (l.take (i + 1))) := hsn.mono (by rw [chgN_succ hx]; omega)
    simp only [core, zrA, zrS, zrM, zrL, zrE, reduceCtorEq, zrD, ziE, ziL, ziN, hn, g0, g3, g4, g5, g39, g40, g41, hlt, hc, s1, d1, hld, hld0, v1, ← hhA]
    rw [WB_regionD [0, 1, 2, 3, 4, 5, 6, 7] 9168233779351781632 (by kernel_rfl)]
    by_cases hle : x.epoch ≤ n.epoch
    · repeat (first | ((with_reducible refine WDM_cons ?_; simp only [dw1]; try simp only [dw2, zrA, zrM, zrR, zrO, zrE]); simp only [core, zrA, zrS, zrM, zrL, zrE, reduceCtorEq, zrD, ziE, ziL, ziN, cored, hn, g0, g3, g4, g5, g39, g40, g41, LXA, lXA, LY, lY, hle, hwi]) | simp only [core, zrA, zrS, zrM, zrL, zrE, reduceCtorEq, zrD, ziE, ziL, ziN, cored, hn, g0, g3, g4, g5, g39, g40, g41, LXA, lXA, LY, lY, hle, hwi])
      refine ih _ _ ⟨n, hclA, hsn', hen, ?_, hkA, ?_⟩
      · rw [hd, hdc, stepD_cons, if_pos hle]
      · simp only [core, zrA, zrS, zrM, zrL, zrE, reduceCtorEq, zrD, ziE, ziL, ziN, hn, g0, g3, g4, g5, g39, g40, g41]
    · repeat ((with_reducible refine WDM_cons ?_; simp only [dw1]; try simp only [dw2, zrA, zrM, zrR, zrO, zrE]); simp only [core, zrA, zrS, zrM, zrL, zrE, reduceCtorEq, zrD, ziE, ziL, ziN, cored, hn, g0, g3, g4, g5, g39, g40, g41, LXA, lXA, LY, lY, hle, hwi])
      rw [WB_regionD [0, 1, 2, 3, 4, 9, 5, 6, 7, 8, 10, 11] 11145947599277408019301084219409282117931008 (by kernel_rfl)]
      repeat ((with_reducible refine WDM_cons ?_; simp only [dw1]; try simp only [dw2, zrA, zrM, zrR, zrO, zrE]); simp only [core, zrA, zrS, zrM, zrL, zrE, reduceCtorEq, zrD, ziE, ziL, ziN, cored, hn, g0, g3, g4, g5, g39, g40, g41, LXA, lXA, LY, lY, o1, o2, o3, v1])
      refine ⟨by simp only [same_sl, v2, p1, p2, p3, Bool.and_self], ?_⟩
      obtain ⟨hB, hhB⟩ : ∃ hB, hB = hA.push (.cells [.lit (.int .i64 0), .lit (.slice none 0 0), .lit (.slice none 0 0), .lit (.slice none 0 0), .lit (.int .i64 0)] 69) := ⟨_, rfl⟩
      rw [← hhB]
      have eB : Ext hA.n hA hB := hhB ▸ (Ext.refl _ _).push _ (Nat.le_refl _)
      have ZB : hB.at hA.n = some (.cells [.lit (.int .i64 0), .lit (.slice none 0 0), .lit (.slice none 0 0), .lit (.slice none 0 0), .lit (.int .i64 0)] 69) := hhB ▸ at_push_n _ _
      have nB : hB.n = hA.n + 1 := by rw [hhB, n_push]
      have y2' := y2.ext eB (Nat.le_refl _)
      have mT : MpAt (fun _ => True) hB n wo wp wb := ⟨y2'.o.lift fun _ _ _ => ⟨rfl, trivial⟩, y2'.p.lift fun _ _ _ => ⟨rfl, trivial⟩, y2'.b.lift fun _ _ _ => ⟨rfl, trivial⟩⟩
      have eAB := eA.trans (eB.mono eA.1)
      have cT : IsSl RCh (fun _ => True) hB vc x.changes := (hch.ext eAB (Nat.le_refl _)).lift fun _ _ _ => ⟨rfl, trivial⟩
      refine (Apply_x x mT (hsn.ok (by omega)) (by have := hsn.nb; omega) hen cT (hsz x hxm).1 (hsz x hxm).2 (fun j n' hj hh => (hsn.run (hi x hxm) hh).sz (by omega))).mono ?_
      rintro _ h4 ⟨e4, ro, rp, rb, rfl, m4⟩
      have z1 := m4.o.one
      have z2 := m4.p.one
      have z3 := m4.b.one
      have Z4 := (e4.2 _ (at_lt ZB)).trans ZB
      have lZ4 := at_lt Z4
      have y4 := ((eB.trans (e4.mono eB.1)).2 _ lY).trans y1
      have lY4 := at_lt y4
      have LY4 := ld_at (T := tabOf Tryz.prog NT0) y4
      obtain ⟨er, her⟩ : ∃ er, er = (applyD n x).2 := ⟨_, rfl⟩
      obtain ⟨n2, hn2⟩ : ∃ n2, n2 = (applyD n x).1 := ⟨_, rfl⟩
      rw [← hn2] at m4
      rw [← her, ← hn2]
      unfold mpV
      have hqA : q < hA.n := hclA.lt
      have hk4 : Kq q hp h4 := hkA.trans ((Kq.ext eB).trans (.ext e4))
      obtain ⟨h5, hh5⟩ : ∃ h5, h5 = h4.put hA.n (.cells [.lit (.int .i64 n2.epoch), ro, rp, rb, .lit (.int .i64 n2.leaf)] 69) := ⟨_, rfl⟩
      have n5 : h5.n = h4.n := by rw [hh5, n_put]
      have Z5 : h5.at hA.n = some (.cells [.lit (.int .i64 n2.epoch), ro, rp, rb, .lit (.int .i64 n2.leaf)] 69) := hh5 ▸ at_put_same _ lZ4
      have LZ5 := ld_at (T := tabOf Tryz.prog NT0) Z5
      have lZ5 := at_lt Z5
      have y5 : h5.at q = _ := (hh5 ▸ at_put_ne _ (by omega)).trans y4
      have LY5 := ld_at (T := tabOf Tryz.prog NT0) y5
      have lY5 := at_lt y5
      have k5 : Kq q hp h5 := by
        refine ⟨by rw [n5]; exact hk4.1, fun b hb hbq => ?_⟩
        rw [hh5, at_put_ne _ (by have := hkA.1; omega)]
        exact hk4.2 b hb hbq
      have ap : ∀ b, hB.n ≤ b → b < h4.n → h5.at b = h4.at b := fun b hb _ => by rw [hh5, at_put_ne _ (by omega)]
      by_cases h0 : er = 0
      · have h0e : (er != 0) = false := by rw [h0]; rfl
        repeat (first | ((with_reducible refine WDM_cons ?_; simp only [dw1]; try simp only [dw2, zrA, zrM, zrR, zrO, zrE]); simp only [core, zrA, zrS, zrM, zrL, zrE, reduceCtorEq, zrD, ziE, ziL, ziN, cored, hn, g0, g3, g4, g5, g39, g40, g41, Z4, lZ4, z1, z2, z3, h0e, hwi, ← hh5, y5, LY5, lY5, LZ5, lZ5]) | simp only [core, zrA, zrS, zrM, zrL, zrE, reduceCtorEq, zrD, ziE, ziL, ziN, cored, hn, g0, g3, g4, g5, g39, g40, g41, Z4, lZ4, z1, z2, z3, h0e, hwi, ← hh5, y5, LY5, lY5, LZ5, lZ5])
        have h00 : (applyD n x).2 = 0 := by rw [← her]; exact h0
        refine ih _ _ ⟨n2, ⟨ro, rp, rb, at_put_same _ lY5, ?_, ?_, ?_⟩, ?_, ?_, ?_, k5.put _, ?_⟩
        · exact m4.o.lift fun b hb hlt => ⟨(at_put_ne _ (by omega)).trans (ap b hb hlt), by omega⟩
        · exact m4.p.lift fun b hb hlt => ⟨(at_put_ne _ (by omega)).trans (ap b hb hlt), by omega⟩
        · exact m4.b.lift fun b hb hlt => ⟨(at_put_ne _ (by omega)).trans (ap b hb hlt), by omega⟩
        · rw [hn2, chgN_succ hx, ← Nat.add_assoc]
          exact (applyD_st hsn (hi x hxm) h00).1
        · rw [hn2, applyD_epoch h00]; exact hex
        · rw [hd, hdc, stepD_cons, if_neg hle, if_pos h00, hn2]
        · simp only [core, zrA, zrS, zrM, zrL, zrE, reduceCtorEq, zrD, ziE, ziL, ziN, hn, g0, g3, g4, g5, g39, g40, g41]
      · have h0e : (er != 0) = true := bne_iff_ne.2 h0
        have hdn : stepD m l = n := by
          rw [hd, hdc, stepD_cons, if_neg hle, if_neg (by rw [← her]; exact h0)]
        have hfin : Cl q h5 c n := by
          have ee : Ext hA.n hA h5 := by
            refine ⟨by rw [n5]; exact (eB.trans (e4.mono eB.1)).1, fun b hb => ?_⟩
            rw [hh5, at_put_ne _ (by omega)]
            exact (eB.trans (e4.mono eB.1)).2 b hb
          exact hclA.ext ee
        by_cases hgt : m.epoch < n.epoch
        · repeat (first | ((with_reducible refine WDM_cons ?_; simp only [dw1]; try simp only [dw2, zrA, zrM, zrR, zrO, zrE]); simp only [core, zrA, zrS, zrM, zrL, zrE, reduceCtorEq, zrD, ziE, ziL, ziN, cored, hn, g0, g3, g4, g5, g39, g40, g41, Z4, lZ4, z1, z2, z3, h0e, ← hh5, y5, LY5, lY5, hgt, a_nilN, hpn]) | simp only [core, zrA, zrS, zrM, zrL, zrE, reduceCtorEq, zrD, ziE, ziL, ziN, cored, hn, g0, g3, g4, g5, g39, g40, g41, Z4, lZ4, z1, z2, z3, h0e, ← hh5, y5, LY5, lY5, hgt, a_nilN, hpn])
          rw [hdn]
          exact ⟨(Kq.ext EP).trans k5, hfin⟩
        · repeat (first | ((with_reducible refine WDM_cons ?_; simp only [dw1]; try simp only [dw2, zrA, zrM, zrR, zrO, zrE]); simp only [core, zrA, zrS, zrM, zrL, zrE, reduceCtorEq, zrD, ziE, ziL, ziN, cored, hn, g0, g3, g4, g5, g39, g40, g41, Z4, lZ4, z1, z2, z3, h0e, ← hh5, y5, LY5, lY5, hgt, a_nilN, hpn]) | simp only [core, zrA, zrS, zrM, zrL, zrE, reduceCtorEq, zrD, ziE, ziL, ziN, cored, hn, g0, g3, g4, g5, g39, g40, g41, Z4, lZ4, z1, z2, z3, h0e, ← hh5, y5, LY5, lY5, hgt, a_nilN, hpn])
          rw [hdn]
          exact ⟨(Kq.ext EP).trans k5, hfin⟩
  · rintro t h hc ⟨n, hcl, hsn, hen, hd, hkq, hn, g0, g3, g4, g5, g39, g40, g41⟩
    rw [hN, List.drop_length] at hd
    have hd : stepD m l = n := hd
    obtain ⟨wo, wp, wb, y1, y2⟩ := id hcl
    unfold cliC at y1
    have LY := ld_at (T := tabOf Tryz.prog NT0) y1
    have lY := at_lt y1
    by_cases hgt : m.epoch < n.epoch
    · simp only [core, zrA, zrS, zrM, zrL, zrE, reduceCtorEq, zrD, ziE, ziL, ziN, hn, g0, g3, g4, g5, g39, g40, g41, hc, y1, LY, lY, hgt, a_nilN, hpn]
      rw [hd]
      exact ⟨(Kq.ext EP).trans hkq, hcl⟩
    · simp only [core, zrA, zrS, zrM, zrL, zrE, reduceCtorEq, zrD, ziE, ziL, ziN, hn, g0, g3, g4, g5, g39, g40, g41, hc, y1, LY, lY, hgt, a_nilN, hpn]
      rw [hd]
      exact ⟨(Kq.ext EP).trans hkq, hcl⟩
  · refine ⟨m, hqp, by simpa [chgN] using hst, he, rfl, .refl _ _, ?_⟩
    simp only [core, zrA, zrS, zrM, zrL, zrE, reduceCtorEq, zrD, ziE, ziL, ziN]
    (repeat' apply And.intro) <;> first | rfl | trivial
end Go.Proofs.YtfbpjobjdmmgiaaGreat.Ex
end

section

set_option linter.unusedSimpArgs false
set_option linter.unusedVariables false
set_option maxRecDepth 10000
set_option maxHeartbeats 4000000
namespace Go.Proofs.YtfbpjobjdmmgiaaGreat.Ex
open Go
theorem copy10_x {F : Nat → Prop} {H : AH} {m : MapD} {vo vp vb : AV} (hm : MpAt F H m vo vp vb) (hok : OkMp m) :
    WC Tryz.prog (tabOf Tryz.prog NT0) S0 28 [mpV m vo vp vb] H fun r h' => Ext H.n H h' ∧ ∃ ro rp rb, r = mpV m ro rp rb ∧ ∀ p0, p0 < H.n → OwnMp H.n p0 h' m ro rp rb := by
  refine WC_fn Tryz.func28 rfl rfl ?_
  obtain ⟨⟨lo, -⟩, ⟨lp, -⟩, lb, hbk⟩ := hok
  unfold Sm at lo lp lb
  have o1 := hm.o.one
  have o2 := hm.p.one
  have o3 := hm.b.one
  have s1 := hm.o.isSl
  have s2 := hm.p.isSl
  have s3 := hm.b.isSl
  have d3 := hm.b.lenD
  obtain ⟨hp, hhp⟩ : ∃ hp, hp = (H.push (.cells [.lit (.int .i64 m.epoch), vo, vp, vb, .lit (.int .i64 m.leaf)] 69)).push (.cells [.lit (.int .i64 0), .lit (.slice none 0 0), .lit (.slice none 0 0), .lit (.slice none 0 0), .lit (.int .i64 0)] 69) := ⟨_, rfl⟩
  have EP : Ext H.n H hp := hhp ▸ ((Ext.refl _ _).push _ (Nat.le_refl _)).push _ (by rw [n_push]; omega)
  have P0 : hp.at H.n = some (.cells [.lit (.int .i64 m.epoch), vo, vp, vb, .lit (.int .i64 m.leaf)] 69) := hhp ▸ (at_push_lt _ (by rw [n_push]; omega)).trans (at_push_n _ _)
  have Z0 : hp.at (H.n + 1) = some (.cells [.lit (.int .i64 0), .lit (.slice none 0 0), .lit (.slice none 0 0), .lit (.slice none 0 0), .lit (.int .i64 0)] 69) := hhp ▸ at_push_n _ _
  have nP : hp.n = H.n + 2 := by rw [hhp, n_push, n_push]
  have lP0 := at_lt P0
  have lZ0 := at_lt Z0
  simp only [core, zrA, zrS, zrM, zrL, zrE, reduceCtorEq, zrD, ziE, ziL, ziN, Tryz.ntmps28, mpV, o1, o2, o3]
  rw [← hhp, show H.n + 1 + 1 = hp.n by omega]
  clear hhp
  have eQ : Ext hp.n hp (hp.push (.cells [] 121)) := (Ext.refl _ _).push _ (Nat.le_refl _)
  refine WOp_app (dn_flat (n0 := hp.n) flat_osd (by kernel_rfl) (by kernel_rfl) (zv := .agg [.lit (.bool false), .lit (.bool false), .lit (.int .i64 0), .lit (.int .i64 0), .lit (.int .i64 0), .lit (.int .i64 0)]) (by kernel_rfl) (by' := 40) (by kernel_rfl) rfl (by decide) (by decide) ((hm.o.ext EP (Nat.le_refl _)).ext eQ (Nat.le_refl _)) (by omega) (by omega) (at_push_n hp _) (Nat.le_refl _) (by rw [n_push]; omega)) ?_
  rintro ro h3 ⟨ow, e3⟩
  have E3 : Ext hp.n hp h3 := eQ.trans (e3.mono (by rw [n_push]; omega))
  have P3 := (E3.2 _ lP0).trans P0
  have Z3 := (E3.2 _ lZ0).trans Z0
  have LP3 := ld_at (T := tabOf Tryz.prog NT0) P3
  have lP3 := at_lt P3
  have q1 := (ow.toSl (F := fun _ => True) (fun _ _ => trivial)).one
  have q2 := (ow.toSl (F := fun _ => True) (fun _ _ => trivial)).isSl
  obtain ⟨h4, hh4⟩ : ∃ h4, h4 = h3.put H.n (.cells [.lit (.int .i64 m.epoch), ro, vp, vb, .lit (.int .i64 m.leaf)] 69) := ⟨_, rfl⟩
  have P4 : h4.at H.n = some (.cells [.lit (.int .i64 m.epoch), ro, vp, vb, .lit (.int .i64 m.leaf)] 69) := hh4 ▸ at_put_same _ lP3
  have k4 : ∀ b, b ≠ H.n → h4.at b = h3.at b := fun b hb => hh4 ▸ at_put_ne _ (Ne.symm hb)
  have n4 : h4.n = h3.n := by rw [hh4, n_put]
  have ow4 : OwnE ROsd hp.n h4 ro 121 m.osds := hh4 ▸ ow.put_ap (ow.apartLt (by omega))
  have LP4 := ld_at (T := tabOf Tryz.prog NT0) P4
  have lP4 := at_lt P4
  have f3 := E3.1
  have E4 : Ext H.n H h4 := hh4 ▸ (EP.trans (E3.mono (by omega))).put _ (Nat.le_refl _)
  simp only [core, zrA, zrS, zrM, zrL, zrE, reduceCtorEq, zrD, ziE, ziL, ziN, P3, LP3, lP3, q1, q2, s2, o2, o3, ← hh4, LP4, lP4]
  have eR : Ext h4.n h4 (h4.push (.cells [] 102)) := (Ext.refl _ _).push _ (Nat.le_refl _)
  refine WOp_app (dn_flat (n0 := hp.n) flat_pool (by kernel_rfl) (by kernel_rfl) (zv := .agg [.lit (.int .i64 0), .lit (.int .i64 0), .lit (.int .i64 0), .lit (.int .i64 0)]) (by kernel_rfl) (by' := 32) (by kernel_rfl) rfl (by decide) (by decide) ((hm.p.ext E4 (Nat.le_refl _)).ext eR (Nat.le_refl _)) (by omega) (by omega) (at_push_n h4 _) (by omega) (by rw [n_push]; omega)) ?_
  rintro rp h5 ⟨pw, e5⟩
  have E5 : Ext h4.n h4 h5 := eR.trans (e5.mono (by rw [n_push]; omega))
  have P5 := (E5.2 _ lP4).trans P4
  have LP5 := ld_at (T := tabOf Tryz.prog NT0) P5
  have lP5 := at_lt P5
  have q3 := (pw.toSl (F := fun _ => True) (fun _ _ => trivial)).one
  have q4 := (pw.toSl (F := fun _ => True) (fun _ _ => trivial)).isSl
  obtain ⟨h6, hh6⟩ : ∃ h6, h6 = h5.put H.n (.cells [.lit (.int .i64 m.epoch), ro, rp, vb, .lit (.int .i64 m.leaf)] 69) := ⟨_, rfl⟩
  have P6 : h6.at H.n = some (.cells [.lit (.int .i64 m.epoch), ro, rp, vb, .lit (.int .i64 m.leaf)] 69) := hh6 ▸ at_put_same _ lP5
  have k6 : ∀ b, b ≠ H.n → h6.at b = h5.at b := fun b hb => hh6 ▸ at_put_ne _ (Ne.symm hb)
  have n6 : h6.n = h5.n := by rw [hh6, n_put]
  have ow6 : OwnE ROsd hp.n h6 ro 121 m.osds := hh6 ▸ (ow4.ext E5 (Nat.le_refl _)).put_ap (ow.apartLt (by omega))
  have pw6 : OwnE RPool hp.n h6 rp 102 m.pools := hh6 ▸ pw.put_ap (pw.apartLt (by omega))
  have LP6 := ld_at (T := tabOf Tryz.prog NT0) P6
  have lP6 := at_lt P6
  have f5 := E5.1
  have E6 : Ext H.n H h6 := hh6 ▸ (E4.step E5).put _ (Nat.le_refl _)
  have Z6 : h6.at (H.n + 1) = some (.cells [.lit (.int .i64 0), .lit (.slice none 0 0), .lit (.slice none 0 0), .lit (.slice none 0 0), .lit (.int .i64 0)] 69) := (k6 _ (by omega)).trans ((E5.2 _ (by omega)).trans ((k4 _ (by omega)).trans Z3))
  obtain ⟨N, hN⟩ : ∃ N, N = m.buckets.length := ⟨_, rfl⟩
  rw [← hN] at d3
  simp only [core, zrA, zrS, zrM, zrL, zrE, reduceCtorEq, zrD, ziE, ziL, ziN, P5, LP5, lP5, q1, q2, q3, q4, s3, d3, o3, ← hh6, LP6, lP6]
  refine WB_for N (fun i t h => (∃ s, OwnK h6.n h s (m.buckets.take i) ∧ t.get 3 = s) ∧ Ext h6.n h6 h ∧ t.n = 41 ∧ t.get 1 = .ptr H.n 0 ∧ t.get 2 = .ptr (H.n + 1) 0 ∧ t.get 17 = vb ∧ t.get 18 = .lit (.int .i64 N) ∧ t.get 19 = .lit (.int .i64 i)) ?_ ?_ _ _ ?_
  · rintro i t h hlt hc ⟨⟨s, ho, g3⟩, he, hn, g1, g2, g17, g18, g19⟩ ih
    obtain ⟨x, hx⟩ : ∃ x, m.buckets[i]? = some x := ⟨_, List.getElem?_eq_getElem (by omega)⟩
    have E1 : Ext H.n H h := E6.trans (he.mono E6.1)
    obtain ⟨c, hc1, hld, hld0⟩ := hm.b.atE (T := tabOf Tryz.prog NT0) E1 RBkt_z hx
    obtain ⟨va, vw, rfl, ha, hw, hi⟩ := RBkt_is.1 hc1
    have a1 := ha.one
    have w1 := hw.one
    have a2 := ha.isSl
    have w2 := hw.isSl
    obtain ⟨la, lw⟩ := hbk x (List.mem_of_getElem? hx)
    unfold Sm at la lw
    have hwi := wrap_succ (n := N) hlt (by omega)
    have t1 := (ho.toSl (F := fun _ => True) (fun _ _ => trivial) (fun _ _ => trivial)).isSl
    have t2 := (ho.toSl (F := fun _ => True) (fun _ _ => trivial) (fun _ _ => trivial)).one
    have hln := he.1
    obtain ⟨hA, hhA⟩ : ∃ hA, hA = h.push (.cells [.lit (.int .i64 x.id), .lit (.int .i64 x.kind), va, vw] 109) := ⟨_, rfl⟩
    have eA : Ext h.n h hA := hhA ▸ (Ext.refl _ _).push _ (Nat.le_refl _)
    have XA : hA.at h.n = some (.cells [.lit (.int .i64 x.id), .lit (.int .i64 x.kind), va, vw] 109) := hhA ▸ at_push_n _ _
    have nA : hA.n = h.n + 1 := by rw [hhA, n_push]
    have LXA := ld_at (T := tabOf Tryz.prog NT0) XA
    have lXA := at_lt XA
    have EA := E1.step eA
    simp only [core, zrA, zrS, zrM, zrL, zrE, reduceCtorEq, zrD, ziE, ziL, ziN, s3, d3, hn, g1, g2, g17, g18, g19, g3, hlt, hc, hld, hld0, a1, w1, a2, w2, ← hhA, LXA, lXA]
    have eB : Ext hA.n hA (hA.push (.cells [] 3)) := (Ext.refl _ _).push _ (Nat.le_refl _)
    refine WOp_app (dn_flat (n0 := hA.n) flat_int (by kernel_rfl) (by kernel_rfl) (zv := .lit (.int .i64 0)) (by kernel_rfl) (by' := 8) (by kernel_rfl) rfl (by decide) (by decide) ((ha.ext EA (Nat.le_refl _)).ext eB (Nat.le_refl _)) (by omega) (by omega) (at_push_n hA _) (Nat.le_refl _) (by rw [n_push]; omega)) ?_
    rintro ra hB ⟨p1, eB'⟩
    have EB : Ext hA.n hA hB := eB.trans (eB'.mono (by rw [n_push]; omega))
    have XB := (EB.2 _ lXA).trans XA
    have LXB := ld_at (T := tabOf Tryz.prog NT0) XB
    have lXB := at_lt XB
    have fB := EB.1
    have u1 := (p1.toSl (F := fun _ => True) (fun _ _ => trivial)).one
    have u2 := (p1.toSl (F := fun _ => True) (fun _ _ => trivial)).isSl
    obtain ⟨hC, hhC⟩ : ∃ hC, hC = hB.put h.n (.cells [.lit (.int .i64 x.id), .lit (.int .i64 x.kind), ra, vw] 109) := ⟨_, rfl⟩
    have XC : hC.at h.n = some (.cells [.lit (.int .i64 x.id), .lit (.int .i64 x.kind), ra, vw] 109) := hhC ▸ at_put_same _ lXB
    have nC : hC.n = hB.n := by rw [hhC, n_put]
    have LXC := ld_at (T := tabOf Tryz.prog NT0) XC
    have lXC := at_lt XC
    have p1C : OwnE RInt hA.n hC ra 3 x.items := hhC ▸ p1.put_ap (p1.apartLt (by omega))
    have eC : Ext h.n h hC := hhC ▸ ((eA.trans (EB.mono (by omega))).put _ (Nat.le_refl _))
    simp only [core, zrA, zrS, zrM, zrL, zrE, reduceCtorEq, zrD, ziE, ziL, ziN, hn, g1, g2, g17, g18, g19, g3, a1, w1, a2, w2, u1, u2, XB, LXB, lXB, ← hhC, LXC, lXC]
    have EC := E1.step eC
    have eD : Ext hC.n hC (hC.push (.cells [] 3)) := (Ext.refl _ _).push _ (Nat.le_refl _)
    refine WOp_app (dn_flat (n0 := hA.n) flat_int (by kernel_rfl) (by kernel_rfl) (zv := .lit (.int .i64 0)) (by kernel_rfl) (by' := 8) (by kernel_rfl) rfl (by decide) (by decide) ((hw.ext EC (Nat.le_refl _)).ext eD (Nat.le_refl _)) (by omega) (by omega) (at_push_n hC _) (by omega) (by rw [n_push]; omega)) ?_
    rintro rw1 hD ⟨p2, eD'⟩
    have ED : Ext hC.n hC hD := eD.trans (eD'.mono (by rw [n_push]; omega))
    have XD := (ED.2 _ lXC).trans XC
    have LXD := ld_at (T := tabOf Tryz.prog NT0) XD
    have lXD := at_lt XD
    have fD := ED.1
    have u3 := (p2.toSl (F := fun _ => True) (fun _ _ => trivial)).one
    have u4 := (p2.toSl (F := fun _ => True) (fun _ _ => trivial)).isSl
    obtain ⟨hE, hhE⟩ : ∃ hE, hE = (hD.put h.n (.cells [.lit (.int .i64 x.id), .lit (.int .i64 x.kind), ra, rw1] 109)).push (.cells [.lit (.int .i64 x.id), .lit (.int .i64 x.kind), ra, rw1] 109) := ⟨_, rfl⟩
    obtain ⟨hD2, hhD2⟩ : ∃ hD2, hD2 = hD.put h.n (.cells [.lit (.int .i64 x.id), .lit (.int .i64 x.kind), ra, rw1] 109) := ⟨_, rfl⟩
    have nD2 : hD2.n = hD.n := by rw [hhD2, n_put]
    have hhE2 : hE = hD2.push (.cells [.lit (.int .i64 x.id), .lit (.int .i64 x.kind), ra, rw1] 109) := by rw [hhE, hhD2]
    have XD2 : hD2.at h.n = some (.cells [.lit (.int .i64 x.id), .lit (.int .i64 x.kind), ra, rw1] 109) := hhD2 ▸ at_put_same _ lXD
    have LXD2 := ld_at (T := tabOf Tryz.prog NT0) XD2
    have p1D : OwnE RInt hA.n hD2 ra 3 x.items := hhD2 ▸ (p1C.ext ED (Nat.le_refl _)).put_ap (p1.apartLt (by omega))
    have p2D : OwnE RInt hA.n hD2 rw1 3 x.weights := hhD2 ▸ p2.put_ap (p2.apartLt (by omega))
    have eD2 : Ext h.n h hD2 := hhD2 ▸ ((eC.trans (ED.mono (by omega))).put _ (Nat.le_refl _))
    simp only [core, zrA, zrS, zrM, zrL, zrE, reduceCtorEq, zrD, ziE, ziL, ziN, hn, g1, g2, g17, g18, g19, g3, a1, w1, a2, w2, u1, u2, u3, u4, XD, LXD, lXD, ← hhD2, LXD2]
    have eE : Ext h.n h (hD2.push (.cells [.lit (.int .i64 x.id), .lit (.int .i64 x.kind), ra, rw1] 109)) := eD2.push _ (by omega)
    have eE2 : Ext hD2.n hD2 (hD2.push (.cells [.lit (.int .i64 x.id), .lit (.int .i64 x.kind), ra, rw1] 109)) := (Ext.refl _ _).push _ (Nat.le_refl _)
    have hln2 : (m.buckets.take i).length ≤ i := by rw [List.length_take]; omega
    refine WOp_app (push_bkt ho hln eE (at_push_n hD2 _) ((p1D.ext eE2 (Nat.le_refl _)).mono (by omega)) ((p2D.ext eE2 (Nat.le_refl _)).mono (by omega)) hi (by omega)) ?_
    rintro s2 hF ⟨oF, fF⟩
    have t3 := (oF.toSl (F := fun _ => True) (fun _ _ => trivial) (fun _ _ => trivial)).isSl
    have t4 := (oF.toSl (F := fun _ => True) (fun _ _ => trivial) (fun _ _ => trivial)).one
    simp only [core, zrA, zrS, zrM, zrL, zrE, reduceCtorEq, zrD, ziE, ziL, ziN, hn, g1, g2, g17, g18, g19, g3, t3, t4, hwi]
    refine ih _ _ ⟨⟨s2, ?_, by simp only [core, zrA, zrS, zrM, zrL, zrE, reduceCtorEq, zrD, ziE, ziL, ziN, hn, g1, g2, g17, g18, g19]⟩, he.trans (fF.toExtL ho hln), ?_⟩
    · rw [List.take_add_one, hx]
      exact oF
    · simp only [core, zrA, zrS, zrM, zrL, zrE, reduceCtorEq, zrD, ziE, ziL, ziN, hn, g1, g2, g17, g18, g19]
  · rintro t h hc ⟨⟨s, ho, g3⟩, he, hn, g1, g2, g17, g18, g19⟩
    rw [hN, List.take_length] at ho
    have t1 := (ho.toSl (F := fun _ => True) (fun _ _ => trivial) (fun _ _ => trivial)).isSl
    have t2 := (ho.toSl (F := fun _ => True) (fun _ _ => trivial) (fun _ _ => trivial)).one
    have PH := (he.2 _ lP6).trans P6
    have ZH := (he.2 _ (by omega)).trans Z6
    have LPH := ld_at (T := tabOf Tryz.prog NT0) PH
    have lPH := at_lt PH
    have lZH := at_lt ZH
    have hne : ¬ H.n = H.n + 1 := by omega
    have hln := he.1
    simp only [core, zrA, zrS, zrM, zrL, zrE, reduceCtorEq, zrD, ziE, ziL, ziN, s3, d3, hn, g1, g2, g17, g18, g19, g3, hc, PH, ZH, LPH, lPH, lZH, q1, q2, q3, q4, t1, t2, hne]
    have owH := ow6.ext he (Nat.le_refl _)
    have pwH := pw6.ext he (Nat.le_refl _)
    refine ⟨((E6.trans (he.mono E6.1)).put _ (Nat.le_refl _)).put _ (by omega), ro, rp, s, rfl, fun p0 hp0 => ⟨((owH.put_ap (ow.apartLt (by omega))).put_ap (ow.apartLt (by omega))).mono (by omega), ((pwH.put_ap (pw.apartLt (by omega))).put_ap (pw.apartLt (by omega))).mono (by omega), ?_, ow.apartLt (by omega), pw.apartLt (by omega)⟩⟩
    exact ((ho.putLt (by omega)).putLt (by omega)).toSl (fun k hk => ⟨by omega, ow6.apart hk, pw6.apart hk, by omega⟩) (fun k hk => ⟨by omega, ow6.apart hk, pw6.apart hk, by omega⟩)
  · refine ⟨⟨_, OwnL.nil, by simp only [core, zrA, zrS, zrM, zrL, zrE, reduceCtorEq, zrD, ziE, ziL, ziN]⟩, Ext.refl _ _, ?_⟩
    simp only [core, zrA, zrS, zrM, zrL, zrE, reduceCtorEq, zrD, ziE, ziL, ziN]
    (repeat' apply And.intro) <;> first | rfl | trivial
end Go.Proofs.YtfbpjobjdmmgiaaGreat.Ex
end

section

set_option linter.unusedSimpArgs false
set_option linter.unusedVariables false
set_option maxRecDepth 10000
set_option maxHeartbeats 4000000
namespace Go.Proofs.YtfbpjobjdmmgiaaGreat.Ex
open Go
theorem set10_x {F : Nat → Prop} {H : AH} {m : MapD} {vo vp vb : AV} {k : Nat} (o : OsdD) (hm : MpAt F H m vo vp vb) (hok : OkMp m) (hk8 : k < 8) (ho : okO o) :
    WC Tryz.prog (tabOf Tryz.prog NT0) S0 45 [mpV m vo vp vb, .lit (.int .i64 (k : Int)), osdV o] H fun r h' => Ext H.n H h' ∧ ∃ ro rp rb, r = mpV (setO m k o) ro rp rb ∧ MpAt (fun b => H.n ≤ b) h' (setO m k o) ro rp rb := by
  refine WC_fn Tryz.func45 rfl rfl ?_
  have o1 := hm.o.one
  have o2 := hm.p.one
  have o3 := hm.b.one
  have hso : m.osds.length < 4611686018427387904 := by have := hok.1.1; unfold Sm at this; omega
  have hso2 := hok.1.1
  unfold Sm at hso2
  simp only [core, zrA, zrS, zrM, zrL, zrE, reduceCtorEq, zrD, ziE, ziL, ziN, Tryz.ntmps45, mpV, osdV, o1, o2, o3]
  obtain ⟨hp, hhp, EP, P0, C0, Z0, nP⟩ := made_boxes (H := H) (mC m vo vp vb) (.cells (oC' o) 121) mz
  unfold mC at P0 hhp
  unfold oC' at C0 hhp
  unfold mz at Z0 hhp
  rw [← hhp]
  clear hhp
  have lP0 := at_lt P0
  have lC0 := at_lt C0
  have lZ0 := at_lt Z0
  refine (copy10_x (hm.ext EP (Nat.le_refl _)) hok).mono ?_
  rintro _ h3 ⟨e3, vo3, rp, rb, rfl, hown⟩
  have own3 := hown 0 (by omega)
  have m3 := own3.at (F := fun _ => True) (fun _ _ => trivial)
  have w1 := m3.o.one
  have w2 := m3.p.one
  have w3 := m3.b.one
  have P3 := (e3.2 _ lP0).trans P0
  have lP3 := at_lt P3
  have l3 := e3.1
  obtain ⟨h4, hh4⟩ : ∃ h4, h4 = h3.put H.n (.cells [.lit (.int .i64 m.epoch), vo3, rp, rb, .lit (.int .i64 m.leaf)] 69) := ⟨_, rfl⟩
  have P4 : h4.at H.n = some (.cells [.lit (.int .i64 m.epoch), vo3, rp, rb, .lit (.int .i64 m.leaf)] 69) := hh4 ▸ at_put_same _ lP3
  have k4 : ∀ b, b ≠ H.n → h4.at b = h3.at b := fun b hb => hh4 ▸ at_put_ne _ (Ne.symm hb)
  have n4 : h4.n = h3.n := by rw [hh4, n_put]
  have own4 : OwnMp hp.n 0 h4 m vo3 rp rb := hh4 ▸ own3.putLt (by omega)
  have C4 : h4.at (H.n + 1) = some (.cells [.lit (.bool o.ex), .lit (.bool o.up), .lit (.int .i64 o.weight), .lit (.int .i64 o.boot), .lit (.int .i64 o.upFrom), .lit (.int .i64 o.upThru)] 121) := (k4 _ (by omega)).trans ((e3.2 _ lC0).trans C0)
  have Z4 := (k4 (H.n + 2) (by omega)).trans ((e3.2 _ lZ0).trans Z0)
  have E4 : Ext H.n H h4 := hh4 ▸ (EP.step e3).put _ (Nat.le_refl _)
  simp only [core, zrA, zrS, zrM, zrL, zrE, reduceCtorEq, zrD, ziE, ziL, ziN, mpV, w1, w2, w3, P3, lP3, ← hh4]
  clear hh4
  refine WB_ind (fun (j : Nat) t h => ∃ v, h.at H.n = some (.cells [.lit (.int .i64 m.epoch), v, rp, rb, .lit (.int .i64 m.leaf)] 69) ∧ h.at (H.n + 1) = h4.at (H.n + 1) ∧ h.at (H.n + 2) = h4.at (H.n + 2) ∧ (j = 0 ∨ m.osds.length + j ≤ k + 1) ∧
      OwnE ROsd hp.n h v 121 (m.osds ++ List.replicate j osd0) ∧ OwnE RPool hp.n h rp 102 m.pools ∧ IsSl RBkt (fun k => hp.n ≤ k ∧ Apart v k ∧ Apart rp k) h rb m.buckets ∧ Ext H.n H h ∧ h4.n ≤ h.n ∧ t.n = 26 ∧ t.get 1 = .lit (.int .i64 (k : Int)) ∧ t.get 3 = .ptr H.n 0 ∧ t.get 5 = .ptr (H.n + 1) 0 ∧ t.get 6 = .ptr (H.n + 2) 0) (fun j => k + 1 - j) ?_ 0 _ _ ?_
  · rintro j t h ⟨v, PH, CH, ZH, hj, ov, ovp, ib, EH, lhn, hn, g1, g3, g5, g6⟩ ih
    rw [C4] at CH
    rw [Z4] at ZH
    have LPH := ld_at (T := tabOf Tryz.prog NT0) PH
    have LCH := ld_at (T := tabOf Tryz.prog NT0) CH
    have lPH := at_lt PH
    have lCH := at_lt CH
    have lZH := at_lt ZH
    have ovs := ov.toSl (F := fun _ => True) (fun _ _ => trivial)
    have t1 := ovs.isSl
    have t2 := ovs.lenD
    have t3 := ovs.one
    obtain ⟨n, hN⟩ : ∃ n, n = (m.osds ++ List.replicate j osd0).length := ⟨_, rfl⟩
    have hN' : n = m.osds.length + j := by rw [hN, List.length_append, List.length_replicate]
    rw [← hN] at t2
    by_cases hlt : n ≤ k
    · have hltI : ((n : Int) ≤ (k : Int)) = True := by simp only [eq_iff_iff, iff_true]; omega
      simp only [core, zrA, zrS, zrM, zrL, zrE, reduceCtorEq, zrD, ziE, ziL, ziN, hn, g1, g3, g5, g6, LPH, LCH, lPH, lCH, t1, t2, t3, hltI]
      have A1 := at_push_n h (.cells (oC' osd0) 121)
      have eA : Ext h.n h (h.push (.cells (oC' osd0) 121)) := (Ext.refl _ _).push _ (Nat.le_refl _)
      refine WOp_app ((ov.ext eA (Nat.le_refl _)).snoc (T := tabOf Tryz.prog NT0) (y := osd0) (cap := .kn 1) flatO (by kernel_rfl) (by kernel_rfl) (zv := .agg [.lit (.bool false), .lit (.bool false), .lit (.int .i64 0), .lit (.int .i64 0), .lit (.int .i64 0), .lit (.int .i64 0)]) (by kernel_rfl) (by' := 40) (by kernel_rfl) rfl (by decide) (by decide) A1 (ROsd_is.2 ⟨rfl, okO0⟩) (by rw [← hN]; omega) (by rw [← hN]; omega) (by rw [n_push]; omega)) ?_
      rintro s' h2 ⟨os', f2⟩
      have lfn := f2.1
      rw [n_push] at lfn
      have av0 := ov.apartLt (b := H.n) (by omega)
      have av1 := ov.apartLt (b := H.n + 1) (by omega)
      have av2 := ov.apartLt (b := H.n + 2) (by omega)
      have P1 : (h.push (.cells (oC' osd0) 121)).at H.n = _ := (at_push_lt _ lPH).trans PH
      have C1 : (h.push (.cells (oC' osd0) 121)).at (H.n + 1) = _ := (at_push_lt _ lCH).trans CH
      have Z1 : (h.push (.cells (oC' osd0) 121)).at (H.n + 2) = _ := (at_push_lt _ lZH).trans ZH
      obtain ⟨P2, bp0⟩ := f2.box P1 av0
      obtain ⟨C2, bp1⟩ := f2.box C1 av1
      obtain ⟨Z2, bp2⟩ := f2.box Z1 av2
      have LP2 := ld_at (T := tabOf Tryz.prog NT0) P2
      have lP2 := at_lt P2
      have q1 := (os'.toSl (F := fun _ => True) (fun _ _ => trivial)).one
      have q2 := (os'.toSl (F := fun _ => True) (fun _ _ => trivial)).isSl
      simp only [core, zrA, zrS, zrM, zrL, zrE, reduceCtorEq, zrD, ziE, ziL, ziN, hn, g1, g3, g5, g6, P2, LP2, lP2, q1, q2]
      refine ih (j + 1) _ _ ⟨s', at_put_same _ lP2, by rw [at_put_ne _ (by omega), C2, C4], by rw [at_put_ne _ (by omega), Z2, Z4], .inr (by omega), ?_, ?_, ?_, ?_, by rw [n_put]; omega, ?_⟩ (by omega)
      · rw [← rep_succ]
        exact os'.put_ap bp0
      · exact ((ovp.ext eA (Nat.le_refl _)).fr (ov.ext eA (Nat.le_refl _)) (by decide) f2).put_ap (ovp.apartLt (by omega))
      · refine ib.lift fun b hb hlb => ?_
        obtain ⟨k1, k2⟩ := f2.2 b (by rw [n_push]; omega) hb.2.1
        exact ⟨by rw [at_put_ne _ (by omega), k1, at_push_lt _ hlb], hb.1, k2, hb.2.2⟩
      · refine Ext.put _ ⟨by have := EH.1; omega, fun b hb => ?_⟩ (Nat.le_refl _)
        have := EH.1
        rw [(f2.2 b (by rw [n_push]; omega) (ov.apartLt (by omega))).1, at_push_lt _ (by omega)]
        exact EH.2 b hb
      · simp only [core, zrA, zrS, zrM, zrL, zrE, reduceCtorEq, zrD, ziE, ziL, ziN, hn, g1, g3, g5, g6]
    · have hltI : ((n : Int) ≤ (k : Int)) = False := by simp only [eq_iff_iff, iff_false]; omega
      have hgr : m.osds ++ List.replicate j osd0 = growO m.osds k := grow_step (by omega) hj
      have hkn : k < n := by omega
      obtain ⟨l, hl⟩ : ∃ l, l = m.osds ++ List.replicate j osd0 := ⟨_, rfl⟩
      rw [← hl] at ov ovs hN hgr
      have hkl : k < l.length := by omega
      have hlne : l ≠ [] := fun hh => by rw [hh] at hkl; simp at hkl
      have row : ∃ q, v = .sl q 0 l.length (.un 6) ∧ hp.n ≤ q ∧ h.at q = some (.cells (l.flatMap oC') 121) ∧ ∀ x ∈ l, okO x := by
        rcases ov with hov | ⟨hh, _⟩
        · exact hov.row flatO hlne
        · exact absurd hh hlne
      obtain ⟨q, hv, hq, hat, hokl⟩ := row
      have hv1 : slB v = q := by rw [hv]; rfl
      have hv2 : slO v = 0 := by rw [hv]; rfl
      have hat' : h.at (slB v) = some (.cells (l.flatMap oC') 121) := by rw [hv1]; exact hat
      have lq := at_lt hat
      have lq' := at_lt hat'
      have hput := put_el (cf := oC') (z := 6) (y := o) (fun _ => rfl) hkl
      have hput' : put (l.flatMap oC') (slO v + k * 6) [.lit (.bool o.ex), .lit (.bool o.up), .lit (.int .i64 o.weight), .lit (.int .i64 o.boot), .lit (.int .i64 o.upFrom), .lit (.int .i64 o.upThru)] = some ((l.set k o).flatMap oC') := by
        rw [hv2, Nat.zero_add]; exact hput
      obtain ⟨h2, hh2⟩ : ∃ h2, h2 = h.put q (.cells ((l.set k o).flatMap oC') 121) := ⟨_, rfl⟩
      have W2 : h2.at q = some (.cells ((l.set k o).flatMap oC') 121) := hh2 ▸ at_put_same _ lq
      have k2 : ∀ b, b ≠ q → h2.at b = h.at b := fun b hb => hh2 ▸ at_put_ne _ (Ne.symm hb)
      have n2 : h2.n = h.n := by rw [hh2, n_put]
      have P2 := (k2 H.n (by omega)).trans PH
      have Z2 := (k2 (H.n + 2) (by omega)).trans ZH
      have LP2 := ld_at (T := tabOf Tryz.prog NT0) P2
      have lZ2 := at_lt Z2
      have hh2' : h.put (slB v) (.cells ((l.set k o).flatMap oC') 121) = h2 := by rw [hv1]; exact hh2.symm
      simp only [corem, WB_cond_s, put, ldL, WB_label, List.nil_append, List.drop_zero, List.take_zero, zrA, zrS, zrM, zrL, zrE, reduceCtorEq, zrD, ziE, ziL, ziN, -put, hn, g1, g3, g5, g6, LPH, LCH, lPH, lCH, t1, t2, t3, hltI, hkn, hat', lq', hput', hh2', LP2, Z2, lZ2, w2, w3]
      have hE : setO m k o = { m with osds := l.set k o } := by unfold setO; rw [hgr]
      have E2 : Ext H.n H h2 := ⟨by have := EH.1; omega, fun b hb => (k2 b (by omega)).trans (EH.2 b hb)⟩
      refine ⟨E2.put _ (by omega), v, rp, rb, by rw [hE], ?_⟩
      rw [hE]
      have hsep := ovp.sep ov (by decide)
      refine ⟨?_, ?_, ?_⟩
      · have : OwnL ROsd (fun _ => False) hp.n h2 v 121 (l.set k o) := by
          rw [hv]
          exact OwnL.ofRow flatO (by simp) hq W2 fun y' hy => by
            rcases List.mem_or_eq_of_mem_set hy with hy | rfl
            · exact hokl y' hy
            · exact ho
        exact (OwnE.put_ap (.inl this) (this.apartLt (by omega))).toSl fun b hb => by omega
      · exact (((ovp.keep fun b off n cap hv' => k2 b (fun hh => hsep b off n cap hv' 0 _ _ (hh ▸ hv))).put_ap (ovp.apartLt (by omega)))).toSl fun b hb => by omega
      · refine ib.lift fun b hb hlb => ⟨?_, by omega⟩
        rw [at_put_ne _ (by omega)]
        exact k2 b fun hh => hb.2.1 0 _ _ (hh ▸ hv)
  · refine ⟨vo3, P4, rfl, rfl, .inl rfl, by rw [List.replicate_zero, List.append_nil]; exact own4.o, own4.p, own4.b.lift fun b hb _ => ⟨rfl, hb.1, hb.2.1, hb.2.2.1⟩, E4, Nat.le_refl _, ?_⟩
    simp only [core, zrA, zrS, zrM, zrL, zrE, reduceCtorEq, zrD, ziE, ziL, ziN]
end Go.Proofs.YtfbpjobjdmmgiaaGreat.Ex
end

section

set_option linter.unusedSimpArgs false
set_option linter.unusedVariables false
set_option maxRecDepth 10000
set_option maxHeartbeats 4000000
namespace Go.Proofs.YtfbpjobjdmmgiaaGreat.Ex
open Go
theorem Fr.toExtE {α : Type} {R : Rep α} {n0 : Nat} {h h1 : AH} {v v1 : AV} {e : TypeId} {xs : List α} (f : Fr h v h1 v1) (ho : OwnE R n0 h v e xs) (hn0 : n0 ≤ h.n) : Ext n0 h h1 := ⟨f.1, fun b hb => (f.2 b (by omega) (ho.apartLt hb)).1⟩
theorem lenP2 {L : List PoolD} {i n k : Nat} (h1 : L.length ≤ i + 1) (h2 : i < n) (h3 : n = k) (sb : (k + 1) * 32 ≤ 140737488351232) : L.length + 1 ≤ 4611686018427387904 ∧ (L.length + 1) * 32 ≤ 140737488355328 := by omega
theorem lenP3 {L : List PoolD} {b : PoolD} {i n k : Nat} (h1 : L.length ≤ i) (h2 : i < n) (h3 : n = k) (sb : (k + 1) * 32 ≤ 140737488351232) : (L ++ [b]).length + 1 ≤ 4611686018427387904 ∧ ((L ++ [b]).length + 1) * 32 ≤ 140737488355328 := by
  have : (L ++ [b]).length = L.length + 1 := by simp
  omega
theorem lenP4 {l k : Nat} (h1 : l ≤ k) (sb : (k + 1) * 32 ≤ 140737488351232) : l + 1 ≤ 4611686018427387904 ∧ (l + 1) * 32 ≤ 140737488355328 := by omega
theorem pdStep_len {p : PoolD} {s : List PoolD × Bool} {q : PoolD} : (pdStep p s q).1.length + nB (pdStep p s q).2 ≤ s.1.length + nB s.2 + 1 := by
  obtain ⟨l, b⟩ := s
  unfold pdStep
  by_cases h1 : b = false ∧ p.id ≤ q.id
  · rw [if_pos h1, h1.1]
    by_cases h2 : q.id = p.id
    · rw [if_pos h2]; simp [nB]
    · rw [if_neg h2]; simp [nB]
  · rw [if_neg h1]
    simp
    omega
theorem pdFold_len {p : PoolD} : ∀ (l : List PoolD) (s : List PoolD × Bool), (l.foldl (pdStep p) s).1.length + nB (l.foldl (pdStep p) s).2 ≤ s.1.length + nB s.2 + l.length
  | [], s => Nat.le_refl _
  | c :: r, s => by
    have h1 := pdFold_len (p := p) r (pdStep p s c)
    have h2 := pdStep_len (p := p) (s := s) (q := c)
    rw [List.foldl_cons, List.length_cons]
    omega
theorem pooled10_x {F : Nat → Prop} {H : AH} {m : MapD} {vo vp vb : AV} (p : PoolD) (hm : MpAt F H m vo vp vb) (hok : OkMp m) (sb : (m.pools.length + 1) * 32 ≤ 140737488351232) (hop : okP p) :
    WC Tryz.prog (tabOf Tryz.prog NT0) S0 58 [mpV m vo vp vb, poolV p] H fun r h' => Ext H.n H h' ∧ ∃ ro rp rb, r = mpV { m with pools := insP m.pools p } ro rp rb ∧ MpAt (fun b => H.n ≤ b) h' { m with pools := insP m.pools p } ro rp rb := by
  refine WC_fn Tryz.func58 rfl rfl ?_
  have o1 := hm.o.one
  have o2 := hm.p.one
  have o3 := hm.b.one
  simp only [core, zrA, zrS, zrM, zrL, zrE, reduceCtorEq, zrD, ziE, ziL, ziN, Tryz.ntmps58, mpV, poolV, o1, o2, o3]
  obtain ⟨hp, hhp, EP, P0, B0, Z0, nP⟩ := made_boxes (H := H) (mC m vo vp vb) (.cells (pC' p) 102) mz
  unfold mC at P0 hhp
  unfold pC' at B0 hhp
  unfold mz at Z0 hhp
  rw [← hhp]
  clear hhp
  have lP0 := at_lt P0
  have lB0 := at_lt B0
  have lZ0 := at_lt Z0
  refine (copy10_x (hm.ext EP (Nat.le_refl _)) hok).mono ?_
  rintro _ h3 ⟨e3, vo3, vp3, rb, rfl, hown⟩
  have own3 := hown 0 (by omega)
  have m3 := own3.at (F := fun _ => True) (fun _ _ => trivial)
  have w1 := m3.o.one
  have w2 := m3.p.one
  have w3 := m3.b.one
  have s3 := m3.p.isSl
  have d3 := m3.p.lenD
  have P3 := (e3.2 _ lP0).trans P0
  have lP3 := at_lt P3
  have l3 := e3.1
  obtain ⟨h4, hh4⟩ : ∃ h4, h4 = h3.put H.n (.cells [.lit (.int .i64 m.epoch), vo3, vp3, rb, .lit (.int .i64 m.leaf)] 69) := ⟨_, rfl⟩
  have P4 : h4.at H.n = some (.cells [.lit (.int .i64 m.epoch), vo3, vp3, rb, .lit (.int .i64 m.leaf)] 69) := hh4 ▸ at_put_same _ lP3
  have k4 : ∀ b, b ≠ H.n → h4.at b = h3.at b := fun b hb => hh4 ▸ at_put_ne _ (Ne.symm hb)
  have n4 : h4.n = h3.n := by rw [hh4, n_put]
  have own4 : OwnMp hp.n 0 h4 m vo3 vp3 rb := hh4 ▸ own3.putLt (by omega)
  have m4 := own4.at (F := fun b => hp.n ≤ b) (fun _ hb => hb)
  have B4 : h4.at (H.n + 1) = some (.cells [.lit (.int .i64 p.id), .lit (.int .i64 p.size), .lit (.int .i64 p.min), .lit (.int .i64 p.pgs)] 102) := (k4 _ (by omega)).trans ((e3.2 _ lB0).trans B0)
  have Z4 : h4.at (H.n + 2) = some (.cells [.lit (.int .i64 0), .lit (.slice none 0 0), .lit (.slice none 0 0), .lit (.slice none 0 0), .lit (.int .i64 0)] 69) := (k4 (H.n + 2) (by omega)).trans ((e3.2 _ lZ0).trans Z0)
  have E4 : Ext H.n H h4 := hh4 ▸ (EP.step e3).put _ (Nat.le_refl _)
  have LP4 := ld_at (T := tabOf Tryz.prog NT0) P4
  have lP4 := at_lt P4
  simp only [core, zrA, zrS, zrM, zrL, zrE, reduceCtorEq, zrD, ziE, ziL, ziN, mpV, w1, w2, w3, P3, lP3, ← hh4, LP4, lP4, s3, d3]
  clear hh4 EP P0 B0 Z0 P3 lP0 lB0 lZ0 lP3
  obtain ⟨n, hN⟩ : ∃ n, n = m.pools.length := ⟨_, rfl⟩
  rw [← hN] at d3 ⊢
  -- from here on all is told of h4
  obtain ⟨hp', hpe⟩ : ∃ hp', hp' = h4 := ⟨_, rfl⟩
  have B0 := B4
  refine WB_for n (fun i t h => (∃ s, OwnE RPool h4.n h s 102 ((m.pools.take i).foldl (pdStep p) ([], false)).1 ∧ Ext h4.n h4 h ∧ t.get 5 = s) ∧ t.get 6 = .lit (.bool ((m.pools.take i).foldl (pdStep p) ([], false)).2) ∧ t.n = 50 ∧ t.get 2 = .ptr H.n 0 ∧ t.get 3 = .ptr (H.n + 1) 0 ∧ t.get 4 = .ptr (H.n + 2) 0 ∧ t.get 12 = vp3 ∧ t.get 13 = .lit (.int .i64 n) ∧ t.get 14 = .lit (.int .i64 i)) ?_ ?_ _ _ ?_
  · rintro i t h hlt hc ⟨⟨s, ho, he, g5⟩, g6, hn, g2, g3, g4, g12, g13, g14⟩ ih
    obtain ⟨x, hx⟩ : ∃ x, m.pools[i]? = some x := ⟨_, List.getElem?_eq_getElem (by omega)⟩
    have hl1 := pdFold_len (p := p) (m.pools.take i) ([], false)
    have hlt3 : (m.pools.take i).length ≤ i := by rw [List.length_take]; omega
    have hlen : ((m.pools.take i).foldl (pdStep p) ([], false)).1.length ≤ i + 1 := by
      have h4 : nB false = 1 := rfl
      simp only [List.length_nil] at hl1
      omega
    have hnB : ((m.pools.take i).foldl (pdStep p) ([], false)).2 = false → ((m.pools.take i).foldl (pdStep p) ([], false)).1.length ≤ i := fun hf => by
      rw [hf] at hl1
      have h4 : nB false = 1 := rfl
      simp only [List.length_nil] at hl1
      omega
    clear hl1
    have hsucc := fold_succ (pdStep p) ([], false) hx
    obtain ⟨S, hS⟩ : ∃ S, S = (m.pools.take i).foldl (pdStep p) ([], false) := ⟨_, rfl⟩
    rw [← hS] at ho g6 hlen hnB hsucc
    rw [hsucc] at ih
    clear hS hsucc
    obtain ⟨L, put⟩ := S
    simp only at ho g6 hlen hnB
    obtain ⟨c, hc1, hld, hld0⟩ := m4.p.atE (T := tabOf Tryz.prog NT0) he RPool_z hx
    obtain ⟨rfl, okx⟩ := RPool_is.1 hc1
    have hwi := wrap_succ (n := n) hlt (by omega)
    have BH := (he.2 _ (by omega)).trans B4
    have lBH := at_lt BH
    have lhn := he.1
    obtain ⟨hA, hhA⟩ : ∃ hA, hA = h.push (.cells [.lit (.int .i64 x.id), .lit (.int .i64 x.size), .lit (.int .i64 x.min), .lit (.int .i64 x.pgs)] 102) := ⟨_, rfl⟩
    have eA : Ext h.n h hA := hhA ▸ (Ext.refl _ _).push _ (Nat.le_refl _)
    have XA : hA.at h.n = some (.cells [.lit (.int .i64 x.id), .lit (.int .i64 x.size), .lit (.int .i64 x.min), .lit (.int .i64 x.pgs)] 102) := hhA ▸ at_push_n _ _
    have LXA := ld_at (T := tabOf Tryz.prog NT0) XA
    have lXA := at_lt XA
    have nA : hA.n = h.n + 1 := by rw [hhA, n_push]
    have BA := (eA.2 _ lBH).trans BH
    have LBA := ld_at (T := tabOf Tryz.prog NT0) BA
    have lBA := at_lt BA
    have oA := ho.ext eA (Nat.le_refl _)
    have t1 := (ho.toSl (F := fun _ => True) (fun _ _ => trivial)).isSl
    have heA : Ext h4.n h4 hA := he.trans (eA.mono (by omega))
    cases put with
    | true =>
      have hst : pdStep p (L, true) x = (L ++ [x], true) := by
        unfold pdStep
        simp
      rw [hst] at ih
      simp only [core, zrA, zrS, zrM, zrL, zrE, reduceCtorEq, zrD, ziE, ziL, ziN, ← hhA, hn, g2, g3, g4, g12, g13, g14, g5, g6, hlt, hc, hld, hld0, hwi, s3, d3, t1, LXA, lXA, LBA, lBA]
      have eB2 : Ext hA.n hA (hA.push (.cells (pC' x) 102)) := (Ext.refl _ _).push _ (Nat.le_refl _)
      refine WOp_app ((oA.ext eB2 (Nat.le_refl _)).snoc (T := tabOf Tryz.prog NT0) (t := 66) (y := x) (cap := .kn 1) flatP (by kernel_rfl) (by kernel_rfl) (zv := .agg [.lit (.int .i64 0), .lit (.int .i64 0), .lit (.int .i64 0), .lit (.int .i64 0)]) (by kernel_rfl) (by' := 32) (by kernel_rfl) rfl (by decide) (by decide) (at_push_n _ _) (RPool_is.2 ⟨rfl, okx⟩) (lenP2 hlen hlt hN sb).1 (lenP2 hlen hlt hN sb).2 (by rw [n_push]; omega)) ?_
      rintro s2 hC2 ⟨oC2, fC2⟩
      have fr2 : Fr hA s hC2 s2 := (Fr.ext eB2).trans fC2
      have t2 := (oC2.toSl (F := fun _ => True) (fun _ _ => trivial)).isSl
      have u2 := (oC2.toSl (F := fun _ => True) (fun _ _ => trivial)).one
      have he2 : Ext h4.n h4 hC2 := heA.trans (fr2.toExtE oA (by omega))
      simp only [core, zrA, zrS, zrM, zrL, zrE, reduceCtorEq, zrD, ziE, ziL, ziN, t2, u2, hn, g2, g3, g4, g12, g13, g14, g5, g6, hlt, hc, hld, hld0, hwi, s3, d3, t1, LXA, lXA, LBA, lBA]
      refine ih _ _ ⟨⟨_, oC2, he2, by simp only [core, zrA, zrS, zrM, zrL, zrE, reduceCtorEq, zrD, ziE, ziL, ziN, hn, g2, g3, g4, g12, g13, g14, g5, g6]⟩, by simp only [core, zrA, zrS, zrM, zrL, zrE, reduceCtorEq, zrD, ziE, ziL, ziN, hn, g2, g3, g4, g12, g13, g14, g5, g6], ?_⟩
      simp only [core, zrA, zrS, zrM, zrL, zrE, reduceCtorEq, zrD, ziE, ziL, ziN, hn, g2, g3, g4, g12, g13, g14, g5, g6]
    | false =>
      by_cases cge : p.id ≤ x.id
      · by_cases ceq : x.id = p.id
        · skip
          have hst : pdStep p (L, false) x = (L ++ [p], true) := by
            unfold pdStep
            simp [cge, ceq]
          rw [hst] at ih
          simp only [core, zrA, zrS, zrM, zrL, zrE, reduceCtorEq, zrD, ziE, ziL, ziN, ← hhA, cge, hn, g2, g3, g4, g12, g13, g14, g5, g6, hlt, hc, hld, hld0, hwi, s3, d3, t1, LXA, lXA, LBA, lBA]
          have eB1 : Ext hA.n hA (hA.push (.cells (pC' p) 102)) := (Ext.refl _ _).push _ (Nat.le_refl _)
          refine WOp_app ((oA.ext eB1 (Nat.le_refl _)).snoc (T := tabOf Tryz.prog NT0) (t := 66) (y := p) (cap := .kn 1) flatP (by kernel_rfl) (by kernel_rfl) (zv := .agg [.lit (.int .i64 0), .lit (.int .i64 0), .lit (.int .i64 0), .lit (.int .i64 0)]) (by kernel_rfl) (by' := 32) (by kernel_rfl) rfl (by decide) (by decide) (at_push_n _ _) (RPool_is.2 ⟨rfl, hop⟩) (lenP2 hlen hlt hN sb).1 (lenP2 hlen hlt hN sb).2 (by rw [n_push]; omega)) ?_
          rintro s1 hC1 ⟨oC1, fC1⟩
          have fr1 : Fr hA s hC1 s1 := (Fr.ext eB1).trans fC1
          have t1 := (oC1.toSl (F := fun _ => True) (fun _ _ => trivial)).isSl
          have u1 := (oC1.toSl (F := fun _ => True) (fun _ _ => trivial)).one
          have he1 : Ext h4.n h4 hC1 := heA.trans (fr1.toExtE oA (by omega))
          obtain ⟨X1, -⟩ := fr1.box XA (ho.apart (Nat.le_refl _))
          have LX1 := ld_at (T := tabOf Tryz.prog NT0) X1
          have lX1 := at_lt X1
          have B1' := (he1.2 _ (by omega)).trans B0
          have LB1' := ld_at (T := tabOf Tryz.prog NT0) B1'
          have lB1' := at_lt B1'
          have ln1 := he1.1
          have cqe : (x.id == p.id) = true := by simp [ceq]
          simp only [core, zrA, zrS, zrM, zrL, zrE, reduceCtorEq, zrD, ziE, ziL, ziN, t1, u1, cqe, LX1, lX1, LB1', lB1', hn, g2, g3, g4, g12, g13, g14, g5, g6, hlt, hc, hld, hld0, hwi, s3, d3, t1, LXA, lXA, LBA, lBA]
          refine ih _ _ ⟨⟨_, oC1, he1, by simp only [core, zrA, zrS, zrM, zrL, zrE, reduceCtorEq, zrD, ziE, ziL, ziN, hn, g2, g3, g4, g12, g13, g14, g5, g6]⟩, by simp only [core, zrA, zrS, zrM, zrL, zrE, reduceCtorEq, zrD, ziE, ziL, ziN, hn, g2, g3, g4, g12, g13, g14, g5, g6], ?_⟩
          simp only [core, zrA, zrS, zrM, zrL, zrE, reduceCtorEq, zrD, ziE, ziL, ziN, hn, g2, g3, g4, g12, g13, g14, g5, g6]
        · skip
          have hst : pdStep p (L, false) x = (L ++ [p] ++ [x], true) := by
            unfold pdStep
            simp [cge, ceq]
          rw [hst] at ih
          simp only [core, zrA, zrS, zrM, zrL, zrE, reduceCtorEq, zrD, ziE, ziL, ziN, ← hhA, cge, hn, g2, g3, g4, g12, g13, g14, g5, g6, hlt, hc, hld, hld0, hwi, s3, d3, t1, LXA, lXA, LBA, lBA]
          have eB1 : Ext hA.n hA (hA.push (.cells (pC' p) 102)) := (Ext.refl _ _).push _ (Nat.le_refl _)
          refine WOp_app ((oA.ext eB1 (Nat.le_refl _)).snoc (T := tabOf Tryz.prog NT0) (t := 66) (y := p) (cap := .kn 1) flatP (by kernel_rfl) (by kernel_rfl) (zv := .agg [.lit (.int .i64 0), .lit (.int .i64 0), .lit (.int .i64 0), .lit (.int .i64 0)]) (by kernel_rfl) (by' := 32) (by kernel_rfl) rfl (by decide) (by decide) (at_push_n _ _) (RPool_is.2 ⟨rfl, hop⟩) (lenP2 hlen hlt hN sb).1 (lenP2 hlen hlt hN sb).2 (by rw [n_push]; omega)) ?_
          rintro s1 hC1 ⟨oC1, fC1⟩
          have fr1 : Fr hA s hC1 s1 := (Fr.ext eB1).trans fC1
          have t1 := (oC1.toSl (F := fun _ => True) (fun _ _ => trivial)).isSl
          have u1 := (oC1.toSl (F := fun _ => True) (fun _ _ => trivial)).one
          have he1 : Ext h4.n h4 hC1 := heA.trans (fr1.toExtE oA (by omega))
          obtain ⟨X1, -⟩ := fr1.box XA (ho.apart (Nat.le_refl _))
          have LX1 := ld_at (T := tabOf Tryz.prog NT0) X1
          have lX1 := at_lt X1
          have B1' := (he1.2 _ (by omega)).trans B0
          have LB1' := ld_at (T := tabOf Tryz.prog NT0) B1'
          have lB1' := at_lt B1'
          have ln1 := he1.1
          have cqe : (x.id == p.id) = false := by simp [ceq]
          simp only [core, zrA, zrS, zrM, zrL, zrE, reduceCtorEq, zrD, ziE, ziL, ziN, t1, u1, cqe, LX1, lX1, LB1', lB1', hn, g2, g3, g4, g12, g13, g14, g5, g6, hlt, hc, hld, hld0, hwi, s3, d3, t1, LXA, lXA, LBA, lBA]
          have eB2 : Ext hC1.n hC1 (hC1.push (.cells (pC' x) 102)) := (Ext.refl _ _).push _ (Nat.le_refl _)
          refine WOp_app ((oC1.ext eB2 (Nat.le_refl _)).snoc (T := tabOf Tryz.prog NT0) (t := 66) (y := x) (cap := .kn 1) flatP (by kernel_rfl) (by kernel_rfl) (zv := .agg [.lit (.int .i64 0), .lit (.int .i64 0), .lit (.int .i64 0), .lit (.int .i64 0)]) (by kernel_rfl) (by' := 32) (by kernel_rfl) rfl (by decide) (by decide) (at_push_n _ _) (RPool_is.2 ⟨rfl, okx⟩) (lenP3 (b := p) (hnB rfl) hlt hN sb).1 (lenP3 (b := p) (hnB rfl) hlt hN sb).2 (by rw [n_push]; omega)) ?_
          rintro s2 hC2 ⟨oC2, fC2⟩
          have fr2 : Fr hC1 s1 hC2 s2 := (Fr.ext eB2).trans fC2
          have t2 := (oC2.toSl (F := fun _ => True) (fun _ _ => trivial)).isSl
          have u2 := (oC2.toSl (F := fun _ => True) (fun _ _ => trivial)).one
          have he2 : Ext h4.n h4 hC2 := he1.trans (fr2.toExtE oC1 (by omega))
          simp only [core, zrA, zrS, zrM, zrL, zrE, reduceCtorEq, zrD, ziE, ziL, ziN, t2, u2, hn, g2, g3, g4, g12, g13, g14, g5, g6, hlt, hc, hld, hld0, hwi, s3, d3, t1, LXA, lXA, LBA, lBA]
          refine ih _ _ ⟨⟨_, oC2, he2, by simp only [core, zrA, zrS, zrM, zrL, zrE, reduceCtorEq, zrD, ziE, ziL, ziN, hn, g2, g3, g4, g12, g13, g14, g5, g6]⟩, by simp only [core, zrA, zrS, zrM, zrL, zrE, reduceCtorEq, zrD, ziE, ziL, ziN, hn, g2, g3, g4, g12, g13, g14, g5, g6], ?_⟩
          simp only [core, zrA, zrS, zrM, zrL, zrE, reduceCtorEq, zrD, ziE, ziL, ziN, hn, g2, g3, g4, g12, g13, g14, g5, g6]
      · skip
        have hst : pdStep p (L, false) x = (L ++ [x], false) := by
          unfold pdStep
          simp [cge]
        rw [hst] at ih
        simp only [core, zrA, zrS, zrM, zrL, zrE, reduceCtorEq, zrD, ziE, ziL, ziN, ← hhA, cge, hn, g2, g3, g4, g12, g13, g14, g5, g6, hlt, hc, hld, hld0, hwi, s3, d3, t1, LXA, lXA, LBA, lBA]
        have eB2 : Ext hA.n hA (hA.push (.cells (pC' x) 102)) := (Ext.refl _ _).push _ (Nat.le_refl _)
        refine WOp_app ((oA.ext eB2 (Nat.le_refl _)).snoc (T := tabOf Tryz.prog NT0) (t := 66) (y := x) (cap := .kn 1) flatP (by kernel_rfl) (by kernel_rfl) (zv := .agg [.lit (.int .i64 0), .lit (.int .i64 0), .lit (.int .i64 0), .lit (.int .i64 0)]) (by kernel_rfl) (by' := 32) (by kernel_rfl) rfl (by decide) (by decide) (at_push_n _ _) (RPool_is.2 ⟨rfl, okx⟩) (lenP2 hlen hlt hN sb).1 (lenP2 hlen hlt hN sb).2 (by rw [n_push]; omega)) ?_
        rintro s2 hC2 ⟨oC2, fC2⟩
        have fr2 : Fr hA s hC2 s2 := (Fr.ext eB2).trans fC2
        have t2 := (oC2.toSl (F := fun _ => True) (fun _ _ => trivial)).isSl
        have u2 := (oC2.toSl (F := fun _ => True) (fun _ _ => trivial)).one
        have he2 : Ext h4.n h4 hC2 := heA.trans (fr2.toExtE oA (by omega))
        simp only [core, zrA, zrS, zrM, zrL, zrE, reduceCtorEq, zrD, ziE, ziL, ziN, t2, u2, hn, g2, g3, g4, g12, g13, g14, g5, g6, hlt, hc, hld, hld0, hwi, s3, d3, t1, LXA, lXA, LBA, lBA]
        refine ih _ _ ⟨⟨_, oC2, he2, by simp only [core, zrA, zrS, zrM, zrL, zrE, reduceCtorEq, zrD, ziE, ziL, ziN, hn, g2, g3, g4, g12, g13, g14, g5, g6]⟩, by simp only [core, zrA, zrS, zrM, zrL, zrE, reduceCtorEq, zrD, ziE, ziL, ziN, hn, g2, g3, g4, g12, g13, g14, g5, g6], ?_⟩
        simp only [core, zrA, zrS, zrM, zrL, zrE, reduceCtorEq, zrD, ziE, ziL, ziN, hn, g2, g3, g4, g12, g13, g14, g5, g6]
  · rintro t h hc ⟨⟨s, ho, he, g5⟩, g6, hn, g2, g3, g4, g12, g13, g14⟩
    rw [hN, List.take_length] at ho g6
    have hlen : (m.pools.foldl (pdStep p) ([], false)).2 = false → (m.pools.foldl (pdStep p) ([], false)).1.length ≤ m.pools.length := fun hf => by
      have h1 := pdFold_len (p := p) m.pools ([], false)
      rw [hf] at h1
      have h4 : nB false = 1 := rfl
      simp only [List.length_nil] at h1
      omega
    have hwb : insP m.pools p = if (m.pools.foldl (pdStep p) ([], false)).2 then (m.pools.foldl (pdStep p) ([], false)).1 else (m.pools.foldl (pdStep p) ([], false)).1 ++ [p] := (pdL_ins _ _).symm
    obtain ⟨S, hS⟩ : ∃ S, S = m.pools.foldl (pdStep p) ([], false) := ⟨_, rfl⟩
    rw [← hS] at ho g6 hlen hwb
    clear hS
    obtain ⟨L, put⟩ := S
    simp only at ho g6 hlen hwb
    have E1 : Ext H.n H h := E4.trans (he.mono E4.1)
    have t1 := (ho.toSl (F := fun _ => True) (fun _ _ => trivial)).isSl
    have t2 := (ho.toSl (F := fun _ => True) (fun _ _ => trivial)).one
    have PH := (he.2 _ (by omega)).trans P4
    have BH := (he.2 _ (by omega)).trans B4
    have ZH := (he.2 _ (by omega)).trans Z4
    have LP := ld_at (T := tabOf Tryz.prog NT0) PH
    have LB := ld_at (T := tabOf Tryz.prog NT0) BH
    have lPH := at_lt PH
    have lBH := at_lt BH
    have lZH := at_lt ZH
    have lhn := he.1
    have hne : ¬ H.n = H.n + 2 := by omega
    -- the end
    have fin : ∀ (h' : AH) (s' : AV) (X Y : AB), Ext h4.n h4 h' → OwnE RPool h4.n h' s' 102 (insP m.pools p) →
        Ext H.n H ((h'.put H.n X).put (H.n + 2) Y) ∧ MpAt (fun b => H.n ≤ b) ((h'.put H.n X).put (H.n + 2) Y) { m with pools := insP m.pools p } vo3 s' rb := by
      intro h' s' X Y he' hs'
      refine ⟨((E4.trans (he'.mono E4.1)).put _ (Nat.le_refl _)).put _ (by omega), ?_, ?_, ?_⟩
      · exact (((own4.o.ext he' (Nat.le_refl _)).put_ap (own4.o.apartLt (by omega))).put_ap (own4.o.apartLt (by omega))).toSl fun b hb => by omega
      · exact ((hs'.put_ap (hs'.apartLt (by omega))).put_ap (hs'.apartLt (by omega))).toSl fun b hb => by omega
      · exact (own4.b.ext he' (Nat.le_refl _)).lift fun b hb _ => ⟨by rw [at_put_ne _ (by omega), at_put_ne _ (by omega)], by omega⟩
    cases put with
    | true =>
      simp only [core, zrA, zrS, zrM, zrL, zrE, reduceCtorEq, zrD, ziE, ziL, ziN, hn, g2, g3, g4, g12, g13, g14, g5, g6, hc, s3, d3, t1, t2, LP, LB, lPH, lBH, PH, ZH, lZH, w1, w2, w3, hne]
      obtain ⟨f1, f2⟩ := fin h s _ _ he (by rw [hwb, if_pos rfl]; exact ho)
      exact ⟨f1, vo3, s, rb, rfl, f2⟩
    | false =>
      simp only [core, zrA, zrS, zrM, zrL, zrE, reduceCtorEq, zrD, ziE, ziL, ziN, hn, g2, g3, g4, g12, g13, g14, g5, g6, hc, s3, d3, t1, t2, LP, LB, lPH, lBH, PH, ZH, lZH, w1, w2, w3, hne]
      have eB : Ext h.n h (h.push (.cells (pC' p) 102)) := (Ext.refl _ _).push _ (Nat.le_refl _)
      refine WOp_app ((ho.ext eB (Nat.le_refl _)).snoc (T := tabOf Tryz.prog NT0) (t := 66) (y := p) (cap := .kn 1) flatP (by kernel_rfl) (by kernel_rfl) (zv := .agg [.lit (.int .i64 0), .lit (.int .i64 0), .lit (.int .i64 0), .lit (.int .i64 0)]) (by kernel_rfl) (by' := 32) (by kernel_rfl) rfl (by decide) (by decide) (at_push_n _ _) (RPool_is.2 ⟨rfl, hop⟩) (lenP4 (hlen rfl) sb).1 (lenP4 (hlen rfl) sb).2 (by rw [n_push]; omega)) ?_
      rintro s2 hC ⟨oC, fC⟩
      have fr : Fr h s hC s2 := (Fr.ext eB).trans fC
      have heC : Ext h4.n h4 hC := he.trans (fr.toExtE ho lhn)
      have t3 := (oC.toSl (F := fun _ => True) (fun _ _ => trivial)).isSl
      have t4 := (oC.toSl (F := fun _ => True) (fun _ _ => trivial)).one
      have PC := (heC.2 _ (by omega)).trans P4
      have ZC := (heC.2 _ (by omega)).trans Z4
      have LPC := ld_at (T := tabOf Tryz.prog NT0) PC
      have lPC := at_lt PC
      have lZC := at_lt ZC
      simp only [core, zrA, zrS, zrM, zrL, zrE, reduceCtorEq, zrD, ziE, ziL, ziN, hn, g2, g3, g4, g12, g13, g14, g5, g6, t3, t4, PC, LPC, lPC, ZC, lZC, w1, w2, w3, hne]
      obtain ⟨f1, f2⟩ := fin hC s2 _ _ heC (by rw [hwb, if_neg (by simp)]; exact oC)
      exact ⟨f1, vo3, s2, rb, rfl, f2⟩
  · refine ⟨⟨_, .inl OwnL.nil, Ext.refl _ _, by simp only [core, zrA, zrS, zrM, zrL, zrE, reduceCtorEq, zrD, ziE, ziL, ziN]⟩, ?_, ?_⟩
    · simp only [core, zrA, zrS, zrM, zrL, zrE, reduceCtorEq, zrD, ziE, ziL, ziN]
      rfl
    · simp only [core, zrA, zrS, zrM, zrL, zrE, reduceCtorEq, zrD, ziE, ziL, ziN]
      rfl
end Go.Proofs.YtfbpjobjdmmgiaaGreat.Ex
end
