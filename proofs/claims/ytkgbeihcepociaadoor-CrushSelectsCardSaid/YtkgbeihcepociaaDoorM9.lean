/- Part 9 of the proof: Dn, Se1, Par, May, Mpc, Chk, Ck2, Rtc, Rtp, Wd8. -/
import Derived.Test.YtkgbeihcepociaaDoorM8
section

set_option linter.unusedSimpArgs false
set_option linter.unusedVariables false
set_option maxRecDepth 10000
set_option maxHeartbeats 4000000
namespace Go.Proofs.YtkgbeihcepociaaDoor.Ex
open Go
theorem good_bkt {m : MapD} (hg : goodF m = true) {id : Int} {b : BktD} (hb : bucketF m id = some b) :
    b ∈ m.buckets ∧ b.id = id ∧ 1 ≤ b.kind ∧ b.kind ≤ 3 ∧ b.id < 0 ∧ b.items.length = b.weights.length ∧ (∀ i, i < b.items.length → 0 ≤ kindF m (b.items.getD i 0) ∧ kindF m (b.items.getD i 0) < b.kind) ∧ ∀ i, i < b.weights.length → wOk (b.weights.getD i 0) = true := by
  have hm := List.mem_of_find?_eq_some hb
  have hid := List.find?_some hb
  obtain ⟨j, hj, hjb⟩ := List.mem_iff_getElem.1 hm
  have hx : m.buckets[j]? = some b := by rw [List.getElem?_eq_getElem hj, hjb]
  unfold goodF at hg
  simp only [Bool.and_eq_true] at hg
  have := List.all_eq_true.1 hg.2 j (List.mem_range.2 hj)
  rw [getD_of hx] at this
  unfold bOk hdOk at this
  simp only [Bool.and_eq_true, decide_eq_true_eq, beq_iff_eq] at this
  obtain ⟨⟨⟨⟨⟨⟨a1, a2⟩, a3⟩, a4⟩, a5⟩, a6⟩, a7⟩ := this
  refine ⟨hm, by simpa using hid, a3, a4, a2, a5, fun i hi => ?_, fun i hi => ?_⟩
  · have := List.all_eq_true.1 a7 i (List.mem_range.2 hi)
    unfold itemOk at this
    simp only [Bool.and_eq_true, decide_eq_true_eq] at this
    exact this.1
  · exact List.all_eq_true.1 a6 _ (List.mem_of_getElem? (getD_some' 0 hi))
theorem kind_bkt {m : MapD} {id : Int} (hid : id < 0) {b : BktD} (hb : bucketF m id = some b) : kindF m id = b.kind := by
  unfold kindF bucketG
  rw [if_neg (by omega), hb]
  rfl
def downF (m : MapD) (k x r : Int) : Nat → Int → Option Int
  | 0, _ => none
  | n + 1, at' => match bucketF m at' with
    | none => none
    | some b => match chooseF b.items b.weights x r with
      | none => none
      | some i => if 0 ≤ b.items.getD i 0 ∨ kindF m (b.items.getD i 0) = k then some (b.items.getD i 0) else downF m k x r n (b.items.getD i 0)
def optV : Option Int → AV
  | some k => pairV k true
  | none => pairV 0 false
theorem down_x {F : Nat → Prop} {H : AH} {m : MapD} {vo vp vb : AV} (at0 k x r : Int) (hm : MpAt F H m vo vp vb) (hok : OkM m) (hg : goodF m = true) :
    WC Tryd.prog (tabOf Tryd.prog NT0) S0 25 [mpV m vo vp vb, .lit (.int .i64 at0), .lit (.int .i64 k), .lit (.int .u32 x), .lit (.int .i64 r)] H fun v h' => Ext H.n H h' ∧ v = optV (downF m k x r 4 at0) := by
  refine WC_fn Tryd.func25 rfl rfl ?_
  obtain ⟨hl, hbs, hit⟩ := id hok
  have o1 := hm.o.one
  have o2 := hm.p.one
  have o3 := hm.b.one
  simp only [core, Nat.reduceAdd, Nat.reduceSub, Nat.reduceMul, Nat.reduceLT, Nat.reduceEqDiff, reduceCtorEq, Nat.reduceLeDiff, Int.reduceLE, Int.reduceLT, Int.reduceToNat, Tryd.ntmps25, mpV, o1, o2, o3]
  obtain ⟨h1, hh1⟩ : ∃ h1, h1 = H.push (.cells [.lit (.int .i64 m.epoch), vo, vp, vb, .lit (.int .i64 m.leaf)] 26) := ⟨_, rfl⟩
  have E0 : Ext H.n H h1 := hh1 ▸ (Ext.refl _ _).push _ (Nat.le_refl _)
  have A0 : h1.at H.n = some (.cells [.lit (.int .i64 m.epoch), vo, vp, vb, .lit (.int .i64 m.leaf)] 26) := hh1 ▸ at_push_n _ _
  have n1 : h1.n = H.n + 1 := by rw [hh1, n_push]
  rw [← hh1]
  clear hh1
  refine WB_ind (fun (n : Nat) t h => ∃ a, Ext h1.n h1 h ∧ 1 ≤ n ∧ (∀ b, bucketF m a = some b → b.kind < (n : Int)) ∧ downF m k x r n a = downF m k x r 4 at0 ∧ t.n = 50 ∧ t.get 1 = .lit (.int .i64 a) ∧ t.get 2 = .lit (.int .i64 k) ∧ t.get 3 = .lit (.int .u32 x) ∧ t.get 4 = .lit (.int .i64 r) ∧ t.get 5 = .ptr H.n 0) (fun n => n) ?_ 4 _ _ ?_
  · rintro n t h ⟨a, he, hn1, hkd, hD, hn, g1, g2, g3, g4, g5⟩ ih
    obtain ⟨n, rfl⟩ : ∃ n', n = n' + 1 := ⟨n - 1, by omega⟩
    have E1 : Ext H.n H h := E0.trans (he.mono (by omega))
    have A1 := (he.2 _ (by omega)).trans A0
    have l1 : H.n < h.n := at_lt A1
    have LA1 := ld_at (T := tabOf Tryd.prog NT0) A1
    simp only [core, Nat.reduceAdd, Nat.reduceSub, Nat.reduceMul, Nat.reduceLT, Nat.reduceEqDiff, reduceCtorEq, Nat.reduceLeDiff, Int.reduceLE, Int.reduceLT, Int.reduceToNat, hn, g1, g2, g3, g4, g5, LA1, l1]
    refine (bucketR_x a (hm.ext E1 (Nat.le_refl _)) hl).mono ?_
    rintro _ h2 ⟨e2, va, vw, rfl, b1, b2⟩
    have o4 := b1.one
    have o5 := b2.one
    have E2 := E1.step e2
    rw [downF] at hD
    cases hb : bucketF m a with
    | none =>
      rw [hb] at hD
      simp only [core, Nat.reduceAdd, Nat.reduceSub, Nat.reduceMul, Nat.reduceLT, Nat.reduceEqDiff, reduceCtorEq, Nat.reduceLeDiff, Int.reduceLE, Int.reduceLT, Int.reduceToNat, hn, g1, g2, g3, g4, g5, bktV, o4, o5, Option.isSome_none]
      refine ⟨E2.push _ E2.1, ?_⟩
      rw [← hD]
      rfl
    | some b =>
      have hG : bucketG m a = b := by unfold bucketG; rw [hb]; rfl
      rw [hG] at b1 b2
      rw [hb] at hD
      simp only at hD
      obtain ⟨u1, u2, u3, u4, u5, u6, u7, u8⟩ := good_bkt hg hb
      obtain ⟨k1, k2⟩ := hbs b u1
      unfold Sm at k1
      have hkb := hkd b hb
      simp only [core, Nat.reduceAdd, Nat.reduceSub, Nat.reduceMul, Nat.reduceLT, Nat.reduceEqDiff, reduceCtorEq, Nat.reduceLeDiff, Int.reduceLE, Int.reduceLT, Int.reduceToNat, hn, g1, g2, g3, g4, g5, bktV, o4, o5, hG]
      obtain ⟨h3, hh3⟩ : ∃ h3, h3 = h2.push (.cells [.lit (.int .i64 b.id), .lit (.int .i64 b.kind), va, vw] 47) := ⟨_, rfl⟩
      have e3 : Ext h2.n h2 h3 := hh3 ▸ (Ext.refl _ _).push _ (Nat.le_refl _)
      have P3 : h3.at h2.n = some (.cells [.lit (.int .i64 b.id), .lit (.int .i64 b.kind), va, vw] 47) := hh3 ▸ at_push_n h2 _
      have LP3 := ld_at (T := tabOf Tryd.prog NT0) P3
      have l3 := at_lt P3
      rw [← hh3]
      clear hh3
      have E3 := E2.step e3
      have b3 := b1.ext e3 (Nat.le_refl _)
      have b4 := b2.ext e3 (Nat.le_refl _)
      refine (chooseR_x x r b3 b4 (by omega)).mono ?_
      rintro _ h4 ⟨rfl, rfl⟩
      cases hch : chooseF b.items b.weights x r with
      | none =>
        rw [hch] at hD
        simp only [core, Nat.reduceAdd, Nat.reduceSub, Nat.reduceMul, Nat.reduceLT, Nat.reduceEqDiff, reduceCtorEq, Nat.reduceLeDiff, Int.reduceLE, Int.reduceLT, Int.reduceToNat, hn, g1, g2, g3, g4, g5, chooseV, pairV]
        refine ⟨E3, ?_⟩
        rw [← hD]
        rfl
      | some i =>
        obtain ⟨hi, -⟩ := chooseF_lt hch
        obtain ⟨q1, q2⟩ := u7 i hi
        rw [hch] at hD
        have c1 := b3.isSl
        have c2 := b3.lenD
        have hlda := b3.int (T := tabOf Tryd.prog NT0) (e := 3) (by kernel_rfl) (by kernel_rfl) hi
        have A3 := (e3.2 _ (by have := e2.1; omega)).trans ((e2.2 _ l1).trans A1)
        have LA3 := ld_at (T := tabOf Tryd.prog NT0) A3
        have l4 := at_lt A3
        simp only [core, Nat.reduceAdd, Nat.reduceSub, Nat.reduceMul, Nat.reduceLT, Nat.reduceEqDiff, reduceCtorEq, Nat.reduceLeDiff, Int.reduceLE, Int.reduceLT, Int.reduceToNat, hn, g1, g2, g3, g4, g5, chooseV, pairV, LP3, l3, c1, c2, hi, hlda]
        obtain ⟨w, hw⟩ : ∃ w, w = b.items.getD i 0 := ⟨_, rfl⟩
        simp only at hD
        rw [← hw] at hD q1 q2 ⊢
        by_cases hw0 : 0 ≤ w
        · rw [if_pos (.inl hw0)] at hD
          simp only [core, Nat.reduceAdd, Nat.reduceSub, Nat.reduceMul, Nat.reduceLT, Nat.reduceEqDiff, reduceCtorEq, Nat.reduceLeDiff, Int.reduceLE, Int.reduceLT, Int.reduceToNat, hn, g1, g2, g3, g4, g5, hw0]
          refine ⟨E3, ?_⟩
          rw [← hD]
          rfl
        · simp only [core, Nat.reduceAdd, Nat.reduceSub, Nat.reduceMul, Nat.reduceLT, Nat.reduceEqDiff, reduceCtorEq, Nat.reduceLeDiff, Int.reduceLE, Int.reduceLT, Int.reduceToNat, hn, g1, g2, g3, g4, g5, hw0, LA3, l4]
          refine (kind_x w (hm.ext E3 (Nat.le_refl _)) hl).mono ?_
          rintro _ h5 ⟨e5, rfl⟩
          have E5 := E3.step e5
          simp only [core, Nat.reduceAdd, Nat.reduceSub, Nat.reduceMul, Nat.reduceLT, Nat.reduceEqDiff, reduceCtorEq, Nat.reduceLeDiff, Int.reduceLE, Int.reduceLT, Int.reduceToNat, hn, g1, g2, g3, g4, g5]
          refine ⟨fun hq => ?_, fun hq => ?_⟩
          · rw [if_pos (.inr (eq_of_beq hq))] at hD
            refine ⟨E5, ?_⟩
            rw [← hD]
            rfl
          · rw [if_neg (by rintro (h9 | h9); exact hw0 h9; rw [h9] at hq; simp at hq)] at hD
            refine ih n _ _ ⟨w, ((he.step e2).step e3).step e5, ?_, ?_, hD, ?_⟩ (by omega)
            · omega
            · intro b' hb'
              have := kind_bkt (by omega) hb'
              omega
            · simp only [core, Nat.reduceAdd, Nat.reduceSub, Nat.reduceMul, Nat.reduceLT, Nat.reduceEqDiff, reduceCtorEq, Nat.reduceLeDiff, Int.reduceLE, Int.reduceLT, Int.reduceToNat, hn, g1, g2, g3, g4, g5]
  · refine ⟨at0, Ext.refl _ _, by decide, fun b hb => by have := (good_bkt hg hb).2.2.2.1; omega, rfl, ?_⟩
    simp only [core, Nat.reduceAdd, Nat.reduceSub, Nat.reduceMul, Nat.reduceLT, Nat.reduceEqDiff, reduceCtorEq, Nat.reduceLeDiff, Int.reduceLE, Int.reduceLT, Int.reduceToNat]
end Go.Proofs.YtkgbeihcepociaaDoor.Ex
end

section

set_option linter.unusedSimpArgs false
set_option linter.unusedVariables false
set_option maxRecDepth 10000
set_option maxHeartbeats 4000000
namespace Go.Proofs.YtkgbeihcepociaaDoor.Ex
open Go
/-- One try: the osd, and the bucket that it is to have alone. -/
def tryR (m : MapD) (x root : Int) (s : List Int × List Int) (r : Int) : Option (Int × Int) := match downF m m.leaf x r 4 root with
  | none => none
  | some d => if s.2.contains d then none else match (if d < 0 then downF m 0 x r 4 d else some d) with
    | none => none
    | some o => if !mayF m o x || s.1.contains o then none else some (o, d)
def firstR (m : MapD) (x root : Int) (s : List Int × List Int) (k : Nat) : Nat → Option (Int × Int)
  | 0 => none
  | t + 1 => match firstR m x root s k t with
    | some y => some y
    | none => tryR m x root s ((k + t : Nat) : Int)
def copyR (m : MapD) (x root : Int) (s : List Int × List Int) (k : Nat) : List Int × List Int := match firstR m x root s k 50 with
  | some (o, d) => (s.1 ++ [o], s.2 ++ [d])
  | none => s
def selN (m : MapD) (x root : Int) : Nat → List Int × List Int
  | 0 => ([], [])
  | k + 1 => copyR m x root (selN m x root k) k
def cntF (n : Int) : Nat := if 8 < n then 8 else n.toNat
def selectF (m : MapD) (x n : Int) : List Int := if goodF m then (match rootsR m with
  | [] => []
  | root :: _ => (selN m x root (cntF n)).1) else []
theorem selN_len (m : MapD) (x root : Int) : ∀ k, (selN m x root k).1.length ≤ k ∧ (selN m x root k).2.length ≤ k
  | 0 => ⟨Nat.le_refl 0, Nat.le_refl 0⟩
  | k + 1 => by
    obtain ⟨h1, h2⟩ := selN_len m x root k
    unfold selN copyR
    split
    · simp; omega
    · omega
theorem firstR_le {m : MapD} {x root : Int} {s : List Int × List Int} {k i : Nat} {y : Int × Int} (h : firstR m x root s k i = some y) : ∀ j, i ≤ j → firstR m x root s k j = some y
  | 0, hj => by
    have : i = 0 := by omega
    subst this
    exact h
  | j + 1, hj => by
    by_cases hi : i = j + 1
    · subst hi; exact h
    · rw [firstR, firstR_le h j (by omega)]
theorem firstR_zero {m : MapD} {x root : Int} {s : List Int × List Int} {k : Nat} : firstR m x root s k 0 = none := rfl
theorem firstR_next {m : MapD} {x root : Int} {s : List Int × List Int} {k t : Nat} (h : firstR m x root s k t = none) : firstR m x root s k (t + 1) = tryR m x root s ((k + t : Nat) : Int) := by
  rw [firstR, h]
attribute [irreducible] firstR
theorem selN_some {m : MapD} {x root o d : Int} {k i : Nat} (h : firstR m x root (selN m x root k) k i = some (o, d)) (hi : i ≤ 50) : selN m x root (k + 1) = ((selN m x root k).1 ++ [o], (selN m x root k).2 ++ [d]) := by
  have := firstR_le h 50 hi
  rw [selN]
  unfold copyR
  rw [this]
theorem selN_none {m : MapD} {x root : Int} {k : Nat} (h : firstR m x root (selN m x root k) k 50 = none) : selN m x root (k + 1) = selN m x root k := by
  rw [selN]
  unfold copyR
  rw [h]
theorem down_i64 {F : Nat → Prop} {H : AH} {m : MapD} {vo vp vb : AV} {k x r : Int} (hm : MpAt F H m vo vp vb) : ∀ n a d, downF m k x r n a = some d → I64 d
  | 0, a, d, h => by cases h
  | n + 1, a, d, h => by
    unfold downF at h
    cases hb : bucketF m a with
    | none => rw [hb] at h; cases h
    | some b =>
    rw [hb] at h
    simp only at h
    cases hc : chooseF b.items b.weights x r with
    | none => rw [hc] at h; cases h
    | some i =>
    rw [hc] at h
    simp only at h
    split at h
    · cases h
      have hbm := List.mem_of_find?_eq_some hb
      obtain ⟨j, hj, hjb⟩ := List.mem_iff_getElem.1 hbm
      have hx : m.buckets[j]? = some b := by rw [List.getElem?_eq_getElem hj, hjb]
      obtain ⟨c, hc', _⟩ := hm.b.atE (T := tabOf Tryd.prog NT0) (Ext.refl _ _) (z := 4) rfl hx
      obtain ⟨va, vw, rfl, hi1, _⟩ := RBkt_is.1 hc'
      refine hi1.i64 i ?_
      have hq := chN_le b.items b.weights x r b.items.length
      unfold chooseF at hc
      split at hc
      · split at hc
        · have hc := Option.some.inj hc
          omega
        · cases hc
      · cases hc
    · exact down_i64 hm n _ d h
/-- Two own slices lie in two blocks. -/
def Disj (u v : AV) : Prop := ∀ b o n c o' n' c', u = .sl b o n c → v = .sl b o' n' c' → False
theorem Disj.nil_l {v : AV} : Disj (.lit (.slice none 0 0)) v := fun _ _ _ _ _ _ _ h _ => by cases h
theorem Disj.symm {u v : AV} (h : Disj u v) : Disj v u := fun b o n c o' n' c' h1 h2 => h b o' n' c' o n c h2 h1
theorem Disj.apart {u v : AV} (h : Disj u v) {b o n : Nat} {c : Cap} (hv : v = .sl b o n c) : Apart u b := fun o' n' c' hu => h b o' n' c' o n c hu hv
theorem OwnL.other {α : Type} {R : Rep α} {n0 : Nat} {h h' : AH} {u v s : AV} {e : TypeId} {xs : List α} (ho : OwnL R (fun _ => False) n0 h v e xs) (hd : Disj u v) (hk : ∀ b, b < h.n → Apart u b → h'.at b = h.at b ∧ Apart s b) : OwnL R (fun _ => False) n0 h' v e xs ∧ Disj s v := by
  have key : ∀ b off n cap, v = .sl b off n cap → b < h.n := fun b off n cap hv => by
    obtain ⟨L, h1, h2⟩ := ho
    rcases h1.2 with ⟨hh, _⟩ | ⟨p, hh, hp, hat⟩
    · rw [hh] at hv; cases hv
    · rw [hh] at hv; cases hv; exact at_lt hat
  refine ⟨ho.lift (fun b off n cap hv => (hk b (key _ _ _ _ hv) (hd.apart hv)).1) (fun b hb => hb.elim), fun b o n c o' n' c' hs hv => ?_⟩
  exact (hk b (key _ _ _ _ hv) (hd.apart hv)).2 _ _ _ hs
theorem selectR_x {F : Nat → Prop} {H : AH} {m : MapD} {vo vp vb : AV} (x n : Int) (hm : MpAt F H m vo vp vb) (hok : OkM m) (hlo : Sm 40 m.osds) :
    WC Tryd.prog (tabOf Tryd.prog NT0) S0 11 [mpV m vo vp vb, .lit (.int .u32 x), .lit (.int .i64 n)] H fun v h' => Ext H.n H h' ∧ IsSl RInt (fun b => H.n ≤ b) h' v (selectF m x n) := by
  refine WC_fn Tryd.func11 rfl rfl ?_
  have o1 := hm.o.one
  have o2 := hm.p.one
  have o3 := hm.b.one
  have i1 := hm.o.isSl
  have i2 := hm.p.isSl
  have i3 := hm.b.isSl
  have EP : ∀ x, Ext H.n H (H.push x) := fun x => (Ext.refl _ _).push _ (Nat.le_refl _)
  simp only [core, Nat.reduceAdd, Nat.reduceSub, Nat.reduceMul, Nat.reduceLT, Nat.reduceEqDiff, reduceCtorEq, Nat.reduceLeDiff, Int.reduceLE, Int.reduceLT, Int.reduceToNat, Tryd.ntmps11, mpV, o1, o2, o3]
  obtain ⟨h1, hh1⟩ : ∃ h1, h1 = H.push (.cells [.lit (.int .i64 m.epoch), vo, vp, vb, .lit (.int .i64 m.leaf)] 26) := ⟨_, rfl⟩
  have E0 : Ext H.n H h1 := hh1 ▸ EP _
  have A0 : h1.at H.n = some (.cells [.lit (.int .i64 m.epoch), vo, vp, vb, .lit (.int .i64 m.leaf)] 26) := hh1 ▸ at_push_n _ _
  have n1 : h1.n = H.n + 1 := by rw [hh1, n_push]
  rw [← hh1]
  clear hh1
  refine (rootsR_x (hm.ext E0 (Nat.le_refl _)) hok).mono ?_
  rintro vr h2 ⟨e2, hr⟩
  have E2 := E0.step e2
  have A2 := (e2.2 _ (by omega)).trans A0
  have l2 := at_lt A2
  have LA2 := ld_at (T := tabOf Tryd.prog NT0) A2
  simp only [core, Nat.reduceAdd, Nat.reduceSub, Nat.reduceMul, Nat.reduceLT, Nat.reduceEqDiff, reduceCtorEq, Nat.reduceLeDiff, Int.reduceLE, Int.reduceLT, Int.reduceToNat, LA2, l2]
  refine (good_x (hm.ext E2 (Nat.le_refl _)) hok).mono ?_
  rintro _ h3 ⟨e3, rfl⟩
  have E3 := E2.step e3
  have A3 := (e3.2 _ l2).trans A2
  have l3 := at_lt A3
  have LA3 := ld_at (T := tabOf Tryd.prog NT0) A3
  have hr3 := hr.ext e3 (Nat.le_refl _)
  have r1 := hr3.isSl
  have r2 := hr3.lenD
  cases hg : goodF m with
  | false =>
    simp only [core, Nat.reduceAdd, Nat.reduceSub, Nat.reduceMul, Nat.reduceLT, Nat.reduceEqDiff, reduceCtorEq, Nat.reduceLeDiff, Int.reduceLE, Int.reduceLT, Int.reduceToNat]
    refine ⟨E3, ?_⟩
    unfold selectF
    rw [hg]
    exact IsSl.nil
  | true =>
  simp only [corem, WB_cond_s, put, ldL, WB_label, List.nil_append, List.drop_zero, List.take_zero, Nat.reduceAdd, Nat.reduceSub, Nat.reduceMul, Nat.reduceLT, Nat.reduceEqDiff, reduceCtorEq, Nat.reduceLeDiff, Int.reduceLE, Int.reduceLT, Int.reduceToNat, r1, r2, -WB_cond_s]
  rw [WB_cond_s]
  simp only [corem, WB_cond_s, put, ldL, WB_label, List.nil_append, List.drop_zero, List.take_zero, Nat.reduceAdd, Nat.reduceSub, Nat.reduceMul, Nat.reduceLT, Nat.reduceEqDiff, reduceCtorEq, Nat.reduceLeDiff, Int.reduceLE, Int.reduceLT, Int.reduceToNat, -WB_cond_s]
  cases hrt : rootsR m with
  | nil =>
    refine ⟨fun _ => ⟨E3, ?_⟩, fun hq => absurd hq (by decide)⟩
    unfold selectF
    rw [hg, hrt]
    exact IsSl.nil
  | cons root rest =>
  have hrl : (0 : Nat) < (rootsR m).length := by rw [hrt]; simp
  have hr0 : (rootsR m).getD 0 0 = root := by rw [hrt]; rfl
  have hsel : selectF m x n = (selN m x root (cntF n)).1 := by unfold selectF; rw [hg, hrt]; rfl
  rw [← hrt]
  refine ⟨fun hq => absurd (eq_of_beq hq) (by omega), fun hq0 => ?_⟩
  have hldr : ∀ h', Ext h3.n h3 h' → loadA (tabOf Tryd.prog NT0) h' 3 (slB vr) (slO vr) = some (.lit (.int .i64 root)) := fun h' e' => by
    have := (hr3.ext e' (Nat.le_refl _)).int (T := tabOf Tryd.prog NT0) (e := 3) (by kernel_rfl) (by kernel_rfl) hrl
    rw [hr0] at this
    exact this
  refine WB_cut (fun t h => h = h3 ∧ t.n = 93 ∧ t.get 1 = .lit (.int .u32 x) ∧ t.get 2 = .lit (.int .i64 (if 8 < n then 8 else n)) ∧ t.get 3 = .ptr H.n 0 ∧ t.get 7 = vr) (fun k' K' hk => ?_) ?_
  · rw [WB_cond_s]
    simp only [core, Nat.reduceAdd, Nat.reduceSub, Nat.reduceMul, Nat.reduceLT, Nat.reduceEqDiff, reduceCtorEq, Nat.reduceLeDiff, Int.reduceLE, Int.reduceLT, Int.reduceToNat]
    refine ⟨fun hq => hk _ _ ⟨rfl, ?_⟩, fun hq => hk _ _ ⟨rfl, ?_⟩⟩
    · simp only [core, Nat.reduceAdd, Nat.reduceSub, Nat.reduceMul, Nat.reduceLT, Nat.reduceEqDiff, reduceCtorEq, Nat.reduceLeDiff, Int.reduceLE, Int.reduceLT, Int.reduceToNat]
      rw [if_pos (of_decide_eq_true hq)]
    · simp only [core, Nat.reduceAdd, Nat.reduceSub, Nat.reduceMul, Nat.reduceLT, Nat.reduceEqDiff, reduceCtorEq, Nat.reduceLeDiff, Int.reduceLE, Int.reduceLT, Int.reduceToNat]
      rw [if_neg (of_decide_eq_false hq)]
  rintro t h ⟨rfl, hn, g1, g2, g3, g7⟩
  obtain ⟨nn, hnn⟩ : ∃ nn : Int, nn = (if 8 < n then 8 else n) := ⟨_, rfl⟩
  have hcnt : cntF n = nn.toNat := by unfold cntF; rw [hnn]; split <;> rfl
  have hnn8 : nn ≤ 8 := by rw [hnn]; split <;> omega
  rw [← hnn] at g2
  simp only [core, Nat.reduceAdd, Nat.reduceSub, Nat.reduceMul, Nat.reduceLT, Nat.reduceEqDiff, reduceCtorEq, Nat.reduceLeDiff, Int.reduceLE, Int.reduceLT, Int.reduceToNat, hn, g1, g2, g3, g7]
  refine WB_ind (fun (k : Nat) t h' => ∃ o8 o9, OwnL RInt (fun _ => False) h.n h' o8 3 (selN m x root k).1 ∧ OwnL RInt (fun _ => False) h.n h' o9 3 (selN m x root k).2 ∧ Disj o8 o9 ∧ Ext h.n h h' ∧ k ≤ nn.toNat ∧ t.n = 93 ∧ t.get 1 = .lit (.int .u32 x) ∧ t.get 2 = .lit (.int .i64 nn) ∧ t.get 3 = .ptr H.n 0 ∧ t.get 7 = vr ∧ t.get 8 = o8 ∧ t.get 9 = o9 ∧ t.get 10 = .lit (.int .i64 k)) (fun k => nn.toNat - k) ?_ 0 _ _ ?_
  · rintro k t h' ⟨o8, o9, ho8, ho9, hdj, he, hk8, hn, g1, g2, g3, g7, g8, g9, g10⟩ ih
    have hws : IntKind.i64.wrap ((k : Int) + 1) = ((k + 1 : Nat) : Int) := wrap_succ (n := 60) (by omega) (by omega)
    by_cases hlt : (k : Int) < nn
    · simp only [core, Nat.reduceAdd, Nat.reduceSub, Nat.reduceMul, Nat.reduceLT, Nat.reduceEqDiff, reduceCtorEq, Nat.reduceLeDiff, Int.reduceLE, Int.reduceLT, Int.reduceToNat, hn, g1, g2, g3, g7, g8, g9, g10, hlt]
      refine WB_for 50 (fun i t h'' => OwnL RInt (fun _ => False) h.n h'' o8 3 (selN m x root k).1 ∧ OwnL RInt (fun _ => False) h.n h'' o9 3 (selN m x root k).2 ∧ Ext h.n h h'' ∧ firstR m x root (selN m x root k) k i = none ∧ t.n = 93 ∧ t.get 1 = .lit (.int .u32 x) ∧ t.get 2 = .lit (.int .i64 nn) ∧ t.get 3 = .ptr H.n 0 ∧ t.get 7 = vr ∧ t.get 8 = o8 ∧ t.get 9 = o9 ∧ t.get 10 = .lit (.int .i64 k) ∧ t.get 32 = .lit (.int .i64 i)) ?_ ?_ _ _ ?_
      · rintro i t h'' hi hc ⟨ho8, ho9, he, hf, hn, g1, g2, g3, g7, g8, g9, g10, g32⟩ ih2
        have hc : ((i : Int) < 50) = True := by simp only [eq_iff_iff, iff_true]; omega
        have hws2 := wrap_succ hi (by omega)
        have hwk : IntKind.i64.wrap ((k : Int) + (i : Int)) = ((k + i : Nat) : Int) := (wrap_in (by omega) (by omega)).trans (by omega)
        have E4 := E3.step he
        have A4 := (he.2 _ l3).trans A3
        have l4 := at_lt A4
        have LA4 := ld_at (T := tabOf Tryd.prog NT0) A4
        have hld := hldr _ he
        have hf1 : firstR m x root (selN m x root k) k (i + 1) = tryR m x root (selN m x root k) ((k + i : Nat) : Int) := firstR_next hf
        simp only [core, Nat.reduceAdd, Nat.reduceSub, Nat.reduceMul, Nat.reduceLT, Nat.reduceEqDiff, reduceCtorEq, Nat.reduceLeDiff, Int.reduceLE, Int.reduceLT, Int.reduceToNat, hn, g1, g2, g3, g7, g8, g9, g10, g32, hc]
        rw [WB_regionD [0, 1, 2, 3, 4, 5, 6, 7, 8, 9, 10, 11, 12, 13, 14, 15] 57894498602201080953831723561861934525600930330085416820754349620958190370816 (by kernel_rfl)]
        repeat ((with_reducible refine WDM_cons ?_; simp only [dw1]; try simp only [dw2, Nat.reduceAdd, Nat.reduceMul, Nat.reduceShiftRight, Nat.reduceMod, Nat.reduceEqDiff]); simp only [core, Nat.reduceAdd, Nat.reduceSub, Nat.reduceMul, Nat.reduceLT, Nat.reduceEqDiff, reduceCtorEq, Nat.reduceLeDiff, Int.reduceLE, Int.reduceLT, Int.reduceToNat, cored, hn, g1, g2, g3, g7, g8, g9, g10, g32, LA4, l4, r1, r2, hrl, hld, hwk, i1, i2, i3])
        refine (down_x root m.leaf x _ (hm.ext E4 (Nat.le_refl _)) hok hg).mono ?_
        rintro _ h5 ⟨e5, rfl⟩
        have E5 := E4.step e5
        have A5 := (e5.2 _ l4).trans A4
        have l5 := at_lt A5
        have LA5 := ld_at (T := tabOf Tryd.prog NT0) A5
        have he5 := he.step e5
        have ho8 := ho8.ext e5 (Nat.le_refl _)
        have ho9 := ho9.ext e5 (Nat.le_refl _)
        obtain ⟨q1, q2⟩ := selN_len m x root k
        have v8 := ho8.toSl (F := fun _ => True) (fun _ _ => trivial) (fun _ _ => trivial)
        have v9 := ho9.toSl (F := fun _ => True) (fun _ _ => trivial) (fun _ _ => trivial)
        unfold tryR at hf1
        cases hdn : downF m m.leaf x ((k + i : Nat) : Int) 4 root with
        | none =>
          rw [hdn] at hf1
          repeat ((with_reducible refine WDM_cons ?_; simp only [dw1]; try simp only [dw2, Nat.reduceAdd, Nat.reduceMul, Nat.reduceShiftRight, Nat.reduceMod, Nat.reduceEqDiff]); simp only [core, Nat.reduceAdd, Nat.reduceSub, Nat.reduceMul, Nat.reduceLT, Nat.reduceEqDiff, reduceCtorEq, Nat.reduceLeDiff, Int.reduceLE, Int.reduceLT, Int.reduceToNat, cored, hn, g1, g2, g3, g7, g8, g9, g10, g32, optV, pairV])
          simp only [hws2]
          refine ih2 _ _ ⟨ho8, ho9, he5, hf1, ?_⟩
          simp only [core, Nat.reduceAdd, Nat.reduceSub, Nat.reduceMul, Nat.reduceLT, Nat.reduceEqDiff, reduceCtorEq, Nat.reduceLeDiff, Int.reduceLE, Int.reduceLT, Int.reduceToNat, hn, g1, g2, g3, g7, g8, g9, g10, g32]
        | some d =>
        rw [hdn] at hf1
        simp only at hf1
        repeat ((with_reducible refine WDM_cons ?_; simp only [dw1]; try simp only [dw2, Nat.reduceAdd, Nat.reduceMul, Nat.reduceShiftRight, Nat.reduceMod, Nat.reduceEqDiff]); simp only [corem, WB_cond_s, put, ldL, WB_label, List.nil_append, List.drop_zero, List.take_zero, Nat.reduceAdd, Nat.reduceSub, Nat.reduceMul, Nat.reduceLT, Nat.reduceEqDiff, reduceCtorEq, Nat.reduceLeDiff, Int.reduceLE, Int.reduceLT, Int.reduceToNat, cored, -WB_cond_s, hn, g1, g2, g3, g7, g8, g9, g10, g32, optV, pairV])
        refine (among8_x d v9 (by omega)).mono ?_
        rintro _ h6 ⟨rfl, rfl⟩
        cases hcd : (selN m x root k).2.contains d with
        | true =>
          rw [hcd, if_pos rfl] at hf1
          simp only [core, Nat.reduceAdd, Nat.reduceSub, Nat.reduceMul, Nat.reduceLT, Nat.reduceEqDiff, reduceCtorEq, Nat.reduceLeDiff, Int.reduceLE, Int.reduceLT, Int.reduceToNat, hn, g1, g2, g3, g7, g8, g9, g10, g32, hws2]
          refine ih2 _ _ ⟨ho8, ho9, he5, hf1, ?_⟩
          simp only [core, Nat.reduceAdd, Nat.reduceSub, Nat.reduceMul, Nat.reduceLT, Nat.reduceEqDiff, reduceCtorEq, Nat.reduceLeDiff, Int.reduceLE, Int.reduceLT, Int.reduceToNat, hn, g1, g2, g3, g7, g8, g9, g10, g32]
        | false =>
        rw [hcd, if_neg (by decide)] at hf1
        simp only [corem, WB_cond_s, put, ldL, WB_label, List.nil_append, List.drop_zero, List.take_zero, Nat.reduceAdd, Nat.reduceSub, Nat.reduceMul, Nat.reduceLT, Nat.reduceEqDiff, reduceCtorEq, Nat.reduceLeDiff, Int.reduceLE, Int.reduceLT, Int.reduceToNat, -WB_cond_s, hn, g1, g2, g3, g7, g8, g9, g10, g32]
        rw [WB_cond_s]
        simp only [corem, WB_cond_s, put, ldL, WB_label, List.nil_append, List.drop_zero, List.take_zero, Nat.reduceAdd, Nat.reduceSub, Nat.reduceMul, Nat.reduceLT, Nat.reduceEqDiff, reduceCtorEq, Nat.reduceLeDiff, Int.reduceLE, Int.reduceLT, Int.reduceToNat, -WB_cond_s, hn, g1, g2, g3, g7, g8, g9, g10, g32]
        obtain ⟨od, hod⟩ : ∃ od, od = (if d < 0 then downF m 0 x ((k + i : Nat) : Int) 4 d else some d) := ⟨_, rfl⟩
        rw [← hod] at hf1
        refine WB_cut (fun t h7 => Ext h6.n h6 h7 ∧ t.n = 93 ∧ t.get 1 = .lit (.int .u32 x) ∧ t.get 2 = .lit (.int .i64 nn) ∧ t.get 3 = .ptr H.n 0 ∧ t.get 7 = vr ∧ t.get 8 = o8 ∧ t.get 9 = o9 ∧ t.get 10 = .lit (.int .i64 k) ∧ t.get 32 = .lit (.int .i64 i) ∧ t.get 12 = .lit (.int .i64 d) ∧ t.get 13 = .lit (.bool od.isSome) ∧ t.get 14 = .lit (.int .i64 (od.getD 0))) (fun k' K' hk => ?_) ?_
        · by_cases hd0 : d < 0
          · rw [if_pos hd0] at hod
            simp only [core, Nat.reduceAdd, Nat.reduceSub, Nat.reduceMul, Nat.reduceLT, Nat.reduceEqDiff, reduceCtorEq, Nat.reduceLeDiff, Int.reduceLE, Int.reduceLT, Int.reduceToNat, hn, g1, g2, g3, g7, g8, g9, g10, g32, hd0, LA5, l5, hwk]
            refine (down_x d 0 x _ (hm.ext E5 (Nat.le_refl _)) hok hg).mono ?_
            rintro _ h7 ⟨e7, rfl⟩
            rw [← hod]
            cases od with
            | none =>
              simp only [core, Nat.reduceAdd, Nat.reduceSub, Nat.reduceMul, Nat.reduceLT, Nat.reduceEqDiff, reduceCtorEq, Nat.reduceLeDiff, Int.reduceLE, Int.reduceLT, Int.reduceToNat, hn, g1, g2, g3, g7, g8, g9, g10, g32, optV, pairV]
              refine hk _ _ ⟨e7, ?_⟩
              simp only [core, Nat.reduceAdd, Nat.reduceSub, Nat.reduceMul, Nat.reduceLT, Nat.reduceEqDiff, reduceCtorEq, Nat.reduceLeDiff, Int.reduceLE, Int.reduceLT, Int.reduceToNat, hn, g1, g2, g3, g7, g8, g9, g10, g32, Option.isSome_none, Option.getD_none]
            | some o =>
              simp only [core, Nat.reduceAdd, Nat.reduceSub, Nat.reduceMul, Nat.reduceLT, Nat.reduceEqDiff, reduceCtorEq, Nat.reduceLeDiff, Int.reduceLE, Int.reduceLT, Int.reduceToNat, hn, g1, g2, g3, g7, g8, g9, g10, g32, optV, pairV]
              refine hk _ _ ⟨e7, ?_⟩
              simp only [core, Nat.reduceAdd, Nat.reduceSub, Nat.reduceMul, Nat.reduceLT, Nat.reduceEqDiff, reduceCtorEq, Nat.reduceLeDiff, Int.reduceLE, Int.reduceLT, Int.reduceToNat, hn, g1, g2, g3, g7, g8, g9, g10, g32, Option.isSome_some, Option.getD_some]
          · rw [if_neg hd0] at hod
            simp only [core, Nat.reduceAdd, Nat.reduceSub, Nat.reduceMul, Nat.reduceLT, Nat.reduceEqDiff, reduceCtorEq, Nat.reduceLeDiff, Int.reduceLE, Int.reduceLT, Int.reduceToNat, hn, g1, g2, g3, g7, g8, g9, g10, g32, hd0]
            refine hk _ _ ⟨Ext.refl _ _, ?_⟩
            subst hod
            simp only [core, Nat.reduceAdd, Nat.reduceSub, Nat.reduceMul, Nat.reduceLT, Nat.reduceEqDiff, reduceCtorEq, Nat.reduceLeDiff, Int.reduceLE, Int.reduceLT, Int.reduceToNat, hn, g1, g2, g3, g7, g8, g9, g10, g32, Option.isSome_some, Option.getD_some]
        rintro t h7 ⟨e7, hn, g1, g2, g3, g7, g8, g9, g10, g32, g12, g13, g14⟩
        have E7 := E5.step e7
        have A7 := (e7.2 _ l5).trans A5
        have l7 := at_lt A7
        have LA7 := ld_at (T := tabOf Tryd.prog NT0) A7
        have he7 := he5.step e7
        have ho8 := ho8.ext e7 (Nat.le_refl _)
        have ho9 := ho9.ext e7 (Nat.le_refl _)
        cases od with
        | none =>
          simp only [core, Nat.reduceAdd, Nat.reduceSub, Nat.reduceMul, Nat.reduceLT, Nat.reduceEqDiff, reduceCtorEq, Nat.reduceLeDiff, Int.reduceLE, Int.reduceLT, Int.reduceToNat, hn, g1, g2, g3, g7, g8, g9, g10, g32, g12, g13, g14, hws2, Option.isSome_none]
          refine ih2 _ _ ⟨ho8, ho9, he7, hf1, ?_⟩
          simp only [core, Nat.reduceAdd, Nat.reduceSub, Nat.reduceMul, Nat.reduceLT, Nat.reduceEqDiff, reduceCtorEq, Nat.reduceLeDiff, Int.reduceLE, Int.reduceLT, Int.reduceToNat, hn, g1, g2, g3, g7, g8, g9, g10, g32, g12, g13, g14]
        | some o =>
        simp only at hf1
        simp only [core, Nat.reduceAdd, Nat.reduceSub, Nat.reduceMul, Nat.reduceLT, Nat.reduceEqDiff, reduceCtorEq, Nat.reduceLeDiff, Int.reduceLE, Int.reduceLT, Int.reduceToNat, hn, g1, g2, g3, g7, g8, g9, g10, g32, g12, g13, g14, LA7, l7]
        refine (may8_x o x (hm.ext E7 (Nat.le_refl _)) hlo).mono ?_
        rintro _ h8 ⟨e8, rfl⟩
        have E8 := E7.step e8
        have he8 := he7.step e8
        have ho8 := ho8.ext e8 (Nat.le_refl _)
        have ho9 := ho9.ext e8 (Nat.le_refl _)
        have w8 := ho8.toSl (F := fun _ => True) (fun _ _ => trivial) (fun _ _ => trivial)
        cases hmy : mayF m o x with
        | false =>
          rw [hmy] at hf1
          simp only [Bool.not_false, Bool.true_or, if_true] at hf1
          simp only [core, Nat.reduceAdd, Nat.reduceSub, Nat.reduceMul, Nat.reduceLT, Nat.reduceEqDiff, reduceCtorEq, Nat.reduceLeDiff, Int.reduceLE, Int.reduceLT, Int.reduceToNat, hn, g1, g2, g3, g7, g8, g9, g10, g32, g12, g13, g14, hws2]
          refine ih2 _ _ ⟨ho8, ho9, he8, hf1, ?_⟩
          simp only [core, Nat.reduceAdd, Nat.reduceSub, Nat.reduceMul, Nat.reduceLT, Nat.reduceEqDiff, reduceCtorEq, Nat.reduceLeDiff, Int.reduceLE, Int.reduceLT, Int.reduceToNat, hn, g1, g2, g3, g7, g8, g9, g10, g32, g12, g13, g14]
        | true =>
        rw [hmy] at hf1
        simp only [core, Nat.reduceAdd, Nat.reduceSub, Nat.reduceMul, Nat.reduceLT, Nat.reduceEqDiff, reduceCtorEq, Nat.reduceLeDiff, Int.reduceLE, Int.reduceLT, Int.reduceToNat, hn, g1, g2, g3, g7, g8, g9, g10, g32, g12, g13, g14]
        refine (among8_x o w8 (by omega)).mono ?_
        rintro _ h9 ⟨rfl, rfl⟩
        cases hco : (selN m x root k).1.contains o with
        | true =>
          rw [hco] at hf1
          simp only [Bool.not_true, Bool.or_true, if_true] at hf1
          simp only [core, Nat.reduceAdd, Nat.reduceSub, Nat.reduceMul, Nat.reduceLT, Nat.reduceEqDiff, reduceCtorEq, Nat.reduceLeDiff, Int.reduceLE, Int.reduceLT, Int.reduceToNat, hn, g1, g2, g3, g7, g8, g9, g10, g32, g12, g13, g14, hws2]
          refine ih2 _ _ ⟨ho8, ho9, he8, hf1, ?_⟩
          simp only [core, Nat.reduceAdd, Nat.reduceSub, Nat.reduceMul, Nat.reduceLT, Nat.reduceEqDiff, reduceCtorEq, Nat.reduceLeDiff, Int.reduceLE, Int.reduceLT, Int.reduceToNat, hn, g1, g2, g3, g7, g8, g9, g10, g32, g12, g13, g14]
        | false =>
        rw [hco] at hf1
        simp only [Bool.not_true, Bool.or_false, Bool.false_eq_true, if_false] at hf1
        have I1 : I64 o := by
          by_cases hd0 : d < 0
          · rw [if_pos hd0] at hod
            exact down_i64 hm _ _ _ hod.symm
          · rw [if_neg hd0] at hod
            cases hod
            exact down_i64 hm _ _ _ hdn
        have I2 : I64 d := down_i64 hm _ _ _ hdn
        simp only [core, Nat.reduceAdd, Nat.reduceSub, Nat.reduceMul, Nat.reduceLT, Nat.reduceEqDiff, reduceCtorEq, Nat.reduceLeDiff, Int.reduceLE, Int.reduceLT, Int.reduceToNat, hn, g1, g2, g3, g7, g8, g9, g10, g32, g12, g13, g14]
        obtain ⟨h10, hh10⟩ : ∃ h10, h10 = h9.push (.cells [.lit (.int .i64 o)] 3) := ⟨_, rfl⟩
        have e10 : Ext h9.n h9 h10 := hh10 ▸ (Ext.refl _ _).push _ (Nat.le_refl _)
        have A10 : h10.at h9.n = some (.cells [.lit (.int .i64 o)] 3) := hh10 ▸ at_push_n h9 _
        rw [← hh10]
        have q1' := he8.1
        have q2' := e10.1
        refine WOp_app ((ho8.ext e10 (Nat.le_refl _)).snoc (by kernel_rfl) (by kernel_rfl) (by kernel_rfl) (zv := .lit (.int .i64 0)) (by kernel_rfl) (by' := 8) (by kernel_rfl) rfl (by decide) (by decide) A10 (y := o) ⟨rfl, I1⟩ (by omega) (by omega) (by omega)) ?_
        rintro s8 h11 ⟨ho11, e11, k11⟩
        obtain ⟨ho9', hdj'⟩ := (ho9.ext e10 (Nat.le_refl _)).other hdj k11
        have t8 := ho11.one
        simp only [core, Nat.reduceAdd, Nat.reduceSub, Nat.reduceMul, Nat.reduceLT, Nat.reduceEqDiff, reduceCtorEq, Nat.reduceLeDiff, Int.reduceLE, Int.reduceLT, Int.reduceToNat, hn, g1, g2, g3, g7, g8, g9, g10, g32, g12, g13, g14, t8]
        obtain ⟨h12, hh12⟩ : ∃ h12, h12 = h11.push (.cells [.lit (.int .i64 d)] 3) := ⟨_, rfl⟩
        have e12 : Ext h11.n h11 h12 := hh12 ▸ (Ext.refl _ _).push _ (Nat.le_refl _)
        have A12 : h12.at h11.n = some (.cells [.lit (.int .i64 d)] 3) := hh12 ▸ at_push_n h11 _
        rw [← hh12]
        have q3' := e11.1
        have q4' := e12.1
        refine WOp_app ((ho9'.ext e12 (Nat.le_refl _)).snoc (by kernel_rfl) (by kernel_rfl) (by kernel_rfl) (zv := .lit (.int .i64 0)) (by kernel_rfl) (by' := 8) (by kernel_rfl) rfl (by decide) (by decide) A12 (y := d) ⟨rfl, I2⟩ (by omega) (by omega) (by omega)) ?_
        rintro s9 h13 ⟨ho13, e13, k13⟩
        obtain ⟨ho8', hdj2⟩ := (ho11.ext e12 (Nat.le_refl _)).other hdj'.symm k13
        have t9 := ho13.one
        have he13 : Ext h.n h h13 := (((he8.step e10).trans e11).step e12).trans e13
        have hS : selN m x root (k + 1) = ((selN m x root k).1 ++ [o], (selN m x root k).2 ++ [d]) := selN_some hf1 (by omega)
        simp only [core, Nat.reduceAdd, Nat.reduceSub, Nat.reduceMul, Nat.reduceLT, Nat.reduceEqDiff, reduceCtorEq, Nat.reduceLeDiff, Int.reduceLE, Int.reduceLT, Int.reduceToNat, hn, g1, g2, g3, g7, g8, g9, g10, g32, g12, g13, g14, t9, hws]
        refine ih (k + 1) _ _ ⟨s8, s9, by rw [hS]; exact ho8', by rw [hS]; exact ho13, hdj2.symm, he13, by omega, ?_⟩ (by omega)
        simp only [core, Nat.reduceAdd, Nat.reduceSub, Nat.reduceMul, Nat.reduceLT, Nat.reduceEqDiff, reduceCtorEq, Nat.reduceLeDiff, Int.reduceLE, Int.reduceLT, Int.reduceToNat, hn, g1, g2, g3, g7, g8, g9, g10, g32, g12, g13, g14]
      · rintro t h'' hc ⟨ho8, ho9, he, hf, hn, g1, g2, g3, g7, g8, g9, g10⟩
        have hc : ((50 : Int) < 50) = False := by decide
        have hc' : (((50 : Nat) : Int) < 50) = False := by decide
        have hS : selN m x root (k + 1) = selN m x root k := selN_none hf
        simp only [core, Nat.reduceAdd, Nat.reduceSub, Nat.reduceMul, Nat.reduceLT, Nat.reduceEqDiff, reduceCtorEq, Nat.reduceLeDiff, Int.reduceLE, Int.reduceLT, Int.reduceToNat, hn, g1, g2, g3, g7, g8, g9, g10, hc, hc', hws]
        refine ih (k + 1) _ _ ⟨o8, o9, by rw [hS]; exact ho8, by rw [hS]; exact ho9, hdj, he, by omega, ?_⟩ (by omega)
        simp only [core, Nat.reduceAdd, Nat.reduceSub, Nat.reduceMul, Nat.reduceLT, Nat.reduceEqDiff, reduceCtorEq, Nat.reduceLeDiff, Int.reduceLE, Int.reduceLT, Int.reduceToNat, hn, g1, g2, g3, g7, g8, g9, g10]
      · simp only [core, Nat.reduceAdd, Nat.reduceSub, Nat.reduceMul, Nat.reduceLT, Nat.reduceEqDiff, reduceCtorEq, Nat.reduceLeDiff, Int.reduceLE, Int.reduceLT, Int.reduceToNat, hn, g1, g2, g3, g7, g8, g9, g10]
        exact ⟨ho8, ho9, he, firstR_zero, rfl⟩
    · have hlt' : ((k : Int) < nn) = False := by simp only [eq_iff_iff, iff_false]; exact hlt
      have hke : k = cntF n := by rw [hcnt]; omega
      simp only [core, Nat.reduceAdd, Nat.reduceSub, Nat.reduceMul, Nat.reduceLT, Nat.reduceEqDiff, reduceCtorEq, Nat.reduceLeDiff, Int.reduceLE, Int.reduceLT, Int.reduceToNat, hn, g1, g2, g3, g7, g8, g9, g10, hlt']
      refine ⟨E3.step he, ?_⟩
      rw [hsel, ← hke]
      exact ho8.toSl (fun _ hf => hf.elim) (fun b hb => Nat.le_trans E3.1 hb)
  · simp only [core, Nat.reduceAdd, Nat.reduceSub, Nat.reduceMul, Nat.reduceLT, Nat.reduceEqDiff, reduceCtorEq, Nat.reduceLeDiff, Int.reduceLE, Int.reduceLT, Int.reduceToNat, hn, g1, g2, g3, g7]
    exact ⟨_, _, OwnL.nil, OwnL.nil, Disj.nil_l, Ext.refl _ _, rfl, rfl, rfl⟩
end Go.Proofs.YtkgbeihcepociaaDoor.Ex
end

section

set_option linter.unusedSimpArgs false
set_option linter.unusedVariables false
set_option maxRecDepth 10000
set_option maxHeartbeats 4000000
namespace Go.Proofs.YtkgbeihcepociaaDoor.Ex
open Go
def parentF (m : MapD) (item : Int) : Option BktD := m.buckets.find? (fun b => b.items.contains item)
def parentG (m : MapD) (item : Int) : BktD := (parentF m item).getD bkt0
theorem parent_x {F : Nat → Prop} {H : AH} {m : MapD} {vo vp vb : AV} (item : Int) (hm : MpAt F H m vo vp vb) (hl : Sm 64 m.buckets) (hbs : ∀ b ∈ m.buckets, Sm 8 b.items ∧ Sm 8 b.weights) :
    WC Tryd.prog (tabOf Tryd.prog NT0) S0 35 [mpV m vo vp vb, .lit (.int .i64 item)] H fun r h' => Ext H.n H h' ∧ ∃ va vw, r = .tup [bktV (parentG m item) va vw, .lit (.bool (parentF m item).isSome)] ∧ IsSl RInt F h' va (parentG m item).items ∧ IsSl RInt F h' vw (parentG m item).weights := by
  refine WC_fn Tryd.func35 rfl rfl ?_
  unfold Sm at hl
  have s1 := hm.b.isSl
  have s2 := hm.b.lenD
  have o1 := hm.o.one
  have o2 := hm.p.one
  have o3 := hm.b.one
  simp only [core, Nat.reduceAdd, Nat.reduceSub, Nat.reduceMul, Nat.reduceLT, Nat.reduceEqDiff, reduceCtorEq, Nat.reduceLeDiff, Int.reduceLE, Int.reduceLT, Int.reduceToNat, Tryd.ntmps35, mpV, s1, s2, o1, o2, o3]
  obtain ⟨h2, hh2⟩ : ∃ h2, h2 = (H.push (.cells [.lit (.int .i64 m.epoch), vo, vp, vb, .lit (.int .i64 m.leaf)] 26)).push (.cells [.lit (.int .i64 0), .lit (.int .i64 0), .lit (.slice none 0 0), .lit (.slice none 0 0)] 47) := ⟨_, rfl⟩
  have E0 : Ext H.n H h2 := hh2 ▸ ((Ext.refl _ _).push _ (Nat.le_refl _)).push _ (by rw [n_push]; omega)
  have A0 : h2.at (H.n + 1) = some (.cells [.lit (.int .i64 0), .lit (.int .i64 0), .lit (.slice none 0 0), .lit (.slice none 0 0)] 47) := hh2 ▸ at_push_n _ _
  have n2 : h2.n = H.n + 2 := by rw [hh2, n_push, n_push]
  rw [← hh2]
  clear hh2
  refine WB_for m.buckets.length (fun i t h => Ext h2.n h2 h ∧ parentF m item = (m.buckets.drop i).find? (fun b => b.items.contains item) ∧ t.n = 22 ∧ t.get 1 = .lit (.int .i64 item) ∧ t.get 4 = .ptr (H.n + 1) 0 ∧ t.get 9 = vb ∧ t.get 10 = .lit (.int .i64 m.buckets.length) ∧ t.get 11 = .lit (.int .i64 i)) ?_ ?_ _ _ ?_
  · rintro i t h hlt hc ⟨he, hf, hn, g1, g4, g9, g10, g11⟩ ih
    obtain ⟨x, hx⟩ : ∃ x, m.buckets[i]? = some x := ⟨_, List.getElem?_eq_getElem hlt⟩
    have E1 : Ext H.n H h := E0.trans (he.mono (by omega))
    obtain ⟨c, hc1, hld, hld0⟩ := hm.b.atE (T := tabOf Tryd.prog NT0) E1 RBkt_z hx
    obtain ⟨va, vw, rfl, ha, hw, i1, i2⟩ := RBkt_is.1 hc1
    have a1 := ha.one
    have w1 := hw.one
    have hws := wrap_succ hlt (by omega)
    rw [find_drop hx] at hf
    have A1 : h.at (H.n + 1) = some (.cells [.lit (.int .i64 0), .lit (.int .i64 0), .lit (.slice none 0 0), .lit (.slice none 0 0)] 47) := (he.2 _ (by omega)).trans A0
    have l1 : H.n + 1 < h.n := at_lt A1
    obtain ⟨k1, k2⟩ := hbs x (List.mem_of_getElem? hx)
    unfold Sm at k1
    simp only [core, Nat.reduceAdd, Nat.reduceSub, Nat.reduceMul, Nat.reduceLT, Nat.reduceEqDiff, reduceCtorEq, Nat.reduceLeDiff, Int.reduceLE, Int.reduceLT, Int.reduceToNat, s1, s2, hn, g1, g4, g9, g10, g11, hlt, hc, hld, hld0, hws, a1, w1]
    have EQ : ∀ y, Ext H.n H (h.push y) := fun y => E1.push _ E1.1
    refine (contains_x item (ha.ext (EQ _) (Nat.le_refl _)) (by omega)).mono ?_
    rintro _ h9 ⟨rfl, rfl⟩
    simp only [core, Nat.reduceAdd, Nat.reduceSub, Nat.reduceMul, Nat.reduceLT, Nat.reduceEqDiff, reduceCtorEq, Nat.reduceLeDiff, Int.reduceLE, Int.reduceLT, Int.reduceToNat, s1, s2, hn, g1, g4, g9, g10, g11, hlt, hc, hld, hld0, hws, a1, w1]
    refine ⟨fun hq => ?_, fun hq => ?_⟩
    · rw [if_pos hq] at hf
      have hG : parentG m item = x := by unfold parentG; rw [hf]; rfl
      simp only [core, Nat.reduceAdd, Nat.reduceSub, Nat.reduceMul, Nat.reduceLT, Nat.reduceEqDiff, reduceCtorEq, Nat.reduceLeDiff, Int.reduceLE, Int.reduceLT, Int.reduceToNat, hn, g1, g4, g9, g10, g11, a1, w1, A1, l1]
      have EF : Ext H.n H ((h.put (H.n + 1) (.cells [.lit (.int .i64 x.id), .lit (.int .i64 x.kind), va, vw] 47)).push (.cells [.lit (.int .i64 x.id), .lit (.int .i64 x.kind), va, vw] 47)) := (E1.put _ (by omega)).push _ (by rw [n_put]; omega)
      rw [hG, hf]
      exact ⟨EF, va, vw, rfl, ha.ext EF (Nat.le_refl _), hw.ext EF (Nat.le_refl _)⟩
    · rw [if_neg (by rw [hq]; decide)] at hf
      refine ih _ _ ⟨he.push _ he.1, hf, ?_⟩
      simp only [core, Nat.reduceAdd, Nat.reduceSub, Nat.reduceMul, Nat.reduceLT, Nat.reduceEqDiff, reduceCtorEq, Nat.reduceLeDiff, Int.reduceLE, Int.reduceLT, Int.reduceToNat, hn, g1, g4, g9, g10, g11]
  · rintro t h hc ⟨he, hf, hn, g1, g4, g9, g10, g11⟩
    have A1 : h.at (H.n + 1) = some (.cells [.lit (.int .i64 0), .lit (.int .i64 0), .lit (.slice none 0 0), .lit (.slice none 0 0)] 47) := (he.2 _ (by omega)).trans A0
    have l1 : H.n + 1 < h.n := at_lt A1
    have E1 : Ext H.n H h := E0.trans (he.mono (by omega))
    have hf : parentF m item = none := by rw [hf, List.drop_length]; rfl
    have hG : parentG m item = bkt0 := by unfold parentG; rw [hf]; rfl
    simp only [core, Nat.reduceAdd, Nat.reduceSub, Nat.reduceMul, Nat.reduceLT, Nat.reduceEqDiff, reduceCtorEq, Nat.reduceLeDiff, Int.reduceLE, Int.reduceLT, Int.reduceToNat, s1, s2, hn, g1, g4, g9, g10, g11, hc, A1, l1, bdM, fillA]
    rw [hG, hf]
    exact ⟨E1.put _ (by omega), _, _, rfl, IsSl.nil, IsSl.nil⟩
  · simp only [core, Nat.reduceAdd, Nat.reduceSub, Nat.reduceMul, Nat.reduceLT, Nat.reduceEqDiff, reduceCtorEq, Nat.reduceLeDiff, Int.reduceLE, Int.reduceLT, Int.reduceToNat]
    refine ⟨Ext.refl _ _, rfl, ?_⟩
    (repeat' apply And.intro) <;> first | rfl | trivial
end Go.Proofs.YtkgbeihcepociaaDoor.Ex
end

section

set_option linter.unusedSimpArgs false
set_option linter.unusedVariables false
set_option maxRecDepth 10000
set_option maxHeartbeats 4000000
namespace Go.Proofs.YtkgbeihcepociaaDoor.Ex
open Go
def fitF (m : MapD) (b : BktD) (id : Int) : Bool := if 0 ≤ id then decide (id < 8) else (bucketF m id).isSome && decide ((bucketG m id).kind < b.kind)
theorem may_x {F : Nat → Prop} {H : AH} {m : MapD} {vo vp vb va vw : AV} {b : BktD} (id : Int) (hm : MpAt F H m vo vp vb) (hl : Sm 64 m.buckets) (hbs : ∀ b ∈ m.buckets, Sm 8 b.items ∧ Sm 8 b.weights) (hva : va.one = true) (hvw : vw.one = true) :
    WC Tryd.prog (tabOf Tryd.prog NT0) S0 34 [mpV m vo vp vb, bktV b va vw, .lit (.int .i64 id)] H fun r h' => Ext H.n H h' ∧ r = .lit (.bool (fitF m b id)) := by
  refine WC_fn Tryd.func34 rfl rfl ?_
  have o1 := hm.o.one
  have o2 := hm.p.one
  have o3 := hm.b.one
  simp only [core, Nat.reduceAdd, Nat.reduceSub, Nat.reduceMul, Nat.reduceLT, Nat.reduceEqDiff, reduceCtorEq, Nat.reduceLeDiff, Int.reduceLE, Int.reduceLT, Int.reduceToNat, Tryd.ntmps34, mpV, bktV, o1, o2, o3, hva, hvw]
  obtain ⟨h1, hh1⟩ : ∃ h1, h1 = (H.push (.cells [.lit (.int .i64 m.epoch), vo, vp, vb, .lit (.int .i64 m.leaf)] 26)).push (.cells [.lit (.int .i64 b.id), .lit (.int .i64 b.kind), va, vw] 47) := ⟨_, rfl⟩
  have E1 : Ext H.n H h1 := hh1 ▸ ((Ext.refl _ _).push _ (Nat.le_refl _)).push _ (by rw [n_push]; omega)
  have n1 : h1.n = H.n + 2 := by rw [hh1, n_push, n_push]
  have A1 : h1.at (H.n + 1) = some (.cells [.lit (.int .i64 b.id), .lit (.int .i64 b.kind), va, vw] 47) := by
    rw [hh1]
    have := at_push_n (H.push (.cells [.lit (.int .i64 m.epoch), vo, vp, vb, .lit (.int .i64 m.leaf)] 26)) (.cells [.lit (.int .i64 b.id), .lit (.int .i64 b.kind), va, vw] 47)
    rw [n_push] at this
    exact this
  try rw [← hh1]
  clear hh1
  by_cases h0 : 0 ≤ id
  · simp only [core, Nat.reduceAdd, Nat.reduceSub, Nat.reduceMul, Nat.reduceLT, Nat.reduceEqDiff, reduceCtorEq, Nat.reduceLeDiff, Int.reduceLE, Int.reduceLT, Int.reduceToNat, h0]
    refine ⟨E1, ?_⟩
    unfold fitF
    rw [if_pos h0]
  · simp only [core, Nat.reduceAdd, Nat.reduceSub, Nat.reduceMul, Nat.reduceLT, Nat.reduceEqDiff, reduceCtorEq, Nat.reduceLeDiff, Int.reduceLE, Int.reduceLT, Int.reduceToNat, h0]
    refine (bucket_x id (hm.ext E1 (Nat.le_refl _)) hl hbs).mono ?_
    rintro _ h2 ⟨e2, v1, v2, rfl, b1, b2⟩
    have o4 := b1.one
    have o5 := b2.one
    have E2 := E1.step e2
    have A2 := (e2.2 _ (by omega)).trans A1
    have l2 := at_lt A2
    have LA2 := ld_at (T := tabOf Tryd.prog NT0) A2
    simp only [core, Nat.reduceAdd, Nat.reduceSub, Nat.reduceMul, Nat.reduceLT, Nat.reduceEqDiff, reduceCtorEq, Nat.reduceLeDiff, Int.reduceLE, Int.reduceLT, Int.reduceToNat, bktV, o4, o5, A2, l2, LA2]
    obtain ⟨h3, hh3⟩ : ∃ h3, h3 = h2.push (.cells [.lit (.int .i64 (bucketG m id).id), .lit (.int .i64 (bucketG m id).kind), v1, v2] 47) := ⟨_, rfl⟩
    have e3 : Ext h2.n h2 h3 := hh3 ▸ (Ext.refl _ _).push _ (Nat.le_refl _)
    have B3 : h3.at h2.n = some (.cells [.lit (.int .i64 (bucketG m id).id), .lit (.int .i64 (bucketG m id).kind), v1, v2] 47) := hh3 ▸ at_push_n _ _
    rw [← hh3]
    clear hh3
    have E3 := E2.step e3
    have A3 := (e3.2 _ l2).trans A2
    have l3 := at_lt A3
    have LA3 := ld_at (T := tabOf Tryd.prog NT0) A3
    have LB3 := ld_at (T := tabOf Tryd.prog NT0) B3
    have b3 := at_lt B3
    cases hb : (bucketF m id).isSome with
    | false =>
      simp only [core, Nat.reduceAdd, Nat.reduceSub, Nat.reduceMul, Nat.reduceLT, Nat.reduceEqDiff, reduceCtorEq, Nat.reduceLeDiff, Int.reduceLE, Int.reduceLT, Int.reduceToNat]
      refine ⟨E3, ?_⟩
      unfold fitF
      rw [if_neg h0, hb]
      rfl
    | true =>
      simp only [core, Nat.reduceAdd, Nat.reduceSub, Nat.reduceMul, Nat.reduceLT, Nat.reduceEqDiff, reduceCtorEq, Nat.reduceLeDiff, Int.reduceLE, Int.reduceLT, Int.reduceToNat, LA3, LB3, l3, b3]
      refine ⟨E3, ?_⟩
      unfold fitF
      rw [if_neg h0, hb]
      rfl
end Go.Proofs.YtkgbeihcepociaaDoor.Ex
end

section

set_option linter.unusedSimpArgs false
set_option linter.unusedVariables false
set_option maxRecDepth 10000
set_option maxHeartbeats 4000000
namespace Go.Proofs.YtkgbeihcepociaaDoor.Ex
open Go
/-- A map whose keys are these, each with 1. -/
def Ones (es : List AE) (ks : List Int) : Prop := es.map (fun e => (e.key, e.val)) = ks.map (fun k => (.int .i64 k, .lit (.int .i64 1)))
theorem findA_int (d : Int) : ∀ (ks : List Int) (es : List AE) (i : Nat), Ones es ks → (d ∉ ks → findA (.int .i64) (.int .i64 d) es i = some none) ∧ (d ∈ ks → ∃ j, j < es.length ∧ findA (.int .i64) (.int .i64 d) es i = some (some (i + j, .lit (.int .i64 1))) ∧ ∀ x, findA (.int .i64) (.int .i64 d) (es.modify j fun e => { e with key := .int .i64 d, val := x }) i = some (some (i + j, x)))
  | [], es, i, h => by
    have : es = [] := by unfold Ones at h; simpa using h
    subst this
    exact ⟨fun _ => rfl, fun h => by cases h⟩
  | k :: ks, es, i, h => by
    cases es with
    | nil => unfold Ones at h; simp at h
    | cons e es =>
    unfold Ones at h
    simp only [List.map_cons, List.cons.injEq, Prod.mk.injEq] at h
    obtain ⟨⟨h1, h2⟩, h3⟩ := h
    obtain ⟨r1, r2⟩ := findA_int d ks es (i + 1) h3
    have hs : Instr.sameNow (.int .i64) (.int .i64 d) e.key = some (d == k) := by rw [h1]; rfl
    have hd : Instr.sameNow (.int .i64) (.int .i64 d) (.int .i64 d) = some (d == d) := rfl
    by_cases hk : d = k
    · subst hk
      refine ⟨fun hn => absurd (List.mem_cons_self ..) hn, fun _ => ⟨0, by simp, ?_, fun x => ?_⟩⟩
      · unfold findA
        rw [hs, beq_self_eq_true, h2]
        rfl
      · simp only [List.modify_zero_cons]
        unfold findA
        simp only [hd, beq_self_eq_true]
        rfl
    · have hkb : (d == k) = false := by simpa using hk
      refine ⟨fun hn => ?_, fun hm => ?_⟩
      · unfold findA
        rw [hs, hkb]
        exact r1 (fun hh => hn (List.mem_cons_of_mem _ hh))
      · obtain ⟨j, hj, q1, q2⟩ := r2 (by rcases List.mem_cons.1 hm with h | h; exact absurd h hk; exact h)
        refine ⟨j + 1, by simpa using hj, ?_, fun x => ?_⟩
        · unfold findA
          rw [hs, hkb]
          simp only
          rw [q1]
          congr 3
          omega
        · rw [List.modify_succ_cons]
          unfold findA
          rw [hs, hkb]
          simp only
          rw [q2 x]
          congr 3
          omega
theorem Ones.snoc {es : List AE} {ks : List Int} {k : Int} {c : Nat} (h : Ones es ks) : Ones (es ++ [{ key := .int .i64 k, val := .lit (.int .i64 1), born := c }]) (ks ++ [k]) := by
  unfold Ones at *
  rw [List.map_append, List.map_append, h]
  rfl
section
variable {P : Program} {T : TT} {t : TM} {h : AH} {d : Option Tmp} {ty e : TypeId} {ps : String} {af : Array Edge} {g : Option (Nat × Bool)}
theorem a_mkm : aop P T ⟨d, .makeMap e none, ty, ps, af, g⟩ t h = some (.val (.mp h.n), h.push (.map [] 0)) := rfl
theorem a_look {m k : Operand} {ok : Bool} : aop P T ⟨d, .lookup e m k ok, ty, ps, af, g⟩ t h = aLookup T t h e m k ok := rfl
theorem a_mupd {m k x : Operand} : aop P T ⟨d, .mapUpdate e m k x, ty, ps, af, g⟩ t h = aUpdate T t h e m k x := rfl
end
section
variable {T : TT} {t kt et : TypeId} {h : AH} {b : Nat} {es : List AE} {c : Nat} {ks : List Int} {d : Int}
theorem findT_int (hu : und T t = some (.map kt et)) (hi : und T kt = some (.int .i64)) : findT T t (.int .i64 d) es = findA (.int .i64) (.int .i64 d) es 0 := by
  unfold findT
  rw [hu]
  simp only
  unfold und at hi
  cases hT : T kt with
  | none => rw [hT] at hi; cases hi
  | some i =>
    rw [hT] at hi
    simp only [Option.map_some, Option.some.injEq] at hi
    simp only [hi]
    rfl
theorem look_new (hu : und T t = some (.map kt et)) (hi : und T kt = some (.int .i64)) (hz : zeroT T et = some (.lit (.int .i64 0))) (hb : h.at b = some (.map es c)) (ho : Ones es ks) (hd : d ∉ ks) :
    lookupA T h t (.mp b) (.lit (.int .i64 d)) false = some (.lit (.int .i64 0)) := by
  unfold lookupA
  simp only [keyOf, entsA, hb, elemT, hu, findT_int hu hi, (findA_int d ks es 0 ho).1 hd, hz]
  rfl
theorem look_old (hu : und T t = some (.map kt et)) (hi : und T kt = some (.int .i64)) (hz : zeroT T et = some (.lit (.int .i64 0))) (hb : h.at b = some (.map es c)) (ho : Ones es ks) (hd : d ∈ ks) :
    lookupA T h t (.mp b) (.lit (.int .i64 d)) false = some (.lit (.int .i64 1)) := by
  obtain ⟨j, hj, q1, q2⟩ := (findA_int d ks es 0 ho).2 hd
  unfold lookupA
  simp only [keyOf, entsA, hb, elemT, hu, findT_int hu hi, q1, hz]
  rfl
theorem upd_new {x : AV} (hu : und T t = some (.map kt et)) (hi : und T kt = some (.int .i64)) (hb : h.at b = some (.map es c)) (ho : Ones es ks) (hd : d ∉ ks) :
    updateA T h t (.mp b) (.lit (.int .i64 d)) x = some (h.put b (.map (es ++ [{ key := .int .i64 d, val := x, born := c }]) (c + 1))) := by
  unfold updateA
  simp only [keyOf, hb, findT_int hu hi, (findA_int d ks es 0 ho).1 hd]
theorem upd_old {x : AV} (hu : und T t = some (.map kt et)) (hi : und T kt = some (.int .i64)) (hz : zeroT T et = some (.lit (.int .i64 0))) (hb : h.at b = some (.map es c)) (ho : Ones es ks) (hd : d ∈ ks) :
    ∃ es', updateA T h t (.mp b) (.lit (.int .i64 d)) x = some (h.put b (.map es' c)) ∧ ∀ h', h'.at b = some (.map es' c) → lookupA T h' t (.mp b) (.lit (.int .i64 d)) false = some x := by
  obtain ⟨j, hj, q1, q2⟩ := (findA_int d ks es 0 ho).2 hd
  refine ⟨es.modify (0 + j) fun e => { e with key := .int .i64 d, val := x }, ?_, fun h' hb' => ?_⟩
  · unfold updateA
    simp only [keyOf, hb, findT_int hu hi, q1]
  · unfold lookupA
    rw [Nat.zero_add] at hb'
    simp only [keyOf, entsA, hb', elemT, hu, findT_int hu hi, q2 x, hz]
    rfl
/-- What a new key gives, and the next look. -/
theorem look_put {cc : Nat} (hu : und T t = some (.map kt et)) (hi : und T kt = some (.int .i64)) (hz : zeroT T et = some (.lit (.int .i64 0))) (ho : Ones es ks) (hb : h.at b = some (.map (es ++ [{ key := .int .i64 d, val := .lit (.int .i64 1), born := c }]) cc)) :
    lookupA T h t (.mp b) (.lit (.int .i64 d)) false = some (.lit (.int .i64 1)) :=
  look_old hu hi hz hb ho.snoc (List.mem_append.2 (.inr (List.mem_cons_self ..)))
end
end Go.Proofs.YtkgbeihcepociaaDoor.Ex
end

section

set_option linter.unusedSimpArgs false
set_option linter.unusedVariables false
set_option maxRecDepth 10000
set_option maxHeartbeats 4000000
namespace Go.Proofs.YtkgbeihcepociaaDoor.Ex
open Go
def itemC (m : MapD) (its : List Int) (b : BktD) (k : Nat) : Bool := !((its ++ b.items.take k).contains (b.items.getD k 0)) && fitF m b (b.items.getD k 0) && wOk (b.weights.getD k 0)
def bC (m : MapD) (i : Nat) (b : BktD) : Bool := hdOk m i b && (List.range b.items.length).all (itemC m (itsTo m i) b)
def checkF (m : MapD) : Bool := decide (0 ≤ m.leaf) && decide (m.leaf ≤ 3) && (List.range m.buckets.length).all (fun i => bC m i (m.buckets.getD i bkt0))
theorem check_false {m : MapD} {i : Nat} {x : BktD} (hx : m.buckets[i]? = some x) (h : bC m i x = false) : checkF m = false := by
  unfold checkF
  rw [range_all_false (i := i) (List.getElem?_eq_some_iff.1 hx).1 (by simp only [getD_of hx]; exact h), Bool.and_false]
def errC (m : MapD) : Int := if checkF m then 0 else 22
theorem check_x {F : Nat → Prop} {H : AH} {m : MapD} {vo vp vb : AV} (hm : MpAt F H m vo vp vb) (hok : OkM m) :
    WC Tryd.prog (tabOf Tryd.prog NT0) S0 16 [mpV m vo vp vb] H fun r h' => Ext H.n H h' ∧ r = .lit (.int .i64 (errC m)) := by
  refine WC_fn Tryd.func16 rfl rfl ?_
  obtain ⟨hl, hbs, hit⟩ := hok
  have hl0 := hl
  unfold Sm at hl
  have s1 := hm.b.isSl
  have s2 := hm.b.lenD
  have o1 := hm.o.one
  have o2 := hm.p.one
  have o3 := hm.b.one
  have hcap : CapOk 4 vb := by obtain ⟨L, -, -, hc, -⟩ := hm.b.out; exact hc
  have EP : ∀ x, Ext H.n H (H.push x) := fun x => (Ext.refl _ _).push _ (Nat.le_refl _)
  have hbad0 : ∀ h', Ext H.n H h' → checkF m = false → Ext H.n H h' ∧ AV.lit (.int .i64 22) = .lit (.int .i64 (errC m)) := fun h' e hf => ⟨e, by unfold errC; rw [hf]; rfl⟩
  simp only [core, Nat.reduceAdd, Nat.reduceSub, Nat.reduceMul, Nat.reduceLT, Nat.reduceEqDiff, reduceCtorEq, Nat.reduceLeDiff, Int.reduceLE, Int.reduceLT, Int.reduceToNat, Tryd.ntmps16, mpV, o1, o2, o3]
  by_cases hl1 : m.leaf < 0
  · simp only [core, Nat.reduceAdd, Nat.reduceSub, Nat.reduceMul, Nat.reduceLT, Nat.reduceEqDiff, reduceCtorEq, Nat.reduceLeDiff, Int.reduceLE, Int.reduceLT, Int.reduceToNat, hl1]
    refine hbad0 _ (EP _) ?_
    unfold checkF
    rw [decide_eq_false (show ¬ 0 ≤ m.leaf by omega)]
    rfl
  by_cases hl2 : 3 < m.leaf
  · simp only [core, Nat.reduceAdd, Nat.reduceSub, Nat.reduceMul, Nat.reduceLT, Nat.reduceEqDiff, reduceCtorEq, Nat.reduceLeDiff, Int.reduceLE, Int.reduceLT, Int.reduceToNat, hl1, hl2]
    refine hbad0 _ (EP _) ?_
    unfold checkF
    rw [decide_eq_false (show ¬ m.leaf ≤ 3 by omega), Bool.and_false]
    rfl
  have hg0 : checkF m = (List.range m.buckets.length).all (fun i => bC m i (m.buckets.getD i bkt0)) := by
    unfold checkF
    rw [decide_eq_true (show 0 ≤ m.leaf by omega), decide_eq_true (show m.leaf ≤ 3 by omega)]
    rfl
  simp only [core, Nat.reduceAdd, Nat.reduceSub, Nat.reduceMul, Nat.reduceLT, Nat.reduceEqDiff, reduceCtorEq, Nat.reduceLeDiff, Int.reduceLE, Int.reduceLT, Int.reduceToNat, a_mkm, hl1, hl2, s1, s2]
  obtain ⟨h1, hh1⟩ : ∃ h1, h1 = (H.push (.cells [.lit (.int .i64 m.epoch), vo, vp, vb, .lit (.int .i64 m.leaf)] 26)).push (.map [] 0) := ⟨_, rfl⟩
  have E0 : Ext H.n H h1 := hh1 ▸ (EP _).push _ (by rw [n_push]; omega)
  have A0 : h1.at H.n = some (.cells [.lit (.int .i64 m.epoch), vo, vp, vb, .lit (.int .i64 m.leaf)] 26) := by
    rw [hh1, at_push_lt _ (by rw [n_push]; omega)]
    exact at_push_n _ _
  have M0 : h1.at (H.n + 1) = some (.map [] 0) := by
    rw [hh1]
    have := at_push_n (H.push (.cells [.lit (.int .i64 m.epoch), vo, vp, vb, .lit (.int .i64 m.leaf)] 26)) (.map [] 0)
    rw [n_push] at this
    exact this
  have n1 : h1.n = H.n + 2 := by rw [hh1, n_push, n_push]
  rw [← hh1]
  clear hh1
  refine WB_for m.buckets.length (fun i t h => ∃ es c, h.at (H.n + 1) = some (.map es c) ∧ Ones es (itsTo m i) ∧ Ext H.n H h ∧ h.at H.n = some (.cells [.lit (.int .i64 m.epoch), vo, vp, vb, .lit (.int .i64 m.leaf)] 26) ∧ (List.range i).all (fun i => bC m i (m.buckets.getD i bkt0)) = true ∧ t.n = 105 ∧ t.get 1 = .ptr H.n 0 ∧ t.get 3 = .mp (H.n + 1) ∧ t.get 20 = vb ∧ t.get 21 = .lit (.int .i64 m.buckets.length) ∧ t.get 22 = .lit (.int .i64 i)) ?_ ?_ _ _ ?_
  · rintro i t h hlt hc ⟨es, cl, M1, ho, E1, A1, hall, hn, g1, g3, g20, g21, g22⟩ ih
    obtain ⟨x, hx⟩ : ∃ x, m.buckets[i]? = some x := ⟨_, List.getElem?_eq_getElem hlt⟩
    obtain ⟨c, hc1, hld, hld0⟩ := hm.b.atE (T := tabOf Tryd.prog NT0) E1 RBkt_z hx
    obtain ⟨va, vw, rfl, ha, hw, i1, i2⟩ := RBkt_is.1 hc1
    obtain ⟨k1, k2⟩ := hbs x (List.mem_of_getElem? hx)
    unfold Sm at k1 k2
    have a1 := ha.one
    have w1 := hw.one
    have a2 := ha.isSl
    have w2 := hw.isSl
    have a3 := ha.lenD
    have w3 := hw.lenD
    have hws := wrap_succ hlt (by omega)
    have l1 : H.n < h.n := at_lt A1
    have lm : H.n + 1 < h.n := at_lt M1
    have LA1 := ld_at (T := tabOf Tryd.prog NT0) A1
    have hno : i ≤ m.buckets.length := by omega
    have hno2 : (i : Int) ≤ (m.buckets.length : Int) := by omega
    have hsub : IsSl RBkt F H (subSl 4 0 i vb) (m.buckets.take i) := by have := hm.b.sub (l := 0) (r := i) (by omega) hno; rw [List.drop_zero] at this; exact this
    have s3 := hsub.isSl
    have s4 : lenD (subSl 4 0 i vb) = i := by rw [hsub.lenD, List.length_take]; omega
    have hbk : bC m i x = (hdOk m i x && (List.range x.items.length).all (itemC m (itsTo m i) x)) := rfl
    have hbad : ∀ h', Ext H.n H h' → bC m i x = false → Ext H.n H h' ∧ AV.lit (.int .i64 22) = .lit (.int .i64 (errC m)) := fun h' e hf => hbad0 _ e (check_false hx hf)
    obtain ⟨hA, hhA⟩ : ∃ hA, hA = h.push (.cells [.lit (.int .i64 x.id), .lit (.int .i64 x.kind), va, vw] 47) := ⟨_, rfl⟩
    have EA : Ext h.n h hA := hhA ▸ (Ext.refl _ _).push _ (Nat.le_refl _)
    have PA : hA.at h.n = some (.cells [.lit (.int .i64 x.id), .lit (.int .i64 x.kind), va, vw] 47) := hhA ▸ at_push_n h _
    have AA := (EA.2 _ l1).trans A1
    have LAA := ld_at (T := tabOf Tryd.prog NT0) AA
    have lA := at_lt AA
    have LPA := ld_at (T := tabOf Tryd.prog NT0) PA
    have lPA := at_lt PA
    have EHA := E1.step EA
    by_cases c1 : 0 ≤ x.id
    · simp only [core, Nat.reduceAdd, Nat.reduceSub, Nat.reduceMul, Nat.reduceLT, Nat.reduceEqDiff, reduceCtorEq, Nat.reduceLeDiff, Int.reduceLE, Int.reduceLT, Int.reduceToNat, s1, s2, hn, g1, g3, g20, g21, g22, hlt, hc, hld, hld0, a1, w1, ← hhA, LPA, lPA, c1]
      refine hbad _ EHA ?_
      rw [hbk]; unfold hdOk
      rw [decide_eq_false (show ¬ x.id < 0 by omega)]; simp
    by_cases c2 : x.kind < 1
    · simp only [core, Nat.reduceAdd, Nat.reduceSub, Nat.reduceMul, Nat.reduceLT, Nat.reduceEqDiff, reduceCtorEq, Nat.reduceLeDiff, Int.reduceLE, Int.reduceLT, Int.reduceToNat, s1, s2, hn, g1, g3, g20, g21, g22, hlt, hc, hld, hld0, a1, w1, ← hhA, LPA, lPA, c1, c2]
      refine hbad _ EHA ?_
      rw [hbk]; unfold hdOk
      rw [decide_eq_false (show ¬ 1 ≤ x.kind by omega)]; simp
    by_cases c3 : 3 < x.kind
    · simp only [core, Nat.reduceAdd, Nat.reduceSub, Nat.reduceMul, Nat.reduceLT, Nat.reduceEqDiff, reduceCtorEq, Nat.reduceLeDiff, Int.reduceLE, Int.reduceLT, Int.reduceToNat, s1, s2, hn, g1, g3, g20, g21, g22, hlt, hc, hld, hld0, a1, w1, ← hhA, LPA, lPA, c1, c2, c3]
      refine hbad _ EHA ?_
      rw [hbk]; unfold hdOk
      rw [decide_eq_false (show ¬ x.kind ≤ 3 by omega)]; simp
    simp only [core, Nat.reduceAdd, Nat.reduceSub, Nat.reduceMul, Nat.reduceLT, Nat.reduceEqDiff, reduceCtorEq, Nat.reduceLeDiff, Int.reduceLE, Int.reduceLT, Int.reduceToNat, s1, s2, hn, g1, g3, g20, g21, g22, hlt, hc, hld, hld0, a1, w1, ← hhA, LPA, lPA, c1, c2, c3, a2, w2, a3, w3]
    refine ⟨fun hq => ?_, fun hq => ?_⟩
    · refine hbad _ EHA ?_
      rw [hbk]; unfold hdOk
      have : ¬ x.items.length = x.weights.length := by simp at hq; omega
      simp [this]
    have hlen : x.items.length = x.weights.length := by simp at hq; omega
    simp only [core, Nat.reduceAdd, Nat.reduceSub, Nat.reduceMul, Nat.reduceLT, Nat.reduceEqDiff, reduceCtorEq, Nat.reduceLeDiff, Int.reduceLE, Int.reduceLT, Int.reduceToNat, s1, s2, hn, g1, g3, g20, g21, g22, LAA, lA, hcap, hno, hno2, s3, s4]
    have MA : hA.at (H.n + 1) = some (.map es cl) := (EA.2 _ lm).trans M1
    refine WB_for i (fun j t h' => Ext hA.n hA h' ∧ (m.buckets.take j).any (fun c => c.id == x.id) = false ∧ t.n = 105 ∧ t.get 1 = .ptr H.n 0 ∧ t.get 3 = .mp (H.n + 1) ∧ t.get 4 = .lit (.int .i64 i) ∧ t.get 5 = .ptr h.n 0 ∧ t.get 20 = vb ∧ t.get 21 = .lit (.int .i64 m.buckets.length) ∧ t.get 22 = .lit (.int .i64 i) ∧ t.get 52 = subSl 4 0 i vb ∧ t.get 53 = .lit (.int .i64 i) ∧ t.get 54 = .lit (.int .i64 j)) ?_ ?_ _ _ ?_
    · rintro j t h' hj hc ⟨he2, hany, hn, g1, g3, g4, g5, g20, g21, g22, g52, g53, g54⟩ ih2
      have hjl : j < m.buckets.length := by omega
      obtain ⟨y, hy⟩ : ∃ y, m.buckets[j]? = some y := ⟨_, List.getElem?_eq_getElem hjl⟩
      have hy2 : (m.buckets.take i)[j]? = some y := by rw [List.getElem?_take, if_pos hj, hy]
      have E2 : Ext H.n H h' := EHA.step he2
      obtain ⟨c, hc1, hld, hld0⟩ := hsub.atE (T := tabOf Tryd.prog NT0) E2 RBkt_z hy2
      obtain ⟨ya, yw, rfl, ya1, yw1, -, -⟩ := RBkt_is.1 hc1
      have y1 := ya1.one
      have y2 := yw1.one
      have hws := wrap_succ hj (by omega)
      have P2 := (he2.2 _ lPA).trans PA
      have LP2 := ld_at (T := tabOf Tryd.prog NT0) P2
      have l2 : h.n < h'.n := at_lt P2
      simp only [core, Nat.reduceAdd, Nat.reduceSub, Nat.reduceMul, Nat.reduceLT, Nat.reduceEqDiff, reduceCtorEq, Nat.reduceLeDiff, Int.reduceLE, Int.reduceLT, Int.reduceToNat, s1, s2, s3, s4, hn, g1, g3, g4, g5, g20, g21, g22, g52, g53, g54, hj, hc, hld, hld0, hws, y1, y2, LP2, l2]
      refine ⟨fun hq => ?_, fun hq => ?_⟩
      · refine hbad _ (E2.push _ E2.1) ?_
        rw [hbk]
        unfold hdOk
        rw [any_true' hy2 hq]
        rfl
      · refine ih2 _ _ ⟨he2.push _ he2.1, ?_, ?_⟩
        · rw [any_take hy, hany]
          simpa using hq
        · simp only [core, Nat.reduceAdd, Nat.reduceSub, Nat.reduceMul, Nat.reduceLT, Nat.reduceEqDiff, reduceCtorEq, Nat.reduceLeDiff, Int.reduceLE, Int.reduceLT, Int.reduceToNat, hn, g1, g3, g4, g5, g20, g21, g22, g52, g53, g54]
    · rintro t h' hc ⟨he2, hany, hn, g1, g3, g4, g5, g20, g21, g22, g52, g53, g54⟩
      have E2 : Ext H.n H h' := EHA.step he2
      have P2 := (he2.2 _ lPA).trans PA
      have LP2 := ld_at (T := tabOf Tryd.prog NT0) P2
      have l2 : h.n < h'.n := at_lt P2
      have A2 := (he2.2 _ lA).trans AA
      have M2 := (he2.2 _ (at_lt MA)).trans MA
      have hhd : hdOk m i x = true := by
        unfold hdOk
        rw [hany, decide_eq_true (show x.id < 0 by omega), decide_eq_true (show 1 ≤ x.kind by omega), decide_eq_true (show x.kind ≤ 3 by omega)]
        simp [hlen]
      rw [hhd, Bool.true_and] at hbk
      simp only [core, Nat.reduceAdd, Nat.reduceSub, Nat.reduceMul, Nat.reduceLT, Nat.reduceEqDiff, reduceCtorEq, Nat.reduceLeDiff, Int.reduceLE, Int.reduceLT, Int.reduceToNat, s1, s2, s3, s4, hn, g1, g3, g4, g5, g20, g21, g22, g52, g53, g54, hc, LP2, l2, a2, a3]
      refine WB_for x.items.length (fun k t h3 => ∃ es c, h3.at (H.n + 1) = some (.map es c) ∧ Ones es (itsTo m i ++ x.items.take k) ∧ Ext H.n H h3 ∧ h3.at H.n = some (.cells [.lit (.int .i64 m.epoch), vo, vp, vb, .lit (.int .i64 m.leaf)] 26) ∧ h3.at h.n = some (.cells [.lit (.int .i64 x.id), .lit (.int .i64 x.kind), va, vw] 47) ∧ (List.range k).all (itemC m (itsTo m i) x) = true ∧ t.n = 105 ∧ t.get 1 = .ptr H.n 0 ∧ t.get 3 = .mp (H.n + 1) ∧ t.get 5 = .ptr h.n 0 ∧ t.get 20 = vb ∧ t.get 21 = .lit (.int .i64 m.buckets.length) ∧ t.get 22 = .lit (.int .i64 i) ∧ t.get 65 = va ∧ t.get 66 = .lit (.int .i64 x.items.length) ∧ t.get 67 = .lit (.int .i64 k)) ?_ ?_ _ _ ?_
      · rintro k t h3 hk hc ⟨es, cl, M3, ho3, E3, A3, P3, hkall, hn, g1, g3, g5, g20, g21, g22, g65, g66, g67⟩ ih4
        have hlda := (ha.ext E3 (Nat.le_refl _)).int (T := tabOf Tryd.prog NT0) (e := 3) (by kernel_rfl) (by kernel_rfl) hk
        have hws := wrap_succ hk (by omega)
        have lm3 := at_lt M3
        have l3 := at_lt A3
        have lp3 := at_lt P3
        obtain ⟨d, hd⟩ : ∃ d, d = x.items.getD k 0 := ⟨_, rfl⟩
        have hu : und (tabOf Tryd.prog NT0) 64 = some (.map 3 3) := by kernel_rfl
        have hi : und (tabOf Tryd.prog NT0) 3 = some (.int .i64) := by kernel_rfl
        have hz : zeroT (tabOf Tryd.prog NT0) 3 = some (.lit (.int .i64 0)) := by kernel_rfl
        have w01 : IntKind.i64.wrap (0 + 1) = 1 := by decide
        have w11 : IntKind.i64.wrap (1 + 1) = 2 := by decide
        rw [← hd] at hlda
        by_cases hmem : d ∈ itsTo m i ++ x.items.take k
        · have hL := look_old hu hi hz M3 ho3 hmem
          obtain ⟨es', hU, hL2⟩ := upd_old (x := .lit (.int .i64 2)) hu hi hz M3 ho3 hmem
          obtain ⟨h4, hh4⟩ : ∃ h4, h4 = h3.put (H.n + 1) (.map es' cl) := ⟨_, rfl⟩
          have E4 : Ext H.n H h4 := hh4 ▸ E3.put _ (by omega)
          have hL4 := hL2 h4 (by rw [hh4]; exact at_put_same _ lm3)
          rw [← hh4] at hU
          simp only [core, Nat.reduceAdd, Nat.reduceSub, Nat.reduceMul, Nat.reduceLT, Nat.reduceEqDiff, reduceCtorEq, Nat.reduceLeDiff, Int.reduceLE, Int.reduceLT, Int.reduceToNat, hn, g1, g3, g5, g20, g21, g22, g65, g66, g67, hc, hk, hlda, a2, a3, a_look, aLookup, a_mupd, aUpdate, hL, hU, hL4, w11]
          refine hbad _ E4 ?_
          rw [hbk, range_all_false hk ?_]
          unfold itemC
          rw [← hd, List.contains_iff_mem.2 hmem]
          rfl
        have hL := look_new hu hi hz M3 ho3 hmem
        have hU := upd_new (x := .lit (.int .i64 1)) hu hi M3 ho3 hmem
        obtain ⟨h4, hh4⟩ : ∃ h4, h4 = h3.put (H.n + 1) (.map (es ++ [{ key := .int .i64 d, val := .lit (.int .i64 1), born := cl }]) (cl + 1)) := ⟨_, rfl⟩
        have E4 : Ext H.n H h4 := hh4 ▸ E3.put _ (by omega)
        have M4 : h4.at (H.n + 1) = some (.map (es ++ [{ key := .int .i64 d, val := .lit (.int .i64 1), born := cl }]) (cl + 1)) := by rw [hh4]; exact at_put_same _ lm3
        have hL4 := look_put hu hi hz ho3 M4
        rw [← hh4] at hU
        have hne : H.n + 1 ≠ h.n := by omega
        have A4 := A3
        rw [← at_put_ne (.map (es ++ [{ key := .int .i64 d, val := .lit (.int .i64 1), born := cl }]) (cl + 1)) (show H.n + 1 ≠ H.n by omega), ← hh4] at A4
        have P4 := P3
        rw [← at_put_ne (.map (es ++ [{ key := .int .i64 d, val := .lit (.int .i64 1), born := cl }]) (cl + 1)) hne, ← hh4] at P4
        have l4 := at_lt A4
        have lp4 := at_lt P4
        have LA4 := ld_at (T := tabOf Tryd.prog NT0) A4
        have LP4 := ld_at (T := tabOf Tryd.prog NT0) P4
        simp only [core, Nat.reduceAdd, Nat.reduceSub, Nat.reduceMul, Nat.reduceLT, Nat.reduceEqDiff, reduceCtorEq, Nat.reduceLeDiff, Int.reduceLE, Int.reduceLT, Int.reduceToNat, hn, g1, g3, g5, g20, g21, g22, g65, g66, g67, hc, hk, hlda, a2, a3, a_look, aLookup, a_mupd, aUpdate, hL, hU, hL4, w01, LA4, l4, LP4, lp4]
        refine (may_x (b := x) d (hm.ext E4 (Nat.le_refl _)) hl0 hbs a1 w1).mono ?_
        rintro _ h5 ⟨e5, rfl⟩
        have E5 := E4.step e5
        have A5 := (e5.2 _ l4).trans A4
        have P5 := (e5.2 _ lp4).trans P4
        have M5 := (e5.2 _ (at_lt M4)).trans M4
        have lp5 := at_lt P5
        have LP5 := ld_at (T := tabOf Tryd.prog NT0) P5
        have hcon : (itsTo m i ++ x.items.take k).contains d = false := by
          cases hcc : (itsTo m i ++ x.items.take k).contains d with
          | false => rfl
          | true => exact absurd (List.contains_iff_mem.1 hcc) hmem
        have hit : itemC m (itsTo m i) x k = (fitF m x d && wOk (x.weights.getD k 0)) := by
          unfold itemC
          rw [← hd, hcon]
          rfl
        cases hfit : fitF m x d with
        | false =>
          simp only [core, Nat.reduceAdd, Nat.reduceSub, Nat.reduceMul, Nat.reduceLT, Nat.reduceEqDiff, reduceCtorEq, Nat.reduceLeDiff, Int.reduceLE, Int.reduceLT, Int.reduceToNat, hn, g1, g3, g5, g20, g21, g22, g65, g66, g67]
          refine hbad _ E5 ?_
          rw [hbk, range_all_false hk (by rw [hit, hfit]; rfl)]
        | true =>
        rw [hfit, Bool.true_and] at hit
        have hkw : k < x.weights.length := by omega
        have hldw := (hw.ext E5 (Nat.le_refl _)).int (T := tabOf Tryd.prog NT0) (e := 3) (by kernel_rfl) (by kernel_rfl) hkw
        by_cases d1 : x.weights.getD k 0 < 0
        · simp only [core, Nat.reduceAdd, Nat.reduceSub, Nat.reduceMul, Nat.reduceLT, Nat.reduceEqDiff, reduceCtorEq, Nat.reduceLeDiff, Int.reduceLE, Int.reduceLT, Int.reduceToNat, hn, g1, g3, g5, g20, g21, g22, g65, g66, g67, LP5, lp5, w2, w3, hkw, hldw, d1]
          refine hbad _ E5 ?_
          rw [hbk, range_all_false hk (by rw [hit]; unfold wOk; rw [decide_eq_false (by omega)]; rfl)]
        by_cases d2 : 1048576 < x.weights.getD k 0
        · simp only [core, Nat.reduceAdd, Nat.reduceSub, Nat.reduceMul, Nat.reduceLT, Nat.reduceEqDiff, reduceCtorEq, Nat.reduceLeDiff, Int.reduceLE, Int.reduceLT, Int.reduceToNat, hn, g1, g3, g5, g20, g21, g22, g65, g66, g67, LP5, lp5, w2, w3, hkw, hldw, d1, d2]
          refine hbad _ E5 ?_
          rw [hbk, range_all_false hk (by rw [hit]; unfold wOk; rw [decide_eq_false (show ¬ x.weights.getD k 0 ≤ 1048576 by omega), Bool.and_false])]
        simp only [core, Nat.reduceAdd, Nat.reduceSub, Nat.reduceMul, Nat.reduceLT, Nat.reduceEqDiff, reduceCtorEq, Nat.reduceLeDiff, Int.reduceLE, Int.reduceLT, Int.reduceToNat, hn, g1, g3, g5, g20, g21, g22, g65, g66, g67, LP5, lp5, w2, w3, hkw, hldw, d1, d2, hws]
        refine ih4 _ _ ⟨_, _, M5, ?_, E5, A5, P5, ?_, ?_⟩
        · rw [List.take_add_one, getD_some' 0 hk, ← hd]
          simpa using ho3.snoc (k := d)
        · rw [range_all_succ, hkall, hit]
          unfold wOk
          rw [decide_eq_true (show 0 ≤ x.weights.getD k 0 by omega), decide_eq_true (show x.weights.getD k 0 ≤ 1048576 by omega)]
          rfl
        · simp only [core, Nat.reduceAdd, Nat.reduceSub, Nat.reduceMul, Nat.reduceLT, Nat.reduceEqDiff, reduceCtorEq, Nat.reduceLeDiff, Int.reduceLE, Int.reduceLT, Int.reduceToNat, hn, g1, g3, g5, g20, g21, g22, g65, g66, g67]
      · rintro t h3 hc ⟨es, cl, M3, ho3, E3, A3, P3, hkall, hn, g1, g3, g5, g20, g21, g22, g65, g66, g67⟩
        rw [List.take_length] at ho3
        simp only [core, Nat.reduceAdd, Nat.reduceSub, Nat.reduceMul, Nat.reduceLT, Nat.reduceEqDiff, reduceCtorEq, Nat.reduceLeDiff, Int.reduceLE, Int.reduceLT, Int.reduceToNat, hn, g1, g3, g5, g20, g21, g22, g65, g66, g67, hc, hws]
        refine ih _ _ ⟨es, cl, M3, ?_, E3, A3, ?_, ?_⟩
        · rw [itsTo_succ hx]; exact ho3
        · rw [range_all_succ, hall, getD_of hx, hbk, hkall]; rfl
        · simp only [core, Nat.reduceAdd, Nat.reduceSub, Nat.reduceMul, Nat.reduceLT, Nat.reduceEqDiff, reduceCtorEq, Nat.reduceLeDiff, Int.reduceLE, Int.reduceLT, Int.reduceToNat, hn, g1, g3, g5, g20, g21, g22, g65, g66, g67]
      · refine ⟨_, _, M2, ?_, E2, A2, P2, rfl, ?_⟩
        · rw [List.take_zero, List.append_nil]; exact ho
        · simp only [core, Nat.reduceAdd, Nat.reduceSub, Nat.reduceMul, Nat.reduceLT, Nat.reduceEqDiff, reduceCtorEq, Nat.reduceLeDiff, Int.reduceLE, Int.reduceLT, Int.reduceToNat, hn, g1, g3, g4, g5, g20, g21, g22, g52, g53, g54]
          (repeat' apply And.intro) <;> first | rfl | trivial
    · simp only [core, Nat.reduceAdd, Nat.reduceSub, Nat.reduceMul, Nat.reduceLT, Nat.reduceEqDiff, reduceCtorEq, Nat.reduceLeDiff, Int.reduceLE, Int.reduceLT, Int.reduceToNat, hn, g1, g3, g20, g21, g22]
      refine ⟨Ext.refl _ _, rfl, ?_⟩
      (repeat' apply And.intro) <;> first | rfl | trivial
  · rintro t h hc ⟨es, cl, M1, ho, E1, A1, hall, hn, g1, g3, g20, g21, g22⟩
    simp only [core, Nat.reduceAdd, Nat.reduceSub, Nat.reduceMul, Nat.reduceLT, Nat.reduceEqDiff, reduceCtorEq, Nat.reduceLeDiff, Int.reduceLE, Int.reduceLT, Int.reduceToNat, s1, s2, hn, g1, g3, g20, g21, g22, hc]
    exact ⟨E1, by unfold errC; rw [hg0, hall]; rfl⟩
  · refine ⟨_, _, M0, rfl, E0, A0, rfl, ?_⟩
    simp only [core, Nat.reduceAdd, Nat.reduceSub, Nat.reduceMul, Nat.reduceLT, Nat.reduceEqDiff, reduceCtorEq, Nat.reduceLeDiff, Int.reduceLE, Int.reduceLT, Int.reduceToNat]
    (repeat' apply And.intro) <;> first | rfl | trivial
end Go.Proofs.YtkgbeihcepociaaDoor.Ex
end

section

set_option linter.unusedSimpArgs false
set_option linter.unusedVariables false
set_option maxRecDepth 10000
set_option maxHeartbeats 4000000
namespace Go.Proofs.YtkgbeihcepociaaDoor.Ex
open Go
theorem wAll {l : List Int} : l.all wOk = (List.range l.length).all (fun k => wOk (l.getD k 0)) := by
  apply Bool.eq_iff_iff.2
  rw [List.all_eq_true, List.all_eq_true]
  constructor
  · intro h k hk
    exact h _ (List.mem_of_getElem? (getD_some' 0 (List.mem_range.1 hk)))
  · intro h y hy
    obtain ⟨j, hj, hjb⟩ := List.mem_iff_getElem.1 hy
    have := h j (List.mem_range.2 hj)
    rw [List.getD_eq_getElem?_getD, List.getElem?_eq_getElem hj, hjb] at this
    exact this
theorem fit_kind {m : MapD} {b : BktD} {d : Int} (hk : ∀ c ∈ m.buckets, 1 ≤ c.kind) (hb : 1 ≤ b.kind) : fitF m b d = (decide (0 ≤ kindF m d) && decide (kindF m d < b.kind)) := by
  unfold fitF kindF
  by_cases h0 : 0 ≤ d
  · rw [if_pos h0, if_pos h0]
    by_cases h8 : d < 8
    · rw [if_pos h8, decide_eq_true h8, decide_eq_true (show (0 : Int) < b.kind by omega)]
      rfl
    · rw [if_neg h8, decide_eq_false h8]
      rfl
  · rw [if_neg h0, if_neg h0]
    unfold bucketG
    cases hf : bucketF m d with
    | none => rfl
    | some c =>
      have := hk c (List.mem_of_find?_eq_some hf)
      simp only [Option.isSome_some, if_true, Option.getD_some, Bool.true_and]
      rw [decide_eq_true (show 0 ≤ c.kind by omega), Bool.true_and]
theorem hd_kind {m : MapD} {i : Nat} {b : BktD} (h : hdOk m i b = true) : 1 ≤ b.kind ∧ b.items.length = b.weights.length := by
  unfold hdOk at h
  simp only [Bool.and_eq_true, decide_eq_true_eq, beq_iff_eq] at h
  exact ⟨h.1.1.2, h.2⟩
theorem bC_bOk {m : MapD} {i : Nat} {b : BktD} (hk : ∀ c ∈ m.buckets, 1 ≤ c.kind) (h : hdOk m i b = true) : bC m i b = bOk m i b := by
  obtain ⟨h1, h2⟩ := hd_kind h
  unfold bC bOk
  rw [h, wAll, ← h2]
  apply Bool.eq_iff_iff.2
  simp only [Bool.true_and, Bool.and_eq_true, List.all_eq_true, List.mem_range]
  unfold itemC itemOk
  simp only [fit_kind hk h1, Bool.and_eq_true]
  constructor
  · intro h
    exact ⟨fun k hk => (h k hk).2, fun k hk => ⟨(h k hk).1.2, (h k hk).1.1⟩⟩
  · intro h k hk
    exact ⟨⟨(h.2 k hk).2, (h.2 k hk).1⟩, h.1 k hk⟩
theorem all_kind {m : MapD} {p : Nat → BktD → Bool} (hp : ∀ i b, p i b = true → hdOk m i b = true) (h : (List.range m.buckets.length).all (fun i => p i (m.buckets.getD i bkt0)) = true) : (∀ c ∈ m.buckets, 1 ≤ c.kind) ∧ ∀ i, i < m.buckets.length → hdOk m i (m.buckets.getD i bkt0) = true := by
  have h2 : ∀ i, i < m.buckets.length → hdOk m i (m.buckets.getD i bkt0) = true := fun i hi => hp _ _ (List.all_eq_true.1 h i (List.mem_range.2 hi))
  refine ⟨fun c hc => ?_, h2⟩
  obtain ⟨j, hj, hjb⟩ := List.mem_iff_getElem.1 hc
  have := (hd_kind (h2 j hj)).1
  rw [List.getD_eq_getElem?_getD, List.getElem?_eq_getElem hj, hjb] at this
  exact this
theorem check_good (m : MapD) : checkF m = goodF m := by
  unfold checkF goodF
  congr 1
  apply Bool.eq_iff_iff.2
  constructor
  · intro h
    obtain ⟨h1, h2⟩ := all_kind (p := bC m) (fun i b hb => by unfold bC at hb; simp only [Bool.and_eq_true] at hb; exact hb.1) h
    rw [List.all_eq_true] at *
    intro i hi
    rw [← bC_bOk h1 (h2 i (List.mem_range.1 hi))]
    exact h i hi
  · intro h
    obtain ⟨h1, h2⟩ := all_kind (p := bOk m) (fun i b hb => by unfold bOk at hb; simp only [Bool.and_eq_true] at hb; exact hb.1.1) h
    rw [List.all_eq_true] at *
    intro i hi
    rw [bC_bOk h1 (h2 i (List.mem_range.1 hi))]
    exact h i hi
theorem goodC_x {F : Nat → Prop} {H : AH} {m : MapD} {vo vp vb : AV} (hm : MpAt F H m vo vp vb) (hok : OkM m) :
    WC Tryd.prog (tabOf Tryd.prog NT0) S0 21 [mpV m vo vp vb] H fun r h' => Ext H.n H h' ∧ r = .lit (.bool (goodF m)) := by
  refine WC_fn Tryd.func21 rfl rfl ?_
  have o1 := hm.o.one
  have o2 := hm.p.one
  have o3 := hm.b.one
  have EP : ∀ x, Ext H.n H (H.push x) := fun x => (Ext.refl _ _).push _ (Nat.le_refl _)
  simp only [core, Nat.reduceAdd, Nat.reduceSub, Nat.reduceMul, Nat.reduceLT, Nat.reduceEqDiff, reduceCtorEq, Nat.reduceLeDiff, Int.reduceLE, Int.reduceLT, Int.reduceToNat, Tryd.ntmps21, mpV, o1, o2, o3]
  refine (check_x (hm.ext (EP _) (Nat.le_refl _)) hok).mono ?_
  rintro _ h2 ⟨e2, rfl⟩
  rw [← check_good]
  unfold errC
  cases checkF m with
  | true =>
    simp only [core, Nat.reduceAdd, Nat.reduceSub, Nat.reduceMul, Nat.reduceLT, Nat.reduceEqDiff, reduceCtorEq, Nat.reduceLeDiff, Int.reduceLE, Int.reduceLT, Int.reduceToNat]
    exact ⟨(EP _).step e2, rfl⟩
  | false =>
    simp only [core, Nat.reduceAdd, Nat.reduceSub, Nat.reduceMul, Nat.reduceLT, Nat.reduceEqDiff, reduceCtorEq, Nat.reduceLeDiff, Int.reduceLE, Int.reduceLT, Int.reduceToNat]
    exact ⟨(EP _).step e2, rfl⟩
end Go.Proofs.YtkgbeihcepociaaDoor.Ex
end

section

set_option linter.unusedSimpArgs false
set_option linter.unusedVariables false
set_option maxRecDepth 10000
set_option maxHeartbeats 4000000
namespace Go.Proofs.YtkgbeihcepociaaDoor.Ex
open Go
theorem sort_c {H : AH} {p : Nat} {xs : List Int} {c : Cap} {Q : AV → AH → Prop} (hat : H.at p = some (.cells (iL xs) 3)) (hne : xs ≠ []) (hl : xs.length ≤ 4611686018427387903) (hq : Q (.tup []) (H.put p (.cells (iL (srtI xs)) 3))) :
    WC Tryd.prog (tabOf Tryd.prog NT0) S0 36 [.sl p 0 xs.length c] H Q := by
  refine WC_sum Tryd.func36 rfl (g := sSort) rfl ?_ hq
  have h0 : Nat.beq xs.length 0 = false := by
    cases xs with
    | nil => exact absurd rfl hne
    | cons => rfl
  have hi : intsL (iL xs) = some xs := intsL_avI xs
  unfold sSort
  simp only [h0, cond_false, hat, hi]
  have h1 : Nat.beq xs.length xs.length = true := by simp
  have h2 : Nat.ble xs.length 4611686018427387903 = true := Nat.ble_eq_true_of_le hl
  rw [h1, h2]
  rfl
theorem sort_nil_c {H : AH} {Q : AV → AH → Prop} (hq : Q (.tup []) H) : WC Tryd.prog (tabOf Tryd.prog NT0) S0 36 [.lit (.slice none 0 0)] H Q :=
  WC_sum Tryd.func36 rfl (g := sSort) rfl rfl hq
theorem sort_zero_c {H : AH} {p : Nat} {c : Cap} {Q : AV → AH → Prop} (hq : Q (.tup []) H) : WC Tryd.prog (tabOf Tryd.prog NT0) S0 36 [.sl p 0 0 c] H Q :=
  WC_sum Tryd.func36 rfl (g := sSort) rfl rfl hq
theorem compact_c {H : AH} {p : Nat} {xs : List Int} {c : Cap} {Q : AV → AH → Prop} (hat : H.at p = some (.cells (iL xs) 3)) (hne : xs ≠ []) (hl : xs.length ≤ 4611686018427387903) (hq : Q (.sl p 0 (cmpI xs).length c) (H.put p (.cells (iL (cmpO xs)) 3))) :
    WC Tryd.prog (tabOf Tryd.prog NT0) S0 38 [.sl p 0 xs.length c] H Q := by
  refine WC_sum Tryd.func38 rfl (g := sCompact) rfl ?_ hq
  have h0 : Nat.beq xs.length 0 = false := by
    cases xs with
    | nil => exact absurd rfl hne
    | cons => rfl
  have hi : intsL (iL xs) = some xs := intsL_avI xs
  unfold sCompact
  simp only [h0, cond_false, hat, hi]
  have h1 : Nat.beq xs.length xs.length = true := by simp
  have h2 : Nat.ble xs.length 4611686018427387903 = true := Nat.ble_eq_true_of_le hl
  rw [h1, h2]
  rfl
theorem compact_nil_c {H : AH} {Q : AV → AH → Prop} (hq : Q (.lit (.slice none 0 0)) H) : WC Tryd.prog (tabOf Tryd.prog NT0) S0 38 [.lit (.slice none 0 0)] H Q :=
  WC_sum Tryd.func38 rfl (g := sCompact) rfl rfl hq
theorem compact_zero_c {H : AH} {p : Nat} {c : Cap} {Q : AV → AH → Prop} (hq : Q (.sl p 0 0 c) H) : WC Tryd.prog (tabOf Tryd.prog NT0) S0 38 [.sl p 0 0 c] H Q :=
  WC_sum Tryd.func38 rfl (g := sCompact) rfl rfl hq
theorem cmpI_dis {xs : List Int} (hne : ∀ i, i + 1 < xs.length → ¬ xs.getD (i + 1) 0 = xs.getD i 0) : cmpI xs = xs ∧ cmpO xs = xs := by
  have h1 : cmpI xs = xs := by
    refine Lib.compact_all xs fun j hj => ?_
    unfold Lib.keeps
    rw [decide_eq_true_eq]
    cases j with
    | zero => exact .inl rfl
    | succ i =>
      refine .inr fun hh => hne i hj ?_
      have e1 : xs.toArray[i + 1]! = xs.getD (i + 1) 0 := by simp [List.getD_eq_getElem?_getD, List.getElem!_eq_getElem?_getD]
      have e2 : xs.toArray[i + 1 - 1]! = xs.getD i 0 := by simp [List.getD_eq_getElem?_getD, List.getElem!_eq_getElem?_getD]
      rw [e1, e2] at hh
      exact hh
  exact ⟨h1, by unfold cmpO; rw [h1, Nat.sub_self]; simp⟩
theorem reverse_nil {H : AH} : WC Tryd.prog (tabOf Tryd.prog NT0) S0 37 [.lit (.slice none 0 0)] H fun r h' => h' = H := by
  refine WC_fn Tryd.func37 rfl rfl ?_
  have w1 : IntKind.i64.wrap (0 - 1) = -1 := by decide
  have c1 : ((0 : Int) < -1) = False := by decide
  have w2 : IntKind.i64.wrap (((0 : Nat) : Int) - 1) = -1 := by decide
  have q1 : isSl (.lit (.slice none 0 0)) = true := rfl
  have q2 : lenD (.lit (.slice none 0 0)) = 0 := rfl
  simp only [core, Nat.reduceAdd, Nat.reduceSub, Nat.reduceMul, Nat.reduceLT, Nat.reduceEqDiff, reduceCtorEq, Nat.reduceLeDiff, Int.reduceLE, Int.reduceLT, Int.reduceToNat, Tryd.ntmps37, q1, q2, w1, w2]
  refine WB_ind (fun (i : Nat) t h => h = H ∧ t.n = 28 ∧ t.get 0 = .lit (.slice none 0 0) ∧ t.get 2 = .lit (.int .i64 0) ∧ t.get 3 = .lit (.int .i64 (-1))) (fun i => 0) ?_ 0 _ _ ?_
  · rintro i t h ⟨rfl, hn, g0, g2, g3⟩ ih
    simp only [core, Nat.reduceAdd, Nat.reduceSub, Nat.reduceMul, Nat.reduceLT, Nat.reduceEqDiff, reduceCtorEq, Nat.reduceLeDiff, Int.reduceLE, Int.reduceLT, Int.reduceToNat, hn, g0, g2, g3, c1]
    exact Or.inl trivial
  · refine ⟨rfl, ?_⟩
    simp only [core, Nat.reduceAdd, Nat.reduceSub, Nat.reduceMul, Nat.reduceLT, Nat.reduceEqDiff, reduceCtorEq, Nat.reduceLeDiff, Int.reduceLE, Int.reduceLT, Int.reduceToNat]
/-- The buckets without a parent, in order. -/
def orphN (m : MapD) : Nat → List Int
  | 0 => []
  | i + 1 => if (parentF m (m.buckets.getD i bkt0).id).isSome then orphN m i else orphN m i ++ [(m.buckets.getD i bkt0).id]
theorem orphN_len (m : MapD) : ∀ i, (orphN m i).length ≤ i
  | 0 => Nat.le_refl 0
  | i + 1 => by
    have := orphN_len m i
    unfold orphN
    split
    · omega
    · simp; omega
def crootsF (m : MapD) : List Int := (srtI (orphN m m.buckets.length)).reverse
theorem rootsC_x {F : Nat → Prop} {H : AH} {m : MapD} {vo vp vb : AV} (hm : MpAt F H m vo vp vb) (hok : OkM m) (hdis : ∀ i, i + 1 < (crootsF m).length → ¬ (crootsF m).getD (i + 1) 0 = (crootsF m).getD i 0) :
    WC Tryd.prog (tabOf Tryd.prog NT0) S0 17 [mpV m vo vp vb] H fun v h' => Ext H.n H h' ∧ IsSl RInt (fun b => H.n ≤ b) h' v (crootsF m) := by
  refine WC_fn Tryd.func17 rfl rfl ?_
  obtain ⟨hl, hbs, hit⟩ := hok
  have hl0 := hl
  unfold Sm at hl
  have s1 := hm.b.isSl
  have s2 := hm.b.lenD
  have o1 := hm.o.one
  have o2 := hm.p.one
  have o3 := hm.b.one
  have EP : ∀ x, Ext H.n H (H.push x) := fun x => (Ext.refl _ _).push _ (Nat.le_refl _)
  simp only [core, Nat.reduceAdd, Nat.reduceSub, Nat.reduceMul, Nat.reduceLT, Nat.reduceEqDiff, reduceCtorEq, Nat.reduceLeDiff, Int.reduceLE, Int.reduceLT, Int.reduceToNat, Tryd.ntmps17, mpV, s1, s2, o1, o2, o3]
  obtain ⟨h1, hh1⟩ : ∃ h1, h1 = H.push (.cells [.lit (.int .i64 m.epoch), vo, vp, vb, .lit (.int .i64 m.leaf)] 26) := ⟨_, rfl⟩
  have E0 : Ext H.n H h1 := hh1 ▸ EP _
  have A0 : h1.at H.n = some (.cells [.lit (.int .i64 m.epoch), vo, vp, vb, .lit (.int .i64 m.leaf)] 26) := hh1 ▸ at_push_n _ _
  have n1 : h1.n = H.n + 1 := by rw [hh1, n_push]
  rw [← hh1]
  clear hh1
  refine WB_for m.buckets.length (fun i t h => ∃ o, OwnL RInt (fun _ => False) h1.n h o 3 (orphN m i) ∧ Ext h1.n h1 h ∧ t.n = 36 ∧ t.get 1 = .ptr H.n 0 ∧ t.get 3 = o ∧ t.get 9 = vb ∧ t.get 10 = .lit (.int .i64 m.buckets.length) ∧ t.get 11 = .lit (.int .i64 i)) ?_ ?_ _ _ ?_
  · rintro i t h hlt hc ⟨o, ho, he, hn, g1, g3, g9, g10, g11⟩ ih
    obtain ⟨x, hx⟩ : ∃ x, m.buckets[i]? = some x := ⟨_, List.getElem?_eq_getElem hlt⟩
    have E1 : Ext H.n H h := E0.trans (he.mono (by omega))
    obtain ⟨c, hc1, hld, hld0⟩ := hm.b.atE (T := tabOf Tryd.prog NT0) E1 RBkt_z hx
    obtain ⟨va, vw, rfl, ha, hw, i1, i2⟩ := RBkt_is.1 hc1
    have a1 := ha.one
    have w1 := hw.one
    have hws := wrap_succ hlt (by omega)
    have A1 := (he.2 _ (by omega)).trans A0
    have l1 : H.n < h.n := at_lt A1
    have hstep : orphN m (i + 1) = if (parentF m x.id).isSome then orphN m i else orphN m i ++ [x.id] := by rw [orphN, getD_of hx]
    obtain ⟨hA, hhA⟩ : ∃ hA, hA = h.push (.cells [.lit (.int .i64 x.id), .lit (.int .i64 x.kind), va, vw] 47) := ⟨_, rfl⟩
    have EA : Ext h.n h hA := hhA ▸ (Ext.refl _ _).push _ (Nat.le_refl _)
    have PA : hA.at h.n = some (.cells [.lit (.int .i64 x.id), .lit (.int .i64 x.kind), va, vw] 47) := hhA ▸ at_push_n h _
    have AA := (EA.2 _ l1).trans A1
    have LAA := ld_at (T := tabOf Tryd.prog NT0) AA
    have lA := at_lt AA
    have LPA := ld_at (T := tabOf Tryd.prog NT0) PA
    have lPA := at_lt PA
    have EHA := E1.step EA
    simp only [core, Nat.reduceAdd, Nat.reduceSub, Nat.reduceMul, Nat.reduceLT, Nat.reduceEqDiff, reduceCtorEq, Nat.reduceLeDiff, Int.reduceLE, Int.reduceLT, Int.reduceToNat, s1, s2, hn, g1, g3, g9, g10, g11, hlt, hc, hld, hld0, a1, w1, ← hhA, LPA, lPA, LAA, lA]
    refine (parent_x x.id (hm.ext EHA (Nat.le_refl _)) hl0 hbs).mono ?_
    rintro _ h2 ⟨e2, v1, v2, rfl, b1, b2⟩
    have o4 := b1.one
    have o5 := b2.one
    have E2 := EHA.step e2
    have P2 := (e2.2 _ lPA).trans PA
    have l2 := at_lt P2
    simp only [core, Nat.reduceAdd, Nat.reduceSub, Nat.reduceMul, Nat.reduceLT, Nat.reduceEqDiff, reduceCtorEq, Nat.reduceLeDiff, Int.reduceLE, Int.reduceLT, Int.reduceToNat, hn, g1, g3, g9, g10, g11, bktV, o4, o5]
    obtain ⟨h3, hh3⟩ : ∃ h3, h3 = h2.push (.cells [.lit (.int .i64 (parentG m x.id).id), .lit (.int .i64 (parentG m x.id).kind), v1, v2] 47) := ⟨_, rfl⟩
    have e3 : Ext h2.n h2 h3 := hh3 ▸ (Ext.refl _ _).push _ (Nat.le_refl _)
    have P3 := (e3.2 _ l2).trans P2
    have l3 := at_lt P3
    have LP3 := ld_at (T := tabOf Tryd.prog NT0) P3
    have he3 : Ext h1.n h1 h3 := ((he.step EA).step e2).step e3
    have ho3 := ((ho.ext EA (Nat.le_refl _)).ext e2 (Nat.le_refl _)).ext e3 (Nat.le_refl _)
    rw [← hh3]
    clear hh3
    cases hp : (parentF m x.id).isSome with
    | true =>
      rw [hp, if_pos rfl] at hstep
      simp only [core, Nat.reduceAdd, Nat.reduceSub, Nat.reduceMul, Nat.reduceLT, Nat.reduceEqDiff, reduceCtorEq, Nat.reduceLeDiff, Int.reduceLE, Int.reduceLT, Int.reduceToNat, hn, g1, g3, g9, g10, g11, hws]
      refine ih _ _ ⟨o, by rw [hstep]; exact ho3, he3, ?_⟩
      simp only [core, Nat.reduceAdd, Nat.reduceSub, Nat.reduceMul, Nat.reduceLT, Nat.reduceEqDiff, reduceCtorEq, Nat.reduceLeDiff, Int.reduceLE, Int.reduceLT, Int.reduceToNat, hn, g1, g3, g9, g10, g11]
    | false =>
      rw [hp, if_neg (by decide)] at hstep
      simp only [core, Nat.reduceAdd, Nat.reduceSub, Nat.reduceMul, Nat.reduceLT, Nat.reduceEqDiff, reduceCtorEq, Nat.reduceLeDiff, Int.reduceLE, Int.reduceLT, Int.reduceToNat, hn, g1, g3, g9, g10, g11, LP3, l3]
      obtain ⟨h6, hh6⟩ : ∃ h6, h6 = h3.push (.cells [.lit (.int .i64 x.id)] 3) := ⟨_, rfl⟩
      have e6 : Ext h3.n h3 h6 := hh6 ▸ (Ext.refl _ _).push _ (Nat.le_refl _)
      have A6 : h6.at h3.n = some (.cells [.lit (.int .i64 x.id)] 3) := hh6 ▸ at_push_n h3 _
      have n6 := at_lt A6
      rw [← hh6]
      have q0 := he3.1
      have q1 := orphN_len m i
      refine WOp_app ((ho3.ext e6 (Nat.le_refl _)).snoc (by kernel_rfl) (by kernel_rfl) (by kernel_rfl) (zv := .lit (.int .i64 0)) (by kernel_rfl) (by' := 8) (by kernel_rfl) rfl (by decide) (by decide) A6 (y := x.id) ⟨rfl, i1⟩ (by omega) (by omega) (by omega)) ?_
      rintro s' h7 ⟨o7, e7, k7⟩
      have t7 := o7.one
      simp only [core, Nat.reduceAdd, Nat.reduceSub, Nat.reduceMul, Nat.reduceLT, Nat.reduceEqDiff, reduceCtorEq, Nat.reduceLeDiff, Int.reduceLE, Int.reduceLT, Int.reduceToNat, hn, g1, g3, g9, g10, g11, hws, t7]
      refine ih _ _ ⟨s', by rw [hstep]; exact o7, (he3.step e6).trans e7, ?_⟩
      simp only [core, Nat.reduceAdd, Nat.reduceSub, Nat.reduceMul, Nat.reduceLT, Nat.reduceEqDiff, reduceCtorEq, Nat.reduceLeDiff, Int.reduceLE, Int.reduceLT, Int.reduceToNat, hn, g1, g3, g9, g10, g11]
  · rintro t h hc ⟨o, ho, he, hn, g1, g3, g9, g10, g11⟩
    have E1 : Ext H.n H h := E0.trans (he.mono (by omega))
    have q1 := orphN_len m m.buckets.length
    obtain ⟨xs, hxs⟩ : ∃ xs, xs = orphN m m.buckets.length := ⟨_, rfl⟩
    rw [← hxs] at ho q1
    have hcr : crootsF m = (srtI xs).reverse := by unfold crootsF; rw [hxs]
    have hsl : (srtI xs).length = xs.length := by unfold srtI; simp
    by_cases hne : xs = []
    · subst hne
      have hcr0 : crootsF m = [] := by rw [hcr]; unfold srtI; simp
      obtain ⟨L, h1', h2'⟩ := ho
      have hL : L = [] := List.eq_nil_of_length_eq_zero h2'.1
      subst hL
      rcases h1'.2 with ⟨rfl, _⟩ | ⟨p, rfl, hp, hat⟩
      · simp only [core, Nat.reduceAdd, Nat.reduceSub, Nat.reduceMul, Nat.reduceLT, Nat.reduceEqDiff, reduceCtorEq, Nat.reduceLeDiff, Int.reduceLE, Int.reduceLT, Int.reduceToNat, s1, s2, hn, g1, g3, g9, g10, g11, hc]
        refine sort_nil_c ?_
        simp only [core, Nat.reduceAdd, Nat.reduceSub, Nat.reduceMul, Nat.reduceLT, Nat.reduceEqDiff, reduceCtorEq, Nat.reduceLeDiff, Int.reduceLE, Int.reduceLT, Int.reduceToNat, s1, s2, hn, g1, g3, g9, g10, g11, hc]
        refine reverse_nil.mono ?_
        rintro _ h3 rfl
        simp only [core, Nat.reduceAdd, Nat.reduceSub, Nat.reduceMul, Nat.reduceLT, Nat.reduceEqDiff, reduceCtorEq, Nat.reduceLeDiff, Int.reduceLE, Int.reduceLT, Int.reduceToNat, s1, s2, hn, g1, g3, g9, g10, g11, hc]
        refine compact_nil_c ?_
        simp only [core, Nat.reduceAdd, Nat.reduceSub, Nat.reduceMul, Nat.reduceLT, Nat.reduceEqDiff, reduceCtorEq, Nat.reduceLeDiff, Int.reduceLE, Int.reduceLT, Int.reduceToNat, s1, s2, hn, g1, g3, g9, g10, g11, hc]
        rw [hcr0]
        exact ⟨E1, IsSl.nil⟩
      · have hat : h.at p = some (.cells (iL []) 3) := hat
        simp only [core, Nat.reduceAdd, Nat.reduceSub, Nat.reduceMul, Nat.reduceLT, Nat.reduceEqDiff, reduceCtorEq, Nat.reduceLeDiff, Int.reduceLE, Int.reduceLT, Int.reduceToNat, s1, s2, hn, g1, g3, g9, g10, g11, hc]
        refine sort_zero_c ?_
        simp only [core, Nat.reduceAdd, Nat.reduceSub, Nat.reduceMul, Nat.reduceLT, Nat.reduceEqDiff, reduceCtorEq, Nat.reduceLeDiff, Int.reduceLE, Int.reduceLT, Int.reduceToNat, s1, s2, hn, g1, g3, g9, g10, g11, hc]
        refine (reverse_x hat (by decide)).mono ?_
        rintro _ h3 ⟨hat3, hn3, hk3⟩
        have E3 : Ext H.n H h3 := ⟨by rw [hn3]; exact E1.1, fun b hb => (hk3 b (by omega)).trans (E1.2 b hb)⟩
        have ho3 : OwnL RInt (fun _ => False) H.n h3 (.sl p 0 ([] : List Int).length (.un 1)) 3 [] := OwnL.ofInts (by omega) hat3 (fun y hy => by cases hy)
        have hv3 : IsSl RInt (fun b => H.n ≤ b) h3 (.sl p 0 0 (.un 1)) [] := ho3.toSl (fun _ hf => hf.elim) (fun b hb => hb)
        simp only [core, Nat.reduceAdd, Nat.reduceSub, Nat.reduceMul, Nat.reduceLT, Nat.reduceEqDiff, reduceCtorEq, Nat.reduceLeDiff, Int.reduceLE, Int.reduceLT, Int.reduceToNat, s1, s2, hn, g1, g3, g9, g10, g11, hc]
        refine compact_zero_c ?_
        simp only [core, Nat.reduceAdd, Nat.reduceSub, Nat.reduceMul, Nat.reduceLT, Nat.reduceEqDiff, reduceCtorEq, Nat.reduceLeDiff, Int.reduceLE, Int.reduceLT, Int.reduceToNat, s1, s2, hn, g1, g3, g9, g10, g11, hc]
        rw [hcr0]
        exact ⟨E3, hv3⟩
    · obtain ⟨p, rfl, hp, hat, hI⟩ := ho.ints hne
      simp only [core, Nat.reduceAdd, Nat.reduceSub, Nat.reduceMul, Nat.reduceLT, Nat.reduceEqDiff, reduceCtorEq, Nat.reduceLeDiff, Int.reduceLE, Int.reduceLT, Int.reduceToNat, s1, s2, hn, g1, g3, g9, g10, g11, hc]
      refine sort_c hat hne (by omega) ?_
      obtain ⟨h2, hh2⟩ : ∃ h2, h2 = h.put p (.cells (iL (srtI xs)) 3) := ⟨_, rfl⟩
      have hat2 : h2.at p = some (.cells (iL (srtI xs)) 3) := hh2 ▸ at_put_same _ (at_lt hat)
      have E2 : Ext H.n H h2 := hh2 ▸ E1.put _ (by omega)
      rw [← hh2]
      clear hh2
      simp only [core, Nat.reduceAdd, Nat.reduceSub, Nat.reduceMul, Nat.reduceLT, Nat.reduceEqDiff, reduceCtorEq, Nat.reduceLeDiff, Int.reduceLE, Int.reduceLT, Int.reduceToNat, s1, s2, hn, g1, g3, g9, g10, g11, hc]
      have hrv := reverse_x hat2 (by omega)
      rw [hsl] at hrv
      refine hrv.mono ?_
      rintro _ h3 ⟨hat3, hn3, hk3⟩
      have E3 : Ext H.n H h3 := ⟨by rw [hn3]; exact E2.1, fun b hb => (hk3 b (by omega)).trans (E2.2 b hb)⟩
      have hlr : (srtI xs).reverse.length = xs.length := by simp [hsl]
      have hI2 : ∀ y ∈ (srtI xs).reverse, I64 y := fun y hy => hI y (by
        rw [List.mem_reverse] at hy
        unfold srtI at hy
        exact (List.mergeSort_perm _ _).mem_iff.1 hy)
      have ho3 : OwnL RInt (fun _ => False) H.n h3 (.sl p 0 (srtI xs).reverse.length (.un 1)) 3 (srtI xs).reverse := OwnL.ofInts (by omega) hat3 hI2
      have hv3 : IsSl RInt (fun b => H.n ≤ b) h3 (.sl p 0 xs.length (.un 1)) (crootsF m) := by
        rw [hcr, ← hlr]
        exact ho3.toSl (fun _ hf => hf.elim) (fun b hb => hb)
      simp only [core, Nat.reduceAdd, Nat.reduceSub, Nat.reduceMul, Nat.reduceLT, Nat.reduceEqDiff, reduceCtorEq, Nat.reduceLeDiff, Int.reduceLE, Int.reduceLT, Int.reduceToNat, s1, s2, hn, g1, g3, g9, g10, g11, hc]
      rw [hcr] at hdis
      obtain ⟨d1, d2⟩ := cmpI_dis hdis
      have hne3 : (srtI xs).reverse ≠ [] := fun hh => hne (List.eq_nil_of_length_eq_zero (by rw [← hlr, hh]; rfl))
      rw [← hlr]
      refine compact_c hat3 hne3 (by rw [hlr]; omega) ?_
      rw [d1, d2]
      simp only [core, Nat.reduceAdd, Nat.reduceSub, Nat.reduceMul, Nat.reduceLT, Nat.reduceEqDiff, reduceCtorEq, Nat.reduceLeDiff, Int.reduceLE, Int.reduceLT, Int.reduceToNat, s1, s2, hn, g1, g3, g9, g10, g11, hc]
      refine ⟨E3.put _ (by omega), ?_⟩
      have ho4 : OwnL RInt (fun _ => False) H.n (h3.put p (.cells (iL (srtI xs).reverse) 3)) (.sl p 0 (srtI xs).reverse.length (.un 1)) 3 (srtI xs).reverse := OwnL.ofInts (by omega) (at_put_same _ (at_lt hat3)) hI2
      rw [hcr]
      exact ho4.toSl (fun _ hf => hf.elim) (fun b hb => hb)
  · refine ⟨_, OwnL.nil, Ext.refl _ _, ?_⟩
    simp only [core, Nat.reduceAdd, Nat.reduceSub, Nat.reduceMul, Nat.reduceLT, Nat.reduceEqDiff, reduceCtorEq, Nat.reduceLeDiff, Int.reduceLE, Int.reduceLT, Int.reduceToNat]
    (repeat' apply And.intro) <;> first | rfl | trivial
end Go.Proofs.YtkgbeihcepociaaDoor.Ex
end

section

set_option linter.unusedSimpArgs false
set_option linter.unusedVariables false
set_option maxRecDepth 10000
set_option maxHeartbeats 4000000
namespace Go.Proofs.YtkgbeihcepociaaDoor.Ex
open Go
theorem insD_perm {x : Int} {l : List Int} : (insD x l).Perm (x :: l) := by
  unfold insD
  have h := (List.perm_middle (a := x) (l₁ := l.take (posF x l l.length)) (l₂ := l.drop (posF x l l.length)))
  rw [List.take_append_drop] at h
  exact h
theorem posF_spec {x : Int} {l : List Int} : ∀ n, n ≤ l.length → (∀ k, posF x l n ≤ k → k < n → l.getD k 0 < x) ∧ (0 < posF x l n → x ≤ l.getD (posF x l n - 1) 0)
  | 0, _ => ⟨fun k h1 h2 => by omega, fun h => by unfold posF at h; omega⟩
  | n + 1, hn => by
    obtain ⟨h1, h2⟩ := posF_spec (x := x) (l := l) n (by omega)
    unfold posF
    split
    · rename_i hq
      refine ⟨fun k h3 h4 => ?_, h2⟩
      by_cases hk : k = n
      · subst hk; simpa using hq
      · exact h1 k h3 (by omega)
    · rename_i hq
      refine ⟨fun k h3 h4 => by omega, fun _ => ?_⟩
      simpa using hq
theorem desc_get {l : List Int} (hs : l.Pairwise (fun a b => b < a)) {i j : Nat} (hij : i < j) (hj : j < l.length) : l.getD j 0 < l.getD i 0 := by
  rw [List.getD_eq_getElem?_getD, List.getD_eq_getElem?_getD, List.getElem?_eq_getElem hj, List.getElem?_eq_getElem (by omega)]
  exact List.pairwise_iff_getElem.1 hs i j (by omega) hj hij
theorem insD_desc {x : Int} {l : List Int} (hs : l.Pairwise (fun a b => b < a)) (hx : x ∉ l) : (insD x l).Pairwise (fun a b => b < a) := by
  obtain ⟨h1, h2⟩ := posF_spec (x := x) (l := l) l.length (Nat.le_refl _)
  have hp := posF_le x l l.length
  unfold insD
  rw [List.pairwise_append]
  refine ⟨hs.sublist (List.take_sublist _ _), List.pairwise_cons.2 ⟨fun y hy => ?_, hs.sublist (List.drop_sublist _ _)⟩, fun y hy z hz => ?_⟩
  · obtain ⟨j, hj, rfl⟩ := List.mem_iff_getElem.1 hy
    rw [List.length_drop] at hj
    have := h1 (posF x l l.length + j) (by omega) (by omega)
    rw [List.getD_eq_getElem?_getD, List.getElem?_eq_getElem (by omega)] at this
    rw [List.getElem_drop]
    exact this
  · obtain ⟨j, hj, rfl⟩ := List.mem_iff_getElem.1 hy
    rw [List.length_take] at hj
    have hjl : j < l.length := by omega
    have hyx : x < (l.take (posF x l l.length))[j] := by
      have e : (l.take (posF x l l.length))[j] = l.getD j 0 := by
        rw [List.getElem_take, List.getD_eq_getElem?_getD, List.getElem?_eq_getElem hjl]
        rfl
      rw [e]
      have h3 := h2 (by omega)
      have h4 : l.getD (posF x l l.length - 1) 0 ≤ l.getD j 0 := by
        by_cases hh : j = posF x l l.length - 1
        · rw [← hh]; exact Int.le_refl _
        · exact Int.le_of_lt (desc_get hs (by omega) (by omega))
      have h5 : l.getD j 0 ≠ x := fun hh => hx (by
        rw [← hh, List.getD_eq_getElem?_getD, List.getElem?_eq_getElem hjl]
        exact List.getElem_mem hjl)
      omega
    rcases List.mem_cons.1 hz with rfl | hz
    · exact hyx
    · obtain ⟨k, hk, rfl⟩ := List.mem_iff_getElem.1 hz
      rw [List.length_drop] at hk
      have := h1 (posF x l l.length + k) (by omega) (by omega)
      rw [List.getD_eq_getElem?_getD, List.getElem?_eq_getElem (by omega)] at this
      rw [List.getElem_drop]
      exact Int.lt_trans this hyx
theorem parent_within {m : MapD} {id : Int} : (parentF m id).isSome = withinF m id := by
  unfold parentF withinF
  apply Bool.eq_iff_iff.2
  rw [List.find?_isSome, List.any_eq_true]
theorem good_once {m : MapD} (hg : goodF m = true) {i : Nat} (hi : i < m.buckets.length) : twiceF m i = false := by
  unfold goodF at hg
  simp only [Bool.and_eq_true] at hg
  have := List.all_eq_true.1 hg.2 i (List.mem_range.2 hi)
  unfold bOk hdOk at this
  simp only [Bool.and_eq_true] at this
  have h := this.1.1.1.1.1.1
  unfold twiceF
  simpa using h
theorem roots_walk {m : MapD} (hg : goodF m = true) : ∀ i, i ≤ m.buckets.length → (rootsN m i).Perm (orphN m i) ∧ (rootsN m i).Pairwise (fun a b => b < a) ∧ ∀ y ∈ orphN m i, ∃ c ∈ m.buckets.take i, c.id = y
  | 0, _ => ⟨List.Perm.refl _, List.Pairwise.nil, fun y hy => by cases hy⟩
  | i + 1, hi => by
    obtain ⟨h1, h2, h3⟩ := roots_walk hg i (by omega)
    have hx : m.buckets[i]? = some (m.buckets.getD i bkt0) := getD_some' bkt0 (by omega)
    have htk : m.buckets.take (i + 1) = m.buckets.take i ++ [m.buckets.getD i bkt0] := by rw [List.take_add_one, hx]; rfl
    unfold rootsN orphN
    rw [good_once hg (by omega), Bool.or_false, parent_within]
    cases hw : withinF m (m.buckets.getD i bkt0).id with
    | true =>
      refine ⟨h1, h2, fun y hy => ?_⟩
      obtain ⟨c, hc, hcy⟩ := h3 y hy
      exact ⟨c, by rw [htk]; exact List.mem_append.2 (.inl hc), hcy⟩
    | false =>
      have hno : (m.buckets.getD i bkt0).id ∉ rootsN m i := fun hmem => by
        obtain ⟨c, hc, hcy⟩ := h3 _ (h1.mem_iff.1 hmem)
        have := good_once hg (show i < m.buckets.length by omega)
        unfold twiceF at this
        rw [List.any_eq_false] at this
        exact this c hc (by simpa using hcy)
      refine ⟨?_, insD_desc h2 hno, fun y hy => ?_⟩
      · refine insD_perm.trans ((List.Perm.cons _ h1).trans ?_)
        exact (List.perm_append_comm (l₁ := [_]) (l₂ := orphN m i))
      · rcases List.mem_append.1 hy with hy | hy
        · obtain ⟨c, hc, hcy⟩ := h3 y hy
          exact ⟨c, by rw [htk]; exact List.mem_append.2 (.inl hc), hcy⟩
        · exact ⟨m.buckets.getD i bkt0, by rw [htk]; exact List.mem_append.2 (.inr (List.mem_cons_self ..)), (List.mem_singleton.1 hy).symm⟩
theorem roots_same {m : MapD} (hg : goodF m = true) : crootsF m = rootsR m := by
  obtain ⟨h1, h2, _⟩ := roots_walk hg m.buckets.length (Nat.le_refl _)
  unfold crootsF rootsR
  refine List.Perm.eq_of_pairwise (le := fun a b => b ≤ a) (fun a b _ _ h3 h4 => Int.le_antisymm h4 h3) ?_ (h2.imp fun h => Int.le_of_lt h) ((List.reverse_perm _).trans ((List.mergeSort_perm _ _).trans h1.symm))
  rw [List.pairwise_reverse]
  unfold srtI
  have := List.pairwise_mergeSort (le := fun x y : Int => decide (x ≤ y)) (fun a b c h h' => by simp at *; omega) (fun a b => by simp; omega) (orphN m m.buckets.length)
  exact this.imp fun h => by simpa using h
theorem croots_dis {m : MapD} (hg : goodF m = true) : ∀ i, i + 1 < (crootsF m).length → ¬ (crootsF m).getD (i + 1) 0 = (crootsF m).getD i 0 := fun i hi => by
  obtain ⟨_, h2, _⟩ := roots_walk hg m.buckets.length (Nat.le_refl _)
  rw [roots_same hg] at hi ⊢
  have := desc_get (l := rootsR m) h2 (show i < i + 1 by omega) hi
  omega
theorem rootsG_x {F : Nat → Prop} {H : AH} {m : MapD} {vo vp vb : AV} (hm : MpAt F H m vo vp vb) (hok : OkM m) (hg : goodF m = true) :
    WC Tryd.prog (tabOf Tryd.prog NT0) S0 17 [mpV m vo vp vb] H fun v h' => Ext H.n H h' ∧ IsSl RInt (fun b => H.n ≤ b) h' v (rootsR m) := by
  rw [← roots_same hg]
  exact rootsC_x hm hok (croots_dis hg)
end Go.Proofs.YtkgbeihcepociaaDoor.Ex
end

section

set_option linter.unusedSimpArgs false
set_option linter.unusedVariables false
set_option maxRecDepth 10000
set_option maxHeartbeats 4000000
namespace Go.Proofs.YtkgbeihcepociaaDoor.Ex
open Go
theorem wide8_x {F : Nat → Prop} {H : AH} {m : MapD} {vo vp vb : AV} (hm : MpAt F H m vo vp vb) (hok : OkM m) :
    WC Tryd.prog (tabOf Tryd.prog NT0) S0 7 [mpV m vo vp vb] H fun r h' => Ext H.n H h' ∧ ∃ b, r = .lit (.bool b) ∧ (b = false → m.buckets.length ≤ 40) := by
  refine WC_fn Tryd.func7 rfl rfl ?_
  obtain ⟨hl, hbs, -⟩ := id hok
  unfold Sm at hl
  have s1 := hm.b.isSl
  have s2 := hm.b.lenD
  have o1 := hm.o.one
  have o2 := hm.p.one
  have o3 := hm.b.one
  simp only [core, Nat.reduceAdd, Nat.reduceSub, Nat.reduceMul, Nat.reduceLT, Nat.reduceEqDiff, reduceCtorEq, Nat.reduceLeDiff, Int.reduceLE, Int.reduceLT, Int.reduceToNat, Tryd.ntmps7, mpV, s1, s2, o1, o2, o3]
  obtain ⟨h1, hh1⟩ : ∃ h1, h1 = H.push (.cells [.lit (.int .i64 m.epoch), vo, vp, vb, .lit (.int .i64 m.leaf)] 26) := ⟨_, rfl⟩
  have E1 : Ext H.n H h1 := hh1 ▸ (Ext.refl _ _).push _ (Nat.le_refl _)
  have P1 : h1.at H.n = some (.cells [.lit (.int .i64 m.epoch), vo, vp, vb, .lit (.int .i64 m.leaf)] 26) := hh1 ▸ at_push_n _ _
  rw [← hh1]
  clear hh1
  have lp1 := at_lt P1
  have LP1 := ld_at (T := tabOf Tryd.prog NT0) P1
  refine WB_for m.buckets.length (fun i t h => (∃ n, t.get 3 = .lit (.int .i64 n)) ∧ Ext h1.n h1 h ∧ t.n = 27 ∧ t.get 1 = .ptr H.n 0 ∧ t.get 7 = vb ∧ t.get 8 = .lit (.int .i64 m.buckets.length) ∧ t.get 9 = .lit (.int .i64 i)) ?_ ?_ _ _ ?_
  · rintro i t h hlt hc ⟨⟨n, g3⟩, he, hn, g1, g7, g8, g9⟩ ih
    obtain ⟨x, hx⟩ : ∃ x, m.buckets[i]? = some x := ⟨_, List.getElem?_eq_getElem hlt⟩
    have EH := E1.step he
    obtain ⟨c, hc1, hld, hld0⟩ := hm.b.atE (T := tabOf Tryd.prog NT0) EH RBkt_z hx
    obtain ⟨va, vw, rfl, ha, hw, i1, i2⟩ := RBkt_is.1 hc1
    have a1 := ha.one
    have w1 := hw.one
    have a2 := ha.isSl
    have a3 := ha.lenD
    have hws := wrap_succ hlt (by omega)
    simp only [core, Nat.reduceAdd, Nat.reduceSub, Nat.reduceMul, Nat.reduceLT, Nat.reduceEqDiff, reduceCtorEq, Nat.reduceLeDiff, Int.reduceLE, Int.reduceLT, Int.reduceToNat, hn, g1, g7, g8, g9, g3, hlt, hc, hws, s1, s2, hld, hld0, a1, w1, a2, a3]
    refine ih _ _ ⟨⟨IntKind.i64.wrap (n + x.items.length), by simp only [core, Nat.reduceAdd, Nat.reduceSub, Nat.reduceMul, Nat.reduceLT, Nat.reduceEqDiff, reduceCtorEq, Nat.reduceLeDiff, Int.reduceLE, Int.reduceLT, Int.reduceToNat, hn, g1, g7, g8, g9, g3]⟩, he.push _ he.1, by simp only [core, Nat.reduceAdd, Nat.reduceSub, Nat.reduceMul, Nat.reduceLT, Nat.reduceEqDiff, reduceCtorEq, Nat.reduceLeDiff, Int.reduceLE, Int.reduceLT, Int.reduceToNat, hn, g1, g7, g8, g9]⟩
  · rintro t h hc ⟨⟨n, g3⟩, he, hn, g1, g7, g8, g9⟩
    have P := (he.2 _ lp1).trans P1
    have lp := at_lt P
    have LP := ld_at (T := tabOf Tryd.prog NT0) P
    have EH := E1.step he
    by_cases hb : (40 : Int) < (m.buckets.length : Int)
    · simp only [core, Nat.reduceAdd, Nat.reduceSub, Nat.reduceMul, Nat.reduceLT, Nat.reduceEqDiff, reduceCtorEq, Nat.reduceLeDiff, Int.reduceLE, Int.reduceLT, Int.reduceToNat, hn, g1, g7, g8, g9, g3, hc, LP, lp, s1, s2, hb]
      exact ⟨EH, true, rfl, fun h => by cases h⟩
    · simp only [core, Nat.reduceAdd, Nat.reduceSub, Nat.reduceMul, Nat.reduceLT, Nat.reduceEqDiff, reduceCtorEq, Nat.reduceLeDiff, Int.reduceLE, Int.reduceLT, Int.reduceToNat, hn, g1, g7, g8, g9, g3, hc, LP, lp, s1, s2, hb]
      exact ⟨EH, _, rfl, fun _ => by omega⟩
  · refine ⟨⟨0, by simp only [core, Nat.reduceAdd, Nat.reduceSub, Nat.reduceMul, Nat.reduceLT, Nat.reduceEqDiff, reduceCtorEq, Nat.reduceLeDiff, Int.reduceLE, Int.reduceLT, Int.reduceToNat]⟩, Ext.refl _ _, ?_⟩
    simp only [core, Nat.reduceAdd, Nat.reduceSub, Nat.reduceMul, Nat.reduceLT, Nat.reduceEqDiff, reduceCtorEq, Nat.reduceLeDiff, Int.reduceLE, Int.reduceLT, Int.reduceToNat]
    (repeat' apply And.intro) <;> first | rfl | trivial
/-! Up from an item. -/
def upF (m : MapD) (k : Int) : Nat → Int → Int → Option Int
  | 0, _, _ => none
  | n + 1, a, is => if is = k then some a else match parentF m a with
    | none => none
    | some b => upF m k n b.id b.kind
def underF (m : MapD) (osd k : Int) : Option Int := if goodF m then (if 0 ≤ osd ∧ osd < 8 then upF m k 5 osd 0 else none) else none
theorem parent_kind {m : MapD} (hg : goodF m = true) {a : Int} {b : BktD} (hp : parentF m a = some b) : b ∈ m.buckets ∧ b.id < 0 ∧ 1 ≤ b.kind ∧ b.kind ≤ 3 ∧ 0 ≤ kindF m a ∧ kindF m a < b.kind ∧ kindF m b.id = b.kind := by
  unfold parentF at hp
  have hmem := List.mem_of_find?_eq_some hp
  have hcon := List.find?_some hp
  obtain ⟨j, hj⟩ := List.mem_iff_getElem?.1 hmem
  have hjl := (List.getElem?_eq_some_iff.1 hj).1
  have hg0 := hg
  unfold goodF at hg
  simp only [Bool.and_eq_true, List.all_eq_true] at hg
  have h1 := hg.2 j (List.mem_range.2 hjl)
  rw [getD_of hj] at h1
  unfold bOk at h1
  simp only [Bool.and_eq_true, List.all_eq_true] at h1
  obtain ⟨⟨hh, -⟩, hi⟩ := h1
  unfold hdOk at hh
  simp only [Bool.and_eq_true, decide_eq_true_eq] at hh
  obtain ⟨⟨⟨⟨h5, h6⟩, h7⟩, h8⟩, -⟩ := hh
  obtain ⟨k, hk, rfl⟩ := List.mem_iff_getElem.1 (List.contains_iff_mem.1 hcon)
  have h2 := hi k (List.mem_range.2 hk)
  unfold itemOk at h2
  simp only [Bool.and_eq_true, decide_eq_true_eq] at h2
  have e : b.items.getD k 0 = b.items[k] := by rw [List.getD_eq_getElem?_getD, List.getElem?_eq_getElem hk]; rfl
  rw [e] at h2
  refine ⟨hmem, h6, h7, h8, h2.1.1, h2.1.2, ?_⟩
  have hb : bucketF m b.id = some b := by
    unfold bucketF
    rw [List.find?_eq_some_iff_getElem]
    refine ⟨beq_self_eq_true _, j, hjl, (List.getElem?_eq_some_iff.1 hj).2, fun i hij => ?_⟩
    simp only [Bool.not_eq_true'] at h5 ⊢
    have := List.any_eq_false.1 h5 m.buckets[i] (by
      rw [List.mem_take_iff_getElem]
      exact ⟨i, by omega, rfl⟩)
    simpa using this
  exact kind_bkt h6 hb
theorem under_x {F : Nat → Prop} {H : AH} {m : MapD} {vo vp vb : AV} (osd k : Int) (hm : MpAt F H m vo vp vb) (hok : OkM m) :
    WC Tryd.prog (tabOf Tryd.prog NT0) S0 18 [mpV m vo vp vb, .lit (.int .i64 osd), .lit (.int .i64 k)] H fun v h' => Ext H.n H h' ∧ v = optV (underF m osd k) := by
  refine WC_fn Tryd.func18 rfl rfl ?_
  obtain ⟨hl, hbs, -⟩ := id hok
  have o1 := hm.o.one
  have o2 := hm.p.one
  have o3 := hm.b.one
  simp only [core, Nat.reduceAdd, Nat.reduceSub, Nat.reduceMul, Nat.reduceLT, Nat.reduceEqDiff, reduceCtorEq, Nat.reduceLeDiff, Int.reduceLE, Int.reduceLT, Int.reduceToNat, Tryd.ntmps18, mpV, o1, o2, o3]
  obtain ⟨h1, hh1⟩ : ∃ h1, h1 = H.push (.cells [.lit (.int .i64 m.epoch), vo, vp, vb, .lit (.int .i64 m.leaf)] 26) := ⟨_, rfl⟩
  have E1 : Ext H.n H h1 := hh1 ▸ (Ext.refl _ _).push _ (Nat.le_refl _)
  have P1 : h1.at H.n = some (.cells [.lit (.int .i64 m.epoch), vo, vp, vb, .lit (.int .i64 m.leaf)] 26) := hh1 ▸ at_push_n _ _
  rw [← hh1]
  clear hh1
  have lp1 := at_lt P1
  have LP1 := ld_at (T := tabOf Tryd.prog NT0) P1
  refine (goodC_x (hm.ext E1 (Nat.le_refl _)) hok).mono ?_
  rintro _ h2 ⟨e2, rfl⟩
  have E2 := E1.step e2
  cases hg : goodF m with
  | false =>
    simp only [core, Nat.reduceAdd, Nat.reduceSub, Nat.reduceMul, Nat.reduceLT, Nat.reduceEqDiff, reduceCtorEq, Nat.reduceLeDiff, Int.reduceLE, Int.reduceLT, Int.reduceToNat]
    exact ⟨E2, by unfold underF; rw [hg]; rfl⟩
  | true =>
  have P2 := (e2.2 _ lp1).trans P1
  have lp2 := at_lt P2
  have LP2 := ld_at (T := tabOf Tryd.prog NT0) P2
  by_cases c0 : osd < 0
  · simp only [core, Nat.reduceAdd, Nat.reduceSub, Nat.reduceMul, Nat.reduceLT, Nat.reduceEqDiff, reduceCtorEq, Nat.reduceLeDiff, Int.reduceLE, Int.reduceLT, Int.reduceToNat, c0]
    refine ⟨E2, ?_⟩
    unfold underF
    rw [hg, if_pos rfl, if_neg (by omega)]
    rfl
  by_cases c8 : 8 ≤ osd
  · simp only [core, Nat.reduceAdd, Nat.reduceSub, Nat.reduceMul, Nat.reduceLT, Nat.reduceEqDiff, reduceCtorEq, Nat.reduceLeDiff, Int.reduceLE, Int.reduceLT, Int.reduceToNat, c0, c8]
    refine ⟨E2, ?_⟩
    unfold underF
    rw [hg, if_pos rfl, if_neg (by omega)]
    rfl
  simp only [core, Nat.reduceAdd, Nat.reduceSub, Nat.reduceMul, Nat.reduceLT, Nat.reduceEqDiff, reduceCtorEq, Nat.reduceLeDiff, Int.reduceLE, Int.reduceLT, Int.reduceToNat, c0, c8, LP2, lp2, o1, o2, o3]
  have hU : underF m osd k = upF m k 5 osd 0 := by unfold underF; rw [hg, if_pos rfl, if_pos (by omega)]
  rw [hU]
  refine (parent_x osd (hm.ext E2 (Nat.le_refl _)) hl hbs).mono ?_
  rintro _ h3 ⟨e3, va, vw, rfl, b1, b2⟩
  have E3 := E2.step e3
  have P3 := (e3.2 _ lp2).trans P2
  have lp3 := at_lt P3
  have q1 := b1.one
  have q2 := b2.one
  simp only [core, Nat.reduceAdd, Nat.reduceSub, Nat.reduceMul, Nat.reduceLT, Nat.reduceEqDiff, reduceCtorEq, Nat.reduceLeDiff, Int.reduceLE, Int.reduceLT, Int.reduceToNat, bktV, q1, q2]
  have hn3 := E3.1
  refine WB_ind (fun (n : Nat) t h => ∃ a is va vw, h3.n < h.n ∧ (∀ b, b < h3.n → h.at b = h3.at b) ∧ kindF m a = is ∧ 0 ≤ is ∧ 5 ≤ is + n ∧ 1 ≤ n ∧ upF m k n a is = upF m k 5 osd 0 ∧ AV.one va = true ∧ AV.one vw = true ∧ h.at h3.n = some (.cells [.lit (.int .i64 (parentG m a).id), .lit (.int .i64 (parentG m a).kind), va, vw] 47) ∧ t.n = 44 ∧ t.get 1 = .lit (.int .i64 osd) ∧ t.get 2 = .lit (.int .i64 k) ∧ t.get 3 = .ptr H.n 0 ∧ t.get 8 = .lit (.int .i64 a) ∧ t.get 9 = .lit (.int .i64 is) ∧ t.get 10 = .ptr h3.n 0 ∧ t.get 11 = .lit (.bool (parentF m a).isSome)) (fun n => n) ?_ 5 _ _ ?_
  · rintro n t h ⟨a, is, va, vw, hn, hk, hkd, h0, hsum, h1n, hU, q1, q2, B, hn, g1, g2, g3, g8, g9, g10, g11⟩ ih
    obtain ⟨n, rfl⟩ : ∃ n', n = n' + 1 := ⟨n - 1, by omega⟩
    have EH : Ext H.n H h := ⟨by omega, fun b hb => (hk b (by omega)).trans (E3.2 b hb)⟩
    have P := (hk H.n lp3).trans P3
    have lp := at_lt P
    have LP := ld_at (T := tabOf Tryd.prog NT0) P
    have LB := ld_at (T := tabOf Tryd.prog NT0) B
    have lb := at_lt B
    rw [upF] at hU
    by_cases hik : is = k
    · have c1 : (is != k) = false := by rw [hik]; exact bne_self_eq_false _
      rw [if_pos hik] at hU
      simp only [core, Nat.reduceAdd, Nat.reduceSub, Nat.reduceMul, Nat.reduceLT, Nat.reduceEqDiff, reduceCtorEq, Nat.reduceLeDiff, Int.reduceLE, Int.reduceLT, Int.reduceToNat, hn, g1, g2, g3, g8, g9, g10, g11, c1]
      refine ⟨EH, ?_⟩
      rw [← hU]
      rfl
    · have c1 : (is != k) = true := by rw [bne_iff_ne]; exact hik
      rw [if_neg hik] at hU
      cases hp : parentF m a with
      | none =>
        rw [hp] at hU
        simp only [core, Nat.reduceAdd, Nat.reduceSub, Nat.reduceMul, Nat.reduceLT, Nat.reduceEqDiff, reduceCtorEq, Nat.reduceLeDiff, Int.reduceLE, Int.reduceLT, Int.reduceToNat, hn, g1, g2, g3, g8, g9, g10, g11, c1, hp, Option.isSome_none]
        refine ⟨EH, ?_⟩
        rw [← hU]
        rfl
      | some b =>
        rw [hp] at hU
        have hG : parentG m a = b := by unfold parentG; rw [hp]; rfl
        rw [hG] at B LB
        obtain ⟨z1, z2, z3, z4, z5, z6, z7⟩ := parent_kind hg hp
        simp only [core, Nat.reduceAdd, Nat.reduceSub, Nat.reduceMul, Nat.reduceLT, Nat.reduceEqDiff, reduceCtorEq, Nat.reduceLeDiff, Int.reduceLE, Int.reduceLT, Int.reduceToNat, hn, g1, g2, g3, g8, g9, g10, g11, c1, hp, hG, Option.isSome_some]
        rw [WB_regionD [0, 1, 2, 3, 4, 5] 33337376832 (by kernel_rfl)]
        repeat ((with_reducible refine WDM_cons ?_; simp only [dw1]; try simp only [dw2, Nat.reduceAdd, Nat.reduceMul, Nat.reduceShiftRight, Nat.reduceMod, Nat.reduceEqDiff]); simp only [core, Nat.reduceAdd, Nat.reduceSub, Nat.reduceMul, Nat.reduceLT, Nat.reduceEqDiff, reduceCtorEq, Nat.reduceLeDiff, Int.reduceLE, Int.reduceLT, Int.reduceToNat, cored, hn, g1, g2, g3, g8, g9, g10, g11, LB, lb])
        simp only [core, Nat.reduceAdd, Nat.reduceSub, Nat.reduceMul, Nat.reduceLT, Nat.reduceEqDiff, reduceCtorEq, Nat.reduceLeDiff, Int.reduceLE, Int.reduceLT, Int.reduceToNat, hn, g1, g2, g3, g8, g9, g10, g11, LP, lp, o1, o2, o3]
        refine (parent_x b.id (hm.ext EH (Nat.le_refl _)) hl hbs).mono ?_
        rintro _ h4 ⟨e4, vc, vd, rfl, d1, d2⟩
        have r1 := d1.one
        have r2 := d2.one
        have B4 := (e4.2 _ lb).trans B
        have lb4 := at_lt B4
        simp only [core, Nat.reduceAdd, Nat.reduceSub, Nat.reduceMul, Nat.reduceLT, Nat.reduceEqDiff, reduceCtorEq, Nat.reduceLeDiff, Int.reduceLE, Int.reduceLT, Int.reduceToNat, hn, g1, g2, g3, g8, g9, g10, g11, bktV, r1, r2, B4, lb4]
        refine ih n _ _ ⟨b.id, b.kind, vc, vd, by rw [n_put]; exact lb4, fun x hx => (at_put_ne _ (by omega)).trans ((e4.2 x (by omega)).trans (hk x hx)), z7, by omega, by omega, by omega, hU, r1, r2, at_put_same _ lb4, ?_⟩ (by omega)
        simp only [core, Nat.reduceAdd, Nat.reduceSub, Nat.reduceMul, Nat.reduceLT, Nat.reduceEqDiff, reduceCtorEq, Nat.reduceLeDiff, Int.reduceLE, Int.reduceLT, Int.reduceToNat, hn, g1, g2, g3, g8, g9, g10, g11]
  · refine ⟨osd, 0, va, vw, by rw [n_push]; omega, fun b hb => at_push_lt _ hb, ?_, by omega, by omega, by omega, rfl, q1, q2, at_push_n _ _, ?_⟩
    · unfold kindF; rw [if_pos (by omega), if_pos (by omega)]
    · simp only [core, Nat.reduceAdd, Nat.reduceSub, Nat.reduceMul, Nat.reduceLT, Nat.reduceEqDiff, reduceCtorEq, Nat.reduceLeDiff, Int.reduceLE, Int.reduceLT, Int.reduceToNat]
end Go.Proofs.YtkgbeihcepociaaDoor.Ex
end
