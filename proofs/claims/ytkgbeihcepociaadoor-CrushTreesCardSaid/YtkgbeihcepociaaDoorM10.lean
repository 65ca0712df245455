/- Part 10 of the proof: Try, Pl1, Trp, Cpy, Sel, Tre, Psh, Lvs, Act, Bts, Abs, Open, Opa, Opb, Psm, Jn. -/
import Derived.Test.YtkgbeihcepociaaDoorRows
import Derived.ProofKit
import Derived.OpenShut
import Derived.ShutString
import Derived.ChangeOld
import Derived.SizedLaws
import Derived.Test.YtkgbeihcepociaaDoorM9
section

set_option linter.unusedSimpArgs false
set_option linter.unusedVariables false
set_option maxRecDepth 10000
set_option maxHeartbeats 4000000
namespace Go.Proofs.YtkgbeihcepociaaDoor.Ex
open Go
/-- Is a bucket the one that is had alone? -/
def hitF (m : MapD) (at0 a : Int) (hv : Bool) : Bool := !hv && decide (0 < m.leaf) && ((bucketG m a).kind == m.leaf) && (a != at0)
/-- The way down: the item, and the bucket. -/
def wayF (m : MapD) (at0 x r : Int) (ds : List Int) : Nat → Int → Int → Bool → Option (Int × Int)
  | 0, _, _, _ => none
  | n + 1, a, dm, hv => if 0 ≤ a then some (a, if hv then dm else a) else
    if hitF m at0 a hv && ds.contains a then none else
    match chooseF (bucketG m a).items (bucketG m a).weights x r with
    | none => none
    | some i => wayF m at0 x r ds n ((bucketG m a).items.getD i 0) (if hitF m at0 a hv then a else dm) (hv || hitF m at0 a hv)
def tryC (m : MapD) (at0 x r : Int) (os ds : List Int) : Int × Int × Bool := match wayF m at0 x r ds 4 at0 0 false with
  | none => (0, 0, false)
  | some (o, d) => (o, d, mayF m o x && !os.contains o)
def tryV (y : Int × Int × Bool) : AV := .tup [.lit (.int .i64 y.1), .lit (.int .i64 y.2.1), .lit (.bool y.2.2)]
theorem tryC_x {F G : Nat → Prop} {H : AH} {m : MapD} {vo vp vb vs vq : AV} {x : Int} {os ds : List Int} {p : Nat} (at0 r : Int) (hm : MpAt F H m vo vp vb) (hok : OkM m) (hlo : Sm 40 m.osds) (hg : goodF m = true)
    (hp : H.at p = some (.cells (chC m vo vp vb x vs vq) 52)) (hs : IsSl RInt G H vs os) (hq : IsSl RInt G H vq ds) (hsl : os.length ≤ 1000) (hql : ds.length ≤ 1000) (ha : kindF m at0 ≤ 3) :
    WC Tryd.prog (tabOf Tryd.prog NT0) S0 39 [.ptr p 0, .lit (.int .i64 at0), .lit (.int .i64 r)] H fun v h' => Ext H.n H h' ∧ v = tryV (tryC m at0 x r os ds) := by
  refine WC_fn Tryd.func39 rfl rfl ?_
  obtain ⟨hl, hbs, hit⟩ := id hok
  have o1 := hm.o.one
  have o2 := hm.p.one
  have o3 := hm.b.one
  have q1 := hq.isSl
  have q2 := hq.lenD
  unfold chC at hp
  have lp := at_lt hp
  simp only [core, Nat.reduceAdd, Nat.reduceSub, Nat.reduceMul, Nat.reduceLT, Nat.reduceEqDiff, reduceCtorEq, Nat.reduceLeDiff, Int.reduceLE, Int.reduceLT, Int.reduceToNat, Tryd.ntmps39]
  refine WB_ind (fun (n : Nat) t h => ∃ a dm hv, Ext H.n H h ∧ 1 ≤ n ∧ kindF m a < (n : Int) ∧ wayF m at0 x r ds n a dm hv = wayF m at0 x r ds 4 at0 0 false ∧ t.n = 88 ∧ t.get 0 = .ptr p 0 ∧ t.get 1 = .lit (.int .i64 at0) ∧ t.get 2 = .lit (.int .i64 r) ∧ t.get 9 = .lit (.int .i64 a) ∧ t.get 10 = .lit (.int .i64 dm) ∧ t.get 11 = .lit (.bool hv)) (fun n => n) ?_ 4 _ _ ?_
  · rintro n t h ⟨a, dm, hv, E1, hn1, hkd, hD, hn, g0, g1, g2, g9, g10, g11⟩ ih
    obtain ⟨n, rfl⟩ : ∃ n', n = n' + 1 := ⟨n - 1, by omega⟩
    rw [wayF] at hD
    have P1 := (E1.2 _ lp).trans hp
    have LP1 := ld_at (T := tabOf Tryd.prog NT0) P1
    have l1 := at_lt P1
    by_cases h0 : 0 ≤ a
    · have h0' : (a < 0) = False := by simp only [eq_iff_iff, iff_false]; omega
      rw [if_pos h0] at hD
      obtain ⟨k, rfl⟩ : ∃ k : Nat, a = (k : Int) := ⟨a.toNat, by omega⟩
      have hsE := hs.ext E1 (Nat.le_refl _)
      have hmE := hm.ext E1 (Nat.le_refl _)
      have hT : tryC m at0 x r os ds = ((k : Int), (if hv then dm else (k : Int)), mayF m k x && !os.contains (k : Int)) := by
        unfold tryC
        rw [← hD]
      cases hv with
      | true =>
        simp only [core, Nat.reduceAdd, Nat.reduceSub, Nat.reduceMul, Nat.reduceLT, Nat.reduceEqDiff, reduceCtorEq, Nat.reduceLeDiff, Int.reduceLE, Int.reduceLT, Int.reduceToNat, hn, g0, g1, g2, g9, g10, g11, h0']
        refine (takes_x (k := k) hmE hlo P1 hsE hsl).mono ?_
        rintro _ h2 ⟨e2, rfl⟩
        simp only [core, Nat.reduceAdd, Nat.reduceSub, Nat.reduceMul, Nat.reduceLT, Nat.reduceEqDiff, reduceCtorEq, Nat.reduceLeDiff, Int.reduceLE, Int.reduceLT, Int.reduceToNat, hn, g0, g1, g2, g9, g10, g11]
        exact ⟨E1.step e2, by rw [hT]; rfl⟩
      | false =>
        simp only [core, Nat.reduceAdd, Nat.reduceSub, Nat.reduceMul, Nat.reduceLT, Nat.reduceEqDiff, reduceCtorEq, Nat.reduceLeDiff, Int.reduceLE, Int.reduceLT, Int.reduceToNat, hn, g0, g1, g2, g9, g10, g11, h0']
        refine (takes_x (k := k) hmE hlo P1 hsE hsl).mono ?_
        rintro _ h2 ⟨e2, rfl⟩
        simp only [core, Nat.reduceAdd, Nat.reduceSub, Nat.reduceMul, Nat.reduceLT, Nat.reduceEqDiff, reduceCtorEq, Nat.reduceLeDiff, Int.reduceLE, Int.reduceLT, Int.reduceToNat, hn, g0, g1, g2, g9, g10, g11]
        exact ⟨E1.step e2, by rw [hT]; rfl⟩
    · have h0' : (a < 0) = True := by simp only [eq_iff_iff, iff_true]; omega
      rw [if_neg h0] at hD
      simp only [core, Nat.reduceAdd, Nat.reduceSub, Nat.reduceMul, Nat.reduceLT, Nat.reduceEqDiff, reduceCtorEq, Nat.reduceLeDiff, Int.reduceLE, Int.reduceLT, Int.reduceToNat, hn, g0, g1, g2, g9, g10, g11, h0', LP1, l1, chC]
      refine (bucket_x a (hm.ext E1 (Nat.le_refl _)) hl hbs).mono ?_
      rintro _ h2 ⟨e2, va, vw, rfl, b1, b2⟩
      have o4 := b1.one
      have o5 := b2.one
      have E2 := E1.step e2
      simp only [core, Nat.reduceAdd, Nat.reduceSub, Nat.reduceMul, Nat.reduceLT, Nat.reduceEqDiff, reduceCtorEq, Nat.reduceLeDiff, Int.reduceLE, Int.reduceLT, Int.reduceToNat, hn, g0, g1, g2, g9, g10, g11, bktV, o4, o5]
      obtain ⟨h3, hh3⟩ : ∃ h3, h3 = h2.push (.cells [.lit (.int .i64 (bucketG m a).id), .lit (.int .i64 (bucketG m a).kind), va, vw] 47) := ⟨_, rfl⟩
      have e3 : Ext h2.n h2 h3 := hh3 ▸ (Ext.refl _ _).push _ (Nat.le_refl _)
      have B3 : h3.at h2.n = some (.cells [.lit (.int .i64 (bucketG m a).id), .lit (.int .i64 (bucketG m a).kind), va, vw] 47) := hh3 ▸ at_push_n _ _
      have LB3 := ld_at (T := tabOf Tryd.prog NT0) B3
      have lb3 := at_lt B3
      rw [← hh3]
      clear hh3
      have E3 := E2.step e3
      have P3 := (E3.2 _ lp).trans hp
      have LP3 := ld_at (T := tabOf Tryd.prog NT0) P3
      have l3 := at_lt P3
      have c3 := b1.ext e3 (Nat.le_refl _)
      have c4 := b2.ext e3 (Nat.le_refl _)
      refine WB_cut (fun t h' => h' = h3 ∧ t.n = 88 ∧ t.get 0 = .ptr p 0 ∧ t.get 1 = .lit (.int .i64 at0) ∧ t.get 2 = .lit (.int .i64 r) ∧ t.get 9 = .lit (.int .i64 a) ∧ t.get 10 = .lit (.int .i64 dm) ∧ t.get 11 = .lit (.bool hv) ∧ t.get 12 = .ptr h2.n 0 ∧ t.get 52 = .lit (.bool (hitF m at0 a hv))) (fun k' K' hk => ?_) ?_
      · rw [WB_regionD [0, 1, 2, 3, 4, 5, 6, 7, 8, 9, 10, 11, 12, 13, 14, 15, 16, 17, 18, 19, 20, 21, 22, 23, 24] 69617315882342504562567840841288315750640570987166138686464120633385435005909810912804776464491386479444954425742356428750360449267437331138830941716010092468283243943582678247324426174464 (by kernel_rfl)]
        cases hv with
        | true =>
          repeat (first | ((with_reducible refine WDM_cons ?_; simp only [dw1]; try simp only [dw2, Nat.reduceAdd, Nat.reduceMul, Nat.reduceShiftRight, Nat.reduceMod, Nat.reduceEqDiff]); simp only [core, Nat.reduceAdd, Nat.reduceSub, Nat.reduceMul, Nat.reduceLT, Nat.reduceEqDiff, reduceCtorEq, Nat.reduceLeDiff, Int.reduceLE, Int.reduceLT, Int.reduceToNat, cored, hn, g0, g1, g2, g9, g10, g11, LP3, l3, LB3, lb3]) | simp only [core, Nat.reduceAdd, Nat.reduceSub, Nat.reduceMul, Nat.reduceLT, Nat.reduceEqDiff, reduceCtorEq, Nat.reduceLeDiff, Int.reduceLE, Int.reduceLT, Int.reduceToNat, cored, hn, g0, g1, g2, g9, g10, g11, LP3, l3, LB3, lb3])
          refine hk _ _ ⟨rfl, ?_⟩
          simp only [core, Nat.reduceAdd, Nat.reduceSub, Nat.reduceMul, Nat.reduceLT, Nat.reduceEqDiff, reduceCtorEq, Nat.reduceLeDiff, Int.reduceLE, Int.reduceLT, Int.reduceToNat, hn, g0, g1, g2, g9, g10, g11]
          rfl
        | false =>
          by_cases c1 : 0 < m.leaf
          · cases c2 : ((bucketG m a).kind == m.leaf) with
            | false =>
              repeat (first | ((with_reducible refine WDM_cons ?_; simp only [dw1]; try simp only [dw2, Nat.reduceAdd, Nat.reduceMul, Nat.reduceShiftRight, Nat.reduceMod, Nat.reduceEqDiff]); simp only [core, Nat.reduceAdd, Nat.reduceSub, Nat.reduceMul, Nat.reduceLT, Nat.reduceEqDiff, reduceCtorEq, Nat.reduceLeDiff, Int.reduceLE, Int.reduceLT, Int.reduceToNat, cored, hn, g0, g1, g2, g9, g10, g11, LP3, l3, LB3, lb3, c1, c2]) | simp only [core, Nat.reduceAdd, Nat.reduceSub, Nat.reduceMul, Nat.reduceLT, Nat.reduceEqDiff, reduceCtorEq, Nat.reduceLeDiff, Int.reduceLE, Int.reduceLT, Int.reduceToNat, cored, hn, g0, g1, g2, g9, g10, g11, LP3, l3, LB3, lb3, c1, c2])
              refine hk _ _ ⟨rfl, ?_⟩
              simp only [core, Nat.reduceAdd, Nat.reduceSub, Nat.reduceMul, Nat.reduceLT, Nat.reduceEqDiff, reduceCtorEq, Nat.reduceLeDiff, Int.reduceLE, Int.reduceLT, Int.reduceToNat, hn, g0, g1, g2, g9, g10, g11]
              unfold hitF
              rw [c2, Bool.and_false]
              rfl
            | true =>
              cases c3 : (a != at0) with
              | false =>
                repeat (first | ((with_reducible refine WDM_cons ?_; simp only [dw1]; try simp only [dw2, Nat.reduceAdd, Nat.reduceMul, Nat.reduceShiftRight, Nat.reduceMod, Nat.reduceEqDiff]); simp only [core, Nat.reduceAdd, Nat.reduceSub, Nat.reduceMul, Nat.reduceLT, Nat.reduceEqDiff, reduceCtorEq, Nat.reduceLeDiff, Int.reduceLE, Int.reduceLT, Int.reduceToNat, cored, hn, g0, g1, g2, g9, g10, g11, LP3, l3, LB3, lb3, c1, c2, c3]) | simp only [core, Nat.reduceAdd, Nat.reduceSub, Nat.reduceMul, Nat.reduceLT, Nat.reduceEqDiff, reduceCtorEq, Nat.reduceLeDiff, Int.reduceLE, Int.reduceLT, Int.reduceToNat, cored, hn, g0, g1, g2, g9, g10, g11, LP3, l3, LB3, lb3, c1, c2, c3])
                refine hk _ _ ⟨rfl, ?_⟩
                simp only [core, Nat.reduceAdd, Nat.reduceSub, Nat.reduceMul, Nat.reduceLT, Nat.reduceEqDiff, reduceCtorEq, Nat.reduceLeDiff, Int.reduceLE, Int.reduceLT, Int.reduceToNat, hn, g0, g1, g2, g9, g10, g11]
                unfold hitF
                rw [c3, Bool.and_false]
              | true =>
                repeat (first | ((with_reducible refine WDM_cons ?_; simp only [dw1]; try simp only [dw2, Nat.reduceAdd, Nat.reduceMul, Nat.reduceShiftRight, Nat.reduceMod, Nat.reduceEqDiff]); simp only [core, Nat.reduceAdd, Nat.reduceSub, Nat.reduceMul, Nat.reduceLT, Nat.reduceEqDiff, reduceCtorEq, Nat.reduceLeDiff, Int.reduceLE, Int.reduceLT, Int.reduceToNat, cored, hn, g0, g1, g2, g9, g10, g11, LP3, l3, LB3, lb3, c1, c2, c3]) | simp only [core, Nat.reduceAdd, Nat.reduceSub, Nat.reduceMul, Nat.reduceLT, Nat.reduceEqDiff, reduceCtorEq, Nat.reduceLeDiff, Int.reduceLE, Int.reduceLT, Int.reduceToNat, cored, hn, g0, g1, g2, g9, g10, g11, LP3, l3, LB3, lb3, c1, c2, c3])
                refine hk _ _ ⟨rfl, ?_⟩
                simp only [core, Nat.reduceAdd, Nat.reduceSub, Nat.reduceMul, Nat.reduceLT, Nat.reduceEqDiff, reduceCtorEq, Nat.reduceLeDiff, Int.reduceLE, Int.reduceLT, Int.reduceToNat, hn, g0, g1, g2, g9, g10, g11]
                unfold hitF
                rw [c2, c3, decide_eq_true c1]
                rfl
          · repeat (first | ((with_reducible refine WDM_cons ?_; simp only [dw1]; try simp only [dw2, Nat.reduceAdd, Nat.reduceMul, Nat.reduceShiftRight, Nat.reduceMod, Nat.reduceEqDiff]); simp only [core, Nat.reduceAdd, Nat.reduceSub, Nat.reduceMul, Nat.reduceLT, Nat.reduceEqDiff, reduceCtorEq, Nat.reduceLeDiff, Int.reduceLE, Int.reduceLT, Int.reduceToNat, cored, hn, g0, g1, g2, g9, g10, g11, LP3, l3, LB3, lb3, c1]) | simp only [core, Nat.reduceAdd, Nat.reduceSub, Nat.reduceMul, Nat.reduceLT, Nat.reduceEqDiff, reduceCtorEq, Nat.reduceLeDiff, Int.reduceLE, Int.reduceLT, Int.reduceToNat, cored, hn, g0, g1, g2, g9, g10, g11, LP3, l3, LB3, lb3, c1])
            refine hk _ _ ⟨rfl, ?_⟩
            simp only [core, Nat.reduceAdd, Nat.reduceSub, Nat.reduceMul, Nat.reduceLT, Nat.reduceEqDiff, reduceCtorEq, Nat.reduceLeDiff, Int.reduceLE, Int.reduceLT, Int.reduceToNat, hn, g0, g1, g2, g9, g10, g11]
            unfold hitF
            rw [decide_eq_false c1]
            rfl
      rintro t h' ⟨rfl, hn, g0, g1, g2, g9, g10, g11, g12, g52⟩
      have hq3 := hq.ext E3 (Nat.le_refl _)
      obtain ⟨ht, hht⟩ : ∃ ht, ht = hitF m at0 a hv := ⟨_, rfl⟩
      rw [← hht] at g52 hD
      by_cases hret : (ht && ds.contains a) = true
      · rw [if_pos hret] at hD
        have hT : tryC m at0 x r os ds = (0, 0, false) := by
          unfold tryC
          rw [← hD]
        simp only [Bool.and_eq_true] at hret
        obtain ⟨rfl, hca⟩ := hret
        simp only [core, Nat.reduceAdd, Nat.reduceSub, Nat.reduceMul, Nat.reduceLT, Nat.reduceEqDiff, reduceCtorEq, Nat.reduceLeDiff, Int.reduceLE, Int.reduceLT, Int.reduceToNat, hn, g0, g1, g2, g9, g10, g11, g12, g52, LP3, l3]
        refine (contains_x a hq3 (by omega)).mono ?_
        rintro _ h4 ⟨rfl, rfl⟩
        simp only [core, Nat.reduceAdd, Nat.reduceSub, Nat.reduceMul, Nat.reduceLT, Nat.reduceEqDiff, reduceCtorEq, Nat.reduceLeDiff, Int.reduceLE, Int.reduceLT, Int.reduceToNat, hn, g0, g1, g2, g9, g10, g11, g12, g52, hca]
        exact ⟨E3, by rw [hT]; rfl⟩
      rw [if_neg hret] at hD
      refine WB_cut (fun t h4 => h4 = h' ∧ t.n = 88 ∧ t.get 0 = .ptr p 0 ∧ t.get 1 = .lit (.int .i64 at0) ∧ t.get 2 = .lit (.int .i64 r) ∧ t.get 9 = .lit (.int .i64 a) ∧ t.get 10 = .lit (.int .i64 (if ht then a else dm)) ∧ t.get 11 = .lit (.bool (hv || ht)) ∧ t.get 12 = .ptr h2.n 0) (fun k' K' hk => ?_) ?_
      · cases ht with
        | false =>
          simp only [core, Nat.reduceAdd, Nat.reduceSub, Nat.reduceMul, Nat.reduceLT, Nat.reduceEqDiff, reduceCtorEq, Nat.reduceLeDiff, Int.reduceLE, Int.reduceLT, Int.reduceToNat, hn, g0, g1, g2, g9, g10, g11, g12, g52]
          refine hk _ _ ⟨rfl, ?_⟩
          simp only [core, Nat.reduceAdd, Nat.reduceSub, Nat.reduceMul, Nat.reduceLT, Nat.reduceEqDiff, reduceCtorEq, Nat.reduceLeDiff, Int.reduceLE, Int.reduceLT, Int.reduceToNat, hn, g0, g1, g2, g9, g10, g11, g12, g52, Bool.or_false]
        | true =>
          have hca : ds.contains a = false := by
            cases hcc : ds.contains a with
            | false => rfl
            | true => exact absurd (by rw [hcc]; rfl) hret
          simp only [core, Nat.reduceAdd, Nat.reduceSub, Nat.reduceMul, Nat.reduceLT, Nat.reduceEqDiff, reduceCtorEq, Nat.reduceLeDiff, Int.reduceLE, Int.reduceLT, Int.reduceToNat, hn, g0, g1, g2, g9, g10, g11, g12, g52, LP3, l3]
          refine (contains_x a hq3 (by omega)).mono ?_
          rintro _ h4 ⟨rfl, rfl⟩
          simp only [core, Nat.reduceAdd, Nat.reduceSub, Nat.reduceMul, Nat.reduceLT, Nat.reduceEqDiff, reduceCtorEq, Nat.reduceLeDiff, Int.reduceLE, Int.reduceLT, Int.reduceToNat, hn, g0, g1, g2, g9, g10, g11, g12, g52, hca]
          refine hk _ _ ⟨rfl, ?_⟩
          simp only [core, Nat.reduceAdd, Nat.reduceSub, Nat.reduceMul, Nat.reduceLT, Nat.reduceEqDiff, reduceCtorEq, Nat.reduceLeDiff, Int.reduceLE, Int.reduceLT, Int.reduceToNat, hn, g0, g1, g2, g9, g10, g11, g12, g52, Bool.or_true]
      rintro t h4 ⟨rfl, hn, g0, g1, g2, g9, g10, g11, g12⟩
      simp only [core, Nat.reduceAdd, Nat.reduceSub, Nat.reduceMul, Nat.reduceLT, Nat.reduceEqDiff, reduceCtorEq, Nat.reduceLeDiff, Int.reduceLE, Int.reduceLT, Int.reduceToNat, hn, g0, g1, g2, g9, g10, g11, g12]
      have hG : ∀ b, bucketF m a = some b → bucketG m a = b := fun b hb => by unfold bucketG; rw [hb]; rfl
      have hGl : (bucketG m a).items.length * 8 ≤ 140737488351232 := by
        cases hb : bucketF m a with
        | none => unfold bucketG; rw [hb]; decide
        | some b => rw [hG b hb]; exact (hbs b (List.mem_of_find?_eq_some hb)).1
      rw [WB_regionD [0, 1, 2, 3, 4, 5, 6, 7, 8, 9, 10, 11, 12, 13, 14] 26958506803583283964102506241650125051416736049585717655372279349248 (by kernel_rfl)]
      have z1 := c3.isSl
      have z2 := c3.lenD
      have z3 := c4.isSl
      repeat ((with_reducible refine WDM_cons ?_; simp only [dw1]; try simp only [dw2, Nat.reduceAdd, Nat.reduceMul, Nat.reduceShiftRight, Nat.reduceMod, Nat.reduceEqDiff]); simp only [core, Nat.reduceAdd, Nat.reduceSub, Nat.reduceMul, Nat.reduceLT, Nat.reduceEqDiff, reduceCtorEq, Nat.reduceLeDiff, Int.reduceLE, Int.reduceLT, Int.reduceToNat, cored, hn, g0, g1, g2, g9, g10, g11, g12, LP3, l3, LB3, lb3, z1, z2, z3])
      refine (choose_x x r c3 c4 (by omega)).mono ?_
      rintro _ h5 ⟨e5, rfl⟩
      have E5 := E3.step e5
      have B5 := (e5.2 _ lb3).trans B3
      have LB5 := ld_at (T := tabOf Tryd.prog NT0) B5
      have lb5 := at_lt B5
      have c5 := c3.ext e5 (Nat.le_refl _)
      cases hch : chooseF (bucketG m a).items (bucketG m a).weights x r with
      | none =>
        rw [hch] at hD
        have hT : tryC m at0 x r os ds = (0, 0, false) := by
          unfold tryC
          rw [← hD]
        repeat ((with_reducible refine WDM_cons ?_; simp only [dw1]; try simp only [dw2, Nat.reduceAdd, Nat.reduceMul, Nat.reduceShiftRight, Nat.reduceMod, Nat.reduceEqDiff]); simp only [core, Nat.reduceAdd, Nat.reduceSub, Nat.reduceMul, Nat.reduceLT, Nat.reduceEqDiff, reduceCtorEq, Nat.reduceLeDiff, Int.reduceLE, Int.reduceLT, Int.reduceToNat, cored, hn, g0, g1, g2, g9, g10, g11, g12, chooseV, pairV])
        exact ⟨E5, by rw [hT]; rfl⟩
      | some i =>
        obtain ⟨hi, -⟩ := chooseF_lt hch
        rw [hch] at hD
        obtain ⟨b, hb⟩ : ∃ b, bucketF m a = some b := by
          cases hb : bucketF m a with
          | none =>
            unfold bucketG at hi
            rw [hb] at hi
            exact absurd hi (Nat.not_lt_zero _)
          | some b => exact ⟨b, rfl⟩
        have hGb := hG b hb
        obtain ⟨u1, u2, u3, u4, u5, u6, u7, u8⟩ := good_bkt hg hb
        have hkb := kind_bkt (by omega : a < 0) hb
        obtain ⟨y1, y2⟩ := u7 i (by rw [← hGb]; exact hi)
        have hlda := c5.int (T := tabOf Tryd.prog NT0) (e := 3) (by kernel_rfl) (by kernel_rfl) hi
        repeat ((with_reducible refine WDM_cons ?_; simp only [dw1]; try simp only [dw2, Nat.reduceAdd, Nat.reduceMul, Nat.reduceShiftRight, Nat.reduceMod, Nat.reduceEqDiff]); simp only [core, Nat.reduceAdd, Nat.reduceSub, Nat.reduceMul, Nat.reduceLT, Nat.reduceEqDiff, reduceCtorEq, Nat.reduceLeDiff, Int.reduceLE, Int.reduceLT, Int.reduceToNat, cored, hn, g0, g1, g2, g9, g10, g11, g12, chooseV, pairV, LB5, lb5, z1, z2, hi, hlda])
        refine ih n _ _ ⟨_, _, _, E5, ?_, ?_, hD, ?_⟩ (by omega)
        · rw [hGb] at *; omega
        · rw [hGb] at *; omega
        · simp only [core, Nat.reduceAdd, Nat.reduceSub, Nat.reduceMul, Nat.reduceLT, Nat.reduceEqDiff, reduceCtorEq, Nat.reduceLeDiff, Int.reduceLE, Int.reduceLT, Int.reduceToNat, hn, g0, g1, g2, g9, g10, g11, g12]
  · refine ⟨at0, 0, false, Ext.refl _ _, by omega, by omega, rfl, ?_⟩
    simp only [core, Nat.reduceAdd, Nat.reduceSub, Nat.reduceMul, Nat.reduceLT, Nat.reduceEqDiff, reduceCtorEq, Nat.reduceLeDiff, Int.reduceLE, Int.reduceLT, Int.reduceToNat]
end Go.Proofs.YtkgbeihcepociaaDoor.Ex
end

section

set_option linter.unusedSimpArgs false
set_option linter.unusedVariables false
set_option maxRecDepth 10000
set_option maxHeartbeats 4000000
namespace Go.Proofs.YtkgbeihcepociaaDoor.Ex
open Go
end Go.Proofs.YtkgbeihcepociaaDoor.Ex
end

section

set_option linter.unusedSimpArgs false
set_option linter.unusedVariables false
namespace Go.Proofs.YtkgbeihcepociaaDoor.Ex
open Go
theorem kind_neg {m : MapD} (hg : goodF m = true) {w : Int} (hw : w < 0) (h0 : 0 ≤ kindF m w) : ∃ b, bucketF m w = some b ∧ kindF m w = b.kind ∧ 1 ≤ b.kind := by
  cases hb : bucketF m w with
  | none =>
    unfold kindF at h0
    rw [if_neg (by omega), hb] at h0
    exact absurd h0 (by simp)
  | some b => exact ⟨b, rfl, kind_bkt hw hb, (good_bkt hg hb).2.2.1⟩
theorem kind_none {m : MapD} (hg : goodF m = true) {w : Int} (hw : w < 0) (h0 : kindF m w ≤ 0) : bucketF m w = none := by
  cases hb : bucketF m w with
  | none => rfl
  | some b =>
    have := kind_bkt hw hb
    have := (good_bkt hg hb).2.2.1
    omega
theorem choose_none {m : MapD} {a x r : Int} (hb : bucketF m a = none) : chooseF (bucketG m a).items (bucketG m a).weights x r = none := by
  have hG : bucketG m a = bkt0 := by unfold bucketG; rw [hb]; rfl
  rw [hG]
  cases hc : chooseF bkt0.items bkt0.weights x r with
  | none => rfl
  | some i => exact absurd (chooseF_lt hc).1 (Nat.not_lt_zero _)
theorem item_kind {m : MapD} (hg : goodF m = true) {a x r : Int} {b : BktD} {i : Nat} (hb : bucketF m a = some b) (hc : chooseF b.items b.weights x r = some i) : 0 ≤ kindF m (b.items.getD i 0) ∧ kindF m (b.items.getD i 0) < b.kind :=
  (good_bkt hg hb).2.2.2.2.2.2.1 i (chooseF_lt hc).1
theorem hit_true {m : MapD} {at0 a : Int} : hitF m at0 a true = false := by unfold hitF; simp
theorem down_none {m : MapD} {k x r a : Int} (hb : bucketF m a = none) : ∀ (n : Nat), downF m k x r n a = none
  | 0 => rfl
  | n + 1 => by rw [downF, hb]
theorem down_fuel {m : MapD} (hg : goodF m = true) {k x r : Int} : ∀ (n n' : Nat) (a : Int), a < 0 → kindF m a ≤ (n : Int) → kindF m a ≤ (n' : Int) → downF m k x r n a = downF m k x r n' a
  | 0, n', a, ha, h1, _ => by rw [down_none (kind_none hg ha (by simpa using h1)), down_none (kind_none hg ha (by simpa using h1))]
  | n + 1, 0, a, ha, _, h2 => by rw [down_none (kind_none hg ha (by simpa using h2)), down_none (kind_none hg ha (by simpa using h2))]
  | n + 1, n' + 1, a, ha, h1, h2 => by
    cases hb : bucketF m a with
    | none => rw [down_none hb, down_none hb]
    | some b =>
      rw [downF, downF, hb]
      simp only
      cases hc : chooseF b.items b.weights x r with
      | none => rfl
      | some i =>
        simp only
        obtain ⟨q1, q2⟩ := item_kind hg hb hc
        have hk := kind_bkt ha hb
        split
        · rfl
        · rename_i hno
          exact down_fuel hg n n' _ (by omega) (by omega) (by omega)
theorem way_true {m : MapD} (hg : goodF m = true) {at0 x r : Int} {ds : List Int} : ∀ (n : Nat) (a dm : Int), a < 0 → kindF m a ≤ (n : Int) → wayF m at0 x r ds (n + 1) a dm true = (downF m 0 x r n a).map (fun o => (o, dm))
  | 0, a, dm, ha, h1 => by
    have hb := kind_none hg ha (by simpa using h1)
    rw [down_none hb, wayF, if_neg (by omega), hit_true, choose_none hb]
    rfl
  | n + 1, a, dm, ha, h1 => by
    rw [wayF, if_neg (by omega), hit_true]
    cases hb : bucketF m a with
    | none => rw [choose_none hb, down_none hb]; rfl
    | some b =>
      have hG : bucketG m a = b := by unfold bucketG; rw [hb]; rfl
      rw [hG, downF, hb]
      simp only [Bool.false_and, Bool.false_eq_true, if_false, Bool.or_false]
      cases hc : chooseF b.items b.weights x r with
      | none => rfl
      | some i =>
        simp only
        obtain ⟨q1, q2⟩ := item_kind hg hb hc
        have hk := kind_bkt ha hb
        by_cases h0 : 0 ≤ b.items.getD i 0
        · rw [wayF, if_pos h0, if_pos (show 0 ≤ b.items.getD i 0 ∨ kindF m (b.items.getD i 0) = 0 from .inl h0)]
          rfl
        · obtain ⟨b', hb', hk', h1'⟩ := kind_neg hg (by omega) q1
          rw [if_neg (by omega)]
          exact way_true hg n _ dm (by omega) (by omega)
theorem way_false {m : MapD} (hg : goodF m = true) {at0 x r : Int} {ds : List Int} (h3 : kindF m at0 ≤ 3) : ∀ (n : Nat) (a dm : Int), a < 0 → kindF m a ≤ (n : Int) → kindF m a ≤ kindF m at0 → hitF m at0 a false = false →
    wayF m at0 x r ds (n + 1) a dm false = match downF m m.leaf x r n a with
      | none => none
      | some d => if 0 ≤ d then some (d, d) else if ds.contains d then none else (downF m 0 x r 4 d).map (fun o => (o, d))
  | 0, a, dm, ha, h1, _, hh => by
    have hb := kind_none hg ha (by simpa using h1)
    rw [down_none hb, wayF, if_neg (by omega), hh, choose_none hb]
    rfl
  | n + 1, a, dm, ha, h1, h2, hh => by
    rw [wayF, if_neg (by omega), hh]
    cases hb : bucketF m a with
    | none => rw [choose_none hb, down_none hb]; rfl
    | some b =>
      have hG : bucketG m a = b := by unfold bucketG; rw [hb]; rfl
      rw [hG, downF, hb]
      simp only [Bool.false_and, Bool.false_eq_true, if_false, Bool.or_false]
      cases hc : chooseF b.items b.weights x r with
      | none => rfl
      | some i =>
        simp only
        obtain ⟨q1, q2⟩ := item_kind hg hb hc
        have hk := kind_bkt ha hb
        obtain ⟨w, hw⟩ : ∃ w, w = b.items.getD i 0 := ⟨_, rfl⟩
        rw [← hw] at q1 q2 ⊢
        by_cases h0 : 0 ≤ w
        · rw [wayF, if_pos h0, if_pos (show 0 ≤ w ∨ kindF m w = m.leaf from .inl h0)]
          simp only [if_pos h0]
          rfl
        · have hw0 : w < 0 := by omega
          obtain ⟨b', hb', hk', h1'⟩ := kind_neg hg hw0 q1
          have hG' : bucketG m w = b' := by unfold bucketG; rw [hb']; rfl
          by_cases hl : kindF m w = m.leaf
          · have hhit : hitF m at0 w false = true := by
              unfold hitF
              rw [hG']
              have c1 : 0 < m.leaf := by omega
              have c2 : b'.kind = m.leaf := by omega
              have c3 : w ≠ at0 := fun hq => by subst hq; omega
              simp [c1, c2, c3]
            rw [if_pos (.inr hl), wayF, if_neg h0, hhit]
            simp only [Bool.true_and, Bool.or_true, if_true, if_neg h0]
            cases hds : ds.contains w with
            | true => simp only [if_true]
            | false =>
              simp only [Bool.false_eq_true, if_false]
              have ht := way_true hg (at0 := at0) (x := x) (r := r) (ds := ds) n w w hw0 (by omega)
              rw [down_fuel hg 4 n w hw0 (by omega) (by omega), ← ht, wayF, if_neg h0, hit_true]
              simp only [Bool.false_and, Bool.false_eq_true, if_false, Bool.or_false]
          · have hhit : hitF m at0 w false = false := by
              unfold hitF
              rw [hG']
              have c2 : ¬ b'.kind = m.leaf := by omega
              simp [c2]
            rw [if_neg (by omega)]
            exact way_false hg h3 n w dm hw0 (by omega) (by omega) hhit
theorem try_same {m : MapD} (hg : goodF m = true) {at0 x r : Int} {os ds : List Int} (h3 : kindF m at0 ≤ 3) (ha : at0 < 0) (hi : ∀ d ∈ ds, 0 ≤ d → d ∈ os) :
    tryR m x at0 (os, ds) r = if (tryC m at0 x r os ds).2.2 then some ((tryC m at0 x r os ds).1, (tryC m at0 x r os ds).2.1) else none := by
  have hh : hitF m at0 at0 false = false := by unfold hitF; simp
  have hw := way_false hg (x := x) (r := r) (ds := ds) h3 3 at0 0 ha h3 (Int.le_refl _) hh
  unfold tryC tryR
  rw [hw]
  by_cases hk : bucketF m at0 = none
  · rw [down_none hk, down_none hk]; rfl
  rw [down_fuel hg 4 3 at0 ha (by omega) h3]
  cases hd : downF m m.leaf x r 3 at0 with
  | none => rfl
  | some d =>
    simp only
    by_cases hd0 : 0 ≤ d
    · simp only [if_pos hd0]
      cases hc : ds.contains d with
      | true =>
        have : os.contains d = true := List.contains_iff_mem.2 (hi d (List.contains_iff_mem.1 hc) hd0)
        simp only [if_true, this, Bool.not_true, Bool.and_false, Bool.false_eq_true, if_false]
      | false =>
        rw [if_neg (show ¬ d < 0 by omega)]
        simp only [Bool.false_eq_true, if_false]
        cases mayF m d x <;> cases os.contains d <;> rfl
    · simp only [if_neg hd0]
      cases hc : ds.contains d with
      | true => rfl
      | false =>
        rw [if_pos (show d < 0 by omega)]
        simp only [Bool.false_eq_true, if_false]
        cases downF m 0 x r 4 d with
        | none => rfl
        | some o =>
          simp only [Option.map_some]
          cases mayF m o x <;> cases os.contains o <;> rfl
theorem tryR_pos {m : MapD} {x root r o d : Int} {s : List Int × List Int} (h : tryR m x root s r = some (o, d)) (hd : 0 ≤ d) : o = d := by
  unfold tryR at h
  cases h1 : downF m m.leaf x r 4 root with
  | none => rw [h1] at h; cases h
  | some d' =>
    rw [h1] at h
    simp only at h
    split at h
    · cases h
    · split at h
      · cases h
      · rename_i o' ho
        split at h
        · cases h
        · cases h
          rw [if_neg (by omega)] at ho
          exact (Option.some.inj ho).symm
theorem tryR_i64 {F : Nat → Prop} {H : AH} {m : MapD} {vo vp vb : AV} (hm : MpAt F H m vo vp vb) {x root r o d : Int} {s : List Int × List Int} (h : tryR m x root s r = some (o, d)) : I64 o ∧ I64 d := by
  unfold tryR at h
  cases h1 : downF m m.leaf x r 4 root with
  | none => rw [h1] at h; cases h
  | some d' =>
    rw [h1] at h
    simp only at h
    split at h
    · cases h
    · split at h
      · cases h
      · rename_i o' ho
        split at h
        · cases h
        · cases h
          have hd := down_i64 hm _ _ _ h1
          refine ⟨?_, hd⟩
          split at ho
          · exact down_i64 hm _ _ _ ho
          · cases ho; exact hd
theorem firstR_try {m : MapD} {x root : Int} {s : List Int × List Int} {k : Nat} {y : Int × Int} : ∀ n, firstR m x root s k n = some y → ∃ r, tryR m x root s r = some y
  | 0, h => by rw [firstR_zero] at h; cases h
  | n + 1, h => by
    cases hn : firstR m x root s k n with
    | some z => rw [firstR_le hn (n + 1) (by omega)] at h; cases h; exact firstR_try n hn
    | none => rw [firstR_next hn] at h; exact ⟨_, h⟩
theorem copyR_inv {m : MapD} {x root : Int} {s : List Int × List Int} {k : Nat} (hi : ∀ d ∈ s.2, 0 ≤ d → d ∈ s.1) : ∀ d ∈ (copyR m x root s k).2, 0 ≤ d → d ∈ (copyR m x root s k).1 := by
  unfold copyR
  cases h : firstR m x root s k 50 with
  | none => exact hi
  | some y =>
    obtain ⟨o, d⟩ := y
    obtain ⟨r, hr⟩ := firstR_try _ h
    intro d' hd' h0
    simp only [List.mem_append, List.mem_singleton] at hd' ⊢
    rcases hd' with hd' | rfl
    · exact .inl (hi _ hd' h0)
    · exact .inr (tryR_pos hr h0).symm
theorem selN_inv {m : MapD} {x root : Int} : ∀ k, ∀ d ∈ (selN m x root k).2, 0 ≤ d → d ∈ (selN m x root k).1
  | 0 => fun d hd => by cases hd
  | k + 1 => by rw [selN]; exact copyR_inv (selN_inv k)
theorem cnt_le (n : Int) : cntF n ≤ 8 := by unfold cntF; split <;> omega
end Go.Proofs.YtkgbeihcepociaaDoor.Ex
end

section

set_option linter.unusedSimpArgs false
set_option linter.unusedVariables false
set_option maxRecDepth 10000
set_option maxHeartbeats 4000000
namespace Go.Proofs.YtkgbeihcepociaaDoor.Ex
open Go
theorem OwnL.low {α : Type} {R : Rep α} {n0 : Nat} {h : AH} {v : AV} {e : TypeId} {xs : List α} (ho : OwnL R (fun _ => False) n0 h v e xs) {b off n : Nat} {cap : Cap} (hv : v = .sl b off n cap) : n0 ≤ b ∧ b < h.n := by
  obtain ⟨L, h1, h2⟩ := ho
  rcases h1.2 with ⟨hh, _⟩ | ⟨p, hh, hp, hat⟩
  · rw [hh] at hv; cases hv
  · rw [hh] at hv; cases hv; exact ⟨hp, at_lt hat⟩
theorem OwnL.put {α : Type} {R : Rep α} {n0 : Nat} {h : AH} {v : AV} {e : TypeId} {xs : List α} (ho : OwnL R (fun _ => False) n0 h v e xs) {p : Nat} (hp : p < n0) (x : AB) : OwnL R (fun _ => False) n0 (h.put p x) v e xs :=
  ho.lift (fun b off n cap hv => at_put_ne x (by have := ho.low hv; omega)) (fun b hb => hb.elim)
theorem copy_x {F : Nat → Prop} {H : AH} {m : MapD} {vo vp vb vs vq : AV} {x root : Int} {os ds : List Int} {p : Nat} (k : Nat) (hm : MpAt F H m vo vp vb) (hok : OkM m) (hlo : Sm 40 m.osds) (hg : goodF m = true) (hr : root < 0) (h3 : kindF m root ≤ 3)
    (hp : H.at p = some (.cells (chC m vo vp vb x vs vq) 52)) (hs : OwnL RInt (fun _ => False) (p + 1) H vs 3 os) (hq : OwnL RInt (fun _ => False) (p + 1) H vq 3 ds) (hdj : Disj vs vq) (hsl : os.length ≤ k) (hql : ds.length ≤ k) (hk : k ≤ 8) (hi : ∀ d ∈ ds, 0 ≤ d → d ∈ os) :
    WC Tryd.prog (tabOf Tryd.prog NT0) S0 22 [.ptr p 0, .lit (.int .i64 root), .lit (.int .i64 k)] H fun v h' => v = .tup [] ∧ Ext p H h' ∧ ∃ vs' vq', h'.at p = some (.cells (chC m vo vp vb x vs' vq') 52) ∧
      OwnL RInt (fun _ => False) (p + 1) h' vs' 3 (copyR m x root (os, ds) k).1 ∧ OwnL RInt (fun _ => False) (p + 1) h' vq' 3 (copyR m x root (os, ds) k).2 ∧ Disj vs' vq' := by
  refine WC_fn Tryd.func22 rfl rfl ?_
  have lp := at_lt hp
  have hvs := hs.toSl (F := fun _ => True) (fun _ _ => trivial) (fun _ _ => trivial)
  have hvq := hq.toSl (F := fun _ => True) (fun _ _ => trivial) (fun _ _ => trivial)
  simp only [core, Nat.reduceAdd, Nat.reduceSub, Nat.reduceMul, Nat.reduceLT, Nat.reduceEqDiff, reduceCtorEq, Nat.reduceLeDiff, Int.reduceLE, Int.reduceLT, Int.reduceToNat, Tryd.ntmps22]
  refine WB_for 50 (fun i t h => Ext H.n H h ∧ firstR m x root (os, ds) k i = none ∧ t.n = 45 ∧ t.get 0 = .ptr p 0 ∧ t.get 1 = .lit (.int .i64 root) ∧ t.get 2 = .lit (.int .i64 k) ∧ t.get 10 = .lit (.int .i64 i)) ?_ ?_ _ _ ?_
  · rintro i t h hi50 hc ⟨he, hf, hn, g0, g1, g2, g10⟩ ih
    have hc : ((i : Int) < 50) = True := by simp only [eq_iff_iff, iff_true]; omega
    have hws := wrap_succ hi50 (by omega)
    have hwk : IntKind.i64.wrap ((k : Int) + (i : Int)) = ((k + i : Nat) : Int) := (wrap_in (by omega) (by omega)).trans (by omega)
    have P1 := (he.2 _ lp).trans hp
    have hf1 : firstR m x root (os, ds) k (i + 1) = tryR m x root (os, ds) ((k + i : Nat) : Int) := firstR_next hf
    have hT := try_same hg (x := x) (r := ((k + i : Nat) : Int)) (os := os) (ds := ds) h3 hr hi
    simp only [core, Nat.reduceAdd, Nat.reduceSub, Nat.reduceMul, Nat.reduceLT, Nat.reduceEqDiff, reduceCtorEq, Nat.reduceLeDiff, Int.reduceLE, Int.reduceLT, Int.reduceToNat, hn, g0, g1, g2, g10, hc, hwk]
    refine (tryC_x root _ (hm.ext he (Nat.le_refl _)) hok hlo hg P1 (hvs.ext he (Nat.le_refl _)) (hvq.ext he (Nat.le_refl _)) (by omega) (by omega) h3).mono ?_
    rintro _ h2 ⟨e2, rfl⟩
    have E2 := he.step e2
    obtain ⟨⟨o, d, b⟩, hy⟩ : ∃ y, y = tryC m root x ((k + i : Nat) : Int) os ds := ⟨_, rfl⟩
    rw [← hy] at hT ⊢
    cases b with
    | false =>
      simp only [core, Nat.reduceAdd, Nat.reduceSub, Nat.reduceMul, Nat.reduceLT, Nat.reduceEqDiff, reduceCtorEq, Nat.reduceLeDiff, Int.reduceLE, Int.reduceLT, Int.reduceToNat, hn, g0, g1, g2, g10, tryV, hws]
      refine ih _ _ ⟨E2, by rw [hf1, hT]; rfl, ?_⟩
      simp only [core, Nat.reduceAdd, Nat.reduceSub, Nat.reduceMul, Nat.reduceLT, Nat.reduceEqDiff, reduceCtorEq, Nat.reduceLeDiff, Int.reduceLE, Int.reduceLT, Int.reduceToNat, hn, g0, g1, g2, g10]
    | true =>
    have hT : tryR m x root (os, ds) ((k + i : Nat) : Int) = some (o, d) := hT
    rw [hT] at hf1
    have hS : copyR m x root (os, ds) k = (os ++ [o], ds ++ [d]) := by
      unfold copyR
      rw [firstR_le hf1 50 (by omega)]
    obtain ⟨I1, I2⟩ := tryR_i64 hm hT
    have P2 := (E2.2 _ lp).trans hp
    unfold chC at P2
    have LP2 := ld_at (T := tabOf Tryd.prog NT0) P2
    have l2 := at_lt P2
    have hs2 := hs.ext E2 (Nat.le_refl _)
    have hq2 := hq.ext E2 (Nat.le_refl _)
    have q2 := e2.1
    have q3 := he.1
    simp only [core, Nat.reduceAdd, Nat.reduceSub, Nat.reduceMul, Nat.reduceLT, Nat.reduceEqDiff, reduceCtorEq, Nat.reduceLeDiff, Int.reduceLE, Int.reduceLT, Int.reduceToNat, hn, g0, g1, g2, g10, tryV, LP2, l2]
    obtain ⟨h3', hh3⟩ : ∃ h3', h3' = h2.push (.cells [.lit (.int .i64 o)] 3) := ⟨_, rfl⟩
    have e3 : Ext h2.n h2 h3' := hh3 ▸ (Ext.refl _ _).push _ (Nat.le_refl _)
    have A3 : h3'.at h2.n = some (.cells [.lit (.int .i64 o)] 3) := hh3 ▸ at_push_n h2 _
    have q4 := e3.1
    rw [← hh3]
    refine WOp_app ((hs2.ext e3 (Nat.le_refl _)).snoc (by kernel_rfl) (by kernel_rfl) (by kernel_rfl) (zv := .lit (.int .i64 0)) (by kernel_rfl) (by' := 8) (by kernel_rfl) rfl (by decide) (by decide) A3 (y := o) ⟨rfl, I1⟩ (by omega) (by omega) (by omega)) ?_
    rintro s8 h4 ⟨ho4, e4, k4⟩
    have P4 := ((e4.2 _ (by omega)).trans (e3.2 _ l2)).trans P2
    have LP4 := ld_at (T := tabOf Tryd.prog NT0) P4
    have l4 := at_lt P4
    have t8 := ho4.one
    obtain ⟨hq4, hd4⟩ := (hq2.ext e3 (Nat.le_refl _)).other hdj k4
    simp only [core, Nat.reduceAdd, Nat.reduceSub, Nat.reduceMul, Nat.reduceLT, Nat.reduceEqDiff, reduceCtorEq, Nat.reduceLeDiff, Int.reduceLE, Int.reduceLT, Int.reduceToNat, hn, g0, g1, g2, g10, LP4, l4, P4, t8]
    obtain ⟨h5, hh5⟩ : ∃ h5, h5 = h4.put p (.cells [.lit (.int .i64 m.epoch), vo, vp, vb, .lit (.int .i64 m.leaf), .lit (.int .u32 x), s8, vq] 52) := ⟨_, rfl⟩
    have e5 : Ext p h4 h5 := hh5 ▸ (Ext.refl _ _).put _ (Nat.le_refl _)
    have P5 : h5.at p = some (.cells [.lit (.int .i64 m.epoch), vo, vp, vb, .lit (.int .i64 m.leaf), .lit (.int .u32 x), s8, vq] 52) := hh5 ▸ at_put_same _ l4
    have ho5 : OwnL RInt (fun _ => False) (p + 1) h5 s8 3 (os ++ [o]) := hh5 ▸ ho4.put (by omega) _
    have hq5 : OwnL RInt (fun _ => False) (p + 1) h5 vq 3 ds := hh5 ▸ hq4.put (by omega) _
    have n5 : h5.n = h4.n := by rw [hh5, n_put]
    rw [← hh5]
    obtain ⟨h6, hh6⟩ : ∃ h6, h6 = h5.push (.cells [.lit (.int .i64 d)] 3) := ⟨_, rfl⟩
    have e6 : Ext h5.n h5 h6 := hh6 ▸ (Ext.refl _ _).push _ (Nat.le_refl _)
    have A6 : h6.at h4.n = some (.cells [.lit (.int .i64 d)] 3) := by rw [← n5, hh6]; exact at_push_n h5 _
    have q5 := e6.1
    rw [← hh6]
    refine WOp_app ((hq5.ext e6 (Nat.le_refl _)).snoc (by kernel_rfl) (by kernel_rfl) (by kernel_rfl) (zv := .lit (.int .i64 0)) (by kernel_rfl) (by' := 8) (by kernel_rfl) rfl (by decide) (by decide) A6 (y := d) ⟨rfl, I2⟩ (by omega) (by omega) (by omega)) ?_
    rintro s9 h7 ⟨ho7, e7, k7⟩
    have P7 := ((e7.2 _ (by omega)).trans (e6.2 _ (by omega))).trans P5
    have LP7 := ld_at (T := tabOf Tryd.prog NT0) P7
    have l7 := at_lt P7
    have t9 := ho7.one
    obtain ⟨ho7', hd7⟩ := (ho5.ext e6 (Nat.le_refl _)).other hd4.symm k7
    simp only [core, Nat.reduceAdd, Nat.reduceSub, Nat.reduceMul, Nat.reduceLT, Nat.reduceEqDiff, reduceCtorEq, Nat.reduceLeDiff, Int.reduceLE, Int.reduceLT, Int.reduceToNat, hn, g0, g1, g2, g10, LP7, l7, P7, t9]
    have q7 := e4.1
    have q8 := e7.1
    have EE : Ext p H (h7.put p (.cells [.lit (.int .i64 m.epoch), vo, vp, vb, .lit (.int .i64 m.leaf), .lit (.int .u32 x), s8, s9] 52)) := by
      exact ((((((E2.mono (by omega)).trans (e3.mono (by omega))).trans (e4.mono (by omega))).trans e5).trans (e6.mono (by omega))).trans (e7.mono (by omega))).put _ (Nat.le_refl _)
    refine ⟨EE, s8, s9, rfl, ?_, ?_, hd7.symm⟩
    · rw [hS]; exact ho7'.put (by omega) _
    · rw [hS]; exact ho7.put (by omega) _
  · rintro t h hc ⟨he, hf, hn, g0, g1, g2, g10⟩
    have hc : ((50 : Int) < 50) = False := by decide
    have hc' : (((50 : Nat) : Int) < 50) = False := by decide
    have hS : copyR m x root (os, ds) k = (os, ds) := by
      unfold copyR
      rw [hf]
    simp only [core, Nat.reduceAdd, Nat.reduceSub, Nat.reduceMul, Nat.reduceLT, Nat.reduceEqDiff, reduceCtorEq, Nat.reduceLeDiff, Int.reduceLE, Int.reduceLT, Int.reduceToNat, hn, g0, g1, g2, g10, hc, hc']
    refine ⟨by simp, ⟨he.1, fun b hb => he.2 b (by omega)⟩, vs, vq, (he.2 _ lp).trans hp, ?_, ?_, hdj⟩
    · rw [hS]; exact hs.ext he (Nat.le_refl _)
    · rw [hS]; exact hq.ext he (Nat.le_refl _)
  · simp only [core, Nat.reduceAdd, Nat.reduceSub, Nat.reduceMul, Nat.reduceLT, Nat.reduceEqDiff, reduceCtorEq, Nat.reduceLeDiff, Int.reduceLE, Int.reduceLT, Int.reduceToNat]
    refine ⟨Ext.refl _ _, firstR_zero, ?_⟩
    (repeat' apply And.intro) <;> first | rfl | trivial
end Go.Proofs.YtkgbeihcepociaaDoor.Ex
end

section

set_option linter.unusedSimpArgs false
set_option linter.unusedVariables false
set_option maxRecDepth 10000
set_option maxHeartbeats 4000000
namespace Go.Proofs.YtkgbeihcepociaaDoor.Ex
open Go
theorem root_good {m : MapD} (hg : goodF m = true) {root : Int} (hr : root ∈ rootsR m) : root < 0 ∧ kindF m root ≤ 3 := by
  obtain ⟨h1, _, h3⟩ := roots_walk hg m.buckets.length (Nat.le_refl _)
  obtain ⟨c, hc, rfl⟩ := h3 root (h1.subset hr)
  have hc := List.mem_of_mem_take hc
  cases hb : bucketF m c.id with
  | none =>
    unfold bucketF at hb
    exact absurd (List.find?_eq_none.1 hb c hc) (by simp)
  | some b =>
    obtain ⟨g1, g2, g3, g4, g5, -⟩ := good_bkt hg hb
    refine ⟨by omega, ?_⟩
    rw [kind_bkt (by omega) hb]
    exact g4
theorem cnt_eq (n : Int) : (if 8 < (if n < 0 then 0 else n) then 8 else (if n < 0 then 0 else n)) = ((cntF n : Nat) : Int) := by
  unfold cntF
  repeat' split
  all_goals omega
theorem selectC_x {F : Nat → Prop} {H : AH} {m : MapD} {vo vp vb : AV} (x n : Int) (hm : MpAt F H m vo vp vb) (hok : OkM m) (hlo : Sm 40 m.osds) :
    WC Tryd.prog (tabOf Tryd.prog NT0) S0 10 [mpV m vo vp vb, .lit (.int .u32 x), .lit (.int .i64 n)] H fun v h' => Ext H.n H h' ∧ IsSl RInt (fun b => H.n ≤ b) h' v (selectF m x n) := by
  refine WC_fn Tryd.func10 rfl rfl ?_
  have o1 := hm.o.one
  have o2 := hm.p.one
  have o3 := hm.b.one
  have EP : ∀ x, Ext H.n H (H.push x) := fun x => (Ext.refl _ _).push _ (Nat.le_refl _)
  simp only [core, Nat.reduceAdd, Nat.reduceSub, Nat.reduceMul, Nat.reduceLT, Nat.reduceEqDiff, reduceCtorEq, Nat.reduceLeDiff, Int.reduceLE, Int.reduceLT, Int.reduceToNat, Tryd.ntmps10, mpV, o1, o2, o3]
  obtain ⟨h1, hh1⟩ : ∃ h1, h1 = H.push (.cells [.lit (.int .i64 m.epoch), vo, vp, vb, .lit (.int .i64 m.leaf)] 26) := ⟨_, rfl⟩
  have E1 : Ext H.n H h1 := hh1 ▸ EP _
  have A1 : h1.at H.n = some (.cells [.lit (.int .i64 m.epoch), vo, vp, vb, .lit (.int .i64 m.leaf)] 26) := hh1 ▸ at_push_n _ _
  have l1 := at_lt A1
  rw [← hh1]
  clear hh1
  refine (goodC_x (hm.ext E1 (Nat.le_refl _)) hok).mono ?_
  rintro _ h2 ⟨e2, rfl⟩
  have E2 := E1.step e2
  have A2 := (e2.2 _ l1).trans A1
  have l2 := at_lt A2
  have LA2 := ld_at (T := tabOf Tryd.prog NT0) A2
  cases hg : goodF m with
  | false =>
    simp only [core, Nat.reduceAdd, Nat.reduceSub, Nat.reduceMul, Nat.reduceLT, Nat.reduceEqDiff, reduceCtorEq, Nat.reduceLeDiff, Int.reduceLE, Int.reduceLT, Int.reduceToNat]
    refine ⟨E2, ?_⟩
    unfold selectF
    rw [hg]
    exact IsSl.nil
  | true =>
  simp only [core, Nat.reduceAdd, Nat.reduceSub, Nat.reduceMul, Nat.reduceLT, Nat.reduceEqDiff, reduceCtorEq, Nat.reduceLeDiff, Int.reduceLE, Int.reduceLT, Int.reduceToNat, LA2, l2]
  refine (rootsG_x (hm.ext E2 (Nat.le_refl _)) hok hg).mono ?_
  rintro vr h3 ⟨e3, hr3⟩
  have E3 := E2.step e3
  have A3 := (e3.2 _ l2).trans A2
  have l3 := at_lt A3
  have LA3 := ld_at (T := tabOf Tryd.prog NT0) A3
  have r1 := hr3.isSl
  have r2 := hr3.lenD
  simp only [corem, WB_cond_s, put, ldL, WB_label, List.nil_append, List.drop_zero, List.take_zero, Nat.reduceAdd, Nat.reduceSub, Nat.reduceMul, Nat.reduceLT, Nat.reduceEqDiff, reduceCtorEq, Nat.reduceLeDiff, Int.reduceLE, Int.reduceLT, Int.reduceToNat, r1, r2, -WB_cond_s]
  rw [WB_cond_s]
  simp only [corem, WB_cond_s, put, ldL, WB_label, List.nil_append, List.drop_zero, List.take_zero, Nat.reduceAdd, Nat.reduceSub, Nat.reduceMul, Nat.reduceLT, Nat.reduceEqDiff, reduceCtorEq, Nat.reduceLeDiff, Int.reduceLE, Int.reduceLT, Int.reduceToNat, -WB_cond_s]
  cases hrt : rootsR m with
  | nil =>
    refine ⟨fun _ => ⟨E3, ?_⟩, fun hq => absurd hq (by decide)⟩
    unfold selectF
    rw [hg, hrt]
    exact IsSl.nil
  | cons root rest =>
  obtain ⟨hr0, hk3⟩ := root_good hg (root := root) (by rw [hrt]; simp)
  have hrl : (0 : Nat) < (rootsR m).length := by rw [hrt]; simp
  have hrg : (rootsR m).getD 0 0 = root := by rw [hrt]; rfl
  have hsel : selectF m x n = (selN m x root (cntF n)).1 := by unfold selectF; rw [hg, hrt]; rfl
  rw [← hrt]
  refine ⟨fun hq => absurd (eq_of_beq hq) (by omega), fun hq0 => ?_⟩
  simp only [core, Nat.reduceAdd, Nat.reduceSub, Nat.reduceMul, Nat.reduceLT, Nat.reduceEqDiff, reduceCtorEq, Nat.reduceLeDiff, Int.reduceLE, Int.reduceLT, Int.reduceToNat, LA3, l3, o1, o2, o3]
  obtain ⟨h4, hh4⟩ : ∃ h4, h4 = h3.push (.cells [.lit (.int .i64 m.epoch), vo, vp, vb, .lit (.int .i64 m.leaf), .lit (.int .u32 x), .lit (.slice none 0 0), .lit (.slice none 0 0)] 52) := ⟨_, rfl⟩
  have P4 : h4.at h3.n = some (.cells (chC m vo vp vb x (.lit (.slice none 0 0)) (.lit (.slice none 0 0))) 52) := hh4 ▸ at_push_n _ _
  have e4 : Ext h3.n h3 h4 := hh4 ▸ (Ext.refl _ _).push _ (Nat.le_refl _)
  rw [← hh4]
  clear hh4
  simp only [cnt_eq]
  have hc8 := cnt_le n
  refine WB_for (cntF n) (fun k t h => ∃ vs vq, h.at h3.n = some (.cells (chC m vo vp vb x vs vq) 52) ∧ OwnL RInt (fun _ => False) (h3.n + 1) h vs 3 (selN m x root k).1 ∧ OwnL RInt (fun _ => False) (h3.n + 1) h vq 3 (selN m x root k).2 ∧ Disj vs vq ∧ Ext h3.n h3 h ∧ t.n = 39 ∧ t.get 7 = vr ∧ t.get 8 = .ptr h3.n 0 ∧ t.get 24 = .lit (.int .i64 (cntF n)) ∧ t.get 25 = .lit (.int .i64 k)) ?_ ?_ _ _ ?_
  · rintro k t h hlt hc ⟨vs, vq, P, hvs, hvq, hdj, he, hn, g7, g8, g24, g25⟩ ih
    have hws := wrap_succ hlt (by omega)
    have hld := (hr3.ext he (Nat.le_refl _)).int (T := tabOf Tryd.prog NT0) (e := 3) (by kernel_rfl) (by kernel_rfl) hrl
    rw [hrg, Nat.add_zero] at hld
    obtain ⟨q1, q2⟩ := selN_len m x root k
    simp only [core, Nat.reduceAdd, Nat.reduceSub, Nat.reduceMul, Nat.reduceLT, Nat.reduceEqDiff, reduceCtorEq, Nat.reduceLeDiff, Int.reduceLE, Int.reduceLT, Int.reduceToNat, hn, g7, g8, g24, g25, hc, hld, r1, r2, hrl]
    refine (copy_x k (hm.ext (E3.step he) (Nat.le_refl _)) hok hlo hg hr0 hk3 P hvs hvq hdj q1 q2 (by omega) (selN_inv k)).mono ?_
    rintro _ h' ⟨rfl, e', vs', vq', P', hvs', hvq', hdj'⟩
    simp only [core, Nat.reduceAdd, Nat.reduceSub, Nat.reduceMul, Nat.reduceLT, Nat.reduceEqDiff, reduceCtorEq, Nat.reduceLeDiff, Int.reduceLE, Int.reduceLT, Int.reduceToNat, hn, g7, g8, g24, g25, hws]
    refine ih _ _ ⟨vs', vq', P', hvs', hvq', hdj', he.trans e', ?_⟩
    simp only [core, Nat.reduceAdd, Nat.reduceSub, Nat.reduceMul, Nat.reduceLT, Nat.reduceEqDiff, reduceCtorEq, Nat.reduceLeDiff, Int.reduceLE, Int.reduceLT, Int.reduceToNat, hn, g7, g8, g24, g25]
  · rintro t h hc ⟨vs, vq, P, hvs, hvq, hdj, he, hn, g7, g8, g24, g25⟩
    unfold chC at P
    have LP := ld_at (T := tabOf Tryd.prog NT0) P
    have lP := at_lt P
    have o4 := hvs.one
    simp only [core, Nat.reduceAdd, Nat.reduceSub, Nat.reduceMul, Nat.reduceLT, Nat.reduceEqDiff, reduceCtorEq, Nat.reduceLeDiff, Int.reduceLE, Int.reduceLT, Int.reduceToNat, hn, g7, g8, g24, g25, hc, LP, lP, o4]
    refine ⟨E3.step he, ?_⟩
    rw [hsel]
    exact hvs.toSl (fun _ hf => hf.elim) (fun b hb => by have := E3.1; omega)
  · simp only [core, Nat.reduceAdd, Nat.reduceSub, Nat.reduceMul, Nat.reduceLT, Nat.reduceEqDiff, reduceCtorEq, Nat.reduceLeDiff, Int.reduceLE, Int.reduceLT, Int.reduceToNat]
    exact ⟨_, _, P4, OwnL.nil, OwnL.nil, Disj.nil_l, e4, rfl⟩
end Go.Proofs.YtkgbeihcepociaaDoor.Ex
end

section

set_option linter.unusedSimpArgs false
set_option linter.unusedVariables false
set_option maxRecDepth 10000
set_option maxHeartbeats 4000000
namespace Go.Proofs.YtkgbeihcepociaaDoor.Ex
open Go
def sumW (l : List Int) (i : Nat) : Int := (l.take i).foldl (fun n w => IntKind.i64.wrap (n + w)) 0
theorem sumW_succ {l : List Int} {i : Nat} (h : i < l.length) : sumW l (i + 1) = IntKind.i64.wrap (sumW l i + l.getD i 0) := by
  unfold sumW
  rw [List.take_add_one, List.getElem?_eq_getElem h, List.foldl_append, List.getD_eq_getElem?_getD, List.getElem?_eq_getElem h]
  rfl
theorem wrap_i64 (n : Int) : I64 (IntKind.i64.wrap n) := by
  unfold I64
  rw [IntKind.wrap_i64]
  omega
theorem sumW_i64 {l : List Int} : ∀ i, I64 (sumW l i)
  | 0 => (show I64 0 from ⟨by decide, by decide⟩)
  | i + 1 => by
    by_cases h : i < l.length
    · rw [sumW_succ h]; exact wrap_i64 _
    · have : sumW l (i + 1) = sumW l i := by unfold sumW; rw [List.take_of_length_le (by omega), List.take_of_length_le (by omega)]
      rw [this]
      exact sumW_i64 i
def weightF (m : MapD) (id : Int) : Int := sumW (bucketG m id).weights (bucketG m id).weights.length
theorem weight_x {F : Nat → Prop} {H : AH} {m : MapD} {vo vp vb : AV} (id : Int) (hm : MpAt F H m vo vp vb) (hok : OkM m) (hg : goodF m = true) (hid : id < 0) :
    WC Tryd.prog (tabOf Tryd.prog NT0) S0 31 [mpV m vo vp vb, .lit (.int .i64 id)] H fun v h' => Ext H.n H h' ∧ v = .lit (.int .i64 (weightF m id)) := by
  refine WC_fn Tryd.func31 rfl rfl ?_
  obtain ⟨hl, hbs, -⟩ := _root_.id hok
  have o1 := hm.o.one
  have o2 := hm.p.one
  have o3 := hm.b.one
  simp only [core, Nat.reduceAdd, Nat.reduceSub, Nat.reduceMul, Nat.reduceLT, Nat.reduceEqDiff, reduceCtorEq, Nat.reduceLeDiff, Int.reduceLE, Int.reduceLT, Int.reduceToNat, Tryd.ntmps31, mpV, o1, o2, o3]
  obtain ⟨h1, hh1⟩ : ∃ h1, h1 = H.push (.cells [.lit (.int .i64 m.epoch), vo, vp, vb, .lit (.int .i64 m.leaf)] 26) := ⟨_, rfl⟩
  have E1 : Ext H.n H h1 := hh1 ▸ (Ext.refl _ _).push _ (Nat.le_refl _)
  have P1 : h1.at H.n = some (.cells [.lit (.int .i64 m.epoch), vo, vp, vb, .lit (.int .i64 m.leaf)] 26) := hh1 ▸ at_push_n _ _
  rw [← hh1]
  clear hh1
  have lp1 := at_lt P1
  refine (goodC_x (hm.ext E1 (Nat.le_refl _)) hok).mono ?_
  rintro _ h2 ⟨e2, rfl⟩
  rw [hg]
  have E2 := E1.step e2
  have P2 := (e2.2 _ lp1).trans P1
  have lp2 := at_lt P2
  have LP2 := ld_at (T := tabOf Tryd.prog NT0) P2
  have c0 : ¬ 0 ≤ id := by omega
  simp only [core, Nat.reduceAdd, Nat.reduceSub, Nat.reduceMul, Nat.reduceLT, Nat.reduceEqDiff, reduceCtorEq, Nat.reduceLeDiff, Int.reduceLE, Int.reduceLT, Int.reduceToNat, LP2, lp2, o1, o2, o3, c0]
  refine (bucket_x id (hm.ext E2 (Nat.le_refl _)) hl hbs).mono ?_
  rintro _ h3 ⟨e3, va, vw, rfl, b1, b2⟩
  have E3 := E2.step e3
  have q1 := b1.one
  have q2 := b2.one
  have hwl : (bucketG m id).weights.length ≤ 17592186044416 := by
    cases hb : bucketF m id with
    | none => rw [show bucketG m id = bkt0 by unfold bucketG; rw [hb]; rfl]; decide
    | some b =>
      rw [show bucketG m id = b by unfold bucketG; rw [hb]; rfl]
      obtain ⟨u1, u2, u3, u4, u5, u6, u7, u8⟩ := good_bkt hg hb
      obtain ⟨w1, w2⟩ := hbs b u1
      unfold Sm at w2
      omega
  obtain ⟨bk, hbk⟩ : ∃ bk, bk = bucketG m id := ⟨_, rfl⟩
  rw [← hbk] at b1 b2 hwl
  have hG := hbk.symm
  have hW : weightF m id = sumW bk.weights bk.weights.length := by unfold weightF; rw [hG]
  have d1 := b2.isSl
  have d2 := b2.lenD
  simp only [core, Nat.reduceAdd, Nat.reduceSub, Nat.reduceMul, Nat.reduceLT, Nat.reduceEqDiff, reduceCtorEq, Nat.reduceLeDiff, Int.reduceLE, Int.reduceLT, Int.reduceToNat, bktV, q1, q2, hG, hW, d1, d2]
  obtain ⟨h4, hh4⟩ : ∃ h4, h4 = h3.push (.cells [.lit (.int .i64 bk.id), .lit (.int .i64 bk.kind), va, vw] 47) := ⟨_, rfl⟩
  have e4 : Ext h3.n h3 h4 := hh4 ▸ (Ext.refl _ _).push _ (Nat.le_refl _)
  have P4 : h4.at h3.n = some (.cells [.lit (.int .i64 bk.id), .lit (.int .i64 bk.kind), va, vw] 47) := hh4 ▸ at_push_n _ _
  have LP4 := ld_at (T := tabOf Tryd.prog NT0) P4
  have lp4 := at_lt P4
  rw [← hh4]
  clear hh4
  have E4 := E3.step e4
  have hvw := b2.ext e4 (Nat.le_refl _)
  refine WB_for bk.weights.length (fun i t h => h = h4 ∧ t.n = 44 ∧ t.get 9 = .lit (.int .i64 (sumW bk.weights i)) ∧ t.get 33 = vw ∧ t.get 34 = .lit (.int .i64 bk.weights.length) ∧ t.get 35 = .lit (.int .i64 i)) ?_ ?_ _ _ ?_
  · rintro i t h hlt hc ⟨rfl, hn, g9, g33, g34, g35⟩ ih
    have hld := hvw.int (T := tabOf Tryd.prog NT0) (e := 3) (by kernel_rfl) (by kernel_rfl) hlt
    have hws := wrap_succ hlt (by omega)
    have hs := sumW_succ hlt
    simp only [core, Nat.reduceAdd, Nat.reduceSub, Nat.reduceMul, Nat.reduceLT, Nat.reduceEqDiff, reduceCtorEq, Nat.reduceLeDiff, Int.reduceLE, Int.reduceLT, Int.reduceToNat, hn, g9, g33, g34, g35, hlt, hc, hws, d1, d2, hld, ← hs]
    refine ih _ _ ⟨rfl, ?_⟩
    simp only [core, Nat.reduceAdd, Nat.reduceSub, Nat.reduceMul, Nat.reduceLT, Nat.reduceEqDiff, reduceCtorEq, Nat.reduceLeDiff, Int.reduceLE, Int.reduceLT, Int.reduceToNat, hn, g9, g33, g34, g35]
  · rintro t h hc ⟨rfl, hn, g9, g33, g34, g35⟩
    simp only [core, Nat.reduceAdd, Nat.reduceSub, Nat.reduceMul, Nat.reduceLT, Nat.reduceEqDiff, reduceCtorEq, Nat.reduceLeDiff, Int.reduceLE, Int.reduceLT, Int.reduceToNat, hn, g9, g33, g34, g35, hc]
    exact E4
  · refine ⟨rfl, ?_⟩
    simp only [core, Nat.reduceAdd, Nat.reduceSub, Nat.reduceMul, Nat.reduceLT, Nat.reduceEqDiff, reduceCtorEq, Nat.reduceLeDiff, Int.reduceLE, Int.reduceLT, Int.reduceToNat, d1, d2]
    (repeat' apply And.intro) <;> first | rfl | trivial
theorem rootsC_len {m : MapD} (hg : goodF m = true) : (rootsR m).length ≤ m.buckets.length := by
  obtain ⟨h1, _, _⟩ := roots_walk hg m.buckets.length (Nat.le_refl _)
  have h2 : (rootsR m).length = (orphN m m.buckets.length).length := h1.length_eq
  rw [h2]
  exact orphN_len m _
def rootLines (m : MapD) (k : Nat) : List ByteArray := tellF m 4 ((rootsR m).getD k 0) (weightF m ((rootsR m).getD k 0)) ⟨#[]⟩
def treeF (m : MapD) : List ByteArray := if goodF m then upto (rootLines m) (rootsR m).length else []
theorem tree_x {F : Nat → Prop} {H : AH} {m : MapD} {vo vp vb : AV} {e : TypeId} (hm : MpAt F H m vo vp vb) (hF : ∀ b, F b → b < H.n) (hok : OkM m) (hT : H.at 1 = some (.frz tabL e)) (hlen : (treeF m).length ≤ 1099511627776) :
    WC Tryd.prog (tabOf Tryd.prog NT0) S0 13 [mpV m vo vp vb] H fun v h' => Ext H.n H h' ∧ IsSl RStr (fun b => H.n ≤ b) h' v (treeF m) := by
  refine WC_fn Tryd.func13 rfl rfl ?_
  obtain ⟨hl, hbs, -⟩ := _root_.id hok
  have o1 := hm.o.one
  have o2 := hm.p.one
  have o3 := hm.b.one
  have lt1 := at_lt hT
  simp only [core, Nat.reduceAdd, Nat.reduceSub, Nat.reduceMul, Nat.reduceLT, Nat.reduceEqDiff, reduceCtorEq, Nat.reduceLeDiff, Int.reduceLE, Int.reduceLT, Int.reduceToNat, Tryd.ntmps13, mpV, o1, o2, o3]
  obtain ⟨h1, hh1⟩ : ∃ h1, h1 = H.push (.cells [.lit (.int .i64 m.epoch), vo, vp, vb, .lit (.int .i64 m.leaf)] 26) := ⟨_, rfl⟩
  have E1 : Ext H.n H h1 := hh1 ▸ (Ext.refl _ _).push _ (Nat.le_refl _)
  have P1 : h1.at H.n = some (.cells [.lit (.int .i64 m.epoch), vo, vp, vb, .lit (.int .i64 m.leaf)] 26) := hh1 ▸ at_push_n _ _
  rw [← hh1]
  clear hh1
  have lp1 := at_lt P1
  refine (goodC_x (hm.ext E1 (Nat.le_refl _)) hok).mono ?_
  rintro _ h2 ⟨e2, rfl⟩
  have E2 := E1.step e2
  unfold treeF at hlen ⊢
  cases hg : goodF m with
  | false =>
    simp only [core, Nat.reduceAdd, Nat.reduceSub, Nat.reduceMul, Nat.reduceLT, Nat.reduceEqDiff, reduceCtorEq, Nat.reduceLeDiff, Int.reduceLE, Int.reduceLT, Int.reduceToNat]
    exact ⟨E2, IsSl.nil⟩
  | true =>
  rw [hg, if_pos rfl] at hlen
  simp only [core, Nat.reduceAdd, Nat.reduceSub, Nat.reduceMul, Nat.reduceLT, Nat.reduceEqDiff, reduceCtorEq, Nat.reduceLeDiff, Int.reduceLE, Int.reduceLT, Int.reduceToNat]
  obtain ⟨h3, hh3⟩ : ∃ h3, h3 = (h2.push (.cells [.lit (.slice none 0 0)] 35)).push (.cells [.fn (.func 28) [] [.ptr H.n 0, .ptr h2.n 0, .ptr (h2.n + 1) 0]] 57) := ⟨_, rfl⟩
  have hn2 := e2.1
  have hh1 := E1.1
  have E3 : Ext H.n H h3 := hh3 ▸ (E2.push _ (by omega)).push _ (by rw [n_push]; omega)
  have n3 : h3.n = h2.n + 2 := by rw [hh3, n_push, n_push]
  have O3 : h3.at h2.n = some (.cells [.lit (.slice none 0 0)] 35) := hh3 ▸ (at_push_lt _ (by rw [n_push]; omega)).trans (at_push_n _ _)
  have T3 : h3.at (h2.n + 1) = some (.cells [.fn (.func 28) [] [.ptr H.n 0, .ptr h2.n 0, .ptr (h2.n + 1) 0]] 57) := hh3 ▸ (by have := at_push_n (h2.push (.cells [.lit (.slice none 0 0)] 35)) (.cells [.fn (.func 28) [] [.ptr H.n 0, .ptr h2.n 0, .ptr (h2.n + 1) 0]] 57); rw [n_push] at this; exact this)
  have P3 : h3.at H.n = some (.cells [.lit (.int .i64 m.epoch), vo, vp, vb, .lit (.int .i64 m.leaf)] 26) := hh3 ▸ ((at_push_lt _ (by rw [n_push]; omega)).trans (at_push_lt _ (by omega))).trans ((e2.2 _ lp1).trans P1)
  have LP3 := ld_at (T := tabOf Tryd.prog NT0) P3
  have lp3 := at_lt P3
  have hw3 : TwAt F h3 m vo vp vb e H.n h2.n (h2.n + 1) := ⟨(E3.2 _ lt1).trans hT, P3, T3, hm.ext E3 (Nat.le_refl _)⟩
  rw [← hh3]
  clear hh3
  simp only [core, Nat.reduceAdd, Nat.reduceSub, Nat.reduceMul, Nat.reduceLT, Nat.reduceEqDiff, reduceCtorEq, Nat.reduceLeDiff, Int.reduceLE, Int.reduceLT, Int.reduceToNat, LP3, lp3, o1, o2, o3]
  refine (rootsG_x (hm.ext E3 (Nat.le_refl _)) hok hg).mono ?_
  rintro vr h4 ⟨e4, hr⟩
  have E4 := E3.step e4
  have r1 := hr.isSl
  have r2 := hr.lenD
  have hn4 := e4.1
  have O4 := (e4.2 _ (at_lt O3)).trans O3
  have hw4 := hw3.keep (fun b hb => hF b hb) (by omega) (by omega) (by omega) (fun b hb _ => e4.2 b (by omega))
  have hrl : (rootsR m).length ≤ 17592186044416 := by
    have h1 := (rootsC_len hg)
    unfold Sm at hl
    omega
  simp only [core, Nat.reduceAdd, Nat.reduceSub, Nat.reduceMul, Nat.reduceLT, Nat.reduceEqDiff, reduceCtorEq, Nat.reduceLeDiff, Int.reduceLE, Int.reduceLT, Int.reduceToNat, r1, r2]
  refine WB_for (rootsR m).length (fun i t h => (∃ s', FrS h2.n h4 (.lit (.slice none 0 0)) h s' ∧ h.at h2.n = some (.cells [s'] 35) ∧ OwnL RStr (fun _ => False) (h2.n + 1 + 1) h s' 9 (upto (rootLines m) i)) ∧ t.n = 26 ∧ t.get 1 = .ptr H.n 0 ∧ t.get 3 = .ptr h2.n 0 ∧ t.get 4 = .ptr (h2.n + 1) 0 ∧ t.get 12 = vr ∧ t.get 13 = .lit (.int .i64 (rootsR m).length) ∧ t.get 14 = .lit (.int .i64 i)) ?_ ?_ _ _ ?_
  · rintro i t h hlt hc ⟨⟨s', fr, hpo', ho'⟩, hn, g1, g3, g4, g12, g13, g14⟩ ih
    have hlo : ∀ b, b < h4.n → b ≠ h2.n → h.at b = h4.at b := fun b hb hne => (fr.2 b hb hne (fun _ _ _ hh => by cases hh)).1
    have hwh := hw4.keep (fun b hb => hF b hb) (by omega) (by omega) (by omega) (fun b hb hne => hlo b (by omega) hne)
    have P := hwh.box
    have LP := ld_at (T := tabOf Tryd.prog NT0) P
    have lp := at_lt P
    have LT := ld_at (T := tabOf Tryd.prog NT0) hwh.fn
    have lt := at_lt hwh.fn
    have hvr : IsSl RInt (fun _ => True) h vr (rootsR m) := hr.lift fun b hb hlt1 => ⟨hlo b (by omega) (by omega), trivial⟩
    have hld := hvr.int (T := tabOf Tryd.prog NT0) (e := 3) (by kernel_rfl) (by kernel_rfl) hlt
    have hws := wrap_succ hlt (by omega)
    obtain ⟨hneg, hk3⟩ := root_good hg (List.mem_of_getElem? (getD_some' 0 hlt))
    have hbk : (bucketG m ((rootsR m).getD i 0)).kind < 4 := by
      cases hb : bucketF m ((rootsR m).getD i 0) with
      | none => rw [show bucketG m ((rootsR m).getD i 0) = bkt0 by unfold bucketG; rw [hb]; rfl]; decide
      | some b =>
        rw [show bucketG m ((rootsR m).getD i 0) = b by unfold bucketG; rw [hb]; rfl]
        obtain ⟨u1, u2, u3, u4, u5, u6, u7, u8⟩ := good_bkt hg hb
        omega
    have i1 := hm.o.isSl
    have i2 := hm.p.isSl
    have i3 := hm.b.isSl
    have hsm : AV.same 8 (.fn (.func 28) [] [.ptr H.n 0, .ptr h2.n 0, .ptr (h2.n + 1) 0]) (.fn (.func 28) [] [.ptr H.n 0, .ptr h2.n 0, .ptr (h2.n + 1) 0]) = true := by simp [AV.same, fnEq]
    simp only [core, Nat.reduceAdd, Nat.reduceSub, Nat.reduceMul, Nat.reduceLT, Nat.reduceEqDiff, reduceCtorEq, Nat.reduceLeDiff, Int.reduceLE, Int.reduceLT, Int.reduceToNat, hn, g1, g3, g4, g12, g13, g14, hlt, hc, hld, r1, r2]
    rw [WB_regionD [0, 1, 2, 3, 4, 5] 33487323136 (by kernel_rfl)]
    repeat ((with_reducible refine WDM_cons ?_; simp only [dw1]; try simp only [dw2, Nat.reduceAdd, Nat.reduceMul, Nat.reduceShiftRight, Nat.reduceMod, Nat.reduceEqDiff]); simp only [core, Nat.reduceAdd, Nat.reduceSub, Nat.reduceMul, Nat.reduceLT, Nat.reduceEqDiff, reduceCtorEq, Nat.reduceLeDiff, Int.reduceLE, Int.reduceLT, Int.reduceToNat, cored, hn, g1, g3, g4, g12, g13, g14, LP, lp, LT, lt, o1, o2, o3, i1, i2, i3, hsm])
    refine (weight_x ((rootsR m).getD i 0) hwh.mp hok hg hneg).mono ?_
    rintro _ h5 ⟨e5, rfl⟩
    have hw5 := hwh.keep (fun b hb => hF b hb) (by omega) (by omega) (by omega) (fun b hb _ => e5.2 b (by have := fr.1; omega))
    have LT5 := ld_at (T := tabOf Tryd.prog NT0) hw5.fn
    have lt5 := at_lt hw5.fn
    have hpo5 := (e5.2 _ (at_lt hpo')).trans hpo'
    have ho5 := ho'.ext e5 (Nat.le_refl _)
    repeat ((with_reducible refine WDM_cons ?_; simp only [dw1]; try simp only [dw2, Nat.reduceAdd, Nat.reduceMul, Nat.reduceShiftRight, Nat.reduceMod, Nat.reduceEqDiff]); simp only [core, Nat.reduceAdd, Nat.reduceSub, Nat.reduceMul, Nat.reduceLT, Nat.reduceEqDiff, reduceCtorEq, Nat.reduceLeDiff, Int.reduceLE, Int.reduceLT, Int.reduceToNat, cored, hn, g1, g3, g4, g12, g13, g14, LT5, lt5, o1, o2, o3, hsm])
    have hus := upto_succ (rootLines m) i
    have hfi : rootLines m i = tellF m 4 ((rootsR m).getD i 0) (weightF m ((rootsR m).getD i 0)) ⟨#[]⟩ := rfl
    have hpre : (upto (rootLines m) (i + 1)).length ≤ (upto (rootLines m) (rootsR m).length).length := by
      obtain ⟨r, hr⟩ := upto_split (rootLines m) (show i + 1 ≤ (rootsR m).length from hlt)
      rw [hr, List.length_append]
      omega
    rw [hus, List.length_append] at hpre
    refine (tell_x (fun b hb => hF b hb) (by omega) (by omega) (by omega) hok hg 4 ((rootsR m).getD i 0) (weightF m ((rootsR m).getD i 0)) ⟨#[]⟩ (by exact hbk) (by decide) (hvr.i64 i hlt) (sumW_i64 _) hw5 hpo5 ho5 (by rw [← hfi]; omega)).mono ?_
    rintro _ h6 ⟨rfl, s6, fr6, hpo6, ho6⟩
    simp only [core, Nat.reduceAdd, Nat.reduceSub, Nat.reduceMul, Nat.reduceLT, Nat.reduceEqDiff, reduceCtorEq, Nat.reduceLeDiff, Int.reduceLE, Int.reduceLT, Int.reduceToNat, hn, g1, g3, g4, g12, g13, g14, hws]
    refine ih _ _ ⟨⟨s6, (fr.trans (FrS.ext e5)).trans fr6, hpo6, by rw [hus, hfi]; exact ho6⟩, ?_⟩
    simp only [core, Nat.reduceAdd, Nat.reduceSub, Nat.reduceMul, Nat.reduceLT, Nat.reduceEqDiff, reduceCtorEq, Nat.reduceLeDiff, Int.reduceLE, Int.reduceLT, Int.reduceToNat, hn, g1, g3, g4, g12, g13, g14]
  · rintro t h hc ⟨⟨s', fr, hpo', ho'⟩, hn, g1, g3, g4, g12, g13, g14⟩
    have LO := ld_at (T := tabOf Tryd.prog NT0) hpo'
    have lo := at_lt hpo'
    have v2 := (ho'.toSl (F := fun _ => True) (fun _ _ => trivial) (fun _ _ => trivial)).one
    simp only [core, Nat.reduceAdd, Nat.reduceSub, Nat.reduceMul, Nat.reduceLT, Nat.reduceEqDiff, reduceCtorEq, Nat.reduceLeDiff, Int.reduceLE, Int.reduceLT, Int.reduceToNat, hn, g1, g3, g4, g12, g13, g14, hc, LO, lo, v2]
    refine ⟨⟨by have := fr.1; have := E4.1; omega, fun b hb => ((fr.2 b (by omega) (by omega) (fun _ _ _ hh => by cases hh)).1).trans (E4.2 b hb)⟩, ?_⟩
    exact ho'.toSl (fun _ hf => hf.elim) (fun b hb => by omega)
  · refine ⟨⟨.lit (.slice none 0 0), FrS.refl, O4, OwnL.nil⟩, ?_⟩
    simp only [core, Nat.reduceAdd, Nat.reduceSub, Nat.reduceMul, Nat.reduceLT, Nat.reduceEqDiff, reduceCtorEq, Nat.reduceLeDiff, Int.reduceLE, Int.reduceLT, Int.reduceToNat, r1, r2]
    rfl
end Go.Proofs.YtkgbeihcepociaaDoor.Ex
end

section

set_option linter.unusedSimpArgs false
set_option linter.unusedVariables false
namespace Go.Proofs.YtkgbeihcepociaaDoor.Ex
open Go
theorem IsSl.ofAt {α : Type} {R : Rep α} {F : Nat → Prop} {h : AH} {p : Nat} {e : TypeId} {L : List (List AV)} {xs : List α} {n : Nat} (hat : h.at p = some (.cells L.flatten e)) (hF : F p) (he : Els R F h L xs) (hn : xs.length = n) : IsSl R F h (.sl p 0 n (.kn n)) xs := by
  subst hn
  have hl := flat_len (z := R.z) he.lens
  refine .mk ⟨he.lens, .inr ⟨p, 0, .kn xs.length, L.flatten, by rw [he.1], by unfold getR; rw [hat], ?_⟩⟩ (fun b off n cap e => by cases e; exact hF) (fun b off n cap e => by cases e; exact Nat.le_refl _) he
  unfold cut
  rw [if_pos (by rw [hl]; omega), List.drop_zero, ← hl, List.take_length]
def pushL (h : AH) : List AB → AH
  | [] => h
  | x :: r => pushL (h.push x) r
theorem pushL_ext : ∀ {l : List AB} {h : AH} {n0 : Nat}, n0 ≤ h.n → Ext n0 h (pushL h l)
  | [], h, n0, _ => Ext.refl _ _
  | x :: r, h, n0, hn => ((Ext.refl _ _).push x hn).trans (pushL_ext (by rw [n_push]; omega))
theorem pushL_at : ∀ {l : List AB} {h : AH} {i : Nat} {x : AB}, l[i]? = some x → (pushL h l).at (h.n + i) = some x
  | y :: r, h, 0, x, e => by
    cases e
    exact ((pushL_ext (l := r) (Nat.le_refl (h.push y).n)).2 _ (by rw [n_push]; omega)).trans (at_push_n _ _)
  | y :: r, h, i + 1, x, e => by
    have := pushL_at (l := r) (h := h.push y) (i := i) (x := x) e
    rw [n_push] at this
    rw [show h.n + (i + 1) = h.n + 1 + i by omega]
    exact this
end Go.Proofs.YtkgbeihcepociaaDoor.Ex
end

section

set_option linter.unusedSimpArgs false
set_option linter.unusedVariables false
set_option maxRecDepth 10000
set_option maxHeartbeats 4000000
namespace Go.Proofs.YtkgbeihcepociaaDoor.Ex
open Go
def uptoI (f : Nat → List Int) (i : Nat) : List Int := (List.range i).flatMap f
theorem uptoI_split (f : Nat → List Int) {i n : Nat} (h : i ≤ n) : ∃ r, uptoI f n = uptoI f i ++ r := by
  refine ⟨((List.range n).drop i).flatMap f, ?_⟩
  unfold uptoI
  rw [← List.flatMap_append]
  congr 1
  rw [show List.range i = (List.range n).take i by rw [List.take_range, Nat.min_eq_left h]]
  exact (List.take_append_drop _ _).symm
theorem uptoI_succ (f : Nat → List Int) (i : Nat) : uptoI f (i + 1) = uptoI f i ++ f i := by
  unfold uptoI
  rw [List.range_succ, List.flatMap_append]
  simp
def leavesF (m : MapD) : Nat → Int → List Int
  | 0, _ => []
  | n + 1, id => if 8 ≤ id then [] else if 0 ≤ id then [id] else uptoI (fun k => leavesF m n ((bucketG m id).items.getD k 0)) (bucketG m id).items.length
theorem leaves_x {m : MapD} {vo vp vb : AV} (hok : OkM m) (hg : goodF m = true) : ∀ (n : Nat) {F : Nat → Prop} {H : AH} (id : Int), (bucketG m id).kind < (n : Int) → I64 id → MpAt F H m vo vp vb → (leavesF m n id).length ≤ 1099511627776 →
    WC Tryd.prog (tabOf Tryd.prog NT0) S0 20 [mpV m vo vp vb, .lit (.int .i64 id)] H fun v h' => Ext H.n H h' ∧ IsSl RInt (fun b => H.n ≤ b) h' v (leavesF m n id)
  | 0, F, H, id, hk, _, _, _ => by
    have : 0 ≤ (bucketG m id).kind := by
      cases hb : bucketF m id with
      | none => rw [show bucketG m id = bkt0 by unfold bucketG; rw [hb]; rfl]; decide
      | some b =>
        rw [show bucketG m id = b by unfold bucketG; rw [hb]; rfl]
        obtain ⟨u1, u2, u3, u4, u5, u6, u7, u8⟩ := good_bkt hg hb
        omega
    omega
  | n + 1, F, H, id, hk, i1, hm, hlen => by
    refine WC_fn Tryd.func20 rfl rfl ?_
    obtain ⟨hl, hbs, -⟩ := _root_.id hok
    have o1 := hm.o.one
    have o2 := hm.p.one
    have o3 := hm.b.one
    simp only [core, Nat.reduceAdd, Nat.reduceSub, Nat.reduceMul, Nat.reduceLT, Nat.reduceEqDiff, reduceCtorEq, Nat.reduceLeDiff, Int.reduceLE, Int.reduceLT, Int.reduceToNat, Tryd.ntmps20, mpV, o1, o2, o3]
    obtain ⟨h1, hh1⟩ : ∃ h1, h1 = H.push (.cells [.lit (.int .i64 m.epoch), vo, vp, vb, .lit (.int .i64 m.leaf)] 26) := ⟨_, rfl⟩
    have E1 : Ext H.n H h1 := hh1 ▸ (Ext.refl _ _).push _ (Nat.le_refl _)
    have P1 : h1.at H.n = some (.cells [.lit (.int .i64 m.epoch), vo, vp, vb, .lit (.int .i64 m.leaf)] 26) := hh1 ▸ at_push_n _ _
    rw [← hh1]
    clear hh1
    have lp1 := at_lt P1
    refine (goodC_x (hm.ext E1 (Nat.le_refl _)) hok).mono ?_
    rintro _ h2 ⟨e2, rfl⟩
    have E2 := E1.step e2
    have hn2 := E2.1
    have P2 := (e2.2 _ lp1).trans P1
    have lp2 := at_lt P2
    have LP2 := ld_at (T := tabOf Tryd.prog NT0) P2
    rw [leavesF] at hlen ⊢
    by_cases c8 : 8 ≤ id
    · simp only [core, Nat.reduceAdd, Nat.reduceSub, Nat.reduceMul, Nat.reduceLT, Nat.reduceEqDiff, reduceCtorEq, Nat.reduceLeDiff, Int.reduceLE, Int.reduceLT, Int.reduceToNat, hg, c8]
      exact ⟨E2, IsSl.nil⟩
    by_cases c0 : 0 ≤ id
    · rw [if_neg c8, if_pos c0]
      simp only [core, Nat.reduceAdd, Nat.reduceSub, Nat.reduceMul, Nat.reduceLT, Nat.reduceEqDiff, reduceCtorEq, Nat.reduceLeDiff, Int.reduceLE, Int.reduceLT, Int.reduceToNat, hg, c8, c0]
      refine ⟨E2.push _ E2.1, ?_⟩
      exact IsSl.ofAt (L := [[.lit (.int .i64 id)]]) (at_push_n _ _) (by omega) (Els.nil.snoc (RInt_is.2 ⟨rfl, i1⟩)) rfl
    rw [if_neg c8, if_neg c0] at hlen ⊢
    simp only [core, Nat.reduceAdd, Nat.reduceSub, Nat.reduceMul, Nat.reduceLT, Nat.reduceEqDiff, reduceCtorEq, Nat.reduceLeDiff, Int.reduceLE, Int.reduceLT, Int.reduceToNat, hg, c8, c0, LP2, lp2, o1, o2, o3]
    refine (bucket_x id (hm.ext E2 (Nat.le_refl _)) hl hbs).mono ?_
    rintro _ h3 ⟨e3, va, vw, rfl, b1, b2⟩
    have E3 := E2.step e3
    have q1 := b1.one
    have q2 := b2.one
    have hx : ∀ b, bucketF m id = some b → bucketG m id = b := fun b hb => by unfold bucketG; rw [hb]; rfl
    have hx0 : bucketF m id = none → bucketG m id = bkt0 := fun hb => by unfold bucketG; rw [hb]; rfl
    obtain ⟨bk, hbk⟩ : ∃ bk, bk = bucketG m id := ⟨_, rfl⟩
    rw [← hbk] at b1 b2 hk hlen hx hx0
    have hG := hbk.symm
    obtain ⟨ff, hff⟩ : ∃ ff, ff = fun k => leavesF m n (bk.items.getD k 0) := ⟨_, rfl⟩
    rw [← hff] at hlen
    have hGoal : uptoI (fun k => leavesF m n ((bucketG m id).items.getD k 0)) (bucketG m id).items.length = uptoI ff bk.items.length := by rw [hG, hff]
    rw [hGoal]
    have hil : bk.items.length ≤ 17592186044416 := by
      cases hb : bucketF m id with
      | none => rw [hx0 hb]; decide
      | some b =>
        rw [hx b hb]
        obtain ⟨u1, u2, u3, u4, u5, u6, u7, u8⟩ := good_bkt hg hb
        obtain ⟨w1, w2⟩ := hbs b u1
        unfold Sm at w1
        omega
    have d1 := b1.isSl
    have d2 := b1.lenD
    simp only [core, Nat.reduceAdd, Nat.reduceSub, Nat.reduceMul, Nat.reduceLT, Nat.reduceEqDiff, reduceCtorEq, Nat.reduceLeDiff, Int.reduceLE, Int.reduceLT, Int.reduceToNat, bktV, q1, q2, hG, d1, d2]
    obtain ⟨h4, hh4⟩ : ∃ h4, h4 = h3.push (.cells [.lit (.int .i64 bk.id), .lit (.int .i64 bk.kind), va, vw] 47) := ⟨_, rfl⟩
    have e4 : Ext h3.n h3 h4 := hh4 ▸ (Ext.refl _ _).push _ (Nat.le_refl _)
    rw [← hh4]
    clear hh4
    have E4 := E3.step e4
    have P4 := (e4.2 _ (by have := e3.1; omega)).trans ((e3.2 _ lp2).trans P2)
    have lp4 := at_lt P4
    have hva := b1.ext e4 (Nat.le_refl _)
    have hn4 := E4.1
    have hn34 := e4.1
    have hn23 := e3.1
    refine WB_for bk.items.length (fun i t h => (∃ s', OwnL RInt (fun _ => False) h4.n h s' 3 (uptoI ff i) ∧ t.get 5 = s') ∧ Ext h4.n h4 h ∧ t.n = 39 ∧ t.get 2 = .ptr H.n 0 ∧ t.get 26 = va ∧ t.get 27 = .lit (.int .i64 bk.items.length) ∧ t.get 28 = .lit (.int .i64 i)) ?_ ?_ _ _ ?_
    · rintro i t h hlt hc ⟨⟨s', ho, g5⟩, he, hn, g2, g26, g27, g28⟩ ih
      have P := (he.2 _ lp4).trans P4
      have LP := ld_at (T := tabOf Tryd.prog NT0) P
      have lp := at_lt P
      have hvh := hva.ext he (Nat.le_refl _)
      have hld := hvh.int (T := tabOf Tryd.prog NT0) (e := 3) (by kernel_rfl) (by kernel_rfl) hlt
      have hws := wrap_succ hlt (by omega)
      have hxb : bucketF m id = some bk := by
        cases hb : bucketF m id with
        | none => rw [hx0 hb] at hlt; simp [bkt0] at hlt
        | some b => rw [hx b hb]
      obtain ⟨y1, y2⟩ := item_kindF hg hxb hlt
      have hkc : (bucketG m (bk.items.getD i 0)).kind < (n : Int) := by rw [kindG hg y1]; omega
      have hpre : (uptoI ff (i + 1)).length ≤ (uptoI ff bk.items.length).length := by
        obtain ⟨r, hr⟩ := uptoI_split ff (show i + 1 ≤ bk.items.length from hlt)
        rw [hr, List.length_append]
        omega
      have hus := uptoI_succ ff i
      have hfi : ff i = leavesF m n (bk.items.getD i 0) := by rw [hff]
      rw [hus, List.length_append] at hpre
      have s1 := (ho.toSl (F := fun _ => True) (fun _ h => trivial) (fun _ _ => trivial)).isSl
      simp only [core, Nat.reduceAdd, Nat.reduceSub, Nat.reduceMul, Nat.reduceLT, Nat.reduceEqDiff, reduceCtorEq, Nat.reduceLeDiff, Int.reduceLE, Int.reduceLT, Int.reduceToNat, hn, g2, g26, g27, g28, g5, hlt, hc, hld, d1, d2, LP, lp, o1, o2, o3]
      refine (leaves_x hok hg n (bk.items.getD i 0) hkc (b1.i64 i hlt) (hm.ext (E4.step he) (Nat.le_refl _)) (by rw [← hfi]; omega)).mono ?_
      rintro v h6 ⟨e6, hv⟩
      rw [← hfi] at hv
      have ho6 := ho.ext e6 (Nat.le_refl _)
      obtain ⟨L, r1, r2, r3, r4⟩ := hv.out
      have v1 := hv.isSl
      simp only [core, Nat.reduceAdd, Nat.reduceSub, Nat.reduceMul, Nat.reduceLT, Nat.reduceEqDiff, reduceCtorEq, Nat.reduceLeDiff, Int.reduceLE, Int.reduceLT, Int.reduceToNat, hn, g2, g26, g27, g28, g5, v1, s1]
      have hn6 := e6.1
      have hnh := he.1
      refine WOp_app (ho6.append (by kernel_rfl) (by kernel_rfl) (by kernel_rfl) (zv := .lit (.int .i64 0)) (by kernel_rfl) (by' := 8) (by kernel_rfl) rfl (by decide) (by decide) (M := L) (ys := ff i) r1.src r1.len ⟨r4.1, fun j c x hc hx => r4.2 j c x hc hx⟩ (by omega) (by omega) (by omega)) ?_
      rintro s7 h7 ⟨ho7, e7, -⟩
      have s71 := (ho7.toSl (F := fun _ => True) (fun _ h => trivial) (fun _ _ => trivial)).isSl
      simp only [core, Nat.reduceAdd, Nat.reduceSub, Nat.reduceMul, Nat.reduceLT, Nat.reduceEqDiff, reduceCtorEq, Nat.reduceLeDiff, Int.reduceLE, Int.reduceLT, Int.reduceToNat, hn, g2, g26, g27, g28, g5, hws, s71]
      refine ih _ _ ⟨⟨s7, by rw [hus]; exact ho7, by simp only [core, Nat.reduceAdd, Nat.reduceSub, Nat.reduceMul, Nat.reduceLT, Nat.reduceEqDiff, reduceCtorEq, Nat.reduceLeDiff, Int.reduceLE, Int.reduceLT, Int.reduceToNat, hn, g2, g26, g27, g28]⟩, (he.step e6).trans e7, ?_⟩
      simp only [core, Nat.reduceAdd, Nat.reduceSub, Nat.reduceMul, Nat.reduceLT, Nat.reduceEqDiff, reduceCtorEq, Nat.reduceLeDiff, Int.reduceLE, Int.reduceLT, Int.reduceToNat, hn, g2, g26, g27, g28]
    · rintro t h hc ⟨⟨s', ho, g5⟩, he, hn, g2, g26, g27, g28⟩
      simp only [core, Nat.reduceAdd, Nat.reduceSub, Nat.reduceMul, Nat.reduceLT, Nat.reduceEqDiff, reduceCtorEq, Nat.reduceLeDiff, Int.reduceLE, Int.reduceLT, Int.reduceToNat, hn, g2, g26, g27, g28, g5, hc]
      exact ⟨E4.step he, ho.toSl (fun _ hf => hf.elim) (fun b hb => by omega)⟩
    · refine ⟨⟨.lit (.slice none 0 0), OwnL.nil, by simp only [core, Nat.reduceAdd, Nat.reduceSub, Nat.reduceMul, Nat.reduceLT, Nat.reduceEqDiff, reduceCtorEq, Nat.reduceLeDiff, Int.reduceLE, Int.reduceLT, Int.reduceToNat]⟩, Ext.refl _ _, ?_⟩
      simp only [core, Nat.reduceAdd, Nat.reduceSub, Nat.reduceMul, Nat.reduceLT, Nat.reduceEqDiff, reduceCtorEq, Nat.reduceLeDiff, Int.reduceLE, Int.reduceLT, Int.reduceToNat, d1, d2]
      (repeat' apply And.intro) <;> first | rfl | trivial
end Go.Proofs.YtkgbeihcepociaaDoor.Ex
end

section

set_option linter.unusedSimpArgs false
set_option linter.unusedVariables false
set_option maxRecDepth 10000
set_option maxHeartbeats 4000000
namespace Go.Proofs.YtkgbeihcepociaaDoor.Ex
open Go
end Go.Proofs.YtkgbeihcepociaaDoor.Ex
end

section

set_option linter.unusedSimpArgs false
set_option linter.unusedVariables false
set_option maxRecDepth 10000
set_option maxHeartbeats 4000000
namespace Go.Proofs.YtkgbeihcepociaaDoor.Ex
open Go
end Go.Proofs.YtkgbeihcepociaaDoor.Ex
end

section

set_option linter.unusedSimpArgs false
set_option linter.unusedVariables false
namespace Go.Proofs.YtkgbeihcepociaaDoor.Ex
open Go
/-- A row of cells. -/
def rowO (w : World) (r : Nat) : Option (List Value × TypeId) := match w.heap[r]? with
  | some (.cells cur e _) => some (cur.toList, e)
  | _ => none
theorem rowO_inv {w : World} {r : Nat} {l : List Value} {e : TypeId} (h : rowO w r = some (l, e)) : ∃ cur fz, w.heap[r]? = some (.cells cur e fz) ∧ l = cur.toList := by
  unfold rowO at h
  split at h
  · rename_i cur e' fz hh
    simp only [Option.some.injEq, Prod.mk.injEq] at h
    obtain ⟨rfl, rfl⟩ := h
    exact ⟨cur, fz, hh, rfl⟩
  · cases h
def winsAt (w : World) (r : Nat) : List (Nat × Nat) := match rowO w r with
  | some (l, _) => (List.range (l.length + 1)).map fun off => (r, off)
  | none => []
/-- All windows: a row from a place on. -/
def wins (w : World) : List (Nat × Nat) := (List.range w.heap.size).flatMap (winsAt w)
theorem mem_wins {w : World} {r off : Nat} : (r, off) ∈ wins w ↔ ∃ l e, rowO w r = some (l, e) ∧ off ≤ l.length := by
  unfold wins
  rw [List.mem_flatMap]
  constructor
  · rintro ⟨r', _, h⟩
    unfold winsAt at h
    split at h
    · rename_i l e hl
      obtain ⟨off', h1, h2⟩ := List.mem_map.1 h
      simp only [Prod.mk.injEq] at h2
      obtain ⟨rfl, rfl⟩ := h2
      rw [List.mem_range] at h1
      exact ⟨l, e, hl, by omega⟩
    · cases h
  · rintro ⟨l, e, hl, ho⟩
    refine ⟨r, ?_, ?_⟩
    · obtain ⟨cur, fz, hh, _⟩ := rowO_inv hl
      rw [List.mem_range]
      exact (Array.getElem?_eq_some_iff.1 hh).1
    · unfold winsAt
      rw [hl]
      exact List.mem_map.2 ⟨off, by rw [List.mem_range]; omega, rfl⟩
/-- A window's number. -/
def widx (w : World) (p : Nat × Nat) : Nat := (wins w).idxOf p + 1
def mu0 (w : World) : Mu := fun b => match b with
  | 0 => none
  | k + 1 => (wins w)[k]?
theorem mu0_widx {w : World} {p : Nat × Nat} (h : p ∈ wins w) : mu0 w (widx w p) = some p := by
  show (wins w)[(wins w).idxOf p]? = some p
  have hlt := List.idxOf_lt_length_of_mem h
  rw [List.getElem?_eq_getElem hlt, List.getElem_idxOf hlt]
instance (w : World) (p : Nat × Nat) : Decidable (p ∈ wins w) := inferInstance
def absV (w : World) : Value → AV
  | .pointer (some ⟨r, o, none⟩) => if (r, o) ∈ wins w then .ptr (widx w (r, o)) 0 else .any
  | .slice (some a) len cap => if len = 0 ∧ cap = 0 then .sl 0 0 0 (.kn 0) else match a with
    | ⟨r, o, none⟩ => if (r, o) ∈ wins w ∧ len ≤ cap ∧ cap ≤ maxLen then .sl (widx w (r, o)) 0 len (.kn cap) else .any
    | _ => .any
  | v => bif scal v then .lit v else .any
theorem absV_rel {ρ : Nat → Value} {w : World} {v : Value} (hv : v.oneCell' = true) : rel ρ (mu0 w) w (absV w v) v := by
  unfold absV
  split
  · rename_i r o
    split
    · rename_i hm
      unfold rel
      exact ⟨r, o, mu0_widx hm, rfl⟩
    · unfold rel; exact hv
  · rename_i a len cap
    split
    · rename_i h0
      obtain ⟨rfl, rfl⟩ := h0
      unfold rel
      exact .inr ⟨rfl, rfl, a, rfl⟩
    · split
      · rename_i r o
        split
        · rename_i hm
          unfold rel
          exact .inl ⟨r, o, o, cap, mu0_widx hm.1, rfl, .inr rfl, rfl, hm.2.1, hm.2.2⟩
        · unfold rel; exact hv
      · unfold rel; exact hv
  · cases hs : scal v with
    | false => simp only [cond_false]; unfold rel; exact hv
    | true => simp only [cond_true]; exact rel_lit hs
/-- A window's cells, as far as they are cells. -/
def absB (w : World) (p : Nat × Nat) : AB := match rowO w p.1 with
  | some (l, e) => .frz (((l.drop p.2).takeWhile (·.oneCell')).map (absV w)) e
  | none => .gone
def AH.ofList (l : List AB) : AH := l.foldl AH.push .nil
theorem L_foldl : ∀ (l : List AB) (h : AH), (l.foldl AH.push h).L = h.L ++ l
  | [], h => by simp
  | x :: r, h => by rw [List.foldl_cons, L_foldl r, L_push, List.append_assoc]; rfl
theorem L_ofList (l : List AB) : (AH.ofList l).L = l := by
  unfold AH.ofList
  rw [L_foldl]
  rfl
/-- The abstract heap of a world; block 0 is an empty row. -/
def absH (w : World) : AH := AH.ofList (.frz [] 0 :: (wins w).map (absB w))
theorem absH_L (w : World) : (absH w).L = .frz [] 0 :: (wins w).map (absB w) := L_ofList _
theorem absH_0 (w : World) : (absH w).at 0 = some (.frz [] 0) := by rw [← L_at, absH_L]; rfl
theorem absH_at {w : World} {p : Nat × Nat} (h : p ∈ wins w) : (absH w).at (widx w p) = some (absB w p) := by
  rw [← L_at, absH_L]
  have : (wins w)[(wins w).idxOf p]? = some p := mu0_widx h
  show ((wins w).map (absB w))[(wins w).idxOf p]? = _
  rw [List.getElem?_map, this]
  rfl
theorem absH_wr {w : World} {b : Nat} {ab : AB} (h : (absH w).L[b]? = some ab) : wr ab = false := by
  rw [absH_L] at h
  cases b with
  | zero => simp at h; subst h; rfl
  | succ k =>
    rw [List.getElem?_cons_succ, List.getElem?_map] at h
    obtain ⟨p, _, rfl⟩ := Option.map_eq_some_iff.1 h
    unfold absB
    split <;> rfl
theorem absH_nw (w : World) (b : Nat) (ab : AB) (h : (absH w).at b = some ab) : wr ab = false := absH_wr (by rw [L_at]; exact h)
theorem takeWhile_get {α : Type} {p : α → Bool} : ∀ {l : List α} {i : Nat} {x : α}, (l.takeWhile p)[i]? = some x → l[i]? = some x ∧ p x = true
  | [], i, x, h => by simp at h
  | a :: r, i, x, h => by
    rw [List.takeWhile_cons] at h
    cases ha : p a with
    | false => rw [ha] at h; simp at h
    | true =>
      rw [ha] at h
      cases i with
      | zero => simp at h; subst h; exact ⟨rfl, ha⟩
      | succ i => simp only [if_true, List.getElem?_cons_succ] at h ⊢; exact takeWhile_get h
theorem takeWhile_take {α : Type} {p : α → Bool} : ∀ {l : List α} {n : Nat}, (∀ x ∈ l.take n, p x = true) → (l.takeWhile p).take n = l.take n
  | [], n, _ => by simp
  | a :: r, 0, _ => by simp
  | a :: r, n + 1, h => by
    rw [List.takeWhile_cons, if_pos (h a (by simp)), List.take_succ_cons, List.take_succ_cons, takeWhile_take fun x hx => h x (by simp [hx])]
theorem absH_hr {P : Program} {ρ : Nat → Value} (w : World) (hpin : PinOf ρ (mu0 w) w := by intro r h; cases h) : HR P ρ w.heap.size (mu0 w) (absH w) w := by
  refine ⟨Nat.le_refl _, fun b x hb => ?_, fun b r base ab hb hx => ?_, fun b b' r base base' ab ab' h1 h2 h3 h4 h5 h6 => ?_, hpin⟩
  · rw [absH_L]
    cases b with
    | zero => cases hb
    | succ k =>
      have : k < (wins w).length := (List.getElem?_eq_some_iff.1 (show (wins w)[k]? = some x from hb)).1
      simp only [List.length_cons, List.length_map]
      omega
  · cases b with
    | zero => cases hb
    | succ k =>
      have hk : (wins w)[k]? = some (r, base) := hb
      rw [absH_L, List.getElem?_cons_succ, List.getElem?_map, hk] at hx
      simp only [Option.map_some, Option.some.injEq] at hx
      obtain ⟨l, e, hl, ho⟩ := mem_wins.1 (List.mem_of_getElem? hk)
      obtain ⟨cur, fz, hh, rfl⟩ := rowO_inv hl
      unfold absB at hx
      rw [hl] at hx
      simp only at hx
      subst hx
      refine ⟨fun hw => (by cases hw), (Array.getElem?_eq_some_iff.1 hh).1, _, hh, cur, fz, rfl, ?_, fun i x hi => ?_⟩
      · have h1 := (List.takeWhile_prefix (l := cur.toList.drop base) (·.oneCell')).length_le
        rw [List.length_drop] at h1
        have e0 : cur.toList.length = cur.size := Array.length_toList
        rw [e0] at h1 ho
        rw [List.length_map]
        exact Nat.le_trans (Nat.add_le_add_left h1 base) (by omega)
      · rw [List.getElem?_map] at hi
        obtain ⟨v, hv, rfl⟩ := Option.map_eq_some_iff.1 hi
        obtain ⟨h1, h2⟩ := takeWhile_get hv
        rw [List.getElem?_drop, Array.getElem?_toList] at h1
        exact ⟨v, h1, absV_rel h2⟩
  · have := absH_wr h3
    rw [this] at h5
    cases h5
end Go.Proofs.YtkgbeihcepociaaDoor.Ex
end

section

set_option linter.unusedSimpArgs false
set_option linter.unusedVariables false
namespace Go.Proofs.YtkgbeihcepociaaDoor
open Go.RowKit Go.ChangeShapes Go.WideShapes Go.ChangeAt
open Go.ChangeMaps (open_string shut_string)
theorem own : ownKnob Tryd.prog.godebug = none := by kernel_rfl
theorem laidOut : laidOutB Tryd.prog = true := by kernel_rfl
section
variable {H : Type} {enc : TypeId × Value → H} {P : Program} {W W' : World}
theorem below_trodAll (hl : laidOutB P = true) (hb : Below W.heap.size W W') : ∀ {ts : List TypeId} {vs : List Value} {ds : List (DataW H)} {ps : List MemPlace},
    ts.all (fun t => P.readableRec t && decide (t < P.types.size)) = true → DataW.TrodAll enc P W 0 (fun _ => true) true ts vs ds ps → DataW.TrodAll enc P W' 0 (fun b => decide (b < W.heap.size)) true ts vs ds ps
  | [], _, _, _, _, h => by obtain ⟨rfl, rfl, rfl⟩ := trodAll_nil h; exact trodAll_mk0
  | t :: ts, vs, ds, ps, hr, h => by
    obtain ⟨v, vs', d, ds', p, q, rfl, rfl, rfl, h1, h2⟩ := trodAll_cons h
    simp only [List.all_cons, Bool.and_eq_true, decide_eq_true_eq] at hr
    refine trodAll_cons_mk (Below.trod hl hr.1.1 hr.1.2 h1 hb ?_) (below_trodAll hl hb (by simpa using hr.2) h2)
    obtain ⟨m, hm⟩ := h1
    exact DataW.trod_lt m _ _ _ hm
theorem weights_le {ts : List TypeId} {ds : List (DataW H)} (hsz : (DataW.weightsEach P ts ds).all (· ≤ reachBytes) = true) {j : Nat} {t : TypeId} {d : DataW H} (hj : ts[j]? = some t) (hd : ds[j]? = some d) : ∀ n ∈ d.weights P t, n ≤ reachBytes := fun n hn => by
  have := List.all_eq_true.1 hsz n (DataW.weights_mem_each hj hd n hn)
  simpa using this
theorem weightsAll_mem {e : TypeId} : ∀ {l : List (DataW H)} {i : Nat} {d : DataW H}, l[i]? = some d → ∀ n ∈ d.weights P e, n ∈ DataW.weightsAll P e l
  | d0 :: l, 0, d, h, n, hn => by simp at h; subst h; simp [DataW.weightsAll, hn]
  | d0 :: l, i + 1, d, h, n, hn => by
    simp only [List.getElem?_cons_succ] at h
    simp only [DataW.weightsAll, List.mem_append]
    exact .inr (weightsAll_mem h n hn)
end
end Go.Proofs.YtkgbeihcepociaaDoor
end

section

set_option linter.unusedSimpArgs false
set_option linter.unusedVariables false
namespace Go.Proofs.YtkgbeihcepociaaDoor.Ex
open Go Go.RowKit Go.ChangeShapes Go.WideShapes Go.ChangeAt
section
variable {H : Type} (enc : TypeId × Value → H)
/-- The blocks of the abstract heap. -/
def InH (W : World) : Nat → Prop := fun b => b < (absH W).n
/-- A value of type t that is read is plain data; of what is not too great, B holds. -/
def OpensA (P : Program) (W : World) (t : TypeId) {α : Type} (R : Rep α) (B : α → Prop) : Prop :=
  P.cellsOf t = R.z ∧ ∀ (fuel : Nat) (cs : List Value) (x : DataW H × List MemPlace), DataW.trod enc P W 0 (fun _ => true) true fuel t cs = some x → (x.1.weights P t).all (· ≤ reachBytes) = true →
    cs.length = R.z ∧ (∀ c ∈ cs, c.oneCell' = true) ∧ ∃ y, R.is (InH W) (absH W) (cs.map (absV W)) y ∧ B y
variable {enc} {P : Program} {W : World}
theorem opensA_int {t : TypeId} (ht : P.underlying t = some (.int .i64)) (hc : P.cellsOf t = 1) : OpensA enc P W t RInt (fun _ => True) := by
  refine ⟨hc, fun fuel cs x h _ => ?_⟩
  obtain ⟨n, rfl, rfl, hw⟩ := DataW.trod_int ht h
  refine ⟨rfl, by simp; rfl, n, ⟨rfl, ?_⟩, trivial⟩
  simp only [Lit.wf, IntKind.min, IntKind.max, IntKind.signed, IntKind.bits] at hw
  simp at hw
  exact ⟨hw.1, by omega⟩
theorem opensA_bool {t : TypeId} (ht : P.underlying t = some .bool) (hc : P.cellsOf t = 1) : OpensA enc P W t RBool (fun _ => True) := by
  refine ⟨hc, fun fuel cs x h _ => ?_⟩
  obtain ⟨b, rfl, rfl⟩ := DataW.trod_bool ht h
  exact ⟨rfl, by simp; rfl, b, rfl, trivial⟩
theorem flat_getV {α : Type} {z : Nat} : ∀ {L : List (List α)}, (∀ x ∈ L, x.length = z) → ∀ (i : Nat) {c : List α}, L[i]? = some c → (L.flatten.drop (i * z)).take z = c
  | [], _, i, c, hc => by simp at hc
  | a :: r, h, i, c, hc => by
    have ha := h a (by simp)
    cases i with
    | zero =>
      obtain rfl : a = c := by simpa using hc
      rw [Nat.zero_mul, List.drop_zero, List.flatten_cons, ← ha, List.take_left']
      rfl
    | succ i =>
      rw [List.flatten_cons, Nat.succ_mul, Nat.add_comm, List.drop_append, List.drop_of_length_le (by omega), List.nil_append, ha, Nat.add_sub_cancel_left]
      exact flat_getV (fun x hx => h x (by simp [hx])) i (by simpa using hc)
theorem flat_lenV {α : Type} {z : Nat} {L : List (List α)} (h : ∀ x ∈ L, x.length = z) : L.flatten.length = L.length * z := by
  induction L with
  | nil => simp
  | cons a r ih =>
    rw [List.flatten_cons, List.length_append, ih (fun x hx => h x (by simp [hx])), h a (by simp), List.length_cons, Nat.succ_mul]
    omega
theorem weightsAll_mem {e : TypeId} : ∀ {l : List (DataW H)} {d : DataW H}, d ∈ l → ∀ n ∈ d.weights P e, n ∈ DataW.weightsAll P e l
  | a :: r, d, hd, n, hn => by
    simp only [DataW.weightsAll, List.mem_append]
    rcases List.mem_cons.1 hd with rfl | h
    · exact .inl hn
    · exact .inr (weightsAll_mem h n hn)
theorem opensA_list {t e : TypeId} {α : Type} {R : Rep α} {B : α → Prop} {by' : Nat} (ht : P.underlying t = some (.slice e)) (hc : P.cellsOf t = 1) (hb : P.bytesOf e = by') (h0 : 0 < R.z) (ho : OpensA enc P W e R B) :
    OpensA enc P W t (RSl R) (fun ys => ys.length * by' ≤ 140737488351232 ∧ ∀ y ∈ ys, B y) := by
  refine ⟨hc, fun fuel cs x hf hw => ?_⟩
  rcases DataW.trod_slice ht hf with ⟨rfl, rfl⟩ | ⟨a, len, cap, elems, rest, m, rfl, rfl, rfl, hba, hl, hm, hlen, hel, hsp, hns⟩
  · exact ⟨rfl, by simp; rfl, [], RSl_is.2 ⟨_, rfl, IsSl.nil⟩, by simp, by simp⟩
  · rw [ho.1] at hel hsp
    simp only [DataW.weights, ht, List.all_cons, List.all_append, Bool.and_eq_true, decide_eq_true_eq, hb] at hw
    obtain ⟨hw1, hw2, hw3⟩ := hw
    have hrl := (hsp rfl).1
    have hbig : len * by' ≤ 140737488351232 := by
      have h1 : len * by' ≤ (elems.map (·.1)).length * by' + (rest.map (·.1)).length * by' := by rw [List.length_map, hlen]; omega
      rw [← Nat.add_mul] at h1
      exact Nat.le_trans h1 hw1
    have hone : ∀ c ∈ [Value.slice (some a) len cap], c.oneCell' = true := by simp; rfl
    refine ⟨rfl, hone, ?_⟩
    by_cases hz : len = 0 ∧ cap = 0
    · obtain ⟨rfl, rfl⟩ := hz
      refine ⟨[], RSl_is.2 ⟨.sl 0 0 0 (.kn 0), by simp [absV], .mk (L := []) ⟨by simp, .inr ⟨0, 0, _, [], rfl, by unfold getR; rw [absH_0], by simp [cut]⟩⟩ (fun b off n cap e => ?_) (fun b off n cap e => by cases e; exact Nat.le_refl 0) .nil⟩, by simp, by simp⟩
      cases e
      exact at_lt (absH_0 W)
    · have hcap : 0 < cap := by omega
      have hsz0 : elems.length + rest.length = cap := by omega
      -- what is read
      have hrd : ∀ i, i < cap → ∃ l x, W.cells? 0 (a.add (i * R.z)) R.z = some l ∧ DataW.trod enc P W 0 (fun _ => true) true m e l = some x ∧ (i < len → elems[i]? = some x) := fun i hi => by
        by_cases hil : i < len
        · have h2 := hel i hil
          rw [List.getElem?_eq_getElem (by omega)] at h2
          obtain ⟨l, hl1, hl2⟩ := Option.bind_eq_some_iff.1 h2
          exact ⟨l, _, hl1, hl2, fun _ => List.getElem?_eq_getElem (by omega)⟩
        · have h2 := (hsp rfl).2 (i - len) (by omega)
          rw [List.getElem?_eq_getElem (by omega), show len + (i - len) = i by omega] at h2
          obtain ⟨l, hl1, hl2⟩ := Option.bind_eq_some_iff.1 h2
          exact ⟨l, _, hl1, hl2, fun h => absurd h hil⟩
      obtain ⟨r, o, spot⟩ := a
      obtain ⟨l0, x0, q1, q2, -⟩ := hrd 0 hcap
      have hspot : spot = none := by
        have h3 := World.cells?_some q1
        have h4 := h3.2.2 0 h0
        rw [List.getElem?_eq_getElem (by have := h3.2.1; omega)] at h4
        simpa [Addr.add] using World.cell?_spot h4
      subst hspot
      have hcell : ∀ (k : Nat) (v : Value), W.cell? (⟨r, o + k, none⟩ : Addr) = some v → ∃ cur e fz, W.heap[r]? = some (.cells cur e fz) ∧ cur[o + k]? = some v := fun k v hk => by
        unfold World.cell? at hk
        cases hh : W.heap[r]? with
        | none => simp [hh] at hk
        | some ob => cases ob <;> simp [hh] at hk <;> exact ⟨_, _, _, rfl, hk⟩
      -- the row
      obtain ⟨cur, te, fz, hrow⟩ : ∃ cur te fz, W.heap[r]? = some (.cells cur te fz) := by
        have h3 := World.cells?_some q1
        have h4 := h3.2.2 0 h0
        rw [List.getElem?_eq_getElem (by have := h3.2.1; omega)] at h4
        obtain ⟨cur, te, fz, h5, _⟩ := hcell 0 _ (by simpa [Addr.add] using h4)
        exact ⟨cur, te, fz, h5⟩
      have hcur : ∀ i l, W.cells? 0 ((⟨r, o, none⟩ : Addr).add (i * R.z)) R.z = some l → l.length = R.z ∧ ∀ f, f < R.z → cur[o + i * R.z + f]? = l[f]? := fun i l hil => by
        have h3 := World.cells?_some hil
        refine ⟨h3.2.1, fun f hf => ?_⟩
        have h4 := h3.2.2 f hf
        obtain ⟨u, hu⟩ : ∃ u, l[f]? = some u := ⟨_, List.getElem?_eq_getElem (by have := h3.2.1; omega)⟩
        rw [hu] at h4 ⊢
        rw [addr_add, addr_add] at h4
        obtain ⟨cur', te', fz', h5, h6⟩ := hcell (i * R.z + f) _ (by rw [← Nat.add_assoc]; exact h4)
        rw [hrow] at h5
        obtain ⟨rfl, _, _⟩ := Obj.cells.inj (Option.some.inj h5)
        rw [← h6, Nat.add_assoc]
      -- the elements, and the data
      have key : ∀ n, n ≤ len → ∃ (L : List (List Value)) (ys : List α), L.length = n ∧ ys.length = n ∧ (∀ c ∈ L, c.length = R.z ∧ ∀ u ∈ c, u.oneCell' = true) ∧ (∀ (i : Nat) c y, L[i]? = some c → ys[i]? = some y → R.is (InH W) (absH W) (c.map (absV W)) y) ∧ (∀ (i : Nat) c, L[i]? = some c → ∀ f, f < R.z → cur[o + i * R.z + f]? = c[f]?) ∧ ∀ y ∈ ys, B y := by
        intro n
        induction n with
        | zero => exact fun _ => ⟨[], [], rfl, rfl, by simp, by simp, by simp, by simp⟩
        | succ n ih =>
          intro hn
          obtain ⟨L, ys, h1, h2, h3, h4, h5, h6⟩ := ih (by omega)
          obtain ⟨l, x, e1, e2, e3⟩ := hrd n (by omega)
          have e3 := e3 (by omega)
          have hwx : (x.1.weights P e).all (· ≤ reachBytes) = true := by
            rw [List.all_eq_true] at hw2 ⊢
            intro k hk
            exact hw2 k (weightsAll_mem (List.mem_map.2 ⟨x, List.mem_of_getElem? e3, rfl⟩) k hk)
          obtain ⟨g1, g2, y, g3, g4⟩ := ho.2 _ _ _ e2 hwx
          obtain ⟨g5, g6⟩ := hcur n l e1
          refine ⟨L ++ [l], ys ++ [y], by simp [h1], by simp [h2], fun c hc => ?_, fun i c z hc hz => ?_, fun i c hc => ?_, fun z hz => ?_⟩
          · rcases List.mem_append.1 hc with hc | hc
            · exact h3 c hc
            · simp at hc; subst hc; exact ⟨g1, g2⟩
          · by_cases hi : i < n
            · rw [List.getElem?_append_left (by omega)] at hc hz
              exact h4 i c z hc hz
            · have := (List.getElem?_eq_some_iff.1 hc).1
              simp only [List.length_append, List.length_singleton] at this
              obtain rfl : i = n := by omega
              rw [List.getElem?_append_right (by omega), h1, Nat.sub_self] at hc
              rw [List.getElem?_append_right (by omega), h2, Nat.sub_self] at hz
              simp at hc hz
              subst hc hz
              exact g3
          · by_cases hi : i < n
            · rw [List.getElem?_append_left (by omega)] at hc
              exact h5 i c hc
            · have := (List.getElem?_eq_some_iff.1 hc).1
              simp only [List.length_append, List.length_singleton] at this
              obtain rfl : i = n := by omega
              rw [List.getElem?_append_right (by omega), h1, Nat.sub_self] at hc
              simp at hc
              subst hc
              exact g6
          · rcases List.mem_append.1 hz with hz | hz
            · exact h6 z hz
            · simp at hz; subst hz; exact g4
      obtain ⟨L, ys, k1, k2, k3, k4, k5, k6⟩ := key len (Nat.le_refl _)
      have hfl : L.flatten.length = len * R.z := by rw [flat_lenV (fun c hc => (k3 c hc).1), k1]
      have hpre : (cur.toList.drop o).take (len * R.z) = L.flatten := by
        apply List.ext_getElem?
        intro j
        by_cases hj : j < len * R.z
        · rw [List.getElem?_take, if_pos hj, List.getElem?_drop, Array.getElem?_toList]
          have hd : j / R.z < len := Nat.div_lt_of_lt_mul (by rw [Nat.mul_comm]; exact hj)
          have hm2 := Nat.mod_lt j h0
          have hdm := Nat.div_add_mod j R.z
          rw [Nat.mul_comm] at hdm
          have hLd : L[j / R.z]? = some L[j / R.z] := List.getElem?_eq_getElem (by omega)
          have h7 := k5 (j / R.z) _ hLd (j % R.z) hm2
          rw [Nat.add_assoc, hdm] at h7
          rw [h7]
          have h8 := flat_getV (fun c hc => (k3 c hc).1) (j / R.z) hLd
          rw [← h8, List.getElem?_take, if_pos hm2, List.getElem?_drop, hdm]
        · rw [List.getElem?_eq_none (by rw [List.length_take]; omega), List.getElem?_eq_none (by omega)]
      have hto : o ≤ cur.size := by
        obtain ⟨hll, hff⟩ := hcur 0 l0 q1
        have := hff 0 h0
        rw [List.getElem?_eq_getElem (by omega)] at this
        have := (Array.getElem?_eq_some_iff.1 this).1
        omega
      have hro : rowO W r = some (cur.toList, te) := by unfold rowO; rw [hrow]
      have hwin : (r, o) ∈ wins W := mem_wins.2 ⟨_, _, hro, by rw [Array.length_toList]; exact hto⟩
      refine ⟨ys, RSl_is.2 ⟨.sl (widx W (r, o)) 0 len (.kn cap), ?_, .mk (L := L.map (·.map (absV W))) ⟨?_, .inr ⟨widx W (r, o), 0, .kn cap, ((cur.toList.drop o).takeWhile (·.oneCell')).map (absV W), by rw [List.length_map, k1], ?_, ?_⟩⟩ (fun b off n cap e => ?_) (fun b off n cap e => ?_) ⟨by rw [List.length_map, k1, k2], fun i c y hc hy => ?_⟩⟩, by rw [k2]; exact hbig, k6⟩
      · show [absV W (.slice (some ⟨r, o, none⟩) len cap)] = _
        simp only [absV, if_neg hz, if_pos (show (r, o) ∈ wins W ∧ len ≤ cap ∧ cap ≤ maxLen from ⟨hwin, hl, hm⟩)]
      · intro c hc
        obtain ⟨d, hd, rfl⟩ := List.mem_map.1 hc
        rw [List.length_map]
        exact (k3 d hd).1
      · unfold getR
        rw [absH_at hwin]
        simp only [absB, hro]
      · have htw : ((cur.toList.drop o).takeWhile (·.oneCell')).take (len * R.z) = L.flatten := by
          rw [takeWhile_take, hpre]
          intro u hu
          rw [hpre] at hu
          obtain ⟨c, hc, hu⟩ := List.mem_flatten.1 hu
          exact (k3 c hc).2 u hu
        have hlen2 : len * R.z ≤ ((cur.toList.drop o).takeWhile (·.oneCell')).length := by
          have := congrArg List.length htw
          rw [List.length_take, hfl] at this
          omega
        rw [List.length_map, k1]
        unfold cut
        rw [if_pos (by rw [List.length_map]; omega), List.drop_zero, ← List.map_take, htw, List.map_flatten]
      · cases e
        exact at_lt (absH_at hwin)
      · cases e
        exact hl
      · rw [List.getElem?_map] at hc
        obtain ⟨d, hd, rfl⟩ := Option.map_eq_some_iff.1 hc
        exact k4 i d y hd hy
/-! Structs. -/
/-- Values of several types, one behind another. -/
def OpensL (enc : TypeId × Value → H) (P : Program) (W : World) (ts : List TypeId) {α : Type} (R : Rep α) (B : α → Prop) : Prop :=
  (ts.map P.cellsOf).sum = R.z ∧ ∀ (fuel : Nat) (cs : List Value) (xs : List (DataW H × List MemPlace)), cs.length = R.z → xs.length = ts.length →
    (∀ (i : Nat) t, ts[i]? = some t → DataW.trod enc P W 0 (fun _ => true) true fuel t ((cs.drop ((ts.take i).map P.cellsOf).sum).take (P.cellsOf t)) = xs[i]?) →
    (DataW.weightsEach P ts (xs.map (·.1))).all (· ≤ reachBytes) = true →
    (∀ c ∈ cs, c.oneCell' = true) ∧ ∃ y, R.is (InH W) (absH W) (cs.map (absV W)) y ∧ B y
theorem opensL_one {t : TypeId} {α : Type} {R : Rep α} {B : α → Prop} (h : OpensA enc P W t R B) : OpensL enc P W [t] R B := by
  refine ⟨by simp [h.1], fun fuel cs xs hc hx hh hw => ?_⟩
  match xs, hx with
  | [x], _ =>
    have h1 := hh 0 t rfl
    simp only [List.take_zero, List.map_nil, List.sum_nil, List.drop_zero, List.getElem?_cons_zero] at h1
    rw [h.1, ← hc, List.take_length] at h1
    simp only [List.map_cons, List.map_nil, DataW.weightsEach, List.append_nil] at hw
    exact (h.2 _ _ _ h1 hw).2
theorem opensL_cons {t : TypeId} {ts : List TypeId} {α β : Type} {R : Rep α} {S : Rep β} {B : α → Prop} {C : β → Prop} (h : OpensA enc P W t R B) (k : OpensL enc P W ts S C) : OpensL enc P W (t :: ts) (RPair R S) (fun x => B x.1 ∧ C x.2) := by
  refine ⟨by simp [h.1, k.1, RPair], fun fuel cs xs hc hx hh hw => ?_⟩
  match xs, hx with
  | x :: xs, hx =>
    have hcz : cs.length = R.z + S.z := hc
    have h1 := hh 0 t rfl
    simp only [List.take_zero, List.map_nil, List.sum_nil, List.drop_zero, List.getElem?_cons_zero, h.1] at h1
    simp only [List.map_cons, DataW.weightsEach, List.all_append, Bool.and_eq_true] at hw
    obtain ⟨g1, g2, y, g3, g4⟩ := h.2 _ _ _ h1 hw.1
    obtain ⟨q1, z, q2, q3⟩ := k.2 fuel (cs.drop R.z) xs (by rw [List.length_drop]; omega) (by simpa using hx) (fun i t' ht' => by
      have h2 := hh (i + 1) t' (by simpa using ht')
      rw [List.take_succ_cons, List.map_cons, List.sum_cons, h.1, ← List.drop_drop, List.getElem?_cons_succ] at h2
      exact h2) hw.2
    refine ⟨fun c hc => ?_, (y, z), ⟨(cs.take R.z).map (absV W), (cs.drop R.z).map (absV W), ?_, g3, q2⟩, g4, q3⟩
    · rw [← List.take_append_drop R.z cs] at hc
      exact (List.mem_append.1 hc).elim (g2 c) (q1 c)
    · rw [← List.map_append, List.take_append_drop]
/-- Do the fields follow one another? -/
def fieldsOk (P : Program) : List Field → Nat → Bool
  | [], _ => true
  | f :: r, k => Nat.beq f.offset k && fieldsOk P r (k + P.cellsOf f.type)
theorem fieldsOk_at : ∀ {fs : List Field} {k : Nat}, fieldsOk P fs k = true → ∀ (i : Nat) f, fs[i]? = some f → f.offset = k + (((fs.map (·.type)).take i).map P.cellsOf).sum
  | [], k, _, i, f, hf => by simp at hf
  | g :: r, k, h, i, f, hf => by
    simp only [fieldsOk, Bool.and_eq_true] at h
    cases i with
    | zero => simp at hf; subst hf; simpa using Nat.eq_of_beq_eq_true h.1
    | succ i =>
      have := fieldsOk_at h.2 i f (by simpa using hf)
      rw [this]
      simp only [List.map_cons, List.take_succ_cons, List.sum_cons]
      omega
theorem opensA_struct {t : TypeId} {fs : Array Field} {ts : List TypeId} {α β : Type} {R : Rep α} {B : α → Prop} {C : β → Prop} (f : β → α) (g : α → β) (hfg : ∀ y, f (g y) = y) (ht : P.underlying t = some (.struct fs)) (hts : fs.toList.map (·.type) = ts) (hok : fieldsOk P fs.toList 0 = true) (hc : P.cellsOf t = R.z)
    (h : OpensL enc P W ts R B) (hBC : ∀ y, B y → C (g y)) : OpensA enc P W t (RMap f R) C := by
  subst hts
  refine ⟨hc, fun fuel cs x hf hw => ?_⟩
  obtain ⟨xs, n, rfl, rfl, hcs, hxs, hel⟩ := DataW.trod_struct ht hf
  simp only [DataW.weights, ht] at hw
  rw [hc] at hcs
  obtain ⟨q1, y, q2, q3⟩ := h.2 n cs xs hcs (by simpa using hxs) (fun i t' ht' => by
    rw [List.getElem?_map] at ht'
    obtain ⟨fd, hfd, rfl⟩ := Option.map_eq_some_iff.1 ht'
    have := hel i fd (by simpa using hfd)
    rw [fieldsOk_at hok i fd hfd, Nat.zero_add] at this
    exact this) hw
  exact ⟨hcs, q1, g y, by show R.is _ _ _ (f (g y)); rw [hfg]; exact q2, hBC y q3⟩
end
section
variable {H : Type} {enc : TypeId × Value → H} {W : World}
theorem opensA_ints : OpensA enc Tryd.prog W 31 (RSl RInt) (fun ys => ys.length * 8 ≤ 140737488351232 ∧ ∀ y ∈ ys, True) :=
  opensA_list (R := RInt) (B := fun _ => True) Tryd.underlying31 (by kernel_rfl) (by kernel_rfl) (by decide) (opensA_int Tryd.underlying3 (by kernel_rfl))
end
end Go.Proofs.YtkgbeihcepociaaDoor.Ex
end

section

set_option linter.unusedSimpArgs false
set_option linter.unusedVariables false
namespace Go.Proofs.YtkgbeihcepociaaDoor.Ex
open Go Go.RowKit Go.ChangeShapes Go.WideShapes Go.ChangeAt
def OkOsd (x : OsdD) : Prop := True
def OkPool (x : PoolD) : Prop := True
def OkBkt (x : BktD) : Prop := Sm 8 x.items ∧ Sm 8 x.weights
def OkMp (x : MapD) : Prop := (Sm 40 x.osds ∧ ∀ y ∈ x.osds, OkOsd y) ∧ (Sm 32 x.pools ∧ ∀ y ∈ x.pools, OkPool y) ∧ (Sm 64 x.buckets ∧ ∀ y ∈ x.buckets, OkBkt y)
section
variable {H : Type} {enc : TypeId × Value → H} {W : World}
theorem opensA_Osd : OpensA enc Tryd.prog W 42 ROsd OkOsd :=
  opensA_struct (ts := [4, 4, 3, 3, 3, 3]) (fun x : OsdD => (x.ex, x.up, x.weight, x.boot, x.upFrom, x.upThru)) (fun y => ⟨y.1, y.2.1, y.2.2.1, y.2.2.2.1, y.2.2.2.2.1, y.2.2.2.2.2⟩) (fun y => rfl) Tryd.underlying42 (by rfl) (by kernel_rfl) (by kernel_rfl) (opensL_cons (opensA_bool Tryd.underlying4 (by kernel_rfl)) (opensL_cons (opensA_bool Tryd.underlying4 (by kernel_rfl)) (opensL_cons (opensA_int Tryd.underlying3 (by kernel_rfl)) (opensL_cons (opensA_int Tryd.underlying3 (by kernel_rfl)) (opensL_cons (opensA_int Tryd.underlying3 (by kernel_rfl)) (opensL_one (opensA_int Tryd.underlying3 (by kernel_rfl)))))))) (fun y ⟨_, _, _, _, _, _⟩ => trivial)
theorem opensA_Osds : OpensA enc Tryd.prog W 22 (RSl ROsd) (fun ys => Sm 40 ys ∧ ∀ y ∈ ys, OkOsd y) :=
  opensA_list Tryd.underlying22 (by kernel_rfl) (by kernel_rfl) (by decide) opensA_Osd
theorem opensA_Pool : OpensA enc Tryd.prog W 162 RPool OkPool :=
  opensA_struct (ts := [3, 3, 3, 3]) (fun x : PoolD => (x.id, x.size, x.min, x.pgs)) (fun y => ⟨y.1, y.2.1, y.2.2.1, y.2.2.2⟩) (fun y => rfl) Tryd.underlying162 (by rfl) (by kernel_rfl) (by kernel_rfl) (opensL_cons (opensA_int Tryd.underlying3 (by kernel_rfl)) (opensL_cons (opensA_int Tryd.underlying3 (by kernel_rfl)) (opensL_cons (opensA_int Tryd.underlying3 (by kernel_rfl)) (opensL_one (opensA_int Tryd.underlying3 (by kernel_rfl)))))) (fun y ⟨_, _, _, _⟩ => trivial)
theorem opensA_Pools : OpensA enc Tryd.prog W 23 (RSl RPool) (fun ys => Sm 32 ys ∧ ∀ y ∈ ys, OkPool y) :=
  opensA_list Tryd.underlying23 (by kernel_rfl) (by kernel_rfl) (by decide) opensA_Pool
theorem opensA_Bkt : OpensA enc Tryd.prog W 47 RBkt OkBkt :=
  opensA_struct (ts := [3, 3, 31, 31]) (fun x : BktD => (x.id, x.kind, x.items, x.weights)) (fun y => ⟨y.1, y.2.1, y.2.2.1, y.2.2.2⟩) (fun y => rfl) Tryd.underlying47 (by rfl) (by kernel_rfl) (by kernel_rfl) (opensL_cons (opensA_int Tryd.underlying3 (by kernel_rfl)) (opensL_cons (opensA_int Tryd.underlying3 (by kernel_rfl)) (opensL_cons opensA_ints (opensL_one opensA_ints)))) (fun y ⟨_, _, ⟨h2, _⟩, ⟨h3, _⟩⟩ => ⟨h2, h3⟩)
theorem opensA_Bkts : OpensA enc Tryd.prog W 24 (RSl RBkt) (fun ys => Sm 64 ys ∧ ∀ y ∈ ys, OkBkt y) :=
  opensA_list Tryd.underlying24 (by kernel_rfl) (by kernel_rfl) (by decide) opensA_Bkt
theorem opensA_Mp : OpensA enc Tryd.prog W 26 RMp OkMp :=
  opensA_struct (ts := [3, 22, 23, 24, 3]) (fun x : MapD => (x.epoch, x.osds, x.pools, x.buckets, x.leaf)) (fun y => ⟨y.1, y.2.1, y.2.2.1, y.2.2.2.1, y.2.2.2.2⟩) (fun y => rfl) Tryd.underlying26 (by rfl) (by kernel_rfl) (by kernel_rfl) (opensL_cons (opensA_int Tryd.underlying3 (by kernel_rfl)) (opensL_cons opensA_Osds (opensL_cons opensA_Pools (opensL_cons opensA_Bkts (opensL_one (opensA_int Tryd.underlying3 (by kernel_rfl))))))) (fun y ⟨_, h1, h2, h3, _⟩ => ⟨h1, h2, h3⟩)
end
end Go.Proofs.YtkgbeihcepociaaDoor.Ex
end

section

set_option linter.unusedSimpArgs false
set_option linter.unusedVariables false
set_option maxRecDepth 10000
set_option maxHeartbeats 4000000
namespace Go.Proofs.YtkgbeihcepociaaDoor.Ex
open Go
theorem OkMp.okM {m : MapD} (h : OkMp m) : OkM m := ⟨h.2.2.1, h.2.2.2, trivial⟩
theorem ints_x {F G : Nat → Prop} {H : AH} {u v : AV} {xs ys : List Int} (hu : IsSl RInt F H u xs) (hv : IsSl RInt G H v ys) (hl : xs.length < 2 ^ 62) :
    WC Tryd.prog (tabOf Tryd.prog NT0) S0 9 [u, v] H fun r h' => h' = H ∧ r = .lit (.bool (xs == ys)) := by
  refine WC_fn Tryd.func9 rfl rfl ?_
  have s1 := hu.isSl
  have s2 := hu.lenD
  have s3 := hv.isSl
  have s4 := hv.lenD
  simp only [core, Nat.reduceAdd, Nat.reduceSub, Nat.reduceMul, Nat.reduceLT, Nat.reduceEqDiff, reduceCtorEq, Nat.reduceLeDiff, Int.reduceLE, Int.reduceLT, Int.reduceToNat, Tryd.ntmps9, s1, s2, s3, s4]
  refine ⟨fun he => ?_, fun he => ?_⟩
  · have : ¬ xs = ys := fun hh => by subst hh; simp at he
    congr 2
    simpa using this
  · have he : xs.length = ys.length := by simp at he; omega
    refine WB_for xs.length (fun i t h => h = H ∧ (xs.take i = ys.take i) ∧ t.n = 26 ∧ t.get 0 = u ∧ t.get 1 = v ∧ t.get 12 = .lit (.int .i64 xs.length) ∧ t.get 13 = .lit (.int .i64 i)) ?_ ?_ _ _ ?_
    · rintro i t h hlt hc ⟨rfl, hx, hn, g0, g1, g12, g13⟩ ih
      have hlt2 : i < ys.length := by omega
      have hld := hu.int (T := tabOf Tryd.prog NT0) (e := 3) (by kernel_rfl) (by kernel_rfl) hlt
      have hld2 := hv.int (T := tabOf Tryd.prog NT0) (e := 3) (by kernel_rfl) (by kernel_rfl) hlt2
      have hw := wrap_succ hlt (by omega)
      simp only [core, Nat.reduceAdd, Nat.reduceSub, Nat.reduceMul, Nat.reduceLT, Nat.reduceEqDiff, reduceCtorEq, Nat.reduceLeDiff, Int.reduceLE, Int.reduceLT, Int.reduceToNat, s1, s2, s3, s4, hn, g0, g1, g12, g13, hlt, hlt2, hc, hld, hw]
      rw [WB_regionD [0, 1, 2, 3, 4, 5, 6, 7, 8] 1205237335491016659828736 (by kernel_rfl)]
      repeat ((with_reducible refine WDM_cons ?_; simp only [dw1]; try simp only [dw2, Nat.reduceAdd, Nat.reduceMul, Nat.reduceShiftRight, Nat.reduceMod, Nat.reduceEqDiff]); simp only [core, Nat.reduceAdd, Nat.reduceSub, Nat.reduceMul, Nat.reduceLT, Nat.reduceEqDiff, reduceCtorEq, Nat.reduceLeDiff, Int.reduceLE, Int.reduceLT, Int.reduceToNat, cored, s1, s2, s3, s4, hn, g0, g1, g12, g13, hlt, hlt2, hc, hld, hld2, hw])
      have e1 : xs.getD i 0 = xs[i] := by simp [List.getD_eq_getElem?_getD, List.getElem?_eq_getElem hlt]
      have e2 : ys.getD i 0 = ys[i] := by simp [List.getD_eq_getElem?_getD, List.getElem?_eq_getElem hlt2]
      refine ⟨fun hq => ?_, fun hq => ?_⟩
      · have hq : ¬ xs.getD i 0 = ys.getD i 0 := by simpa using hq
        have : ¬ xs = ys := fun hh => by subst hh; exact hq rfl
        congr 2
        simpa using this
      · have hq : xs.getD i 0 = ys.getD i 0 := by simpa using hq
        refine ih _ _ ?_
        simp only [core, Nat.reduceAdd, Nat.reduceSub, Nat.reduceMul, Nat.reduceLT, Nat.reduceEqDiff, reduceCtorEq, Nat.reduceLeDiff, Int.reduceLE, Int.reduceLT, Int.reduceToNat, hn, g0, g1, g12, g13]
        rw [List.take_succ_eq_append_getElem hlt, List.take_succ_eq_append_getElem hlt2, hx, ← e1, ← e2, hq]
    · rintro t h hc ⟨rfl, hx, hn, g0, g1, g12, g13⟩
      simp only [core, Nat.reduceAdd, Nat.reduceSub, Nat.reduceMul, Nat.reduceLT, Nat.reduceEqDiff, reduceCtorEq, Nat.reduceLeDiff, Int.reduceLE, Int.reduceLT, Int.reduceToNat, s1, s2, hn, g0, g1, g12, g13, hc]
      rw [List.take_length, he, List.take_length] at hx
      simp [hx]
    · simp only [core, Nat.reduceAdd, Nat.reduceSub, Nat.reduceMul, Nat.reduceLT, Nat.reduceEqDiff, reduceCtorEq, Nat.reduceLeDiff, Int.reduceLE, Int.reduceLT, Int.reduceToNat]
      simp
end Go.Proofs.YtkgbeihcepociaaDoor.Ex
end

section

set_option linter.unusedSimpArgs false
set_option linter.unusedVariables false
namespace Go.Proofs.YtkgbeihcepociaaDoor.Ex
open Go Go.RowKit Go.ChangeShapes Go.WideShapes Go.ChangeAt
theorem rels_absV {ρ : Nat → Value} {w : World} : ∀ {cs : List Value}, (∀ c ∈ cs, c.oneCell' = true) → rels ρ (mu0 w) w (cs.map (absV w)) cs
  | [], _ => rels_nil
  | c :: r, h => rels_cons (absV_rel (h c (by simp))) (rels_absV fun x hx => h x (by simp [hx]))
theorem pinT {W : World} (htab : Lib.TabIs Tryd.prog W "internal/strconv.uint64pow10" .u64 Lib.pow10Tab) : PinOf ρT (mu0 W) W ∧ ∃ e, (absH W).at 1 = some (.frz tabL e) := by
  unfold Lib.TabIs World.var? at htab
  rw [show Tryd.prog.globalNamed "internal/strconv.uint64pow10" = some 0 by kernel_rfl] at htab
  have htab : (match W.heap[0]? with | some (Obj.cells cs _ _) => some cs | _ => none) = some (Lib.pow10Tab.map fun z => Value.int .u64 z).toArray := htab
  split at htab
  case h_2 => cases htab
  rename_i cs e fz h0
  obtain rfl := Option.some.inj htab
  have hlt : 0 < W.heap.size := (Array.getElem?_eq_some_iff.1 h0).1
  have hrow : rowO W 0 = some ((Lib.pow10Tab.map fun z => Value.int .u64 z), e) := by unfold rowO; rw [h0]
  have hwin : (wins W)[0]? = some (0, 0) := by
    unfold wins
    obtain ⟨k, hk⟩ : ∃ k, W.heap.size = k + 1 := ⟨W.heap.size - 1, by omega⟩
    rw [hk, List.range_succ_eq_map, List.flatMap_cons]
    have : winsAt W 0 = (0, 0) :: ((List.range 20).map fun off => (0, off + 1)) := by
      unfold winsAt
      rw [hrow]
      rfl
    rw [this]
    rfl
  have hmu : mu0 W 1 = some (0, 0) := hwin
  refine ⟨fun r hr => ?_, e, ?_⟩
  · have hr : (Value.int .i64 0) = .int .i64 r := hr
    cases hr
    exact ⟨hmu, _, e, fz, h0, rfl⟩
  · rw [← L_at, absH_L, List.getElem?_cons_succ, List.getElem?_map, hwin]
    simp only [Option.map_some]
    congr 1
    unfold absB
    rw [show ((0, 0) : Nat × Nat).1 = 0 from rfl, hrow]
    rfl
theorem law_joinT {W : World} (htab : Lib.TabIs Tryd.prog W "internal/strconv.uint64pow10" .u64 Lib.pow10Tab) {f : FuncId} {vs : List Value} {avs : List AV} (ha : rels ρT (mu0 W) W avs vs) (hw : ∀ e, (absH W).at 1 = some (.frz tabL e) → WC Tryd.prog (tabOf Tryd.prog NT0) S0 f avs (absH W) fun v h' => v = .lit (.bool true)) :
    Calls Tryd.prog f vs.toArray W fun e w' => e = .returned (.bool true) ∧ Below W.heap.size W w' := by
  obtain ⟨hp, e, hT⟩ := pinT htab
  obtain ⟨n, o, h1, hex, v, cm, rfl, rfl⟩ := hw e hT
  refine (ex_callsH tab_sound noNG follows_mixed (sums_ok _) (absH_hr W hp) (absH_nw W) hex ha).mono fun e w' hy => ?_
  obtain ⟨v', μ', rfl, hb, hv⟩ := hy
  exact ⟨by rw [rel_bool_inv hv], hb⟩
theorem open_agg {ρ : Nat → Value} {P : Program} {H : Type} {enc : TypeId × Value → H} {W : World} {base : Nat} {t : TypeId} {v0 : Value} {d0 : DataW H} {p0 : List MemPlace} {d : TypeDesc} {α : Type} {R : Rep α} {B : α → Prop} (hO : OpensA enc P W t R B) (hu : P.underlying t = some d) (hd : isAggD d = true)
    (k0 : Value.okWide P W .any base t v0) (h0 : DataW.Trod enc P W 0 (fun _ => true) true t v0 d0 p0) (hw : ∀ n ∈ d0.weights P t, n ≤ reachBytes) :
    ∃ (cs : List AV) (y : α), rel ρ (mu0 W) W (.agg cs) v0 ∧ R.is (InH W) (absH W) cs y ∧ B y := by
  obtain ⟨cs, rfl, h1, h2⟩ := okWide_agg hu hd k0
  obtain ⟨fuel, hf⟩ := h0
  obtain ⟨h3, h4, y, h5, h6⟩ := hO.2 fuel cs.toList _ hf (List.all_eq_true.2 fun n hn => (by simpa using hw n hn))
  refine ⟨_, y, ?_, h5, h6⟩
  unfold rel
  exact ⟨cs.toList, by simp, rels_absV h4⟩
end Go.Proofs.YtkgbeihcepociaaDoor.Ex
end
