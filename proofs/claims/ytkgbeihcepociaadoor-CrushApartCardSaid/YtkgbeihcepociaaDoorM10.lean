/- Part 10 of the proof: Lvs, Act, Bts, Abs, Open, Opa, Opb, Psm, Jn, Aw8, Apt, Stb. -/
import Derived.Test.YtkgbeihcepociaaDoorRows
import Derived.ProofKit
import Derived.OpenShut
import Derived.ShutString
import Derived.ChangeOld
import Derived.SizedLaws
import Derived.Test.YtkgbeihcepociaaDoorM9
section

set_option linter.unusedSimpArgs false
set_option linter.unusedVariables false
set_option maxRecDepth 10000
set_option maxHeartbeats 4000000
namespace Go.Proofs.YtkgbeihcepociaaDoor.Ex
open Go
def uptoI (f : Nat → List Int) (i : Nat) : List Int := (List.range i).flatMap f
theorem uptoI_split (f : Nat → List Int) {i n : Nat} (h : i ≤ n) : ∃ r, uptoI f n = uptoI f i ++ r := by
  refine ⟨((List.range n).drop i).flatMap f, ?_⟩
  unfold uptoI
  rw [← List.flatMap_append]
  congr 1
  rw [show List.range i = (List.range n).take i by rw [List.take_range, Nat.min_eq_left h]]
  exact (List.take_append_drop _ _).symm
theorem uptoI_succ (f : Nat → List Int) (i : Nat) : uptoI f (i + 1) = uptoI f i ++ f i := by
  unfold uptoI
  rw [List.range_succ, List.flatMap_append]
  simp
def leavesF (m : MapD) : Nat → Int → List Int
  | 0, _ => []
  | n + 1, id => if 8 ≤ id then [] else if 0 ≤ id then [id] else uptoI (fun k => leavesF m n ((bucketG m id).items.getD k 0)) (bucketG m id).items.length
theorem leaves_x {m : MapD} {vo vp vb : AV} (hok : OkM m) (hg : goodF m = true) : ∀ (n : Nat) {F : Nat → Prop} {H : AH} (id : Int), (bucketG m id).kind < (n : Int) → I64 id → MpAt F H m vo vp vb → (leavesF m n id).length ≤ 1099511627776 →
    WC Tryd.prog (tabOf Tryd.prog NT0) S0 20 [mpV m vo vp vb, .lit (.int .i64 id)] H fun v h' => Ext H.n H h' ∧ IsSl RInt (fun b => H.n ≤ b) h' v (leavesF m n id)
  | 0, F, H, id, hk, _, _, _ => by
    have : 0 ≤ (bucketG m id).kind := by
      cases hb : bucketF m id with
      | none => rw [show bucketG m id = bkt0 by unfold bucketG; rw [hb]; rfl]; decide
      | some b =>
        rw [show bucketG m id = b by unfold bucketG; rw [hb]; rfl]
        obtain ⟨u1, u2, u3, u4, u5, u6, u7, u8⟩ := good_bkt hg hb
        omega
    omega
  | n + 1, F, H, id, hk, i1, hm, hlen => by
    refine WC_fn Tryd.func20 rfl rfl ?_
    obtain ⟨hl, hbs, -⟩ := _root_.id hok
    have o1 := hm.o.one
    have o2 := hm.p.one
    have o3 := hm.b.one
    simp only [core, Nat.reduceAdd, Nat.reduceSub, Nat.reduceMul, Nat.reduceLT, Nat.reduceEqDiff, reduceCtorEq, Nat.reduceLeDiff, Int.reduceLE, Int.reduceLT, Int.reduceToNat, Tryd.ntmps20, mpV, o1, o2, o3]
    obtain ⟨h1, hh1⟩ : ∃ h1, h1 = H.push (.cells [.lit (.int .i64 m.epoch), vo, vp, vb, .lit (.int .i64 m.leaf)] 26) := ⟨_, rfl⟩
    have E1 : Ext H.n H h1 := hh1 ▸ (Ext.refl _ _).push _ (Nat.le_refl _)
    have P1 : h1.at H.n = some (.cells [.lit (.int .i64 m.epoch), vo, vp, vb, .lit (.int .i64 m.leaf)] 26) := hh1 ▸ at_push_n _ _
    rw [← hh1]
    clear hh1
    have lp1 := at_lt P1
    refine (goodC_x (hm.ext E1 (Nat.le_refl _)) hok).mono ?_
    rintro _ h2 ⟨e2, rfl⟩
    have E2 := E1.step e2
    have hn2 := E2.1
    have P2 := (e2.2 _ lp1).trans P1
    have lp2 := at_lt P2
    have LP2 := ld_at (T := tabOf Tryd.prog NT0) P2
    rw [leavesF] at hlen ⊢
    by_cases c8 : 8 ≤ id
    · simp only [core, Nat.reduceAdd, Nat.reduceSub, Nat.reduceMul, Nat.reduceLT, Nat.reduceEqDiff, reduceCtorEq, Nat.reduceLeDiff, Int.reduceLE, Int.reduceLT, Int.reduceToNat, hg, c8]
      exact ⟨E2, IsSl.nil⟩
    by_cases c0 : 0 ≤ id
    · rw [if_neg c8, if_pos c0]
      simp only [core, Nat.reduceAdd, Nat.reduceSub, Nat.reduceMul, Nat.reduceLT, Nat.reduceEqDiff, reduceCtorEq, Nat.reduceLeDiff, Int.reduceLE, Int.reduceLT, Int.reduceToNat, hg, c8, c0]
      refine ⟨E2.push _ E2.1, ?_⟩
      exact IsSl.ofAt (L := [[.lit (.int .i64 id)]]) (at_push_n _ _) (by omega) (Els.nil.snoc (RInt_is.2 ⟨rfl, i1⟩)) rfl
    rw [if_neg c8, if_neg c0] at hlen ⊢
    simp only [core, Nat.reduceAdd, Nat.reduceSub, Nat.reduceMul, Nat.reduceLT, Nat.reduceEqDiff, reduceCtorEq, Nat.reduceLeDiff, Int.reduceLE, Int.reduceLT, Int.reduceToNat, hg, c8, c0, LP2, lp2, o1, o2, o3]
    refine (bucket_x id (hm.ext E2 (Nat.le_refl _)) hl hbs).mono ?_
    rintro _ h3 ⟨e3, va, vw, rfl, b1, b2⟩
    have E3 := E2.step e3
    have q1 := b1.one
    have q2 := b2.one
    have hx : ∀ b, bucketF m id = some b → bucketG m id = b := fun b hb => by unfold bucketG; rw [hb]; rfl
    have hx0 : bucketF m id = none → bucketG m id = bkt0 := fun hb => by unfold bucketG; rw [hb]; rfl
    obtain ⟨bk, hbk⟩ : ∃ bk, bk = bucketG m id := ⟨_, rfl⟩
    rw [← hbk] at b1 b2 hk hlen hx hx0
    have hG := hbk.symm
    obtain ⟨ff, hff⟩ : ∃ ff, ff = fun k => leavesF m n (bk.items.getD k 0) := ⟨_, rfl⟩
    rw [← hff] at hlen
    have hGoal : uptoI (fun k => leavesF m n ((bucketG m id).items.getD k 0)) (bucketG m id).items.length = uptoI ff bk.items.length := by rw [hG, hff]
    rw [hGoal]
    have hil : bk.items.length ≤ 17592186044416 := by
      cases hb : bucketF m id with
      | none => rw [hx0 hb]; decide
      | some b =>
        rw [hx b hb]
        obtain ⟨u1, u2, u3, u4, u5, u6, u7, u8⟩ := good_bkt hg hb
        obtain ⟨w1, w2⟩ := hbs b u1
        unfold Sm at w1
        omega
    have d1 := b1.isSl
    have d2 := b1.lenD
    simp only [core, Nat.reduceAdd, Nat.reduceSub, Nat.reduceMul, Nat.reduceLT, Nat.reduceEqDiff, reduceCtorEq, Nat.reduceLeDiff, Int.reduceLE, Int.reduceLT, Int.reduceToNat, bktV, q1, q2, hG, d1, d2]
    obtain ⟨h4, hh4⟩ : ∃ h4, h4 = h3.push (.cells [.lit (.int .i64 bk.id), .lit (.int .i64 bk.kind), va, vw] 47) := ⟨_, rfl⟩
    have e4 : Ext h3.n h3 h4 := hh4 ▸ (Ext.refl _ _).push _ (Nat.le_refl _)
    rw [← hh4]
    clear hh4
    have E4 := E3.step e4
    have P4 := (e4.2 _ (by have := e3.1; omega)).trans ((e3.2 _ lp2).trans P2)
    have lp4 := at_lt P4
    have hva := b1.ext e4 (Nat.le_refl _)
    have hn4 := E4.1
    have hn34 := e4.1
    have hn23 := e3.1
    refine WB_for bk.items.length (fun i t h => (∃ s', OwnL RInt (fun _ => False) h4.n h s' 3 (uptoI ff i) ∧ t.get 5 = s') ∧ Ext h4.n h4 h ∧ t.n = 39 ∧ t.get 2 = .ptr H.n 0 ∧ t.get 26 = va ∧ t.get 27 = .lit (.int .i64 bk.items.length) ∧ t.get 28 = .lit (.int .i64 i)) ?_ ?_ _ _ ?_
    · rintro i t h hlt hc ⟨⟨s', ho, g5⟩, he, hn, g2, g26, g27, g28⟩ ih
      have P := (he.2 _ lp4).trans P4
      have LP := ld_at (T := tabOf Tryd.prog NT0) P
      have lp := at_lt P
      have hvh := hva.ext he (Nat.le_refl _)
      have hld := hvh.int (T := tabOf Tryd.prog NT0) (e := 3) (by kernel_rfl) (by kernel_rfl) hlt
      have hws := wrap_succ hlt (by omega)
      have hxb : bucketF m id = some bk := by
        cases hb : bucketF m id with
        | none => rw [hx0 hb] at hlt; simp [bkt0] at hlt
        | some b => rw [hx b hb]
      obtain ⟨y1, y2⟩ := item_kindF hg hxb hlt
      have hkc : (bucketG m (bk.items.getD i 0)).kind < (n : Int) := by rw [kindG hg y1]; omega
      have hpre : (uptoI ff (i + 1)).length ≤ (uptoI ff bk.items.length).length := by
        obtain ⟨r, hr⟩ := uptoI_split ff (show i + 1 ≤ bk.items.length from hlt)
        rw [hr, List.length_append]
        omega
      have hus := uptoI_succ ff i
      have hfi : ff i = leavesF m n (bk.items.getD i 0) := by rw [hff]
      rw [hus, List.length_append] at hpre
      have s1 := (ho.toSl (F := fun _ => True) (fun _ h => trivial) (fun _ _ => trivial)).isSl
      simp only [core, Nat.reduceAdd, Nat.reduceSub, Nat.reduceMul, Nat.reduceLT, Nat.reduceEqDiff, reduceCtorEq, Nat.reduceLeDiff, Int.reduceLE, Int.reduceLT, Int.reduceToNat, hn, g2, g26, g27, g28, g5, hlt, hc, hld, d1, d2, LP, lp, o1, o2, o3]
      refine (leaves_x hok hg n (bk.items.getD i 0) hkc (b1.i64 i hlt) (hm.ext (E4.step he) (Nat.le_refl _)) (by rw [← hfi]; omega)).mono ?_
      rintro v h6 ⟨e6, hv⟩
      rw [← hfi] at hv
      have ho6 := ho.ext e6 (Nat.le_refl _)
      obtain ⟨L, r1, r2, r3, r4⟩ := hv.out
      have v1 := hv.isSl
      simp only [core, Nat.reduceAdd, Nat.reduceSub, Nat.reduceMul, Nat.reduceLT, Nat.reduceEqDiff, reduceCtorEq, Nat.reduceLeDiff, Int.reduceLE, Int.reduceLT, Int.reduceToNat, hn, g2, g26, g27, g28, g5, v1, s1]
      have hn6 := e6.1
      have hnh := he.1
      refine WOp_app (ho6.append (by kernel_rfl) (by kernel_rfl) (by kernel_rfl) (zv := .lit (.int .i64 0)) (by kernel_rfl) (by' := 8) (by kernel_rfl) rfl (by decide) (by decide) (M := L) (ys := ff i) r1.src r1.len ⟨r4.1, fun j c x hc hx => r4.2 j c x hc hx⟩ (by omega) (by omega) (by omega)) ?_
      rintro s7 h7 ⟨ho7, e7, -⟩
      have s71 := (ho7.toSl (F := fun _ => True) (fun _ h => trivial) (fun _ _ => trivial)).isSl
      simp only [core, Nat.reduceAdd, Nat.reduceSub, Nat.reduceMul, Nat.reduceLT, Nat.reduceEqDiff, reduceCtorEq, Nat.reduceLeDiff, Int.reduceLE, Int.reduceLT, Int.reduceToNat, hn, g2, g26, g27, g28, g5, hws, s71]
      refine ih _ _ ⟨⟨s7, by rw [hus]; exact ho7, by simp only [core, Nat.reduceAdd, Nat.reduceSub, Nat.reduceMul, Nat.reduceLT, Nat.reduceEqDiff, reduceCtorEq, Nat.reduceLeDiff, Int.reduceLE, Int.reduceLT, Int.reduceToNat, hn, g2, g26, g27, g28]⟩, (he.step e6).trans e7, ?_⟩
      simp only [core, Nat.reduceAdd, Nat.reduceSub, Nat.reduceMul, Nat.reduceLT, Nat.reduceEqDiff, reduceCtorEq, Nat.reduceLeDiff, Int.reduceLE, Int.reduceLT, Int.reduceToNat, hn, g2, g26, g27, g28]
    · rintro t h hc ⟨⟨s', ho, g5⟩, he, hn, g2, g26, g27, g28⟩
      simp only [core, Nat.reduceAdd, Nat.reduceSub, Nat.reduceMul, Nat.reduceLT, Nat.reduceEqDiff, reduceCtorEq, Nat.reduceLeDiff, Int.reduceLE, Int.reduceLT, Int.reduceToNat, hn, g2, g26, g27, g28, g5, hc]
      exact ⟨E4.step he, ho.toSl (fun _ hf => hf.elim) (fun b hb => by omega)⟩
    · refine ⟨⟨.lit (.slice none 0 0), OwnL.nil, by simp only [core, Nat.reduceAdd, Nat.reduceSub, Nat.reduceMul, Nat.reduceLT, Nat.reduceEqDiff, reduceCtorEq, Nat.reduceLeDiff, Int.reduceLE, Int.reduceLT, Int.reduceToNat]⟩, Ext.refl _ _, ?_⟩
      simp only [core, Nat.reduceAdd, Nat.reduceSub, Nat.reduceMul, Nat.reduceLT, Nat.reduceEqDiff, reduceCtorEq, Nat.reduceLeDiff, Int.reduceLE, Int.reduceLT, Int.reduceToNat, d1, d2]
      (repeat' apply And.intro) <;> first | rfl | trivial
end Go.Proofs.YtkgbeihcepociaaDoor.Ex
end

section

set_option linter.unusedSimpArgs false
set_option linter.unusedVariables false
set_option maxRecDepth 10000
set_option maxHeartbeats 4000000
namespace Go.Proofs.YtkgbeihcepociaaDoor.Ex
open Go
end Go.Proofs.YtkgbeihcepociaaDoor.Ex
end

section

set_option linter.unusedSimpArgs false
set_option linter.unusedVariables false
set_option maxRecDepth 10000
set_option maxHeartbeats 4000000
namespace Go.Proofs.YtkgbeihcepociaaDoor.Ex
open Go
end Go.Proofs.YtkgbeihcepociaaDoor.Ex
end

section

set_option linter.unusedSimpArgs false
set_option linter.unusedVariables false
namespace Go.Proofs.YtkgbeihcepociaaDoor.Ex
open Go
/-- A row of cells. -/
def rowO (w : World) (r : Nat) : Option (List Value × TypeId) := match w.heap[r]? with
  | some (.cells cur e _) => some (cur.toList, e)
  | _ => none
theorem rowO_inv {w : World} {r : Nat} {l : List Value} {e : TypeId} (h : rowO w r = some (l, e)) : ∃ cur fz, w.heap[r]? = some (.cells cur e fz) ∧ l = cur.toList := by
  unfold rowO at h
  split at h
  · rename_i cur e' fz hh
    simp only [Option.some.injEq, Prod.mk.injEq] at h
    obtain ⟨rfl, rfl⟩ := h
    exact ⟨cur, fz, hh, rfl⟩
  · cases h
def winsAt (w : World) (r : Nat) : List (Nat × Nat) := match rowO w r with
  | some (l, _) => (List.range (l.length + 1)).map fun off => (r, off)
  | none => []
/-- All windows: a row from a place on. -/
def wins (w : World) : List (Nat × Nat) := (List.range w.heap.size).flatMap (winsAt w)
theorem mem_wins {w : World} {r off : Nat} : (r, off) ∈ wins w ↔ ∃ l e, rowO w r = some (l, e) ∧ off ≤ l.length := by
  unfold wins
  rw [List.mem_flatMap]
  constructor
  · rintro ⟨r', _, h⟩
    unfold winsAt at h
    split at h
    · rename_i l e hl
      obtain ⟨off', h1, h2⟩ := List.mem_map.1 h
      simp only [Prod.mk.injEq] at h2
      obtain ⟨rfl, rfl⟩ := h2
      rw [List.mem_range] at h1
      exact ⟨l, e, hl, by omega⟩
    · cases h
  · rintro ⟨l, e, hl, ho⟩
    refine ⟨r, ?_, ?_⟩
    · obtain ⟨cur, fz, hh, _⟩ := rowO_inv hl
      rw [List.mem_range]
      exact (Array.getElem?_eq_some_iff.1 hh).1
    · unfold winsAt
      rw [hl]
      exact List.mem_map.2 ⟨off, by rw [List.mem_range]; omega, rfl⟩
/-- A window's number. -/
def widx (w : World) (p : Nat × Nat) : Nat := (wins w).idxOf p + 1
def mu0 (w : World) : Mu := fun b => match b with
  | 0 => none
  | k + 1 => (wins w)[k]?
theorem mu0_widx {w : World} {p : Nat × Nat} (h : p ∈ wins w) : mu0 w (widx w p) = some p := by
  show (wins w)[(wins w).idxOf p]? = some p
  have hlt := List.idxOf_lt_length_of_mem h
  rw [List.getElem?_eq_getElem hlt, List.getElem_idxOf hlt]
instance (w : World) (p : Nat × Nat) : Decidable (p ∈ wins w) := inferInstance
def absV (w : World) : Value → AV
  | .pointer (some ⟨r, o, none⟩) => if (r, o) ∈ wins w then .ptr (widx w (r, o)) 0 else .any
  | .slice (some a) len cap => if len = 0 ∧ cap = 0 then .sl 0 0 0 (.kn 0) else match a with
    | ⟨r, o, none⟩ => if (r, o) ∈ wins w ∧ len ≤ cap ∧ cap ≤ maxLen then .sl (widx w (r, o)) 0 len (.kn cap) else .any
    | _ => .any
  | v => bif scal v then .lit v else .any
theorem absV_rel {ρ : Nat → Value} {w : World} {v : Value} (hv : v.oneCell' = true) : rel ρ (mu0 w) w (absV w v) v := by
  unfold absV
  split
  · rename_i r o
    split
    · rename_i hm
      unfold rel
      exact ⟨r, o, mu0_widx hm, rfl⟩
    · unfold rel; exact hv
  · rename_i a len cap
    split
    · rename_i h0
      obtain ⟨rfl, rfl⟩ := h0
      unfold rel
      exact .inr ⟨rfl, rfl, a, rfl⟩
    · split
      · rename_i r o
        split
        · rename_i hm
          unfold rel
          exact .inl ⟨r, o, o, cap, mu0_widx hm.1, rfl, .inr rfl, rfl, hm.2.1, hm.2.2⟩
        · unfold rel; exact hv
      · unfold rel; exact hv
  · cases hs : scal v with
    | false => simp only [cond_false]; unfold rel; exact hv
    | true => simp only [cond_true]; exact rel_lit hs
/-- A window's cells, as far as they are cells. -/
def absB (w : World) (p : Nat × Nat) : AB := match rowO w p.1 with
  | some (l, e) => .frz (((l.drop p.2).takeWhile (·.oneCell')).map (absV w)) e
  | none => .gone
def AH.ofList (l : List AB) : AH := l.foldl AH.push .nil
theorem L_foldl : ∀ (l : List AB) (h : AH), (l.foldl AH.push h).L = h.L ++ l
  | [], h => by simp
  | x :: r, h => by rw [List.foldl_cons, L_foldl r, L_push, List.append_assoc]; rfl
theorem L_ofList (l : List AB) : (AH.ofList l).L = l := by
  unfold AH.ofList
  rw [L_foldl]
  rfl
/-- The abstract heap of a world; block 0 is an empty row. -/
def absH (w : World) : AH := AH.ofList (.frz [] 0 :: (wins w).map (absB w))
theorem absH_L (w : World) : (absH w).L = .frz [] 0 :: (wins w).map (absB w) := L_ofList _
theorem absH_0 (w : World) : (absH w).at 0 = some (.frz [] 0) := by rw [← L_at, absH_L]; rfl
theorem absH_at {w : World} {p : Nat × Nat} (h : p ∈ wins w) : (absH w).at (widx w p) = some (absB w p) := by
  rw [← L_at, absH_L]
  have : (wins w)[(wins w).idxOf p]? = some p := mu0_widx h
  show ((wins w).map (absB w))[(wins w).idxOf p]? = _
  rw [List.getElem?_map, this]
  rfl
theorem absH_wr {w : World} {b : Nat} {ab : AB} (h : (absH w).L[b]? = some ab) : wr ab = false := by
  rw [absH_L] at h
  cases b with
  | zero => simp at h; subst h; rfl
  | succ k =>
    rw [List.getElem?_cons_succ, List.getElem?_map] at h
    obtain ⟨p, _, rfl⟩ := Option.map_eq_some_iff.1 h
    unfold absB
    split <;> rfl
theorem absH_nw (w : World) (b : Nat) (ab : AB) (h : (absH w).at b = some ab) : wr ab = false := absH_wr (by rw [L_at]; exact h)
theorem takeWhile_get {α : Type} {p : α → Bool} : ∀ {l : List α} {i : Nat} {x : α}, (l.takeWhile p)[i]? = some x → l[i]? = some x ∧ p x = true
  | [], i, x, h => by simp at h
  | a :: r, i, x, h => by
    rw [List.takeWhile_cons] at h
    cases ha : p a with
    | false => rw [ha] at h; simp at h
    | true =>
      rw [ha] at h
      cases i with
      | zero => simp at h; subst h; exact ⟨rfl, ha⟩
      | succ i => simp only [if_true, List.getElem?_cons_succ] at h ⊢; exact takeWhile_get h
theorem takeWhile_take {α : Type} {p : α → Bool} : ∀ {l : List α} {n : Nat}, (∀ x ∈ l.take n, p x = true) → (l.takeWhile p).take n = l.take n
  | [], n, _ => by simp
  | a :: r, 0, _ => by simp
  | a :: r, n + 1, h => by
    rw [List.takeWhile_cons, if_pos (h a (by simp)), List.take_succ_cons, List.take_succ_cons, takeWhile_take fun x hx => h x (by simp [hx])]
theorem absH_hr {P : Program} {ρ : Nat → Value} (w : World) (hpin : PinOf ρ (mu0 w) w := by intro r h; cases h) : HR P ρ w.heap.size (mu0 w) (absH w) w := by
  refine ⟨Nat.le_refl _, fun b x hb => ?_, fun b r base ab hb hx => ?_, fun b b' r base base' ab ab' h1 h2 h3 h4 h5 h6 => ?_, hpin⟩
  · rw [absH_L]
    cases b with
    | zero => cases hb
    | succ k =>
      have : k < (wins w).length := (List.getElem?_eq_some_iff.1 (show (wins w)[k]? = some x from hb)).1
      simp only [List.length_cons, List.length_map]
      omega
  · cases b with
    | zero => cases hb
    | succ k =>
      have hk : (wins w)[k]? = some (r, base) := hb
      rw [absH_L, List.getElem?_cons_succ, List.getElem?_map, hk] at hx
      simp only [Option.map_some, Option.some.injEq] at hx
      obtain ⟨l, e, hl, ho⟩ := mem_wins.1 (List.mem_of_getElem? hk)
      obtain ⟨cur, fz, hh, rfl⟩ := rowO_inv hl
      unfold absB at hx
      rw [hl] at hx
      simp only at hx
      subst hx
      refine ⟨fun hw => (by cases hw), (Array.getElem?_eq_some_iff.1 hh).1, _, hh, cur, fz, rfl, ?_, fun i x hi => ?_⟩
      · have h1 := (List.takeWhile_prefix (l := cur.toList.drop base) (·.oneCell')).length_le
        rw [List.length_drop] at h1
        have e0 : cur.toList.length = cur.size := Array.length_toList
        rw [e0] at h1 ho
        rw [List.length_map]
        exact Nat.le_trans (Nat.add_le_add_left h1 base) (by omega)
      · rw [List.getElem?_map] at hi
        obtain ⟨v, hv, rfl⟩ := Option.map_eq_some_iff.1 hi
        obtain ⟨h1, h2⟩ := takeWhile_get hv
        rw [List.getElem?_drop, Array.getElem?_toList] at h1
        exact ⟨v, h1, absV_rel h2⟩
  · have := absH_wr h3
    rw [this] at h5
    cases h5
end Go.Proofs.YtkgbeihcepociaaDoor.Ex
end

section

set_option linter.unusedSimpArgs false
set_option linter.unusedVariables false
namespace Go.Proofs.YtkgbeihcepociaaDoor
open Go.RowKit Go.ChangeShapes Go.WideShapes Go.ChangeAt
open Go.ChangeMaps (open_string shut_string)
theorem own : ownKnob Tryd.prog.godebug = none := by kernel_rfl
theorem laidOut : laidOutB Tryd.prog = true := by kernel_rfl
section
variable {H : Type} {enc : TypeId × Value → H} {P : Program} {W W' : World}
theorem below_trodAll (hl : laidOutB P = true) (hb : Below W.heap.size W W') : ∀ {ts : List TypeId} {vs : List Value} {ds : List (DataW H)} {ps : List MemPlace},
    ts.all (fun t => P.readableRec t && decide (t < P.types.size)) = true → DataW.TrodAll enc P W 0 (fun _ => true) true ts vs ds ps → DataW.TrodAll enc P W' 0 (fun b => decide (b < W.heap.size)) true ts vs ds ps
  | [], _, _, _, _, h => by obtain ⟨rfl, rfl, rfl⟩ := trodAll_nil h; exact trodAll_mk0
  | t :: ts, vs, ds, ps, hr, h => by
    obtain ⟨v, vs', d, ds', p, q, rfl, rfl, rfl, h1, h2⟩ := trodAll_cons h
    simp only [List.all_cons, Bool.and_eq_true, decide_eq_true_eq] at hr
    refine trodAll_cons_mk (Below.trod hl hr.1.1 hr.1.2 h1 hb ?_) (below_trodAll hl hb (by simpa using hr.2) h2)
    obtain ⟨m, hm⟩ := h1
    exact DataW.trod_lt m _ _ _ hm
theorem weights_le {ts : List TypeId} {ds : List (DataW H)} (hsz : (DataW.weightsEach P ts ds).all (· ≤ reachBytes) = true) {j : Nat} {t : TypeId} {d : DataW H} (hj : ts[j]? = some t) (hd : ds[j]? = some d) : ∀ n ∈ d.weights P t, n ≤ reachBytes := fun n hn => by
  have := List.all_eq_true.1 hsz n (DataW.weights_mem_each hj hd n hn)
  simpa using this
theorem weightsAll_mem {e : TypeId} : ∀ {l : List (DataW H)} {i : Nat} {d : DataW H}, l[i]? = some d → ∀ n ∈ d.weights P e, n ∈ DataW.weightsAll P e l
  | d0 :: l, 0, d, h, n, hn => by simp at h; subst h; simp [DataW.weightsAll, hn]
  | d0 :: l, i + 1, d, h, n, hn => by
    simp only [List.getElem?_cons_succ] at h
    simp only [DataW.weightsAll, List.mem_append]
    exact .inr (weightsAll_mem h n hn)
end
end Go.Proofs.YtkgbeihcepociaaDoor
end

section

set_option linter.unusedSimpArgs false
set_option linter.unusedVariables false
namespace Go.Proofs.YtkgbeihcepociaaDoor.Ex
open Go Go.RowKit Go.ChangeShapes Go.WideShapes Go.ChangeAt
section
variable {H : Type} (enc : TypeId × Value → H)
/-- The blocks of the abstract heap. -/
def InH (W : World) : Nat → Prop := fun b => b < (absH W).n
/-- A value of type t that is read is plain data; of what is not too great, B holds. -/
def OpensA (P : Program) (W : World) (t : TypeId) {α : Type} (R : Rep α) (B : α → Prop) : Prop :=
  P.cellsOf t = R.z ∧ ∀ (fuel : Nat) (cs : List Value) (x : DataW H × List MemPlace), DataW.trod enc P W 0 (fun _ => true) true fuel t cs = some x → (x.1.weights P t).all (· ≤ reachBytes) = true →
    cs.length = R.z ∧ (∀ c ∈ cs, c.oneCell' = true) ∧ ∃ y, R.is (InH W) (absH W) (cs.map (absV W)) y ∧ B y
variable {enc} {P : Program} {W : World}
theorem opensA_int {t : TypeId} (ht : P.underlying t = some (.int .i64)) (hc : P.cellsOf t = 1) : OpensA enc P W t RInt (fun _ => True) := by
  refine ⟨hc, fun fuel cs x h _ => ?_⟩
  obtain ⟨n, rfl, rfl, hw⟩ := DataW.trod_int ht h
  refine ⟨rfl, by simp; rfl, n, ⟨rfl, ?_⟩, trivial⟩
  simp only [Lit.wf, IntKind.min, IntKind.max, IntKind.signed, IntKind.bits] at hw
  simp at hw
  exact ⟨hw.1, by omega⟩
theorem opensA_bool {t : TypeId} (ht : P.underlying t = some .bool) (hc : P.cellsOf t = 1) : OpensA enc P W t RBool (fun _ => True) := by
  refine ⟨hc, fun fuel cs x h _ => ?_⟩
  obtain ⟨b, rfl, rfl⟩ := DataW.trod_bool ht h
  exact ⟨rfl, by simp; rfl, b, rfl, trivial⟩
theorem flat_getV {α : Type} {z : Nat} : ∀ {L : List (List α)}, (∀ x ∈ L, x.length = z) → ∀ (i : Nat) {c : List α}, L[i]? = some c → (L.flatten.drop (i * z)).take z = c
  | [], _, i, c, hc => by simp at hc
  | a :: r, h, i, c, hc => by
    have ha := h a (by simp)
    cases i with
    | zero =>
      obtain rfl : a = c := by simpa using hc
      rw [Nat.zero_mul, List.drop_zero, List.flatten_cons, ← ha, List.take_left']
      rfl
    | succ i =>
      rw [List.flatten_cons, Nat.succ_mul, Nat.add_comm, List.drop_append, List.drop_of_length_le (by omega), List.nil_append, ha, Nat.add_sub_cancel_left]
      exact flat_getV (fun x hx => h x (by simp [hx])) i (by simpa using hc)
theorem flat_lenV {α : Type} {z : Nat} {L : List (List α)} (h : ∀ x ∈ L, x.length = z) : L.flatten.length = L.length * z := by
  induction L with
  | nil => simp
  | cons a r ih =>
    rw [List.flatten_cons, List.length_append, ih (fun x hx => h x (by simp [hx])), h a (by simp), List.length_cons, Nat.succ_mul]
    omega
theorem weightsAll_mem {e : TypeId} : ∀ {l : List (DataW H)} {d : DataW H}, d ∈ l → ∀ n ∈ d.weights P e, n ∈ DataW.weightsAll P e l
  | a :: r, d, hd, n, hn => by
    simp only [DataW.weightsAll, List.mem_append]
    rcases List.mem_cons.1 hd with rfl | h
    · exact .inl hn
    · exact .inr (weightsAll_mem h n hn)
theorem opensA_list {t e : TypeId} {α : Type} {R : Rep α} {B : α → Prop} {by' : Nat} (ht : P.underlying t = some (.slice e)) (hc : P.cellsOf t = 1) (hb : P.bytesOf e = by') (h0 : 0 < R.z) (ho : OpensA enc P W e R B) :
    OpensA enc P W t (RSl R) (fun ys => ys.length * by' ≤ 140737488351232 ∧ ∀ y ∈ ys, B y) := by
  refine ⟨hc, fun fuel cs x hf hw => ?_⟩
  rcases DataW.trod_slice ht hf with ⟨rfl, rfl⟩ | ⟨a, len, cap, elems, rest, m, rfl, rfl, rfl, hba, hl, hm, hlen, hel, hsp, hns⟩
  · exact ⟨rfl, by simp; rfl, [], RSl_is.2 ⟨_, rfl, IsSl.nil⟩, by simp, by simp⟩
  · rw [ho.1] at hel hsp
    simp only [DataW.weights, ht, List.all_cons, List.all_append, Bool.and_eq_true, decide_eq_true_eq, hb] at hw
    obtain ⟨hw1, hw2, hw3⟩ := hw
    have hrl := (hsp rfl).1
    have hbig : len * by' ≤ 140737488351232 := by
      have h1 : len * by' ≤ (elems.map (·.1)).length * by' + (rest.map (·.1)).length * by' := by rw [List.length_map, hlen]; omega
      rw [← Nat.add_mul] at h1
      exact Nat.le_trans h1 hw1
    have hone : ∀ c ∈ [Value.slice (some a) len cap], c.oneCell' = true := by simp; rfl
    refine ⟨rfl, hone, ?_⟩
    by_cases hz : len = 0 ∧ cap = 0
    · obtain ⟨rfl, rfl⟩ := hz
      refine ⟨[], RSl_is.2 ⟨.sl 0 0 0 (.kn 0), by simp [absV], .mk (L := []) ⟨by simp, .inr ⟨0, 0, _, [], rfl, by unfold getR; rw [absH_0], by simp [cut]⟩⟩ (fun b off n cap e => ?_) (fun b off n cap e => by cases e; exact Nat.le_refl 0) .nil⟩, by simp, by simp⟩
      cases e
      exact at_lt (absH_0 W)
    · have hcap : 0 < cap := by omega
      have hsz0 : elems.length + rest.length = cap := by omega
      -- what is read
      have hrd : ∀ i, i < cap → ∃ l x, W.cells? 0 (a.add (i * R.z)) R.z = some l ∧ DataW.trod enc P W 0 (fun _ => true) true m e l = some x ∧ (i < len → elems[i]? = some x) := fun i hi => by
        by_cases hil : i < len
        · have h2 := hel i hil
          rw [List.getElem?_eq_getElem (by omega)] at h2
          obtain ⟨l, hl1, hl2⟩ := Option.bind_eq_some_iff.1 h2
          exact ⟨l, _, hl1, hl2, fun _ => List.getElem?_eq_getElem (by omega)⟩
        · have h2 := (hsp rfl).2 (i - len) (by omega)
          rw [List.getElem?_eq_getElem (by omega), show len + (i - len) = i by omega] at h2
          obtain ⟨l, hl1, hl2⟩ := Option.bind_eq_some_iff.1 h2
          exact ⟨l, _, hl1, hl2, fun h => absurd h hil⟩
      obtain ⟨r, o, spot⟩ := a
      obtain ⟨l0, x0, q1, q2, -⟩ := hrd 0 hcap
      have hspot : spot = none := by
        have h3 := World.cells?_some q1
        have h4 := h3.2.2 0 h0
        rw [List.getElem?_eq_getElem (by have := h3.2.1; omega)] at h4
        simpa [Addr.add] using World.cell?_spot h4
      subst hspot
      have hcell : ∀ (k : Nat) (v : Value), W.cell? (⟨r, o + k, none⟩ : Addr) = some v → ∃ cur e fz, W.heap[r]? = some (.cells cur e fz) ∧ cur[o + k]? = some v := fun k v hk => by
        unfold World.cell? at hk
        cases hh : W.heap[r]? with
        | none => simp [hh] at hk
        | some ob => cases ob <;> simp [hh] at hk <;> exact ⟨_, _, _, rfl, hk⟩
      -- the row
      obtain ⟨cur, te, fz, hrow⟩ : ∃ cur te fz, W.heap[r]? = some (.cells cur te fz) := by
        have h3 := World.cells?_some q1
        have h4 := h3.2.2 0 h0
        rw [List.getElem?_eq_getElem (by have := h3.2.1; omega)] at h4
        obtain ⟨cur, te, fz, h5, _⟩ := hcell 0 _ (by simpa [Addr.add] using h4)
        exact ⟨cur, te, fz, h5⟩
      have hcur : ∀ i l, W.cells? 0 ((⟨r, o, none⟩ : Addr).add (i * R.z)) R.z = some l → l.length = R.z ∧ ∀ f, f < R.z → cur[o + i * R.z + f]? = l[f]? := fun i l hil => by
        have h3 := World.cells?_some hil
        refine ⟨h3.2.1, fun f hf => ?_⟩
        have h4 := h3.2.2 f hf
        obtain ⟨u, hu⟩ : ∃ u, l[f]? = some u := ⟨_, List.getElem?_eq_getElem (by have := h3.2.1; omega)⟩
        rw [hu] at h4 ⊢
        rw [addr_add, addr_add] at h4
        obtain ⟨cur', te', fz', h5, h6⟩ := hcell (i * R.z + f) _ (by rw [← Nat.add_assoc]; exact h4)
        rw [hrow] at h5
        obtain ⟨rfl, _, _⟩ := Obj.cells.inj (Option.some.inj h5)
        rw [← h6, Nat.add_assoc]
      -- the elements, and the data
      have key : ∀ n, n ≤ len → ∃ (L : List (List Value)) (ys : List α), L.length = n ∧ ys.length = n ∧ (∀ c ∈ L, c.length = R.z ∧ ∀ u ∈ c, u.oneCell' = true) ∧ (∀ (i : Nat) c y, L[i]? = some c → ys[i]? = some y → R.is (InH W) (absH W) (c.map (absV W)) y) ∧ (∀ (i : Nat) c, L[i]? = some c → ∀ f, f < R.z → cur[o + i * R.z + f]? = c[f]?) ∧ ∀ y ∈ ys, B y := by
        intro n
        induction n with
        | zero => exact fun _ => ⟨[], [], rfl, rfl, by simp, by simp, by simp, by simp⟩
        | succ n ih =>
          intro hn
          obtain ⟨L, ys, h1, h2, h3, h4, h5, h6⟩ := ih (by omega)
          obtain ⟨l, x, e1, e2, e3⟩ := hrd n (by omega)
          have e3 := e3 (by omega)
          have hwx : (x.1.weights P e).all (· ≤ reachBytes) = true := by
            rw [List.all_eq_true] at hw2 ⊢
            intro k hk
            exact hw2 k (weightsAll_mem (List.mem_map.2 ⟨x, List.mem_of_getElem? e3, rfl⟩) k hk)
          obtain ⟨g1, g2, y, g3, g4⟩ := ho.2 _ _ _ e2 hwx
          obtain ⟨g5, g6⟩ := hcur n l e1
          refine ⟨L ++ [l], ys ++ [y], by simp [h1], by simp [h2], fun c hc => ?_, fun i c z hc hz => ?_, fun i c hc => ?_, fun z hz => ?_⟩
          · rcases List.mem_append.1 hc with hc | hc
            · exact h3 c hc
            · simp at hc; subst hc; exact ⟨g1, g2⟩
          · by_cases hi : i < n
            · rw [List.getElem?_append_left (by omega)] at hc hz
              exact h4 i c z hc hz
            · have := (List.getElem?_eq_some_iff.1 hc).1
              simp only [List.length_append, List.length_singleton] at this
              obtain rfl : i = n := by omega
              rw [List.getElem?_append_right (by omega), h1, Nat.sub_self] at hc
              rw [List.getElem?_append_right (by omega), h2, Nat.sub_self] at hz
              simp at hc hz
              subst hc hz
              exact g3
          · by_cases hi : i < n
            · rw [List.getElem?_append_left (by omega)] at hc
              exact h5 i c hc
            · have := (List.getElem?_eq_some_iff.1 hc).1
              simp only [List.length_append, List.length_singleton] at this
              obtain rfl : i = n := by omega
              rw [List.getElem?_append_right (by omega), h1, Nat.sub_self] at hc
              simp at hc
              subst hc
              exact g6
          · rcases List.mem_append.1 hz with hz | hz
            · exact h6 z hz
            · simp at hz; subst hz; exact g4
      obtain ⟨L, ys, k1, k2, k3, k4, k5, k6⟩ := key len (Nat.le_refl _)
      have hfl : L.flatten.length = len * R.z := by rw [flat_lenV (fun c hc => (k3 c hc).1), k1]
      have hpre : (cur.toList.drop o).take (len * R.z) = L.flatten := by
        apply List.ext_getElem?
        intro j
        by_cases hj : j < len * R.z
        · rw [List.getElem?_take, if_pos hj, List.getElem?_drop, Array.getElem?_toList]
          have hd : j / R.z < len := Nat.div_lt_of_lt_mul (by rw [Nat.mul_comm]; exact hj)
          have hm2 := Nat.mod_lt j h0
          have hdm := Nat.div_add_mod j R.z
          rw [Nat.mul_comm] at hdm
          have hLd : L[j / R.z]? = some L[j / R.z] := List.getElem?_eq_getElem (by omega)
          have h7 := k5 (j / R.z) _ hLd (j % R.z) hm2
          rw [Nat.add_assoc, hdm] at h7
          rw [h7]
          have h8 := flat_getV (fun c hc => (k3 c hc).1) (j / R.z) hLd
          rw [← h8, List.getElem?_take, if_pos hm2, List.getElem?_drop, hdm]
        · rw [List.getElem?_eq_none (by rw [List.length_take]; omega), List.getElem?_eq_none (by omega)]
      have hto : o ≤ cur.size := by
        obtain ⟨hll, hff⟩ := hcur 0 l0 q1
        have := hff 0 h0
        rw [List.getElem?_eq_getElem (by omega)] at this
        have := (Array.getElem?_eq_some_iff.1 this).1
        omega
      have hro : rowO W r = some (cur.toList, te) := by unfold rowO; rw [hrow]
      have hwin : (r, o) ∈ wins W := mem_wins.2 ⟨_, _, hro, by rw [Array.length_toList]; exact hto⟩
      refine ⟨ys, RSl_is.2 ⟨.sl (widx W (r, o)) 0 len (.kn cap), ?_, .mk (L := L.map (·.map (absV W))) ⟨?_, .inr ⟨widx W (r, o), 0, .kn cap, ((cur.toList.drop o).takeWhile (·.oneCell')).map (absV W), by rw [List.length_map, k1], ?_, ?_⟩⟩ (fun b off n cap e => ?_) (fun b off n cap e => ?_) ⟨by rw [List.length_map, k1, k2], fun i c y hc hy => ?_⟩⟩, by rw [k2]; exact hbig, k6⟩
      · show [absV W (.slice (some ⟨r, o, none⟩) len cap)] = _
        simp only [absV, if_neg hz, if_pos (show (r, o) ∈ wins W ∧ len ≤ cap ∧ cap ≤ maxLen from ⟨hwin, hl, hm⟩)]
      · intro c hc
        obtain ⟨d, hd, rfl⟩ := List.mem_map.1 hc
        rw [List.length_map]
        exact (k3 d hd).1
      · unfold getR
        rw [absH_at hwin]
        simp only [absB, hro]
      · have htw : ((cur.toList.drop o).takeWhile (·.oneCell')).take (len * R.z) = L.flatten := by
          rw [takeWhile_take, hpre]
          intro u hu
          rw [hpre] at hu
          obtain ⟨c, hc, hu⟩ := List.mem_flatten.1 hu
          exact (k3 c hc).2 u hu
        have hlen2 : len * R.z ≤ ((cur.toList.drop o).takeWhile (·.oneCell')).length := by
          have := congrArg List.length htw
          rw [List.length_take, hfl] at this
          omega
        rw [List.length_map, k1]
        unfold cut
        rw [if_pos (by rw [List.length_map]; omega), List.drop_zero, ← List.map_take, htw, List.map_flatten]
      · cases e
        exact at_lt (absH_at hwin)
      · cases e
        exact hl
      · rw [List.getElem?_map] at hc
        obtain ⟨d, hd, rfl⟩ := Option.map_eq_some_iff.1 hc
        exact k4 i d y hd hy
/-! Structs. -/
/-- Values of several types, one behind another. -/
def OpensL (enc : TypeId × Value → H) (P : Program) (W : World) (ts : List TypeId) {α : Type} (R : Rep α) (B : α → Prop) : Prop :=
  (ts.map P.cellsOf).sum = R.z ∧ ∀ (fuel : Nat) (cs : List Value) (xs : List (DataW H × List MemPlace)), cs.length = R.z → xs.length = ts.length →
    (∀ (i : Nat) t, ts[i]? = some t → DataW.trod enc P W 0 (fun _ => true) true fuel t ((cs.drop ((ts.take i).map P.cellsOf).sum).take (P.cellsOf t)) = xs[i]?) →
    (DataW.weightsEach P ts (xs.map (·.1))).all (· ≤ reachBytes) = true →
    (∀ c ∈ cs, c.oneCell' = true) ∧ ∃ y, R.is (InH W) (absH W) (cs.map (absV W)) y ∧ B y
theorem opensL_one {t : TypeId} {α : Type} {R : Rep α} {B : α → Prop} (h : OpensA enc P W t R B) : OpensL enc P W [t] R B := by
  refine ⟨by simp [h.1], fun fuel cs xs hc hx hh hw => ?_⟩
  match xs, hx with
  | [x], _ =>
    have h1 := hh 0 t rfl
    simp only [List.take_zero, List.map_nil, List.sum_nil, List.drop_zero, List.getElem?_cons_zero] at h1
    rw [h.1, ← hc, List.take_length] at h1
    simp only [List.map_cons, List.map_nil, DataW.weightsEach, List.append_nil] at hw
    exact (h.2 _ _ _ h1 hw).2
theorem opensL_cons {t : TypeId} {ts : List TypeId} {α β : Type} {R : Rep α} {S : Rep β} {B : α → Prop} {C : β → Prop} (h : OpensA enc P W t R B) (k : OpensL enc P W ts S C) : OpensL enc P W (t :: ts) (RPair R S) (fun x => B x.1 ∧ C x.2) := by
  refine ⟨by simp [h.1, k.1, RPair], fun fuel cs xs hc hx hh hw => ?_⟩
  match xs, hx with
  | x :: xs, hx =>
    have hcz : cs.length = R.z + S.z := hc
    have h1 := hh 0 t rfl
    simp only [List.take_zero, List.map_nil, List.sum_nil, List.drop_zero, List.getElem?_cons_zero, h.1] at h1
    simp only [List.map_cons, DataW.weightsEach, List.all_append, Bool.and_eq_true] at hw
    obtain ⟨g1, g2, y, g3, g4⟩ := h.2 _ _ _ h1 hw.1
    obtain ⟨q1, z, q2, q3⟩ := k.2 fuel (cs.drop R.z) xs (by rw [List.length_drop]; omega) (by simpa using hx) (fun i t' ht' => by
      have h2 := hh (i + 1) t' (by simpa using ht')
      rw [List.take_succ_cons, List.map_cons, List.sum_cons, h.1, ← List.drop_drop, List.getElem?_cons_succ] at h2
      exact h2) hw.2
    refine ⟨fun c hc => ?_, (y, z), ⟨(cs.take R.z).map (absV W), (cs.drop R.z).map (absV W), ?_, g3, q2⟩, g4, q3⟩
    · rw [← List.take_append_drop R.z cs] at hc
      exact (List.mem_append.1 hc).elim (g2 c) (q1 c)
    · rw [← List.map_append, List.take_append_drop]
/-- Do the fields follow one another? -/
def fieldsOk (P : Program) : List Field → Nat → Bool
  | [], _ => true
  | f :: r, k => Nat.beq f.offset k && fieldsOk P r (k + P.cellsOf f.type)
theorem fieldsOk_at : ∀ {fs : List Field} {k : Nat}, fieldsOk P fs k = true → ∀ (i : Nat) f, fs[i]? = some f → f.offset = k + (((fs.map (·.type)).take i).map P.cellsOf).sum
  | [], k, _, i, f, hf => by simp at hf
  | g :: r, k, h, i, f, hf => by
    simp only [fieldsOk, Bool.and_eq_true] at h
    cases i with
    | zero => simp at hf; subst hf; simpa using Nat.eq_of_beq_eq_true h.1
    | succ i =>
      have := fieldsOk_at h.2 i f (by simpa using hf)
      rw [this]
      simp only [List.map_cons, List.take_succ_cons, List.sum_cons]
      omega
theorem opensA_struct {t : TypeId} {fs : Array Field} {ts : List TypeId} {α β : Type} {R : Rep α} {B : α → Prop} {C : β → Prop} (f : β → α) (g : α → β) (hfg : ∀ y, f (g y) = y) (ht : P.underlying t = some (.struct fs)) (hts : fs.toList.map (·.type) = ts) (hok : fieldsOk P fs.toList 0 = true) (hc : P.cellsOf t = R.z)
    (h : OpensL enc P W ts R B) (hBC : ∀ y, B y → C (g y)) : OpensA enc P W t (RMap f R) C := by
  subst hts
  refine ⟨hc, fun fuel cs x hf hw => ?_⟩
  obtain ⟨xs, n, rfl, rfl, hcs, hxs, hel⟩ := DataW.trod_struct ht hf
  simp only [DataW.weights, ht] at hw
  rw [hc] at hcs
  obtain ⟨q1, y, q2, q3⟩ := h.2 n cs xs hcs (by simpa using hxs) (fun i t' ht' => by
    rw [List.getElem?_map] at ht'
    obtain ⟨fd, hfd, rfl⟩ := Option.map_eq_some_iff.1 ht'
    have := hel i fd (by simpa using hfd)
    rw [fieldsOk_at hok i fd hfd, Nat.zero_add] at this
    exact this) hw
  exact ⟨hcs, q1, g y, by show R.is _ _ _ (f (g y)); rw [hfg]; exact q2, hBC y q3⟩
end
section
variable {H : Type} {enc : TypeId × Value → H} {W : World}
theorem opensA_ints : OpensA enc Tryd.prog W 31 (RSl RInt) (fun ys => ys.length * 8 ≤ 140737488351232 ∧ ∀ y ∈ ys, True) :=
  opensA_list (R := RInt) (B := fun _ => True) Tryd.underlying31 (by kernel_rfl) (by kernel_rfl) (by decide) (opensA_int Tryd.underlying3 (by kernel_rfl))
end
end Go.Proofs.YtkgbeihcepociaaDoor.Ex
end

section

set_option linter.unusedSimpArgs false
set_option linter.unusedVariables false
namespace Go.Proofs.YtkgbeihcepociaaDoor.Ex
open Go Go.RowKit Go.ChangeShapes Go.WideShapes Go.ChangeAt
def OkOsd (x : OsdD) : Prop := True
def OkPool (x : PoolD) : Prop := True
def OkBkt (x : BktD) : Prop := Sm 8 x.items ∧ Sm 8 x.weights
def OkMp (x : MapD) : Prop := (Sm 40 x.osds ∧ ∀ y ∈ x.osds, OkOsd y) ∧ (Sm 32 x.pools ∧ ∀ y ∈ x.pools, OkPool y) ∧ (Sm 64 x.buckets ∧ ∀ y ∈ x.buckets, OkBkt y)
section
variable {H : Type} {enc : TypeId × Value → H} {W : World}
theorem opensA_Osd : OpensA enc Tryd.prog W 42 ROsd OkOsd :=
  opensA_struct (ts := [4, 4, 3, 3, 3, 3]) (fun x : OsdD => (x.ex, x.up, x.weight, x.boot, x.upFrom, x.upThru)) (fun y => ⟨y.1, y.2.1, y.2.2.1, y.2.2.2.1, y.2.2.2.2.1, y.2.2.2.2.2⟩) (fun y => rfl) Tryd.underlying42 (by rfl) (by kernel_rfl) (by kernel_rfl) (opensL_cons (opensA_bool Tryd.underlying4 (by kernel_rfl)) (opensL_cons (opensA_bool Tryd.underlying4 (by kernel_rfl)) (opensL_cons (opensA_int Tryd.underlying3 (by kernel_rfl)) (opensL_cons (opensA_int Tryd.underlying3 (by kernel_rfl)) (opensL_cons (opensA_int Tryd.underlying3 (by kernel_rfl)) (opensL_one (opensA_int Tryd.underlying3 (by kernel_rfl)))))))) (fun y ⟨_, _, _, _, _, _⟩ => trivial)
theorem opensA_Osds : OpensA enc Tryd.prog W 22 (RSl ROsd) (fun ys => Sm 40 ys ∧ ∀ y ∈ ys, OkOsd y) :=
  opensA_list Tryd.underlying22 (by kernel_rfl) (by kernel_rfl) (by decide) opensA_Osd
theorem opensA_Pool : OpensA enc Tryd.prog W 162 RPool OkPool :=
  opensA_struct (ts := [3, 3, 3, 3]) (fun x : PoolD => (x.id, x.size, x.min, x.pgs)) (fun y => ⟨y.1, y.2.1, y.2.2.1, y.2.2.2⟩) (fun y => rfl) Tryd.underlying162 (by rfl) (by kernel_rfl) (by kernel_rfl) (opensL_cons (opensA_int Tryd.underlying3 (by kernel_rfl)) (opensL_cons (opensA_int Tryd.underlying3 (by kernel_rfl)) (opensL_cons (opensA_int Tryd.underlying3 (by kernel_rfl)) (opensL_one (opensA_int Tryd.underlying3 (by kernel_rfl)))))) (fun y ⟨_, _, _, _⟩ => trivial)
theorem opensA_Pools : OpensA enc Tryd.prog W 23 (RSl RPool) (fun ys => Sm 32 ys ∧ ∀ y ∈ ys, OkPool y) :=
  opensA_list Tryd.underlying23 (by kernel_rfl) (by kernel_rfl) (by decide) opensA_Pool
theorem opensA_Bkt : OpensA enc Tryd.prog W 47 RBkt OkBkt :=
  opensA_struct (ts := [3, 3, 31, 31]) (fun x : BktD => (x.id, x.kind, x.items, x.weights)) (fun y => ⟨y.1, y.2.1, y.2.2.1, y.2.2.2⟩) (fun y => rfl) Tryd.underlying47 (by rfl) (by kernel_rfl) (by kernel_rfl) (opensL_cons (opensA_int Tryd.underlying3 (by kernel_rfl)) (opensL_cons (opensA_int Tryd.underlying3 (by kernel_rfl)) (opensL_cons opensA_ints (opensL_one opensA_ints)))) (fun y ⟨_, _, ⟨h2, _⟩, ⟨h3, _⟩⟩ => ⟨h2, h3⟩)
theorem opensA_Bkts : OpensA enc Tryd.prog W 24 (RSl RBkt) (fun ys => Sm 64 ys ∧ ∀ y ∈ ys, OkBkt y) :=
  opensA_list Tryd.underlying24 (by kernel_rfl) (by kernel_rfl) (by decide) opensA_Bkt
theorem opensA_Mp : OpensA enc Tryd.prog W 26 RMp OkMp :=
  opensA_struct (ts := [3, 22, 23, 24, 3]) (fun x : MapD => (x.epoch, x.osds, x.pools, x.buckets, x.leaf)) (fun y => ⟨y.1, y.2.1, y.2.2.1, y.2.2.2.1, y.2.2.2.2⟩) (fun y => rfl) Tryd.underlying26 (by rfl) (by kernel_rfl) (by kernel_rfl) (opensL_cons (opensA_int Tryd.underlying3 (by kernel_rfl)) (opensL_cons opensA_Osds (opensL_cons opensA_Pools (opensL_cons opensA_Bkts (opensL_one (opensA_int Tryd.underlying3 (by kernel_rfl))))))) (fun y ⟨_, h1, h2, h3, _⟩ => ⟨h1, h2, h3⟩)
end
end Go.Proofs.YtkgbeihcepociaaDoor.Ex
end

section

set_option linter.unusedSimpArgs false
set_option linter.unusedVariables false
set_option maxRecDepth 10000
set_option maxHeartbeats 4000000
namespace Go.Proofs.YtkgbeihcepociaaDoor.Ex
open Go
theorem OkMp.okM {m : MapD} (h : OkMp m) : OkM m := ⟨h.2.2.1, h.2.2.2, trivial⟩
theorem ints_x {F G : Nat → Prop} {H : AH} {u v : AV} {xs ys : List Int} (hu : IsSl RInt F H u xs) (hv : IsSl RInt G H v ys) (hl : xs.length < 2 ^ 62) :
    WC Tryd.prog (tabOf Tryd.prog NT0) S0 9 [u, v] H fun r h' => h' = H ∧ r = .lit (.bool (xs == ys)) := by
  refine WC_fn Tryd.func9 rfl rfl ?_
  have s1 := hu.isSl
  have s2 := hu.lenD
  have s3 := hv.isSl
  have s4 := hv.lenD
  simp only [core, Nat.reduceAdd, Nat.reduceSub, Nat.reduceMul, Nat.reduceLT, Nat.reduceEqDiff, reduceCtorEq, Nat.reduceLeDiff, Int.reduceLE, Int.reduceLT, Int.reduceToNat, Tryd.ntmps9, s1, s2, s3, s4]
  refine ⟨fun he => ?_, fun he => ?_⟩
  · have : ¬ xs = ys := fun hh => by subst hh; simp at he
    congr 2
    simpa using this
  · have he : xs.length = ys.length := by simp at he; omega
    refine WB_for xs.length (fun i t h => h = H ∧ (xs.take i = ys.take i) ∧ t.n = 26 ∧ t.get 0 = u ∧ t.get 1 = v ∧ t.get 12 = .lit (.int .i64 xs.length) ∧ t.get 13 = .lit (.int .i64 i)) ?_ ?_ _ _ ?_
    · rintro i t h hlt hc ⟨rfl, hx, hn, g0, g1, g12, g13⟩ ih
      have hlt2 : i < ys.length := by omega
      have hld := hu.int (T := tabOf Tryd.prog NT0) (e := 3) (by kernel_rfl) (by kernel_rfl) hlt
      have hld2 := hv.int (T := tabOf Tryd.prog NT0) (e := 3) (by kernel_rfl) (by kernel_rfl) hlt2
      have hw := wrap_succ hlt (by omega)
      simp only [core, Nat.reduceAdd, Nat.reduceSub, Nat.reduceMul, Nat.reduceLT, Nat.reduceEqDiff, reduceCtorEq, Nat.reduceLeDiff, Int.reduceLE, Int.reduceLT, Int.reduceToNat, s1, s2, s3, s4, hn, g0, g1, g12, g13, hlt, hlt2, hc, hld, hw]
      rw [WB_regionD [0, 1, 2, 3, 4, 5, 6, 7, 8] 1205237335491016659828736 (by kernel_rfl)]
      repeat ((with_reducible refine WDM_cons ?_; simp only [dw1]; try simp only [dw2, Nat.reduceAdd, Nat.reduceMul, Nat.reduceShiftRight, Nat.reduceMod, Nat.reduceEqDiff]); simp only [core, Nat.reduceAdd, Nat.reduceSub, Nat.reduceMul, Nat.reduceLT, Nat.reduceEqDiff, reduceCtorEq, Nat.reduceLeDiff, Int.reduceLE, Int.reduceLT, Int.reduceToNat, cored, s1, s2, s3, s4, hn, g0, g1, g12, g13, hlt, hlt2, hc, hld, hld2, hw])
      have e1 : xs.getD i 0 = xs[i] := by simp [List.getD_eq_getElem?_getD, List.getElem?_eq_getElem hlt]
      have e2 : ys.getD i 0 = ys[i] := by simp [List.getD_eq_getElem?_getD, List.getElem?_eq_getElem hlt2]
      refine ⟨fun hq => ?_, fun hq => ?_⟩
      · have hq : ¬ xs.getD i 0 = ys.getD i 0 := by simpa using hq
        have : ¬ xs = ys := fun hh => by subst hh; exact hq rfl
        congr 2
        simpa using this
      · have hq : xs.getD i 0 = ys.getD i 0 := by simpa using hq
        refine ih _ _ ?_
        simp only [core, Nat.reduceAdd, Nat.reduceSub, Nat.reduceMul, Nat.reduceLT, Nat.reduceEqDiff, reduceCtorEq, Nat.reduceLeDiff, Int.reduceLE, Int.reduceLT, Int.reduceToNat, hn, g0, g1, g12, g13]
        rw [List.take_succ_eq_append_getElem hlt, List.take_succ_eq_append_getElem hlt2, hx, ← e1, ← e2, hq]
    · rintro t h hc ⟨rfl, hx, hn, g0, g1, g12, g13⟩
      simp only [core, Nat.reduceAdd, Nat.reduceSub, Nat.reduceMul, Nat.reduceLT, Nat.reduceEqDiff, reduceCtorEq, Nat.reduceLeDiff, Int.reduceLE, Int.reduceLT, Int.reduceToNat, s1, s2, hn, g0, g1, g12, g13, hc]
      rw [List.take_length, he, List.take_length] at hx
      simp [hx]
    · simp only [core, Nat.reduceAdd, Nat.reduceSub, Nat.reduceMul, Nat.reduceLT, Nat.reduceEqDiff, reduceCtorEq, Nat.reduceLeDiff, Int.reduceLE, Int.reduceLT, Int.reduceToNat]
      simp
end Go.Proofs.YtkgbeihcepociaaDoor.Ex
end

section

set_option linter.unusedSimpArgs false
set_option linter.unusedVariables false
namespace Go.Proofs.YtkgbeihcepociaaDoor.Ex
open Go Go.RowKit Go.ChangeShapes Go.WideShapes Go.ChangeAt
theorem rels_absV {ρ : Nat → Value} {w : World} : ∀ {cs : List Value}, (∀ c ∈ cs, c.oneCell' = true) → rels ρ (mu0 w) w (cs.map (absV w)) cs
  | [], _ => rels_nil
  | c :: r, h => rels_cons (absV_rel (h c (by simp))) (rels_absV fun x hx => h x (by simp [hx]))
theorem pinT {W : World} (htab : Lib.TabIs Tryd.prog W "internal/strconv.uint64pow10" .u64 Lib.pow10Tab) : PinOf ρT (mu0 W) W ∧ ∃ e, (absH W).at 1 = some (.frz tabL e) := by
  unfold Lib.TabIs World.var? at htab
  rw [show Tryd.prog.globalNamed "internal/strconv.uint64pow10" = some 0 by kernel_rfl] at htab
  have htab : (match W.heap[0]? with | some (Obj.cells cs _ _) => some cs | _ => none) = some (Lib.pow10Tab.map fun z => Value.int .u64 z).toArray := htab
  split at htab
  case h_2 => cases htab
  rename_i cs e fz h0
  obtain rfl := Option.some.inj htab
  have hlt : 0 < W.heap.size := (Array.getElem?_eq_some_iff.1 h0).1
  have hrow : rowO W 0 = some ((Lib.pow10Tab.map fun z => Value.int .u64 z), e) := by unfold rowO; rw [h0]
  have hwin : (wins W)[0]? = some (0, 0) := by
    unfold wins
    obtain ⟨k, hk⟩ : ∃ k, W.heap.size = k + 1 := ⟨W.heap.size - 1, by omega⟩
    rw [hk, List.range_succ_eq_map, List.flatMap_cons]
    have : winsAt W 0 = (0, 0) :: ((List.range 20).map fun off => (0, off + 1)) := by
      unfold winsAt
      rw [hrow]
      rfl
    rw [this]
    rfl
  have hmu : mu0 W 1 = some (0, 0) := hwin
  refine ⟨fun r hr => ?_, e, ?_⟩
  · have hr : (Value.int .i64 0) = .int .i64 r := hr
    cases hr
    exact ⟨hmu, _, e, fz, h0, rfl⟩
  · rw [← L_at, absH_L, List.getElem?_cons_succ, List.getElem?_map, hwin]
    simp only [Option.map_some]
    congr 1
    unfold absB
    rw [show ((0, 0) : Nat × Nat).1 = 0 from rfl, hrow]
    rfl
theorem law_joinT {W : World} (htab : Lib.TabIs Tryd.prog W "internal/strconv.uint64pow10" .u64 Lib.pow10Tab) {f : FuncId} {vs : List Value} {avs : List AV} (ha : rels ρT (mu0 W) W avs vs) (hw : ∀ e, (absH W).at 1 = some (.frz tabL e) → WC Tryd.prog (tabOf Tryd.prog NT0) S0 f avs (absH W) fun v h' => v = .lit (.bool true)) :
    Calls Tryd.prog f vs.toArray W fun e w' => e = .returned (.bool true) ∧ Below W.heap.size W w' := by
  obtain ⟨hp, e, hT⟩ := pinT htab
  obtain ⟨n, o, h1, hex, v, cm, rfl, rfl⟩ := hw e hT
  refine (ex_callsH tab_sound noNG follows_mixed (sums_ok _) (absH_hr W hp) (absH_nw W) hex ha).mono fun e w' hy => ?_
  obtain ⟨v', μ', rfl, hb, hv⟩ := hy
  exact ⟨by rw [rel_bool_inv hv], hb⟩
theorem open_agg {ρ : Nat → Value} {P : Program} {H : Type} {enc : TypeId × Value → H} {W : World} {base : Nat} {t : TypeId} {v0 : Value} {d0 : DataW H} {p0 : List MemPlace} {d : TypeDesc} {α : Type} {R : Rep α} {B : α → Prop} (hO : OpensA enc P W t R B) (hu : P.underlying t = some d) (hd : isAggD d = true)
    (k0 : Value.okWide P W .any base t v0) (h0 : DataW.Trod enc P W 0 (fun _ => true) true t v0 d0 p0) (hw : ∀ n ∈ d0.weights P t, n ≤ reachBytes) :
    ∃ (cs : List AV) (y : α), rel ρ (mu0 W) W (.agg cs) v0 ∧ R.is (InH W) (absH W) cs y ∧ B y := by
  obtain ⟨cs, rfl, h1, h2⟩ := okWide_agg hu hd k0
  obtain ⟨fuel, hf⟩ := h0
  obtain ⟨h3, h4, y, h5, h6⟩ := hO.2 fuel cs.toList _ hf (List.all_eq_true.2 fun n hn => (by simpa using hw n hn))
  refine ⟨_, y, ?_, h5, h6⟩
  unfold rel
  exact ⟨cs.toList, by simp, rels_absV h4⟩
end Go.Proofs.YtkgbeihcepociaaDoor.Ex
end

section

set_option linter.unusedSimpArgs false
set_option linter.unusedVariables false
set_option maxRecDepth 10000
set_option maxHeartbeats 4000000
namespace Go.Proofs.YtkgbeihcepociaaDoor.Ex
open Go
def osdE : OsdD := ⟨true, true, 65536, 0, 0, 0⟩
def exD : MapD := ⟨0, [osdE, osdE, osdE, osdE], [], [⟨-1, 3, [-2, -3], [131072, 131072]⟩, ⟨-2, 1, [0, 1], [65536, 65536]⟩, ⟨-3, 1, [2, 3], [65536, 65536]⟩], 1⟩
theorem example_x {H : AH} : WC Tryd.prog (tabOf Tryd.prog NT0) S0 19 [] H fun r h' => Ext H.n H h' ∧ ∃ vo vp vb, r = mpV exD vo vp vb ∧ MpAt (fun b => H.n ≤ b) h' exD vo vp vb := by
  refine WC_fn Tryd.func19 rfl rfl ?_
  simp only [core, Nat.reduceAdd, Nat.reduceSub, Nat.reduceMul, Nat.reduceLT, Nat.reduceEqDiff, reduceCtorEq, Nat.reduceLeDiff, Int.reduceLE, Int.reduceLT, Int.reduceToNat, Tryd.ntmps19]
  refine WB_for 4 (fun i t h => (Ext H.n H h ∧ H.n + 9 ≤ h.n ∧ IsSl RBkt (fun b => H.n + 1 ≤ b ∧ b < H.n + 8) h (.sl (H.n + 7) 0 3 (.kn 3)) exD.buckets ∧ (h.at H.n = some (.cells [.lit (.int .i64 0), .lit (.slice none 0 0), .lit (.slice none 0 0), .lit (.slice none 0 0), .lit (.int .i64 0)] 26)) ∧ ∃ s', h.at (H.n + 8) = some (.cells [.lit (.int .i64 0), s', .lit (.slice none 0 0), .sl (H.n + 7) 0 3 (.kn 3), .lit (.int .i64 1)] 26) ∧ OwnL ROsd (fun _ => False) (H.n + 9) h s' 42 (List.replicate i osdE)) ∧ t.n = 23 ∧ t.get 0 = .ptr H.n 0 ∧ t.get 1 = .ptr (H.n + 8) 0 ∧ t.get 13 = .lit (.int .i64 i)) ?_ ?_ _ _ ?_
  · rintro i t h hlt hc ⟨⟨he, hn, hb, R, s', B, ho⟩, hn, g0, g1, g13⟩ ih
    have LB := ld_at (T := tabOf Tryd.prog NT0) B
    have lb := at_lt B
    have hws := wrap_succ hlt (by omega)
    have v1 := (ho.toSl (F := fun _ => True) (fun _ h => h.elim) (fun _ _ => trivial)).isSl
    have v2 := (ho.toSl (F := fun _ => True) (fun _ h => h.elim) (fun _ _ => trivial)).one
    have hc : ((i : Int) < 4) = True := by simp only [eq_iff_iff, iff_true]; omega
    simp only [core, Nat.reduceAdd, Nat.reduceSub, Nat.reduceMul, Nat.reduceLT, Nat.reduceEqDiff, reduceCtorEq, Nat.reduceLeDiff, Int.reduceLE, Int.reduceLT, Int.reduceToNat, hn, g0, g1, g13, hc, LB, lb, v1, v2]
    obtain ⟨h2, hh2⟩ : ∃ h2, h2 = h.push (.cells [.lit (.bool true), .lit (.bool true), .lit (.int .i64 65536), .lit (.int .i64 0), .lit (.int .i64 0), .lit (.int .i64 0)] 42) := ⟨_, rfl⟩
    have e2 : Ext h.n h h2 := hh2 ▸ (Ext.refl _ _).push _ (Nat.le_refl _)
    have A2 : h2.at h.n = some (.cells [.lit (.bool true), .lit (.bool true), .lit (.int .i64 65536), .lit (.int .i64 0), .lit (.int .i64 0), .lit (.int .i64 0)] 42) := hh2 ▸ at_push_n _ _
    rw [← hh2]
    clear hh2
    have hn2 := e2.1
    have i64 : ∀ n : Int, -65536 ≤ n → n ≤ 65536 → I64 n := fun n a b => ⟨by omega, by omega⟩
    refine WOp_app ((ho.ext e2 (Nat.le_refl _)).snoc (by kernel_rfl) (by kernel_rfl) (by kernel_rfl) (zv := .agg [.lit (.bool false), .lit (.bool false), .lit (.int .i64 0), .lit (.int .i64 0), .lit (.int .i64 0), .lit (.int .i64 0)]) (by kernel_rfl) (by' := 40) (by kernel_rfl) rfl (by decide) (by decide) A2 (y := osdE) (ROsd_is.2 ⟨rfl, i64 _ (by decide) (by decide), i64 _ (by decide) (by decide), i64 _ (by decide) (by decide), i64 _ (by decide) (by decide)⟩) (by rw [List.length_replicate]; omega) (by rw [List.length_replicate]; omega) (by omega)) ?_
    rintro s4 h4 ⟨ho4, e4, k4⟩
    have B4 := (e4.2 _ (by omega)).trans ((e2.2 _ lb).trans B)
    have lb4 := at_lt B4
    have v4 := (ho4.toSl (F := fun _ => True) (fun _ h => h.elim) (fun _ _ => trivial)).one
    have hn4 := e4.1
    simp only [core, Nat.reduceAdd, Nat.reduceSub, Nat.reduceMul, Nat.reduceLT, Nat.reduceEqDiff, reduceCtorEq, Nat.reduceLeDiff, Int.reduceLE, Int.reduceLT, Int.reduceToNat, hn, g0, g1, g13, B4, lb4, v4, hws]
    have keep : ∀ b, b < H.n + 8 → (h4.put (H.n + 8) (.cells [.lit (.int .i64 0), s4, .lit (.slice none 0 0), .sl (H.n + 7) 0 3 (.kn 3), .lit (.int .i64 1)] 26)).at b = h.at b := fun b hb => (at_put_ne _ (by omega)).trans ((e4.2 b (by omega)).trans (e2.2 b (by omega)))
    refine ih _ _ ⟨⟨⟨by rw [n_put]; omega, fun b hb => (keep b (by omega)).trans (he.2 b hb)⟩, by rw [n_put]; omega, hb.lift fun b hb _ => ⟨keep b hb.2, hb⟩, (keep _ (by omega)).trans R, s4, at_put_same _ lb4, ?_⟩, ?_⟩
    · rw [show List.replicate (i + 1) osdE = List.replicate i osdE ++ [osdE] from List.replicate_succ']
      exact ho4.lift (fun b off n cap hv => at_put_ne _ (fun hh => ho4.aparts (show H.n + 8 < H.n + 9 by omega) off n cap (by rw [hh]; exact hv))) (fun b hb => hb.elim)
    · simp only [core, Nat.reduceAdd, Nat.reduceSub, Nat.reduceMul, Nat.reduceLT, Nat.reduceEqDiff, reduceCtorEq, Nat.reduceLeDiff, Int.reduceLE, Int.reduceLT, Int.reduceToNat, hn, g0, g1, g13]
  · rintro t h hc ⟨⟨he, hn, hb, R, s', B, ho⟩, hn, g0, g1, g13⟩
    have LB := ld_at (T := tabOf Tryd.prog NT0) B
    have lb := at_lt B
    have lr := at_lt R
    have v2 := (ho.toSl (F := fun _ => True) (fun _ h => h.elim) (fun _ _ => trivial)).one
    have hc : ((4 : Int) < 4) = False := by decide
    have hc' : (((4 : Nat) : Int) < 4) = False := by decide
    simp only [core, Nat.reduceAdd, Nat.reduceSub, Nat.reduceMul, Nat.reduceLT, Nat.reduceEqDiff, reduceCtorEq, Nat.reduceLeDiff, Int.reduceLE, Int.reduceLT, Int.reduceToNat, hn, g0, g1, g13, hc, hc', LB, lb, v2, R, lr]
    refine ⟨he.put _ (Nat.le_refl _), s', .lit (.slice none 0 0), .sl (H.n + 7) 0 3 (.kn 3), rfl, ?_, IsSl.nil, ?_⟩
    · exact (ho.toSl (F := fun b => H.n + 9 ≤ b) (fun _ h => h.elim) (fun b hb => hb)).lift fun b hb _ => ⟨at_put_ne _ (by omega), by omega⟩
    · exact hb.lift fun b hb hlt => ⟨at_put_ne _ (by omega), by omega⟩
  · have i64 : ∀ n : Int, -200000 ≤ n → n ≤ 200000 → I64 n := fun n a b => ⟨by omega, by omega⟩
    obtain ⟨bs, hbs⟩ : ∃ bs : List AB, bs = [.cells [.lit (.int .i64 0), .lit (.slice none 0 0), .lit (.slice none 0 0), .lit (.slice none 0 0), .lit (.int .i64 0)] 26, .cells [.lit (.int .i64 (-2)), .lit (.int .i64 (-3))] 3, .cells [.lit (.int .i64 131072), .lit (.int .i64 131072)] 3, .cells [.lit (.int .i64 0), .lit (.int .i64 1)] 3, .cells [.lit (.int .i64 65536), .lit (.int .i64 65536)] 3, .cells [.lit (.int .i64 2), .lit (.int .i64 3)] 3, .cells [.lit (.int .i64 65536), .lit (.int .i64 65536)] 3,
      .cells [.lit (.int .i64 (-1)), .lit (.int .i64 3), .sl (H.n + 1) 0 2 (.kn 2), .sl (H.n + 2) 0 2 (.kn 2), .lit (.int .i64 (-2)), .lit (.int .i64 1), .sl (H.n + 3) 0 2 (.kn 2), .sl (H.n + 4) 0 2 (.kn 2), .lit (.int .i64 (-3)), .lit (.int .i64 1), .sl (H.n + 5) 0 2 (.kn 2), .sl (H.n + 6) 0 2 (.kn 2)] 47,
      .cells [.lit (.int .i64 0), .lit (.slice none 0 0), .lit (.slice none 0 0), .sl (H.n + 7) 0 3 (.kn 3), .lit (.int .i64 1)] 26] := ⟨_, rfl⟩
    have hh : Ext H.n H (pushL H bs) ∧ H.n + 9 ≤ (pushL H bs).n ∧ IsSl RBkt (fun b => H.n + 1 ≤ b ∧ b < H.n + 8) (pushL H bs) (.sl (H.n + 7) 0 3 (.kn 3)) exD.buckets ∧ ((pushL H bs).at H.n = some (.cells [.lit (.int .i64 0), .lit (.slice none 0 0), .lit (.slice none 0 0), .lit (.slice none 0 0), .lit (.int .i64 0)] 26)) ∧ ∃ s', (pushL H bs).at (H.n + 8) = some (.cells [.lit (.int .i64 0), s', .lit (.slice none 0 0), .sl (H.n + 7) 0 3 (.kn 3), .lit (.int .i64 1)] 26) ∧ OwnL ROsd (fun _ => False) (H.n + 9) (pushL H bs) s' 42 (List.replicate 0 osdE) := by
      have at' : ∀ i x, bs[i]? = some x → (pushL H bs).at (H.n + i) = some x := fun i x e => pushL_at e
      have A0 := at' 0 _ (by rw [hbs]; rfl)
      have A1 := at' 1 _ (by rw [hbs]; rfl)
      have A2 := at' 2 _ (by rw [hbs]; rfl)
      have A3 := at' 3 _ (by rw [hbs]; rfl)
      have A4 := at' 4 _ (by rw [hbs]; rfl)
      have A5 := at' 5 _ (by rw [hbs]; rfl)
      have A6 := at' 6 _ (by rw [hbs]; rfl)
      have A7 := at' 7 _ (by rw [hbs]; rfl)
      have A8 := at' 8 _ (by rw [hbs]; rfl)
      have l8 := at_lt A8
      refine ⟨pushL_ext (Nat.le_refl _), by omega, ?_, A0, .lit (.slice none 0 0), A8, OwnL.nil⟩
      generalize pushL H bs = h' at A0 A1 A2 A3 A4 A5 A6 A7 A8
      have two : ∀ (k : Nat) (a b : Int), 1 ≤ k ∧ k < 8 → -200000 ≤ a → a ≤ 200000 → -200000 ≤ b → b ≤ 200000 → h'.at (H.n + k) = some (.cells [.lit (.int .i64 a), .lit (.int .i64 b)] 3) → IsSl RInt (fun b => H.n + 1 ≤ b ∧ b < H.n + 8) h' (.sl (H.n + k) 0 2 (.kn 2)) [a, b] := fun k a b hk a1 a2 b1 b2 A => IsSl.ofAt (L := [[.lit (.int .i64 a)], [.lit (.int .i64 b)]]) A ⟨by omega, by omega⟩ ((Els.nil.snoc (RInt_is.2 ⟨rfl, i64 _ a1 a2⟩)).snoc (RInt_is.2 ⟨rfl, i64 _ b1 b2⟩)) rfl
      have S1 := two 1 _ _ (by decide) (by decide) (by decide) (by decide) (by decide) A1
      have S2 := two 2 _ _ (by decide) (by decide) (by decide) (by decide) (by decide) A2
      have S3 := two 3 _ _ (by decide) (by decide) (by decide) (by decide) (by decide) A3
      have S4 := two 4 _ _ (by decide) (by decide) (by decide) (by decide) (by decide) A4
      have S5 := two 5 _ _ (by decide) (by decide) (by decide) (by decide) (by decide) A5
      have S6 := two 6 _ _ (by decide) (by decide) (by decide) (by decide) (by decide) A6
      exact IsSl.ofAt (L := [[.lit (.int .i64 (-1)), .lit (.int .i64 3), .sl (H.n + 1) 0 2 (.kn 2), .sl (H.n + 2) 0 2 (.kn 2)], [.lit (.int .i64 (-2)), .lit (.int .i64 1), .sl (H.n + 3) 0 2 (.kn 2), .sl (H.n + 4) 0 2 (.kn 2)], [.lit (.int .i64 (-3)), .lit (.int .i64 1), .sl (H.n + 5) 0 2 (.kn 2), .sl (H.n + 6) 0 2 (.kn 2)]]) A7 ⟨by omega, by omega⟩ (((Els.nil.snoc (RBkt_is.2 ⟨_, _, rfl, S1, S2, i64 _ (by decide) (by decide), i64 _ (by decide) (by decide)⟩)).snoc (RBkt_is.2 ⟨_, _, rfl, S3, S4, i64 _ (by decide) (by decide), i64 _ (by decide) (by decide)⟩)).snoc (RBkt_is.2 ⟨_, _, rfl, S5, S6, i64 _ (by decide) (by decide), i64 _ (by decide) (by decide)⟩)) rfl
    rw [hbs] at hh
    refine ⟨hh, ?_⟩
    simp only [core, Nat.reduceAdd, Nat.reduceSub, Nat.reduceMul, Nat.reduceLT, Nat.reduceEqDiff, reduceCtorEq, Nat.reduceLeDiff, Int.reduceLE, Int.reduceLT, Int.reduceToNat]
    (repeat' apply And.intro) <;> first | rfl | trivial
theorem exm_ok : OkM exD := by
  refine ⟨?_, ?_, trivial⟩
  · show 3 * 64 ≤ _; decide
  · intro b hb
    simp only [exD, List.mem_cons, List.not_mem_nil, or_false] at hb
    rcases hb with rfl | rfl | rfl <;> exact ⟨(by show 2 * 8 ≤ _; decide), (by show 2 * 8 ≤ _; decide)⟩
theorem ex_good : goodF exD = true := by decide +kernel
theorem ex_select : (selectF exD 7 3).length = 2 := by decide +kernel
theorem ex_leaves : leavesF exD 4 (-1) = [0, 1, 2, 3] := by decide +kernel
theorem ex_under : underF exD 2 1 = some (-3) := by decide +kernel
theorem ex_tree : (treeF exD).length = 7 ∧ (treeF exD)[0]? = some ⟨#[114, 111, 111, 116, 32, 45, 49, 32, 50, 54, 50, 49, 52, 52]⟩ ∧ (treeF exD)[2]? = some ⟨#[32, 32, 32, 32, 111, 115, 100, 32, 48, 32, 54, 53, 53, 51, 54]⟩ := by decide +kernel
theorem awake8_x {H : AH} {e : TypeId} (hT : H.at 1 = some (.frz tabL e)) : WC Tryd.prog (tabOf Tryd.prog NT0) S0 8 [] H fun r h' => Ext H.n H h' ∧ r = .lit (.bool true) := by
  refine WC_fn Tryd.func8 rfl rfl ?_
  have lt := at_lt hT
  simp only [core, Nat.reduceAdd, Nat.reduceSub, Nat.reduceMul, Nat.reduceLT, Nat.reduceEqDiff, reduceCtorEq, Nat.reduceLeDiff, Int.reduceLE, Int.reduceLT, Int.reduceToNat, Tryd.ntmps8]
  refine example_x.mono ?_
  rintro _ h1 ⟨e1, vo, vp, vb, rfl, hm⟩
  have T1 := (e1.2 _ lt).trans hT
  have o1 := hm.o.one
  have o2 := hm.p.one
  have o3 := hm.b.one
  simp only [core, Nat.reduceAdd, Nat.reduceSub, Nat.reduceMul, Nat.reduceLT, Nat.reduceEqDiff, reduceCtorEq, Nat.reduceLeDiff, Int.reduceLE, Int.reduceLT, Int.reduceToNat, mpV, o1, o2, o3]
  refine (tree_x (F := fun b => H.n ≤ b ∧ b < h1.n) ⟨hm.o.lift fun b hb hlt => ⟨rfl, hb, hlt⟩, hm.p.lift fun b hb hlt => ⟨rfl, hb, hlt⟩, hm.b.lift fun b hb hlt => ⟨rfl, hb, hlt⟩⟩ (fun b hb => hb.2) exm_ok T1 (by rw [ex_tree.1]; decide)).mono ?_
  rintro vt h2 ⟨e2, ht⟩
  have E2 := e1.step e2
  have t1 := ht.isSl
  have t2 := ht.lenD
  have t3 := ht.one
  simp only [core, Nat.reduceAdd, Nat.reduceSub, Nat.reduceMul, Nat.reduceLT, Nat.reduceEqDiff, reduceCtorEq, Nat.reduceLeDiff, Int.reduceLE, Int.reduceLT, Int.reduceToNat, t3]
  refine example_x.mono ?_
  rintro _ h3 ⟨e3, uo, up, ub, rfl, hm3⟩
  have E3 := E2.step e3
  have p1 := hm3.o.one
  have p2 := hm3.p.one
  have p3 := hm3.b.one
  simp only [core, Nat.reduceAdd, Nat.reduceSub, Nat.reduceMul, Nat.reduceLT, Nat.reduceEqDiff, reduceCtorEq, Nat.reduceLeDiff, Int.reduceLE, Int.reduceLT, Int.reduceToNat, mpV, p1, p2, p3]
  refine (under_x 2 1 hm3 exm_ok).mono ?_
  rintro _ h4 ⟨e4, rfl⟩
  have E4 := E3.step e4
  rw [ex_under]
  simp only [core, Nat.reduceAdd, Nat.reduceSub, Nat.reduceMul, Nat.reduceLT, Nat.reduceEqDiff, reduceCtorEq, Nat.reduceLeDiff, Int.reduceLE, Int.reduceLT, Int.reduceToNat, optV, pairV]
  refine example_x.mono ?_
  rintro _ h5 ⟨e5, xo, xp, xb, rfl, hm5⟩
  have E5 := E4.step e5
  have q1 := hm5.o.one
  have q2 := hm5.p.one
  have q3 := hm5.b.one
  simp only [core, Nat.reduceAdd, Nat.reduceSub, Nat.reduceMul, Nat.reduceLT, Nat.reduceEqDiff, reduceCtorEq, Nat.reduceLeDiff, Int.reduceLE, Int.reduceLT, Int.reduceToNat, mpV, q1, q2, q3]
  refine (selectC_x 7 3 hm5 exm_ok (by show 4 * 40 ≤ _; decide)).mono ?_
  rintro vs h6 ⟨e6, hs⟩
  have E6 := E5.step e6
  have s1 := hs.isSl
  have s2 := hs.lenD
  rw [ex_select] at s2
  have h22 : (((2 : Nat) : Int) == 2) = true := rfl
  have h77 : (((7 : Nat) : Int) == 7) = true := rfl
  simp only [core, Nat.reduceAdd, Nat.reduceSub, Nat.reduceMul, Nat.reduceLT, Nat.reduceEqDiff, reduceCtorEq, Nat.reduceLeDiff, Int.reduceLE, Int.reduceLT, Int.reduceToNat, s1, s2, h22]
  refine example_x.mono ?_
  rintro _ h7 ⟨e7, yo, yp, yb, rfl, hm7⟩
  have E7 := E6.step e7
  have z1 := hm7.o.one
  have z2 := hm7.p.one
  have z3 := hm7.b.one
  simp only [core, Nat.reduceAdd, Nat.reduceSub, Nat.reduceMul, Nat.reduceLT, Nat.reduceEqDiff, reduceCtorEq, Nat.reduceLeDiff, Int.reduceLE, Int.reduceLT, Int.reduceToNat, mpV, z1, z2, z3, h22]
  refine (leaves_x exm_ok ex_good 4 (-1) (by decide +kernel) ⟨by decide, by decide⟩ hm7 (by rw [ex_leaves]; decide)).mono ?_
  rintro vl h8 ⟨e8, hl⟩
  rw [ex_leaves] at hl
  have E8 := E7.step e8
  have l1 := hl.isSl
  simp only [core, Nat.reduceAdd, Nat.reduceSub, Nat.reduceMul, Nat.reduceLT, Nat.reduceEqDiff, reduceCtorEq, Nat.reduceLeDiff, Int.reduceLE, Int.reduceLT, Int.reduceToNat, l1, h22]
  obtain ⟨h9, hh9⟩ : ∃ h9, h9 = h8.push (.cells [.lit (.int .i64 0), .lit (.int .i64 1), .lit (.int .i64 2), .lit (.int .i64 3)] 3) := ⟨_, rfl⟩
  have e9 : Ext h8.n h8 h9 := hh9 ▸ (Ext.refl _ _).push _ (Nat.le_refl _)
  have A9 : h9.at h8.n = some (.cells [.lit (.int .i64 0), .lit (.int .i64 1), .lit (.int .i64 2), .lit (.int .i64 3)] 3) := hh9 ▸ at_push_n _ _
  rw [← hh9]
  clear hh9
  have E9 := E8.step e9
  have i64 : ∀ n : Int, -200000 ≤ n → n ≤ 200000 → I64 n := fun n a b => ⟨by omega, by omega⟩
  have hl9 : IsSl RInt (fun _ => True) h9 (.sl h8.n 0 4 (.kn 4)) [0, 1, 2, 3] := IsSl.ofAt (L := [[.lit (.int .i64 0)], [.lit (.int .i64 1)], [.lit (.int .i64 2)], [.lit (.int .i64 3)]]) A9 trivial ((((Els.nil.snoc (RInt_is.2 ⟨rfl, i64 _ (by decide) (by decide)⟩)).snoc (RInt_is.2 ⟨rfl, i64 _ (by decide) (by decide)⟩)).snoc (RInt_is.2 ⟨rfl, i64 _ (by decide) (by decide)⟩)).snoc (RInt_is.2 ⟨rfl, i64 _ (by decide) (by decide)⟩)) rfl
  refine (ints_x (hl.ext e9 (Nat.le_refl _)) hl9 (by decide)).mono ?_
  rintro _ h ⟨rfl, rfl⟩
  have hq : (([0, 1, 2, 3] : List Int) == [0, 1, 2, 3]) = true := by decide
  have ht9 := ht.ext ((((((e3.step e4).step e5).step e6).step e7).step e8).step e9) (Nat.le_refl _)
  obtain ⟨c0, i0, hd0, hd00⟩ := ht9.at (T := tabOf Tryd.prog NT0) (z := 1) rfl ex_tree.2.1
  obtain ⟨c2, i2, hd2, hd20⟩ := ht9.at (T := tabOf Tryd.prog NT0) (z := 1) rfl ex_tree.2.2
  rw [ex_tree.1] at t2
  rw [hq]
  have h33 : (((-3 : Int)) == -3) = true := rfl
  have c0e : c0 = [.lit (.string ⟨#[114, 111, 111, 116, 32, 45, 49, 32, 50, 54, 50, 49, 52, 52]⟩)] := i0
  have c2e : c2 = [.lit (.string ⟨#[32, 32, 32, 32, 111, 115, 100, 32, 48, 32, 54, 53, 53, 51, 54]⟩)] := i2
  subst c0e c2e
  have hse : ∀ (P : Program) (t : TypeId) (a : ByteArray), pur P (binOp .eql t (Value.string a) (Value.string a)) = some (.ok (Value.bool true)) := fun P t a => by
    show pur P (pure (Value.bool (a.toList == a.toList))) = _
    rw [beq_self_eq_true]
    rfl
  have w0 : loadA (tabOf Tryd.prog NT0) h 9 (slB vt) (slO vt) = some (.lit (.string ⟨#[114, 111, 111, 116, 32, 45, 49, 32, 50, 54, 50, 49, 52, 52]⟩)) := (hd00 9 1 (by kernel_rfl) (by decide) (by decide)).trans (by kernel_rfl)
  have w2 : loadA (tabOf Tryd.prog NT0) h 9 (slB vt) (slO vt + 2) = some (.lit (.string ⟨#[32, 32, 32, 32, 111, 115, 100, 32, 48, 32, 54, 53, 53, 51, 54]⟩)) := (hd20 9 1 (by kernel_rfl) (by decide) (by decide)).trans (by kernel_rfl)
  simp only [core, Nat.reduceAdd, Nat.reduceSub, Nat.reduceMul, Nat.reduceLT, Nat.reduceEqDiff, reduceCtorEq, Nat.reduceLeDiff, Int.reduceLE, Int.reduceLT, Int.reduceToNat, t1, t2, h22, h77, h33, w0, w2, hse]
  exact E9
end Go.Proofs.YtkgbeihcepociaaDoor.Ex
end

section

set_option linter.unusedSimpArgs false
set_option linter.unusedVariables false
namespace Go.Proofs.YtkgbeihcepociaaDoor.Ex
open Go
theorem parent_of {m : MapD} (hg : goodF m = true) {b : BktD} (hb : b ∈ m.buckets) {i : Nat} (hi : i < b.items.length) : parentF m (b.items.getD i 0) = some b := by
  obtain ⟨j, hj⟩ := List.mem_iff_getElem?.1 hb
  obtain ⟨hjl, hje⟩ := List.getElem?_eq_some_iff.1 hj
  have hg0 := hg
  unfold goodF at hg
  simp only [Bool.and_eq_true, List.all_eq_true] at hg
  have h1 := hg.2 j (List.mem_range.2 hjl)
  rw [getD_of hj] at h1
  unfold bOk at h1
  simp only [Bool.and_eq_true, List.all_eq_true] at h1
  have h2 := h1.2 i (List.mem_range.2 hi)
  unfold itemOk at h2
  simp only [Bool.and_eq_true, Bool.not_eq_true'] at h2
  have h3 := h2.2
  unfold parentF
  rw [List.find?_eq_some_iff_getElem]
  refine ⟨List.contains_iff_mem.2 (List.mem_of_getElem? (getD_some' 0 hi)), j, hjl, hje, fun k hk => ?_⟩
  simp only [Bool.not_eq_true']
  cases hc : m.buckets[k].items.contains (b.items.getD i 0) with
  | false => rfl
  | true =>
    exfalso
    have hm : b.items.getD i 0 ∈ itsTo m j := by
      unfold itsTo
      rw [List.mem_flatMap]
      refine ⟨m.buckets[k], ?_, List.contains_iff_mem.1 hc⟩
      rw [List.mem_take_iff_getElem]
      exact ⟨k, by omega, rfl⟩
    have h4 : (itsTo m j ++ b.items.take i).contains (b.items.getD i 0) = true := List.contains_iff_mem.2 (List.mem_append.2 (.inl hm))
    rw [h4] at h3
    cases h3
theorem orph_none {m : MapD} {y : Int} : ∀ i, y ∈ orphN m i → parentF m y = none
  | 0, h => by cases h
  | i + 1, h => by
    unfold orphN at h
    split at h
    · exact orph_none i h
    · rename_i hp
      rcases List.mem_append.1 h with h | h
      · exact orph_none i h
      · rw [List.mem_singleton] at h
        subst h
        simpa using hp
theorem root_none {m : MapD} (hg : goodF m = true) {root : Int} (hr : root ∈ rootsR m) : parentF m root = none := by
  obtain ⟨h1, _, _⟩ := roots_walk hg m.buckets.length (Nat.le_refl _)
  exact orph_none _ (h1.subset hr)
theorem kind_le3 {m : MapD} (hg : goodF m = true) (a : Int) : kindF m a ≤ 3 := by
  unfold kindF
  split
  · split <;> decide
  · split
    · rename_i h
      obtain ⟨b, hb⟩ := Option.isSome_iff_exists.1 h
      rw [show bucketG m a = b by unfold bucketG; rw [hb]; rfl]
      obtain ⟨u1, u2, u3, u4, _⟩ := good_bkt hg hb
      exact u4
    · decide
theorem up_fuel {m : MapD} (hg : goodF m = true) {k : Int} : ∀ (n n' : Nat) (a : Int), 0 ≤ kindF m a → 4 ≤ kindF m a + n → 4 ≤ kindF m a + n' → upF m k n a (kindF m a) = upF m k n' a (kindF m a)
  | 0, n', a, h0, h1, _ => by have := kind_le3 hg a; omega
  | n + 1, 0, a, h0, _, h2 => by have := kind_le3 hg a; omega
  | n + 1, n' + 1, a, h0, h1, h2 => by
    rw [upF, upF]
    split
    · rfl
    · cases hp : parentF m a with
      | none => rfl
      | some b =>
        obtain ⟨z1, z2, z3, z4, z5, z6, z7⟩ := parent_kind hg hp
        simp only
        have := up_fuel hg (k := k) n n' b.id (by omega) (by omega) (by omega)
        rw [z7] at this
        exact this
theorem up_step {m : MapD} (hg : goodF m = true) {k y : Int} {b : BktD} (hp : parentF m y = some b) (hk : kindF m y ≠ k) (n : Nat) : upF m k (n + 1) y (kindF m y) = upF m k n b.id (kindF m b.id) := by
  obtain ⟨z1, z2, z3, z4, z5, z6, z7⟩ := parent_kind hg hp
  rw [upF, if_neg hk, hp, z7]
theorem down_stop {m : MapD} {k x r : Int} : ∀ n a d, downF m k x r n a = some d → 0 ≤ d ∨ kindF m d = k
  | 0, a, d, h => by cases h
  | n + 1, a, d, h => by
    rw [downF] at h
    cases hb : bucketF m a with
    | none => rw [hb] at h; cases h
    | some b =>
      rw [hb] at h
      simp only at h
      cases hc : chooseF b.items b.weights x r with
      | none => rw [hc] at h; cases h
      | some i =>
        rw [hc] at h
        simp only at h
        split at h
        · rename_i hs; cases h; exact hs
        · exact down_stop n _ d h
theorem desc_a {m : MapD} (hg : goodF m = true) {k x r : Int} : ∀ n a d, downF m k x r n a = some d → kindF m d ≠ k → ∃ s, ∀ N, upF m k (N + s) d (kindF m d) = upF m k N a (kindF m a)
  | 0, a, d, h, _ => by cases h
  | n + 1, a, d, h, hd => by
    rw [downF] at h
    cases hb : bucketF m a with
    | none => rw [hb] at h; cases h
    | some b =>
      rw [hb] at h
      simp only at h
      cases hc : chooseF b.items b.weights x r with
      | none => rw [hc] at h; cases h
      | some i =>
        rw [hc] at h
        simp only at h
        obtain ⟨hi, -⟩ := chooseF_lt hc
        obtain ⟨u1, u2, u3, u4, u5, u6, u7, u8⟩ := good_bkt hg hb
        have hp := parent_of hg u1 hi
        split at h
        · cases h
          exact ⟨1, fun N => by rw [up_step hg hp hd, u2]⟩
        · rename_i hno
          obtain ⟨s, hs⟩ := desc_a hg n _ d h hd
          refine ⟨s + 1, fun N => ?_⟩
          rw [show N + (s + 1) = (N + 1) + s by omega, hs (N + 1), up_step hg hp (fun hh => hno (.inr hh)), u2]
theorem desc_b {m : MapD} (hg : goodF m = true) {k x r : Int} : ∀ n a d, a < 0 → downF m 0 x r n a = some d → kindF m a ≤ k → ∃ s, ∀ N, upF m k (N + s) d (kindF m d) = upF m k N a (kindF m a)
  | 0, a, d, _, h, _ => by cases h
  | n + 1, a, d, ha, h, hka => by
    rw [downF] at h
    cases hb : bucketF m a with
    | none => rw [hb] at h; cases h
    | some b =>
      rw [hb] at h
      simp only at h
      cases hc : chooseF b.items b.weights x r with
      | none => rw [hc] at h; cases h
      | some i =>
        rw [hc] at h
        simp only at h
        obtain ⟨hi, -⟩ := chooseF_lt hc
        obtain ⟨u1, u2, u3, u4, u5, u6, u7, u8⟩ := good_bkt hg hb
        have hp := parent_of hg u1 hi
        have hki := (u7 i hi).2
        have hkb := kind_bkt ha hb
        have hne : kindF m (b.items.getD i 0) ≠ k := by omega
        split at h
        · cases h
          exact ⟨1, fun N => by rw [up_step hg hp hne, u2]⟩
        · rename_i hno
          obtain ⟨s, hs⟩ := desc_b (k := k) hg n (b.items.getD i 0) d (Int.not_le.1 fun hh => hno (.inl hh)) h (by omega)
          refine ⟨s + 1, fun N => ?_⟩
          rw [show N + (s + 1) = (N + 1) + s by omega, hs (N + 1), up_step hg hp hne, u2]
theorem under_dom {m : MapD} (hg : goodF m = true) {x root r o d c : Int} {s : List Int × List Int} (hr : root ∈ rootsR m) (h : tryR m x root s r = some (o, d)) (hl : 0 < m.leaf) (hu : underF m o m.leaf = some c) : c = root ∨ (c = d) := by
  unfold underF at hu
  rw [hg, if_pos rfl] at hu
  split at hu
  case isFalse => cases hu
  rename_i ho8
  have hko : kindF m o = 0 := by unfold kindF; rw [if_pos ho8.1, if_pos ho8.2]
  unfold tryR at h
  cases h1 : downF m m.leaf x r 4 root with
  | none => rw [h1] at h; cases h
  | some d' =>
    rw [h1] at h
    simp only at h
    split at h
    · cases h
    · by_cases hneg : d' < 0
      · rw [if_pos hneg] at h
        cases h2 : downF m 0 x r 4 d' with
        | none => rw [h2] at h; cases h
        | some o' =>
          rw [h2] at h
          simp only at h
          split at h
          · cases h
          · cases h
            have hkd : kindF m d = m.leaf := by
              rcases down_stop 4 root d h1 with hh | hh
              · omega
              · exact hh
            obtain ⟨t, ht⟩ := desc_b hg 4 d o hneg h2 (Int.le_of_eq hkd)
            have e1 := up_fuel hg (k := m.leaf) 5 (5 + t) o (by omega) (by omega) (by omega)
            rw [ht 5, hkd, hko] at e1
            rw [e1] at hu
            rw [upF, if_pos rfl] at hu
            cases hu
            exact .inr rfl
      · rw [if_neg hneg] at h
        simp only at h
        split at h
        · cases h
        · cases h
          obtain ⟨t, ht⟩ := desc_a hg 4 root o h1 (by omega)
          have e1 := up_fuel hg (k := m.leaf) 5 (5 + t) o (by omega) (by omega) (by omega)
          rw [ht 5, hko] at e1
          rw [e1, upF] at hu
          split at hu
          · cases hu; exact .inl rfl
          · rw [root_none hg hr] at hu
            cases hu
/-- The osds and the buckets that they are to have alone. -/
theorem selN_pairs {m : MapD} {x root : Int} : ∀ k, (selN m x root k).1.length = (selN m x root k).2.length ∧ (selN m x root k).2.Nodup ∧ ∀ (i : Nat) o d, (selN m x root k).1[i]? = some o → (selN m x root k).2[i]? = some d → ∃ s r, tryR m x root s r = some (o, d)
  | 0 => ⟨rfl, List.nodup_nil, fun i o d h => by simp [selN] at h⟩
  | k + 1 => by
    obtain ⟨i1, i2, i3⟩ := selN_pairs (m := m) (x := x) (root := root) k
    rw [selN]
    unfold copyR
    cases h : firstR m x root (selN m x root k) k 50 with
    | none => exact ⟨i1, i2, i3⟩
    | some y =>
      obtain ⟨o, d⟩ := y
      obtain ⟨r, hr⟩ := firstR_try _ h
      have hnd : d ∉ (selN m x root k).2 := fun hh => by
        unfold tryR at hr
        cases h1 : downF m m.leaf x r 4 root with
        | none => rw [h1] at hr; cases hr
        | some d' =>
          rw [h1] at hr
          simp only at hr
          split at hr
          · cases hr
          · rename_i hc
            split at hr
            · cases hr
            · split at hr
              · cases hr
              · cases hr
                exact hc (List.contains_iff_mem.2 hh)
      refine ⟨by simp [i1], ?_, fun i o' d' h1 h2 => ?_⟩
      · rw [List.nodup_append]
        refine ⟨i2, by simp, fun a ha b hb => ?_⟩
        rw [List.mem_singleton] at hb
        subst hb
        exact fun e => hnd (e ▸ ha)
      · by_cases hi : i < (selN m x root k).1.length
        · rw [List.getElem?_append_left hi] at h1
          rw [List.getElem?_append_left (by omega)] at h2
          exact i3 i o' d' h1 h2
        · rw [List.getElem?_append_right (by omega)] at h1
          rw [List.getElem?_append_right (by omega)] at h2
          have h0 : i - (selN m x root k).1.length = 0 := by
            cases hk : i - (selN m x root k).1.length with
            | zero => rfl
            | succ j => rw [hk] at h1; simp at h1
          rw [h0] at h1
          rw [show i - (selN m x root k).2.length = 0 by omega] at h2
          simp at h1 h2
          subst h1 h2
          exact ⟨_, r, hr⟩
theorem apart_law {m : MapD} (hg : goodF m = true) {x n root : Int} {rs : List Int} (hr : rootsR m = root :: rs) {i j : Nat} {a b : Int} (ha : (selectF m x n)[i]? = some a) (hb : (selectF m x n)[j]? = some b) (hij : j < i) :
    a ≠ b ∧ ∀ c, underF m a m.leaf = some c → underF m b m.leaf = some c → c = root := by
  have hnd := (selectF_may (m := m) (x := x) (n := n)).2
  have hab : a ≠ b := fun e => by
    subst e
    obtain ⟨hi, e1⟩ := List.getElem?_eq_some_iff.1 ha
    obtain ⟨hj, e2⟩ := List.getElem?_eq_some_iff.1 hb
    have := (List.nodup_iff_pairwise_ne.1 hnd)
    have := List.pairwise_iff_getElem.1 this j i hj hi hij
    exact this (e2.trans e1.symm)
  refine ⟨hab, fun c h1 h2 => ?_⟩
  have hmr : root ∈ rootsR m := by rw [hr]; simp
  by_cases hl : 0 < m.leaf
  · unfold selectF at ha hb
    rw [hg, if_pos rfl, hr] at ha hb
    simp only at ha hb
    obtain ⟨i1, i2, i3⟩ := selN_pairs (m := m) (x := x) (root := root) (cntF n)
    have hia := (List.getElem?_eq_some_iff.1 ha).1
    have hjb := (List.getElem?_eq_some_iff.1 hb).1
    have hda := List.getElem?_eq_getElem (show i < (selN m x root (cntF n)).2.length by omega)
    have hdb := List.getElem?_eq_getElem (show j < (selN m x root (cntF n)).2.length by omega)
    obtain ⟨s1, r1, t1⟩ := i3 i a _ ha hda
    obtain ⟨s2, r2, t2⟩ := i3 j b _ hb hdb
    rcases under_dom hg hmr t1 hl h1 with e | e1
    · exact e
    · rcases under_dom hg hmr t2 hl h2 with e | e2
      · exact e
      · exfalso
        have := List.pairwise_iff_getElem.1 (List.nodup_iff_pairwise_ne.1 i2) j i (by omega) (by omega) hij
        exact this (e2.symm.trans e1)
  · exfalso
    have hl0 : m.leaf = 0 := by
      unfold goodF at hg
      simp only [Bool.and_eq_true, decide_eq_true_eq] at hg
      omega
    have key : ∀ y, underF m y m.leaf = some c → y = c := fun y hy => by
      unfold underF at hy
      rw [hg, if_pos rfl] at hy
      split at hy
      · rw [upF, if_pos hl0.symm] at hy; cases hy; rfl
      · cases hy
    exact hab ((key a h1).trans (key b h2).symm)
end Go.Proofs.YtkgbeihcepociaaDoor.Ex
end

section

set_option linter.unusedSimpArgs false
set_option linter.unusedVariables false
namespace Go.Proofs.YtkgbeihcepociaaDoor.Ex
open Go
structure SameT (m m' : MapD) : Prop where
  b : m'.buckets = m.buckets
  l : m'.leaf = m.leaf
section
variable {m m' : MapD} (h : SameT m m')
include h
end
theorem selN_pre {m : MapD} {x root : Int} (k : Nat) : (selN m x root k).1 <+: (selN m x root (k + 1)).1 := by
  rw [selN]
  unfold copyR
  split
  · exact List.prefix_append _ _
  · exact List.prefix_refl _
theorem selN_pres {m : MapD} {x root : Int} {k : Nat} : ∀ n, k ≤ n → (selN m x root k).1 <+: (selN m x root n).1
  | 0, h => by
    obtain rfl : k = 0 := by omega
    exact List.prefix_refl _
  | n + 1, h => by
    by_cases hk : k = n + 1
    · subst hk; exact List.prefix_refl _
    · exact (selN_pres n (by omega)).trans (selN_pre n)
theorem selectF_pre {m : MapD} {x a b : Int} (h : a ≤ b) : selectF m x a <+: selectF m x b := by
  unfold selectF
  split
  · split
    · exact List.prefix_refl _
    · refine selN_pres _ ?_
      unfold cntF
      split <;> split <;> omega
  · exact List.prefix_refl _
end Go.Proofs.YtkgbeihcepociaaDoor.Ex
end
