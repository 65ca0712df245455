/- Part 5 of the proof: Mr4, Mr5, Mr6, Mr7, Mr8, Mrp, Mrq, Mrs, Mrt, Mru, Mrv. -/
import Derived.Test.YtdcmfchodooolaaGreatDoorM4
open Nat renaming reduceAdd → zrA, reduceSub → zrS, reduceMul → zrM, reduceLT → zrL, reduceEqDiff → zrE, reduceLeDiff → zrD, reduceShiftRight → zrR, reduceMod → zrO
open Int renaming reduceLE → ziE, reduceLT → ziL, reduceToNat → ziN
section

set_option linter.unusedSimpArgs false
set_option linter.unusedVariables false
set_option maxRecDepth 10000
set_option maxHeartbeats 4000000
namespace Go.Proofs.YtdcmfchodooolaaGreatDoor.Ex
open Go
section
variable {α : Type}
/-- Elements whose cells are known. -/
structure FlatK (R : Rep α) (cf : α → List AV) (z : Nat) : Prop where
  hz : R.z = z
  z0 : 0 < z
  len : ∀ x, (cf x).length = z
  is : ∀ F h c x, R.is F h c x ↔ c = cf x
variable {R : Rep α} {cf : α → List AV} {z : Nat}
theorem flatMap_len (hl : ∀ x, (cf x).length = z) : ∀ l : List α, (l.flatMap cf).length = l.length * z
  | [] => by simp
  | x :: r => by rw [List.flatMap_cons, List.length_append, flatMap_len hl r, hl, List.length_cons, Nat.succ_mul]; omega
theorem flatMap_split {l : List α} {i : Nat} {x : α} (hx : l[i]? = some x) : l.flatMap cf = (l.take i).flatMap cf ++ (cf x ++ (l.drop (i + 1)).flatMap cf) := by
  obtain ⟨hi, rfl⟩ := List.getElem?_eq_some_iff.1 hx
  conv => lhs; rw [← List.take_append_drop i l, List.drop_eq_getElem_cons hi]
  rw [List.flatMap_append, List.flatMap_cons]
theorem put_el {l : List α} {i : Nat} {y : α} (hl : ∀ x, (cf x).length = z) (hi : i < l.length) : put (l.flatMap cf) (i * z) (cf y) = some ((l.set i y).flatMap cf) := by
  have hx : l[i]? = some l[i] := List.getElem?_eq_getElem hi
  have h2 : (l.set i y)[i]? = some y := by rw [List.getElem?_set_self hi]
  have ht : (l.set i y).take i = l.take i := by rw [List.take_set_of_le (Nat.le_refl i)]
  have hd : (l.set i y).drop (i + 1) = l.drop (i + 1) := by rw [List.drop_set_of_lt (by omega)]
  have h3 := flatMap_len hl (l.take i)
  rw [List.length_take, Nat.min_eq_left (by omega)] at h3
  rw [flatMap_split hx, flatMap_split h2, ht, hd]
  unfold put
  rw [if_pos (by simp only [List.length_append, h3, hl]; omega)]
  congr 1
  have hkl : (cf l[i]).length = z := hl _
  have t1 : ((l.take i).flatMap cf ++ (cf l[i] ++ (l.drop (i + 1)).flatMap cf)).take (i * z) = (l.take i).flatMap cf := List.take_left' h3
  have t2 : ((l.take i).flatMap cf ++ (cf l[i] ++ (l.drop (i + 1)).flatMap cf)).drop (i * z + (cf y).length) = (l.drop (i + 1)).flatMap cf := by
    rw [← List.append_assoc]
    exact List.drop_left' (by rw [List.length_append, h3, hl, hl])
  rw [t1, t2, List.append_assoc]
/-- A row of the run's own; behind it there may be more of its block. -/
def OwnX (cf : α → List AV) (z n0 : Nat) (h : AH) (v : AV) (e : TypeId) (xs : List α) : Prop :=
  (v = .lit (.slice none 0 0) ∧ xs = []) ∨ (xs = [] ∧ ∃ p, n0 ≤ p ∧ v = .sl p 0 0 (.kn 0) ∧ h.at p = some (.cells [] e)) ∨ ∃ p l, n0 ≤ p ∧ v = .sl p 0 xs.length (.un z) ∧ h.at p = some (.cells (xs.flatMap cf ++ l) e)
/-- It is all of its block. -/
def OwnW (cf : α → List AV) (z n0 : Nat) (h : AH) (v : AV) (e : TypeId) (xs : List α) : Prop := ∃ p, n0 ≤ p ∧ v = .sl p 0 xs.length (.un z) ∧ h.at p = some (.cells (xs.flatMap cf) e)
variable {n0 : Nat} {h h' : AH} {v : AV} {e : TypeId} {xs : List α}
theorem OwnW.toX (ho : OwnW cf z n0 h v e xs) : OwnX cf z n0 h v e xs := by
  obtain ⟨p, h1, h2, h3⟩ := ho
  exact .inr (.inr ⟨p, [], h1, h2, by rw [List.append_nil]; exact h3⟩)
theorem OwnX.isSl (ho : OwnX cf z n0 h v e xs) : Ex.isSl v = true := by
  rcases ho with ⟨rfl, _⟩ | ⟨_, p, _, rfl, _⟩ | ⟨p, l, _, rfl, _⟩ <;> rfl
theorem OwnX.one (ho : OwnX cf z n0 h v e xs) : v.one = true := by
  rcases ho with ⟨rfl, _⟩ | ⟨_, p, _, rfl, _⟩ | ⟨p, l, _, rfl, _⟩ <;> rfl
theorem OwnX.lenD (ho : OwnX cf z n0 h v e xs) : Ex.lenD v = xs.length := by
  rcases ho with ⟨rfl, rfl⟩ | ⟨rfl, p, _, rfl, _⟩ | ⟨p, l, _, rfl, _⟩ <;> rfl
theorem OwnX.ext {m : Nat} (ho : OwnX cf z n0 h v e xs) (he : Ext m h h') (hm : h.n ≤ m) : OwnX cf z n0 h' v e xs := by
  rcases ho with hh | ⟨h0, p, hp, hv, hat⟩ | ⟨p, l, hp, hv, hat⟩
  · exact .inl hh
  · exact .inr (.inl ⟨h0, p, hp, hv, (he.2 _ (by have := at_lt hat; omega)).trans hat⟩)
  · exact .inr (.inr ⟨p, l, hp, hv, (he.2 _ (by have := at_lt hat; omega)).trans hat⟩)
theorem OwnX.putLt {b : Nat} {x : AB} (ho : OwnX cf z n0 h v e xs) (hb : b < n0) : OwnX cf z n0 (h.put b x) v e xs := by
  rcases ho with hh | ⟨h0, p, hp, hv, hat⟩ | ⟨p, l, hp, hv, hat⟩
  · exact .inl hh
  · exact .inr (.inl ⟨h0, p, hp, hv, (at_put_ne _ (by omega)).trans hat⟩)
  · exact .inr (.inr ⟨p, l, hp, hv, (at_put_ne _ (by omega)).trans hat⟩)
theorem OwnX.mono {n1 : Nat} (ho : OwnX cf z n0 h v e xs) (hn : n1 ≤ n0) : OwnX cf z n1 h v e xs := by
  rcases ho with hh | ⟨h0, p, hp, hv, hat⟩ | ⟨p, l, hp, hv, hat⟩
  · exact .inl hh
  · exact .inr (.inl ⟨h0, p, by omega, hv, hat⟩)
  · exact .inr (.inr ⟨p, l, by omega, hv, hat⟩)
theorem OwnX.keep (ho : OwnX cf z n0 h v e xs) (hk : ∀ b off n cap, v = .sl b off n cap → h'.at b = h.at b) : OwnX cf z n0 h' v e xs := by
  rcases ho with hh | ⟨h0, p, hp, hv, hat⟩ | ⟨p, l, hp, hv, hat⟩
  · exact .inl hh
  · exact .inr (.inl ⟨h0, p, hp, hv, (hk _ _ _ _ hv).trans hat⟩)
  · exact .inr (.inr ⟨p, l, hp, hv, (hk _ _ _ _ hv).trans hat⟩)
theorem OwnX.blk (ho : OwnX cf z n0 h v e xs) {b off n : Nat} {cap : Cap} (hv : v = .sl b off n cap) : b < h.n ∧ n0 ≤ b ∧ ∃ l, h.at b = some (.cells l e) := by
  rcases ho with ⟨hh, _⟩ | ⟨h0, p, hp, hh, hat⟩ | ⟨p, l, hp, hh, hat⟩
  · rw [hh] at hv; cases hv
  · rw [hh] at hv; cases hv; exact ⟨at_lt hat, hp, _, hat⟩
  · rw [hh] at hv; cases hv; exact ⟨at_lt hat, hp, _, hat⟩
/-- Rows of other elements lie elsewhere. -/
theorem OwnX.sep {β : Type} {cg : β → List AV} {y n1 : Nat} {u : AV} {e2 : TypeId} {ys : List β} (ho : OwnX cf z n0 h v e xs) (hu : OwnX cg y n1 h u e2 ys) (hne : e ≠ e2) {b off n : Nat} {cap : Cap} (hv : v = .sl b off n cap) : Apart u b := by
  intro off2 n2 cap2 hu2
  obtain ⟨_, _, l1, k1⟩ := ho.blk hv
  obtain ⟨_, _, l2, k2⟩ := hu.blk hu2
  rw [k1] at k2
  cases k2
  exact hne rfl
theorem els_flat (hR : FlatK R cf z) {F : Nat → Prop} (xs : List α) : Els R F h (xs.map cf) xs :=
  ⟨by simp, fun i c x h1 h2 => by
    rw [List.getElem?_map, h2] at h1
    simp only [Option.map_some, Option.some.injEq] at h1
    exact (hR.is _ _ _ _).2 h1.symm⟩
theorem OwnX.toSl (hR : FlatK R cf z) {F : Nat → Prop} (ho : OwnX cf z n0 h v e xs) (hn : ∀ b, n0 ≤ b → F b) : IsSl R F h v xs := by
  rcases ho with ⟨rfl, rfl⟩ | ⟨rfl, p, hp, rfl, hat⟩ | ⟨p, l, hp, rfl, hat⟩
  · exact OwnL.nil.toSl (G := fun _ => False) (fun _ hf => hf.elim) (n0 := n0) (e := e) hn
  · exact .mk (L := []) ⟨by simp, .inr ⟨p, 0, _, [], rfl, by unfold getR; rw [hat], by simp [cut]⟩⟩ (fun b off n cap e => by cases e; exact hn _ hp) (fun b off n cap e => by cases e; exact Nat.le_refl 0) .nil
  · refine .mk (L := xs.map cf) ⟨fun c hc => ?_, .inr ⟨p, 0, .un z, _, by rw [List.length_map], by unfold getR; rw [hat], ?_⟩⟩ (fun b off n cap e => by cases e; exact hn _ hp) (fun b off n cap e => by cases e; exact hR.hz.symm ▸ rfl) (els_flat hR xs)
    · obtain ⟨x, _, rfl⟩ := List.mem_map.1 hc
      rw [hR.len, hR.hz]
    · unfold cut
      have hl := flatMap_len hR.len xs
      rw [List.length_map, hR.hz, if_pos (by rw [List.length_append, hl]; omega), List.drop_zero, ← hl, List.take_left', List.flatMap_def]
      rfl
theorem appendA_one {T : TT} {t : TypeId} {by' q n : Nat} {zv s : AV} {c : List AV} {cap : Cap} {e' : TypeId} (hu : und T t = some (.slice e)) (hz : sizeT T e = some z) (hzv : zeroT T e = some zv) (hb : bytesT T e = some by')
    (hzl : zv.cells.length = z) (h0 : 0 < z) (h200 : z ≤ 200) (hq : h.at q = some (.cells c e')) (hc : c.length = z) (h1 : c.all AV.one = true) (hs : lenA s = some n) (hn : n + 1 ≤ 4611686018427387904) (hby : (n + 1) * by' ≤ 140737488355328) :
    appendA T h t t s (.sl q 0 1 cap) = appendB h e z 1 c s := by
  simp only [sizeT, zeroT, bytesT, Option.map_eq_some_iff] at hz hzv hb
  obtain ⟨i, hi, rfl⟩ := hz
  obtain ⟨i2, hi2, rfl⟩ := hzv
  obtain ⟨i3, hi3, rfl⟩ := hb
  rw [hi] at hi2 hi3
  obtain rfl := Option.some.inj hi2
  obtain rfl := Option.some.inj hi3
  have hg : getR h q = some c := by unfold getR; rw [hq]
  have hx : srcA h i.size (.sl q 0 1 cap) = some c := by
    simp only [srcA, hg, cut]
    rw [if_pos (by omega)]
    simp [← hc]
  unfold appendA
  rw [hu]
  simp only [hi, show lenA (AV.sl q 0 1 cap) = some 1 from rfl, hs]
  rw [show (isSrcD i.size (.slice e) && Nat.blt 0 i.size && Nat.ble i.size 200 && Nat.beq i.zero.cells.length i.size && Nat.ble (n + 1) 4611686018427387904 && Nat.ble ((n + 1) * i.bytes) 140737488355328) = true by
    simp only [Bool.and_eq_true, Nat.ble_eq, Nat.blt_eq]
    exact ⟨⟨⟨⟨⟨rfl, h0⟩, h200⟩, by rw [hzl]; exact Nat.beq_refl _⟩, hn⟩, hby⟩]
  simp only [cond_true, hx]
  rw [show (Nat.beq c.length (1 * i.size) && c.all AV.one) = true by
    rw [hc, h1, Nat.one_mul, Nat.beq_refl]; rfl]
  rfl
/-- One more behind it: then it is all of its block. -/
theorem OwnX.snoc {T : TT} {t : TypeId} {by' q : Nat} {zv : AV} {y : α} {cap : Cap} {e' : TypeId} (hR : FlatK R cf z) (ho : OwnX cf z n0 h v e xs) (hu : und T t = some (.slice e)) (hz : sizeT T e = some z) (hzv : zeroT T e = some zv) (hb : bytesT T e = some by')
    (hzl : zv.cells.length = z) (h200 : z ≤ 200) (hq : h.at q = some (.cells (cf y) e')) (hn : xs.length + 1 ≤ 4611686018427387904) (hby : (xs.length + 1) * by' ≤ 140737488355328) (hn0 : n0 ≤ h.n) :
    ∃ s' h', appendA T h t t v (.sl q 0 1 cap) = some (s', h') ∧ OwnW cf z n0 h' s' e (xs ++ [y]) ∧ Ext n0 h h' := by
  have h1 : (cf y).all AV.one = true := by
    rw [List.all_eq_true]
    exact fun w hw => R.one ((hR.is (fun _ => True) h _ _).2 rfl) w hw
  have hs : lenA v = some xs.length := by
    rcases ho with ⟨rfl, rfl⟩ | ⟨rfl, p, hp, rfl, hat⟩ | ⟨p, l, hp, rfl, hat⟩ <;> rfl
  rw [appendA_one hu hz hzv hb hzl hR.z0 h200 hq (hR.len y) h1 hs hn hby]
  rcases ho with ⟨rfl, rfl⟩ | ⟨rfl, p, hp, rfl, hat⟩ | ⟨p, l, hp, rfl, hat⟩
  · exact ⟨_, _, rfl, ⟨h.n, hn0, rfl, by rw [at_push_n]; simp⟩, (Ext.refl _ _).push _ hn0⟩
  · have hg : getR h p = some [] := by unfold getR; rw [hat]
    have hc : cut ([] : List AV) 0 (0 * z) = some [] := by simp [cut]
    refine ⟨.sl h.n 0 1 (.un z), h.push (.cells ([] ++ cf y) e), ?_, ⟨h.n, hn0, rfl, by rw [at_push_n]; simp⟩, (Ext.refl _ _).push _ hn0⟩
    unfold appendB
    simp only [show Nat.beq 1 0 = false from rfl, show Nat.ble (0 + 1) 0 = false from rfl, hg, hc, cond_false]
  · have hg : getB h p = some (xs.flatMap cf ++ l, e) := by unfold getB; rw [hat]
    have hl := flatMap_len hR.len xs
    have hc : cut (xs.flatMap cf ++ l) 0 (xs.length * z) = some (xs.flatMap cf) := by
      unfold cut
      rw [if_pos (by rw [List.length_append, hl]; omega), List.drop_zero, ← hl, List.take_left']
      rfl
    refine ⟨.sl h.n 0 (xs.length + 1) (.un z), (h.put p .gone).push (.cells (xs.flatMap cf ++ cf y) e), ?_, ⟨h.n, hn0, by simp, ?_⟩, ((Ext.refl n0 h).put .gone hp).push _ (by rw [n_put]; exact hn0)⟩
    · unfold appendB
      simp only [show Nat.beq 1 0 = false from rfl, hg, hc, cond_false, Nat.beq_refl, Bool.and_self, cond_true]
    · have := at_push_n (h.put p .gone) (.cells (xs.flatMap cf ++ cf y) e)
      rw [n_put] at this
      rw [this]
      simp
/-- What is appended to an empty slice without room. -/
theorem ownx_clone {T : TT} {F : Nat → Prop} {zv : AV} {t : TypeId} {by' p : Nat} (hR : FlatK R cf z) (hu : und T t = some (.slice e)) (hz : sizeT T e = some z) (hzv : zeroT T e = some zv) (hb : bytesT T e = some by')
    (hzl : zv.cells.length = z) (h200 : z ≤ 200) (hv : IsSl R F h v xs) (hn : xs.length ≤ 4611686018427387904) (hl : xs.length * by' ≤ 140737488355328) (hp : h.at p = some (.cells [] e)) (hp0 : n0 ≤ p) (hn0 : n0 ≤ h.n) :
    ∃ s' h', appendA T h t t (.sl p 0 0 (.kn 0)) v = some (s', h') ∧ OwnX cf z n0 h' s' e xs ∧ Ext h.n h h' := by
  obtain ⟨L, h1, h2, h3, h4⟩ := hv.out
  have e0 := h4.1
  have hL : L = xs.map cf := by
    refine List.ext_getElem? fun i => ?_
    rw [List.getElem?_map]
    cases hx : xs[i]? with
    | none => rw [List.getElem?_eq_none_iff] at hx; rw [Option.map_none, List.getElem?_eq_none_iff]; omega
    | some x =>
      have hi := (List.getElem?_eq_some_iff.1 hx).1
      have := h4.2 i L[i] x (List.getElem?_eq_getElem (by omega)) hx
      rw [List.getElem?_eq_getElem (by omega), (hR.is _ _ _ _).1 this]
      rfl
  rcases append_fresh (T := T) (h := h) (t := t) (tx := t) (e := e) (M := L) (p := p) (x := v) hu hu hz hzv hb hzl hR.z0 h200 hp (by have := h1.src; rw [hR.hz] at this; exact this) h1.len (fun c hc => by have := h4.lens c hc; rw [hR.hz] at this; exact this) h4.ones (by omega) (by rw [e0]; exact hl) with ⟨hM, ha⟩ | ⟨hM, ha⟩
  · have hx0 : xs = [] := List.eq_nil_of_length_eq_zero (by rw [← e0, hM]; rfl)
    exact ⟨_, _, ha, .inr (.inl ⟨hx0, p, hp0, rfl, hp⟩), Ext.refl _ _⟩
  · refine ⟨_, _, ha, .inr (.inr ⟨h.n, [], hn0, by rw [e0], ?_⟩), (Ext.refl _ _).push _ (Nat.le_refl _)⟩
    rw [at_push_n, List.append_nil, hL, List.flatMap_def]
end
def txC (x : List UInt8) : List AV := [.lit (.string ⟨x.toArray⟩)]
theorem flatTx : FlatK RTx txC 1 := ⟨rfl, by decide, fun _ => rfl, fun _ _ _ _ => Iff.rfl⟩
theorem flatSet : FlatK RSet setC 35 := ⟨rfl, by decide, fun _ => rfl, fun _ _ _ _ => Iff.rfl⟩
theorem cloneT_x {F : Nat → Prop} {H : AH} {v : AV} {xs : List (List UInt8)} (hv : IsSl RTx F H v xs) (hl : xs.length ≤ 1000000) :
    WC Tryz.prog (tabOf Tryz.prog NT0) S0 46 [v] H fun r h' => Ext H.n H h' ∧ OwnX txC 1 H.n h' r 9 xs := by
  refine WC_fn Tryz.func46 rfl rfl ?_
  have s1 := hv.isSl
  have s2 := hv.lenD
  simp only [core, zrA, zrS, zrM, zrL, zrE, reduceCtorEq, zrD, ziE, ziL, ziN, Tryz.ntmps46, s1, s2]
  refine ⟨fun he => ?_, fun he => ?_⟩
  · obtain rfl := hv.empty he
    exact ⟨Ext.refl _ _, .inl ⟨rfl, rfl⟩⟩
  · have hv2 : IsSl RTx F (H.push (.cells [] 9)) v xs := hv.ext ((Ext.refl H.n H).push _ (Nat.le_refl _)) (Nat.le_refl _)
    refine WOp_app (ownx_clone (n0 := H.n) flatTx (by kernel_rfl) (by kernel_rfl) (zv := .lit (.string ⟨#[]⟩)) (by kernel_rfl) (by' := 16) (by kernel_rfl) rfl (by decide) hv2 (by omega) (by omega) (at_push_n H _) (Nat.le_refl _) (by rw [n_push]; omega)) ?_
    rintro s' h' ⟨e1, e2⟩
    have v1 := e1.isSl
    simp only [core, zrA, zrS, zrM, zrL, zrE, reduceCtorEq, zrD, ziE, ziL, ziN, v1]
    exact ⟨((Ext.refl H.n H).push _ (Nat.le_refl _)).trans (e2.mono (by rw [n_push]; omega)), e1⟩
theorem cloneS_x {F : Nat → Prop} {H : AH} {v : AV} {xs : List SetD} (hv : IsSl RSet F H v xs) (hl : xs.length ≤ 1000000) :
    WC Tryz.prog (tabOf Tryz.prog NT0) S0 45 [v] H fun r h' => Ext H.n H h' ∧ OwnX setC 35 H.n h' r 28 xs := by
  refine WC_fn Tryz.func45 rfl rfl ?_
  have s1 := hv.isSl
  have s2 := hv.lenD
  simp only [core, zrA, zrS, zrM, zrL, zrE, reduceCtorEq, zrD, ziE, ziL, ziN, Tryz.ntmps45, s1, s2]
  refine ⟨fun he => ?_, fun he => ?_⟩
  · obtain rfl := hv.empty he
    exact ⟨Ext.refl _ _, .inl ⟨rfl, rfl⟩⟩
  · have hv2 : IsSl RSet F (H.push (.cells [] 28)) v xs := hv.ext ((Ext.refl H.n H).push _ (Nat.le_refl _)) (Nat.le_refl _)
    obtain ⟨zv, hzv⟩ : ∃ zv, zv = AV.agg (setC set0) := ⟨_, rfl⟩
    refine WOp_app (ownx_clone (n0 := H.n) flatSet (by kernel_rfl) (by kernel_rfl) (zv := .agg (setC set0)) (by kernel_rfl) (by' := 72) (by kernel_rfl) rfl (by decide) hv2 (by omega) (by omega) (at_push_n H _) (Nat.le_refl _) (by rw [n_push]; omega)) ?_
    rintro s' h' ⟨e1, e2⟩
    have v1 := e1.isSl
    simp only [core, zrA, zrS, zrM, zrL, zrE, reduceCtorEq, zrD, ziE, ziL, ziN, v1]
    exact ⟨((Ext.refl H.n H).push _ (Nat.le_refl _)).trans (e2.mono (by rw [n_push]; omega)), e1⟩
/-- A root's clone. -/
theorem clone_x {F : Nat → Prop} {H : AH} {vl vo : AV} {r : RootD} (hl : IsSl RSet F H vl r.live) (ho : IsSl RTx F H vo r.ops) (nl : r.live.length ≤ 1000000) (no : r.ops.length ≤ 1000000) :
    WC Tryz.prog (tabOf Tryz.prog NT0) S0 25 [.agg [vl, vo]] H fun v h' => Ext H.n H h' ∧ ∃ a b, v = .agg [a, b] ∧ OwnX setC 35 H.n h' a 28 r.live ∧ OwnX txC 1 H.n h' b 9 r.ops := by
  refine WC_fn Tryz.func25 rfl rfl ?_
  have l1 := hl.one
  have l2 := hl.isSl
  have o1 := ho.one
  have o2 := ho.isSl
  obtain ⟨hp, hhp⟩ : ∃ hp, hp = H.push (.cells [vl, vo] 25) := ⟨_, rfl⟩
  obtain ⟨hq, hhq⟩ : ∃ hq, hq = hp.push (.cells [.lit (.slice none 0 0), .lit (.slice none 0 0)] 25) := ⟨_, rfl⟩
  have EP : Ext H.n H hp := hhp ▸ (Ext.refl _ _).push _ (Nat.le_refl _)
  have P0 : hp.at H.n = some (.cells [vl, vo] 25) := hhp ▸ at_push_n _ _
  have EQ : Ext hp.n hp hq := hhq ▸ (Ext.refl _ _).push _ (Nat.le_refl _)
  have Q0 : hq.at hp.n = some (.cells [.lit (.slice none 0 0), .lit (.slice none 0 0)] 25) := hhq ▸ at_push_n _ _
  have nP : hp.n = H.n + 1 := by rw [hhp, n_push]
  have nQ : hq.n = H.n + 2 := by rw [hhq, n_push, nP]
  have P1 := (EQ.2 _ (at_lt P0)).trans P0
  have LP := ld_at (T := tabOf Tryz.prog NT0) P1
  have lP := at_lt P1
  have E0 := EP.trans (EQ.mono EP.1)
  simp only [core, zrA, zrS, zrM, zrL, zrE, reduceCtorEq, zrD, ziE, ziL, ziN, Tryz.ntmps25, l1, l2, o1, o2, ← hhp, ← hhq]
  rw [WB_regionD [0, 1, 3, 4, 2, 5, 6, 7] 9169081485570015488 (by kernel_rfl)]
  repeat ((with_reducible refine WDM_cons ?_; simp only [dw1]; try simp only [dw2, zrA, zrM, zrR, zrO, zrE]); simp only [core, zrA, zrS, zrM, zrL, zrE, reduceCtorEq, zrD, ziE, ziL, ziN, cored, LP, lP])
  refine ⟨by rw [same_sl l2, same_sl o2]; rfl, (cloneS_x (hl.ext E0 (Nat.le_refl _)) nl).mono ?_⟩
  rintro va h2 ⟨E2, oa⟩
  have a1 := oa.one
  have a2 := oa.isSl
  have P2 := (E2.2 _ (by omega)).trans P1
  have LP2 := ld_at (T := tabOf Tryz.prog NT0) P2
  have lP2 := at_lt P2
  repeat ((with_reducible refine WDM_cons ?_; simp only [dw1]; try simp only [dw2, zrA, zrM, zrR, zrO, zrE]); simp only [core, zrA, zrS, zrM, zrL, zrE, reduceCtorEq, zrD, ziE, ziL, ziN, cored, LP2, lP2, a1, a2])
  have E02 := E0.trans (E2.mono E0.1)
  refine ⟨same_sl o2, (cloneT_x (ho.ext E02 (Nat.le_refl _)) no).mono ?_⟩
  rintro vb h3 ⟨E3, ob⟩
  have b1 := ob.one
  have b2 := ob.isSl
  have lq : hp.n < h3.n := by have := E2.1; have := E3.1; omega
  have Q3 : h3.at hp.n = some (.cells [.lit (.slice none 0 0), .lit (.slice none 0 0)] 25) := (E3.2 _ (by have := E2.1; omega)).trans ((E2.2 _ (by omega)).trans Q0)
  have Q4 : (h3.put hp.n (.cells [va, vb] 25)).at hp.n = _ := at_put_same _ lq
  have LQ3 := ld_at (T := tabOf Tryz.prog NT0) Q4
  have E03 := E02.trans (E3.mono E02.1)
  repeat ((with_reducible refine WDM_cons ?_; simp only [dw1]; try simp only [dw2, zrA, zrM, zrR, zrO, zrE]); simp only [core, zrA, zrS, zrM, zrL, zrE, reduceCtorEq, zrD, ziE, ziL, ziN, cored, Q3, lq, a1, a2, b1, b2])
  have := E2.1
  exact ⟨E03.put _ (by omega), va, vb, rfl, ((oa.ext E3 (Nat.le_refl _)).putLt (by omega)).mono (by omega), (ob.putLt (by omega)).mono (by omega)⟩
end Go.Proofs.YtdcmfchodooolaaGreatDoor.Ex
end

section

set_option linter.unusedSimpArgs false
set_option linter.unusedVariables false
set_option maxRecDepth 10000
set_option maxHeartbeats 4000000
namespace Go.Proofs.YtdcmfchodooolaaGreatDoor.Ex
open Go
section
variable {α : Type}
def ixF (p : α → Bool) (xs : List α) : Int := match xs.findIdx? p with | some k => (k : Int) | none => -1
theorem idx_yes {p : α → Bool} {xs : List α} {i : Nat} {x : α} (hx : xs[i]? = some x) (hp : p x = true) (hn : ∀ y ∈ xs.take i, p y = false) : ixF p xs = (i : Int) := by
  obtain ⟨hi, rfl⟩ := List.getElem?_eq_some_iff.1 hx
  have : xs.findIdx? p = some i := List.findIdx?_eq_some_iff_getElem.2 ⟨hi, hp, fun j hj => by
    have := hn xs[j] (List.mem_take_iff_getElem.2 ⟨j, by omega, rfl⟩)
    rw [this]; decide⟩
  unfold ixF
  rw [this]
theorem idx_no {p : α → Bool} {xs : List α} (hn : ∀ y ∈ xs, p y = false) : ixF p xs = -1 := by
  have : xs.findIdx? p = none := List.findIdx?_eq_none_iff.2 hn
  unfold ixF
  rw [this]
theorem idx_any {p : α → Bool} {xs : List α} : decide (0 ≤ ixF p xs) = xs.any p := by
  unfold ixF
  cases h : xs.findIdx? p with
  | some k =>
    obtain ⟨h1, h2, -⟩ := List.findIdx?_eq_some_iff_getElem.1 h
    rw [List.any_eq_true.2 ⟨_, List.getElem_mem h1, h2⟩]
    simp
  | none =>
    have := List.findIdx?_eq_none_iff.1 h
    rw [List.any_eq_false.2 fun x hx => by rw [this x hx]; decide]
    rfl
theorem take_none {p : α → Bool} {xs : List α} {i : Nat} {x : α} (hx : xs[i]? = some x) (hp : p x = false) (hn : ∀ y ∈ xs.take i, p y = false) : ∀ y ∈ xs.take (i + 1), p y = false := fun y hy => by
  obtain ⟨h1, h2⟩ := List.getElem?_eq_some_iff.1 hx
  rw [List.take_succ_eq_append_getElem h1, h2] at hy
  rcases List.mem_append.1 hy with hy | hy
  · exact hn y hy
  · rw [List.mem_singleton.1 hy]; exact hp
end
theorem indexT_x {F : Nat → Prop} {H : AH} {v : AV} {xs : List (List UInt8)} {id : List UInt8} (hv : IsSl RTx F H v xs) (hl : xs.length ≤ 1000000) :
    WC Tryz.prog (tabOf Tryz.prog NT0) S0 51 [v, .lit (.string ⟨id.toArray⟩)] H fun r h' => Ext H.n H h' ∧ r = .lit (.int .i64 (ixF (fun x => id == x) xs)) := by
  refine WC_fn Tryz.func51 rfl rfl ?_
  have s1 := hv.isSl
  have s2 := hv.lenD
  have s3 := hv.one
  simp only [core, zrA, zrS, zrM, zrL, zrE, reduceCtorEq, zrD, ziE, ziL, ziN, Tryz.ntmps51, s1, s2, s3]
  refine WB_for xs.length (fun i t h => Ext H.n H h ∧ (∀ y ∈ xs.take i, (id == y) = false) ∧ t.n = 19 ∧ t.get 0 = v ∧ t.get 1 = .lit (.string ⟨id.toArray⟩) ∧ t.get 7 = .lit (.int .i64 xs.length) ∧ t.get 8 = .lit (.int .i64 i)) ?_ ?_ _ _ ?_
  · rintro i t h hlt hc ⟨he, hf, hn, g0, g1, g7, g8⟩ ih
    obtain ⟨x, hx⟩ : ∃ x, xs[i]? = some x := ⟨_, List.getElem?_eq_getElem hlt⟩
    obtain ⟨c, hc1, hld, hld0⟩ := hv.atE (T := tabOf Tryz.prog NT0) he RTx_z hx
    obtain rfl := RTx_is.1 hc1
    have ld0 : loadA (tabOf Tryz.prog NT0) h 9 (slB v) (slO v + i) = some (.lit (.string ⟨x.toArray⟩)) := by
      have ld := hld0 9 1 (by kernel_rfl) (by decide) (by decide)
      rw [Nat.mul_one] at ld
      rw [ld]
      rfl
    have hws := wrap_succ hlt (by omega)
    cases hq : (id == x) with
    | true =>
      have hd := idx_yes (p := fun x => id == x) hx hq hf
      simp only [core, zrA, zrS, zrM, zrL, zrE, reduceCtorEq, zrD, ziE, ziL, ziN, s1, s2, s3, hn, g0, g1, g7, g8, hlt, hc, ld0, hws, pur_seq, hq]
      first | exact ⟨he, by rw [hd]⟩
    | false =>
      simp only [core, zrA, zrS, zrM, zrL, zrE, reduceCtorEq, zrD, ziE, ziL, ziN, s1, s2, s3, hn, g0, g1, g7, g8, hlt, hc, ld0, hws, pur_seq, hq]
      refine ih _ _ ⟨he, take_none (p := fun x => id == x) hx hq hf, ?_⟩
      simp only [core, zrA, zrS, zrM, zrL, zrE, reduceCtorEq, zrD, ziE, ziL, ziN, hn, g0, g1, g7, g8]
  · rintro t h hc ⟨he, hf, hn, g0, g1, g7, g8⟩
    rw [List.take_length] at hf
    have hd := idx_no (p := fun x => id == x) hf
    simp only [core, zrA, zrS, zrM, zrL, zrE, reduceCtorEq, zrD, ziE, ziL, ziN, s1, s2, s3, hn, g0, g1, g7, g8, hc]
    first | exact ⟨he, by rw [hd]⟩
  · refine ⟨Ext.refl _ _, fun y hy => by simp at hy, ?_⟩
    simp only [core, zrA, zrS, zrM, zrL, zrE, reduceCtorEq, zrD, ziE, ziL, ziN]
    try ((repeat' apply And.intro) <;> first | rfl | trivial)
theorem containsT_x {F : Nat → Prop} {H : AH} {v : AV} {xs : List (List UInt8)} {id : List UInt8} (hv : IsSl RTx F H v xs) (hl : xs.length ≤ 1000000) :
    WC Tryz.prog (tabOf Tryz.prog NT0) S0 30 [v, .lit (.string ⟨id.toArray⟩)] H fun r h' => Ext H.n H h' ∧ r = .lit (.bool (xs.any fun x => id == x)) := by
  refine WC_fn Tryz.func30 rfl rfl ?_
  have s1 := hv.isSl
  have s3 := hv.one
  simp only [core, zrA, zrS, zrM, zrL, zrE, reduceCtorEq, zrD, ziE, ziL, ziN, Tryz.ntmps30, s1, s3]
  refine (indexT_x hv hl).mono ?_
  rintro _ h2 ⟨E2, rfl⟩
  have hd := idx_any (p := fun x => id == x) (xs := xs)
  simp only [core, zrA, zrS, zrM, zrL, zrE, reduceCtorEq, zrD, ziE, ziL, ziN]
  first | exact ⟨E2, by rw [hd]⟩ | (rw [hd]; exact ⟨E2, rfl⟩) | done
theorem indexFS_x {F : Nat → Prop} {H : AH} {v : AV} {xs : List SetD} {f b : Nat} {p : SetD → Bool} (hv : IsSl RSet F H v xs) (hl : xs.length ≤ 1000000)
    (hf : ∀ h x, Ext H.n H h → x ∈ xs → WC Tryz.prog (tabOf Tryz.prog NT0) S0 f [.agg (setC x), .ptr b 0] h fun r h' => Ext h.n h h' ∧ r = .lit (.bool (p x))) :
    WC Tryz.prog (tabOf Tryz.prog NT0) S0 54 [v, .fn (.func f) [] [.ptr b 0]] H fun r h' => Ext H.n H h' ∧ r = .lit (.int .i64 (ixF p xs)) := by
  refine WC_fn Tryz.func54 rfl rfl ?_
  have s1 := hv.isSl
  have s2 := hv.lenD
  have s3 := hv.one
  simp only [core, zrA, zrS, zrM, zrL, zrE, reduceCtorEq, zrD, ziE, ziL, ziN, Tryz.ntmps54, s1, s2, s3]
  refine WB_for xs.length (fun i t h => Ext H.n H h ∧ (∀ y ∈ xs.take i, p y = false) ∧ t.n = 19 ∧ t.get 0 = v ∧ t.get 1 = .fn (.func f) [] [.ptr b 0] ∧ t.get 7 = .lit (.int .i64 xs.length) ∧ t.get 8 = .lit (.int .i64 i)) ?_ ?_ _ _ ?_
  · rintro i t h hlt hc ⟨he, hn0, hn, g0, g1, g7, g8⟩ ih
    obtain ⟨x, hx⟩ : ∃ x, xs[i]? = some x := ⟨_, List.getElem?_eq_getElem hlt⟩
    obtain ⟨c, hc1, hld, hld0⟩ := hv.atE (T := tabOf Tryz.prog NT0) he RSet_z hx
    obtain rfl := RSet_is.1 hc1
    have ld0 : loadA (tabOf Tryz.prog NT0) h 28 (slB v) (slO v + i * 35) = some (.agg (setC x)) := (hld0 28 35 (by kernel_rfl) (by decide) (by decide)).trans rfl
    have hws := wrap_succ hlt (by omega)
    have hfx := hf h x he (List.mem_of_getElem? hx)
    simp only [core, zrA, zrS, zrM, zrL, zrE, reduceCtorEq, zrD, ziE, ziL, ziN, s1, s2, s3, hn, g0, g1, g7, g8, hlt, hc, ld0, hws]
    refine hfx.mono ?_
    rintro _ h2 ⟨e2, rfl⟩
    have E2 := he.trans (e2.mono he.1)
    cases hq : p x with
    | true =>
      have hd := idx_yes hx hq hn0
      simp only [core, zrA, zrS, zrM, zrL, zrE, reduceCtorEq, zrD, ziE, ziL, ziN, s1, s2, s3, hn, g0, g1, g7, g8, hlt, hc, hws, hq]
      first | exact ⟨E2, by rw [hd]⟩
    | false =>
      simp only [core, zrA, zrS, zrM, zrL, zrE, reduceCtorEq, zrD, ziE, ziL, ziN, s1, s2, s3, hn, g0, g1, g7, g8, hlt, hc, hws, hq]
      refine ih _ _ ⟨E2, take_none hx hq hn0, ?_⟩
      simp only [core, zrA, zrS, zrM, zrL, zrE, reduceCtorEq, zrD, ziE, ziL, ziN, hn, g0, g1, g7, g8]
  · rintro t h hc ⟨he, hn0, hn, g0, g1, g7, g8⟩
    rw [List.take_length] at hn0
    have hd := idx_no hn0
    simp only [core, zrA, zrS, zrM, zrL, zrE, reduceCtorEq, zrD, ziE, ziL, ziN, s1, s2, s3, hn, g0, g1, g7, g8, hc]
    first | exact ⟨he, by rw [hd]⟩
  · refine ⟨Ext.refl _ _, fun y hy => by simp at hy, ?_⟩
    simp only [core, zrA, zrS, zrM, zrL, zrE, reduceCtorEq, zrD, ziE, ziL, ziN]
    try ((repeat' apply And.intro) <;> first | rfl | trivial)
theorem knows1_x {H : AH} {b : Nat} {id : List UInt8} (x : SetD) (hb : H.at b = some (.cells [.lit (.string ⟨id.toArray⟩)] 9)) :
    WC Tryz.prog (tabOf Tryz.prog NT0) S0 40 [.agg (setC x), .ptr b 0] H fun r h' => Ext H.n H h' ∧ r = .lit (.bool (x.id == id)) := by
  refine WC_fn Tryz.func40 rfl rfl ?_
  have lb := at_lt hb
  obtain ⟨h0, hh0⟩ : ∃ h0, h0 = H.push (.cells (setC x) 28) := ⟨_, rfl⟩
  have E0 : Ext H.n H h0 := hh0 ▸ (Ext.refl _ _).push _ (Nat.le_refl _)
  have A1 : h0.at H.n = some (.cells (setC x) 28) := hh0 ▸ at_push_n _ _
  have A2 := (E0.2 _ lb).trans hb
  unfold setC at hh0 A1
  have L1 := ld_at (T := tabOf Tryz.prog NT0) A1
  have L2 := ld_at (T := tabOf Tryz.prog NT0) A2
  have l1 := at_lt A1
  have l2 := at_lt A2
  simp only [core, zrA, zrS, zrM, zrL, zrE, reduceCtorEq, zrD, ziE, ziL, ziN, Tryz.ntmps40, setC, ← hh0, L1, L2, l1, l2, pur_seq]
  first | exact ⟨E0, rfl⟩ | exact E0
theorem containsFS_x {F : Nat → Prop} {H : AH} {v : AV} {xs : List SetD} {f b : Nat} {p : SetD → Bool} (hv : IsSl RSet F H v xs) (hl : xs.length ≤ 1000000)
    (hf : ∀ h x, Ext H.n H h → x ∈ xs → WC Tryz.prog (tabOf Tryz.prog NT0) S0 f [.agg (setC x), .ptr b 0] h fun r h' => Ext h.n h h' ∧ r = .lit (.bool (p x))) :
    WC Tryz.prog (tabOf Tryz.prog NT0) S0 39 [v, .fn (.func f) [] [.ptr b 0]] H fun r h' => Ext H.n H h' ∧ r = .lit (.bool (xs.any p)) := by
  refine WC_fn Tryz.func39 rfl rfl ?_
  have s1 := hv.isSl
  have s3 := hv.one
  simp only [core, zrA, zrS, zrM, zrL, zrE, reduceCtorEq, zrD, ziE, ziL, ziN, Tryz.ntmps39, s1, s3]
  refine (indexFS_x hv hl hf).mono ?_
  rintro _ h2 ⟨E2, rfl⟩
  have hd := idx_any (p := p) (xs := xs)
  simp only [core, zrA, zrS, zrM, zrL, zrE, reduceCtorEq, zrD, ziE, ziL, ziN]
  first | exact ⟨E2, by rw [hd]⟩ | (rw [hd]; exact ⟨E2, rfl⟩) | done
/-- What is asked of a root's texts. -/
structure RLen (r : RootD) : Prop where
  o : ∀ x ∈ r.ops, x.length ≤ 1100000
  s : ∀ s ∈ r.live, s.id.length ≤ 1100000 ∧ s.name.length ≤ 1100000
theorem chk_len {r : RootD} (h : chkF r = 0) : r.ops.length ≤ 16 ∧ r.live.length ≤ 16 := by
  unfold chkF at h
  split at h
  · rename_i hh; exact ⟨hh.1, hh.2.1⟩
  · cases h
def knowsF (r : RootD) (id : List UInt8) : Bool := decide (chkF r = 0) && ((r.ops.any fun x => id == x) || r.live.any fun s => s.id == id)
theorem Knows_x {F : Nat → Prop} {H : AH} {vl vo : AV} {r : RootD} {id : List UInt8} (hl : IsSl RSet F H vl r.live) (ho : IsSl RTx F H vo r.ops) (hr : RLen r) :
    WC Tryz.prog (tabOf Tryz.prog NT0) S0 19 [.agg [vl, vo], .lit (.string ⟨id.toArray⟩)] H fun v h' => Ext H.n H h' ∧ v = .lit (.bool (knowsF r id)) := by
  refine WC_fn Tryz.func19 rfl rfl ?_
  have l1 := hl.one
  have l2 := hl.isSl
  have o1 := ho.one
  have o2 := ho.isSl
  obtain ⟨hp, hhp⟩ : ∃ hp, hp = H.push (.cells [vl, vo] 25) := ⟨_, rfl⟩
  obtain ⟨hq, hhq⟩ : ∃ hq, hq = hp.push (.cells [.lit (.string ⟨id.toArray⟩)] 9) := ⟨_, rfl⟩
  have EP : Ext H.n H hp := hhp ▸ (Ext.refl _ _).push _ (Nat.le_refl _)
  have P0 : hp.at H.n = some (.cells [vl, vo] 25) := hhp ▸ at_push_n _ _
  have EQ : Ext hp.n hp hq := hhq ▸ (Ext.refl _ _).push _ (Nat.le_refl _)
  have Q1 : hq.at hp.n = some (.cells [.lit (.string ⟨id.toArray⟩)] 9) := hhq ▸ at_push_n _ _
  have P1 := (EQ.2 _ (at_lt P0)).trans P0
  have LP := ld_at (T := tabOf Tryz.prog NT0) P1
  have lP := at_lt P1
  have lQ := at_lt Q1
  have E0 := EP.trans (EQ.mono EP.1)
  simp only [core, zrA, zrS, zrM, zrL, zrE, reduceCtorEq, zrD, ziE, ziL, ziN, Tryz.ntmps19, l1, l2, o1, o2, ← hhp, ← hhq, LP, lP]
  refine (CheckRoot_x (hl.ext E0 (Nat.le_refl _)) (ho.ext E0 (Nat.le_refl _)) hr.o hr.s).mono ?_
  rintro _ h2 ⟨E2, rfl⟩
  have E02 := E0.trans (E2.mono E0.1)
  have P2 := (E2.2 _ lP).trans P1
  have Q2 := (E2.2 _ lQ).trans Q1
  have LP2 := ld_at (T := tabOf Tryz.prog NT0) P2
  have lP2 := at_lt P2
  have LQ2 := ld_at (T := tabOf Tryz.prog NT0) Q2
  have lQ2 := at_lt Q2
  cases hk : decide (chkF r = 0) with
  | false =>
    have hb : (chkF r != 0) = true := by rw [bne, beq_eq_false_iff_ne.2 (of_decide_eq_false hk)]; rfl
    have hkn : knowsF r id = false := by unfold knowsF; rw [hk]; rfl
    simp only [core, zrA, zrS, zrM, zrL, zrE, reduceCtorEq, zrD, ziE, ziL, ziN, hb, hkn]
    first | exact ⟨E02, rfl⟩ | exact E02
  | true =>
  have hc := of_decide_eq_true hk
  have hb : (chkF r != 0) = false := by rw [hc]; rfl
  obtain ⟨n1, n2⟩ := chk_len hc
  simp only [core, zrA, zrS, zrM, zrL, zrE, reduceCtorEq, zrD, ziE, ziL, ziN, hb, LP2, lP2, LQ2, lQ2, o1, o2]
  refine (containsT_x (ho.ext E02 (Nat.le_refl _)) (by omega)).mono ?_
  rintro _ h3 ⟨E3, rfl⟩
  have E03 := E02.trans (E3.mono E02.1)
  have P3 := (E3.2 _ lP2).trans P2
  have Q3 := (E3.2 _ lQ2).trans Q2
  have LP3 := ld_at (T := tabOf Tryz.prog NT0) P3
  have lP3 := at_lt P3
  have lQ3 := at_lt Q3
  cases hm : r.ops.any (fun x => id == x) with
  | true =>
    have hkn : knowsF r id = true := by unfold knowsF; rw [hk, hm]; rfl
    simp only [core, zrA, zrS, zrM, zrL, zrE, reduceCtorEq, zrD, ziE, ziL, ziN, aundef, hkn]
    first | exact ⟨E03, rfl⟩ | exact E03
  | false =>
  simp only [core, zrA, zrS, zrM, zrL, zrE, reduceCtorEq, zrD, ziE, ziL, ziN, aundef, LP3, lP3, l1, l2]
  refine (containsFS_x (hl.ext E03 (Nat.le_refl _)) (by omega) (fun h x he hx => knows1_x x ((he.2 _ lQ3).trans Q3))).mono ?_
  rintro _ h4 ⟨E4, rfl⟩
  have E04 := E03.trans (E4.mono E03.1)
  have hkn : knowsF r id = r.live.any (fun s => s.id == id) := by unfold knowsF; rw [hk, hm]; simp
  simp only [core, zrA, zrS, zrM, zrL, zrE, reduceCtorEq, zrD, ziE, ziL, ziN, aundef, hkn]
  first | exact ⟨E04, rfl⟩ | exact E04
def zSet : List AV := [.lit (.string ⟨#[]⟩), .lit (.string ⟨#[]⟩), .lit (.int .i64 0), .lit (.int .u8 0), .lit (.int .u8 0), .lit (.int .u8 0), .lit (.int .u8 0), .lit (.int .u8 0), .lit (.int .u8 0), .lit (.int .u8 0), .lit (.int .u8 0), .lit (.int .u8 0), .lit (.int .u8 0), .lit (.int .u8 0), .lit (.int .u8 0), .lit (.int .u8 0), .lit (.int .u8 0), .lit (.int .u8 0), .lit (.int .u8 0), .lit (.int .u8 0), .lit (.int .u8 0), .lit (.int .u8 0), .lit (.int .u8 0), .lit (.int .u8 0), .lit (.int .u8 0), .lit (.int .u8 0), .lit (.int .u8 0), .lit (.int .u8 0), .lit (.int .u8 0), .lit (.int .u8 0), .lit (.int .u8 0), .lit (.int .u8 0), .lit (.int .u8 0), .lit (.int .u8 0), .lit (.int .u8 0)]
theorem zSet_eq : setC set0 = zSet := rfl
def findF (r : RootD) (name : List UInt8) : Option SetD := if chkF r = 0 then r.live.find? fun s => s.name == name else none
theorem find_yes' {r : RootD} {name : List UInt8} {i : Nat} {x : SetD} (hc : chkF r = 0) (hx : r.live[i]? = some x) (hq : (x.name == name) = true) (hf : ∀ y ∈ r.live.take i, (y.name == name) = false) : findF r name = some x := by
  unfold findF
  rw [if_pos hc]
  obtain ⟨hi, rfl⟩ := List.getElem?_eq_some_iff.1 hx
  refine List.find?_eq_some_iff_getElem.2 ⟨hq, i, hi, rfl, fun j hj => ?_⟩
  have := hf r.live[j] (List.mem_take_iff_getElem.2 ⟨j, by omega, rfl⟩)
  rw [this]; rfl
theorem Find_x {F : Nat → Prop} {H : AH} {vl vo : AV} {r : RootD} {name : List UInt8} (hl : IsSl RSet F H vl r.live) (ho : IsSl RTx F H vo r.ops) (hr : RLen r) :
    WC Tryz.prog (tabOf Tryz.prog NT0) S0 14 [.agg [vl, vo], .lit (.string ⟨name.toArray⟩)] H fun v h' => Ext H.n H h' ∧ v = .tup [.agg (setC ((findF r name).getD set0)), .lit (.bool (findF r name).isSome)] := by
  refine WC_fn Tryz.func14 rfl rfl ?_
  have l1 := hl.one
  have l2 := hl.isSl
  have l3 := hl.lenD
  have o1 := ho.one
  have o2 := ho.isSl
  obtain ⟨m, hM⟩ : ∃ m, m = r.live.length := ⟨_, rfl⟩
  rw [← hM] at l3
  obtain ⟨hp, hhp⟩ : ∃ hp, hp = H.push (.cells [vl, vo] 25) := ⟨_, rfl⟩
  obtain ⟨hq, hhq⟩ : ∃ hq, hq = hp.push (.cells zSet 28) := ⟨_, rfl⟩
  have EP : Ext H.n H hp := hhp ▸ (Ext.refl _ _).push _ (Nat.le_refl _)
  have P0 : hp.at H.n = some (.cells [vl, vo] 25) := hhp ▸ at_push_n _ _
  have EQ : Ext hp.n hp hq := hhq ▸ (Ext.refl _ _).push _ (Nat.le_refl _)
  have Q1 : hq.at hp.n = some (.cells zSet 28) := hhq ▸ at_push_n _ _
  have nP : hp.n = H.n + 1 := by rw [hhp, n_push]
  have P1 := (EQ.2 _ (at_lt P0)).trans P0
  have LP := ld_at (T := tabOf Tryz.prog NT0) P1
  have lP := at_lt P1
  have lQ := at_lt Q1
  have E0 := EP.trans (EQ.mono EP.1)
  unfold zSet at hhq Q1
  simp only [core, zrA, zrS, zrM, zrL, zrE, reduceCtorEq, zrD, ziE, ziL, ziN, Tryz.ntmps14, l1, l2, o1, o2, ← hhp, ← hhq, LP, lP]
  refine (CheckRoot_x (hl.ext E0 (Nat.le_refl _)) (ho.ext E0 (Nat.le_refl _)) hr.o hr.s).mono ?_
  rintro _ h2 ⟨E2, rfl⟩
  have E02 := E0.trans (E2.mono E0.1)
  have P2 := (E2.2 _ lP).trans P1
  have Q2 := (E2.2 _ lQ).trans Q1
  have lP2 := at_lt P2
  have lQ2 := at_lt Q2
  cases hk : decide (chkF r = 0) with
  | false =>
    have hb : (chkF r != 0) = true := by rw [bne, beq_eq_false_iff_ne.2 (of_decide_eq_false hk)]; rfl
    have hkn : findF r name = none := by unfold findF; rw [if_neg (of_decide_eq_false hk)]
    obtain ⟨h3, hh3⟩ : ∃ h3, h3 = h2.put hp.n (.cells zSet 28) := ⟨_, rfl⟩
    have E3 : Ext H.n H h3 := hh3 ▸ E02.put _ (by omega)
    have Q3 : h3.at hp.n = some (.cells zSet 28) := hh3 ▸ at_put_same _ lQ2
    have lQ3 := at_lt Q3
    unfold zSet at hh3 Q3
    have LQ3 := ld_at (T := tabOf Tryz.prog NT0) Q3
    simp only [core, zrA, zrS, zrM, zrL, zrE, reduceCtorEq, zrD, ziE, ziL, ziN, hb, hkn, Q2, lQ2, ← hh3, LQ3, lQ3, Option.getD_none, Option.isSome_none, zSet_eq]
    unfold zSet
    first | exact ⟨E3, rfl⟩ | exact E3
  | true =>
  have hc := of_decide_eq_true hk
  have hb : (chkF r != 0) = false := by rw [hc]; rfl
  obtain ⟨n1, n2⟩ := chk_len hc
  have LP2 := ld_at (T := tabOf Tryz.prog NT0) P2
  simp only [core, zrA, zrS, zrM, zrL, zrE, reduceCtorEq, zrD, ziE, ziL, ziN, hb, LP2, lP2, l1, l2, l3]
  refine WB_for m (fun i t h => Ext H.n H h ∧ h.at hp.n = some (.cells zSet 28) ∧ (∀ y ∈ r.live.take i, (y.name == name) = false) ∧ t.n = 26 ∧ t.get 1 = .lit (.string ⟨name.toArray⟩) ∧ t.get 4 = .ptr hp.n 0 ∧ t.get 13 = vl ∧ t.get 14 = .lit (.int .i64 m) ∧ t.get 15 = .lit (.int .i64 i)) ?_ ?_ _ _ ?_
  · rintro i t h hlt hc2 ⟨E, Q, hn0, hn, g1, g4, g13, g14, g15⟩ ih
    have hwi := wrap_succ (n := m) hlt (by omega)
    obtain ⟨x, hx⟩ : ∃ x, r.live[i]? = some x := ⟨_, List.getElem?_eq_getElem (by omega)⟩
    obtain ⟨cc, hc1, hld, hld0⟩ := hl.atE (T := tabOf Tryz.prog NT0) E RSet_z hx
    obtain rfl := RSet_is.1 hc1
    obtain ⟨hA, hhA⟩ : ∃ hA, hA = h.push (.cells (setC x) 28) := ⟨_, rfl⟩
    have eA : Ext h.n h hA := hhA ▸ (Ext.refl _ _).push _ (Nat.le_refl _)
    have XA : hA.at h.n = some (.cells (setC x) 28) := hhA ▸ at_push_n _ _
    have EA := E.trans (eA.mono E.1)
    have QA := (eA.2 _ (at_lt Q)).trans Q
    have lQA := at_lt QA
    have LXA := ld_at (T := tabOf Tryz.prog NT0) XA
    have lXA := at_lt XA
    cases hq : (x.name == name) with
    | true =>
      have hf := find_yes' hc hx hq hn0
      obtain ⟨h3, hh3⟩ : ∃ h3, h3 = hA.put hp.n (.cells (setC x) 28) := ⟨_, rfl⟩
      have E3 : Ext H.n H h3 := hh3 ▸ EA.put _ (by omega)
      have Q3 : h3.at hp.n = some (.cells (setC x) 28) := hh3 ▸ at_put_same _ lQA
      have lQ3 := at_lt Q3
      unfold zSet at QA
      have LQ3 := ld_at (T := tabOf Tryz.prog NT0) Q3
      rw [hf]
      unfold setC at hhA XA hld hld0 LXA LQ3 hh3 ⊢
      simp only [core, zrA, zrS, zrM, zrL, zrE, reduceCtorEq, zrD, ziE, ziL, ziN, hn, g1, g4, g13, g14, g15, hlt, hc2, l1, l2, l3, hld, hld0, ← hhA, LXA, lXA, pur_seq, hq, QA, lQA, ← hh3, LQ3, lQ3, Option.getD_some, Option.isSome_some]
      first | exact ⟨E3, rfl⟩ | exact E3
    | false =>
      unfold setC at hhA XA hld hld0 LXA
      simp only [core, zrA, zrS, zrM, zrL, zrE, reduceCtorEq, zrD, ziE, ziL, ziN, hn, g1, g4, g13, g14, g15, hlt, hc2, l1, l2, l3, hld, hld0, ← hhA, LXA, lXA, pur_seq, hq, hwi]
      refine ih _ _ ⟨EA, QA, take_none (p := fun s : SetD => s.name == name) hx hq hn0, ?_⟩
      simp only [core, zrA, zrS, zrM, zrL, zrE, reduceCtorEq, zrD, ziE, ziL, ziN, hn, g1, g4, g13, g14, g15]
  · rintro t h hc2 ⟨E, Q, hn0, hn, g1, g4, g13, g14, g15⟩
    rw [hM, List.take_length] at hn0
    have hkn : findF r name = none := by
      unfold findF
      rw [if_pos hc]
      exact List.find?_eq_none.2 fun x hx => by rw [hn0 x hx]; decide
    obtain ⟨h3, hh3⟩ : ∃ h3, h3 = h.put hp.n (.cells zSet 28) := ⟨_, rfl⟩
    have lQ := at_lt Q
    have E3 : Ext H.n H h3 := hh3 ▸ E.put _ (by omega)
    have Q3 : h3.at hp.n = some (.cells zSet 28) := hh3 ▸ at_put_same _ lQ
    have lQ3 := at_lt Q3
    unfold zSet at hh3 Q3 Q
    have LQ3 := ld_at (T := tabOf Tryz.prog NT0) Q3
    simp only [core, zrA, zrS, zrM, zrL, zrE, reduceCtorEq, zrD, ziE, ziL, ziN, hn, g1, g4, g13, g14, g15, hc2, hkn, Q, lQ, ← hh3, LQ3, lQ3, Option.getD_none, Option.isSome_none, zSet_eq]
    unfold zSet
    first | exact ⟨E3, rfl⟩ | exact E3
  · refine ⟨E02, Q2, fun y hy => by simp at hy, ?_⟩
    simp only [core, zrA, zrS, zrM, zrL, zrE, reduceCtorEq, zrD, ziE, ziL, ziN]
    try ((repeat' apply And.intro) <;> first | rfl | trivial)
end Go.Proofs.YtdcmfchodooolaaGreatDoor.Ex
end

section

set_option linter.unusedSimpArgs false
set_option linter.unusedVariables false
set_option maxRecDepth 10000
set_option maxHeartbeats 4000000
namespace Go.Proofs.YtdcmfchodooolaaGreatDoor.Ex
open Go
theorem WB_forS {P : Program} {T : TT} {S : Sums} {E : FE} {k : List AI} {K : KK} {c : Code} (a n : Nat) (ha : a ≤ n) (Inv : Nat → TM → AH → Prop)
    (step : ∀ i t h, a ≤ i → i < n → ((i : Int) < (n : Int)) = True → Inv i t h → (∀ t' h', Inv (i + 1) t' h' → WB P T S E t' (.lp c :: k) h' K) → WB P T S E t (.code c :: .lp c :: k) h K)
    (leave : ∀ t h, ((n : Int) < (n : Int)) = False → Inv n t h → WB P T S E t (.code c :: .lp c :: k) h K) : ∀ t h, Inv a t h → WB P T S E t (.lp c :: k) h K := by
  intro t h h0
  refine WB_ind (fun (i : Nat) t h => a ≤ i ∧ i ≤ n ∧ Inv i t h) (fun i => n - i) ?_ a t h ⟨Nat.le_refl _, ha, h0⟩
  rintro i t h ⟨ha', hi, hI⟩ ih
  by_cases hlt : i < n
  · exact step i t h ha' hlt (by simp; omega) hI fun t' h' hI' => ih (i + 1) t' h' ⟨by omega, hlt, hI'⟩ (by omega)
  · obtain rfl : i = n := by omega
    exact leave t h (by simp) hI
theorem put_app {a b t vs : List AV} {i : Nat} (h : put a i vs = some b) : put (a ++ t) i vs = some (b ++ t) := by
  unfold put at h ⊢
  split at h
  · rename_i hi
    rw [if_pos (by rw [List.length_append]; omega)]
    cases h
    rw [List.take_append_of_le_length (by omega), List.drop_append_of_le_length (by omega)]
    simp only [List.append_assoc]
  · cases h
section
variable {α : Type} {cf : α → List AV} {z : Nat}
theorem clear_x {T : TT} {h : AH} {t e e' : TypeId} {zv v : AV} {p n i n0 : Nat} {l : List α} {tail : List AV} (hu : und T t = some (.slice e)) (hzv : zeroT T e = some zv) (hzl : zv.cells.length = z) (h1 : zv.cells.all AV.one = true) (hl : ∀ x, (cf x).length = z) (hi : i ≤ n) (hn : l.length = n) (hp0 : n0 ≤ p)
    (hat : h.at p = some (.cells (l.flatMap cf ++ tail) e')) (hv : v = .sl p 0 n (.un z)) : ∃ h' l', clearA T h t (subSl z i n v) = some h' ∧ h'.at p = some (.cells ((l.take i).flatMap cf ++ l') e') ∧ Ext n0 h h' ∧ ∀ c, c ≠ p → h'.at c = h.at c := by
  subst hv
  simp only [zeroT, Option.map_eq_some_iff] at hzv
  obtain ⟨ii, hii, rfl⟩ := hzv
  by_cases hni : n - i = 0
  · refine ⟨h, tail, ?_, ?_, Ext.refl _ _, fun _ _ => rfl⟩
    · unfold clearA
      rw [hu]
      simp only [subSl, hni]
      rfl
    · rw [List.take_of_length_le (by omega)]; exact hat
  · have hb : Nat.beq (n - i) 0 = false := by
      rw [Bool.eq_false_iff]; intro hh; exact hni (Nat.eq_of_beq_eq_true hh)
    have hg : getB h p = some (l.flatMap cf ++ tail, e') := by unfold getB; rw [hat]
    have hall : (rep ii.zero.cells (n - i)).all AV.one = true := by
      generalize n - i = k
      induction k with
      | zero => rfl
      | succ k ih => unfold rep; rw [List.all_append, h1, ih]; rfl
    have hrl : (rep ii.zero.cells (n - i)).length = (n - i) * z := by rw [rep_length, hzl]
    have hil : i * z + (n - i) * z = n * z := by rw [← Nat.add_mul]; congr 1; omega
    have hfl := flatMap_len hl l
    have hti := flatMap_len hl (l.take i)
    rw [List.length_take, Nat.min_eq_left (by omega)] at hti
    have hput : put (l.flatMap cf ++ tail) (i * z) (rep ii.zero.cells (n - i)) = some ((l.take i).flatMap cf ++ (rep ii.zero.cells (n - i) ++ tail)) := by
      unfold put
      rw [if_pos (by rw [hrl, List.length_append, hfl, hn]; omega)]
      congr 1
      have hsp : l.flatMap cf = (l.take i).flatMap cf ++ (l.drop i).flatMap cf := by rw [← List.flatMap_append, List.take_append_drop]
      have t1 : (l.flatMap cf ++ tail).take (i * z) = (l.take i).flatMap cf := by rw [hsp, List.append_assoc, List.take_left' hti]
      have t2 : (l.flatMap cf ++ tail).drop (i * z + (rep ii.zero.cells (n - i)).length) = tail := by rw [hrl, hil, ← hn, ← hfl, List.drop_left' rfl]
      rw [t1, t2, List.append_assoc]
    refine ⟨h.put p (.cells ((l.take i).flatMap cf ++ (rep ii.zero.cells (n - i) ++ tail)) e'), _, ?_, at_put_same _ (at_lt hat), (Ext.refl _ _).put _ hp0, fun c hc => at_put_ne _ (Ne.symm hc)⟩
    unfold clearA
    rw [hu]
    simp only [subSl, hb, hii, hg, hall, cond_false, cond_true, Nat.zero_add, hput]
    rfl
end
section
variable {P : Program} {T : TT} {t : TM} {h : AH} {d : Option Tmp} {ty e : TypeId} {ps : String} {af : Array Edge} {g : Option (Nat × Bool)}
theorem a_clear {i : Nat} {ty' : TypeId} : aop P T ⟨d, .call ⟨.builtin .clear, #[.tmp i], #[ty']⟩, ty, ps, af, g⟩ t h = (clearA T h ty' (t.get i)).map fun h' => (.val (.tup []), h') := rfl
end
theorem indexFT_x {F : Nat → Prop} {H : AH} {v : AV} {xs : List (List UInt8)} {f b : Nat} {p : List UInt8 → Bool} {box : AB} (hv : IsSl RTx F H v xs) (hl : xs.length ≤ 1000000) (hb : H.at b = some box)
    (hf : ∀ h x, h.at b = some box → x ∈ xs → WC Tryz.prog (tabOf Tryz.prog NT0) S0 f [.lit (.string ⟨x.toArray⟩), .ptr b 0] h fun r h' => Ext h.n h h' ∧ r = .lit (.bool (p x))) :
    WC Tryz.prog (tabOf Tryz.prog NT0) S0 55 [v, .fn (.func f) [] [.ptr b 0]] H fun r h' => Ext H.n H h' ∧ r = .lit (.int .i64 (ixF p xs)) := by
  refine WC_fn Tryz.func55 rfl rfl ?_
  have s1 := hv.isSl
  have s2 := hv.lenD
  have s3 := hv.one
  simp only [core, zrA, zrS, zrM, zrL, zrE, reduceCtorEq, zrD, ziE, ziL, ziN, Tryz.ntmps55, s1, s2, s3]
  refine WB_for xs.length (fun i t h => Ext H.n H h ∧ (∀ y ∈ xs.take i, p y = false) ∧ t.n = 19 ∧ t.get 0 = v ∧ t.get 1 = .fn (.func f) [] [.ptr b 0] ∧ t.get 7 = .lit (.int .i64 xs.length) ∧ t.get 8 = .lit (.int .i64 i)) ?_ ?_ _ _ ?_
  · rintro i t h hlt hc ⟨he, hn0, hn, g0, g1, g7, g8⟩ ih
    obtain ⟨x, hx⟩ : ∃ x, xs[i]? = some x := ⟨_, List.getElem?_eq_getElem hlt⟩
    obtain ⟨c, hc1, hld, hld0⟩ := hv.atE (T := tabOf Tryz.prog NT0) he RTx_z hx
    obtain rfl := RTx_is.1 hc1
    have ld0 : loadA (tabOf Tryz.prog NT0) h 9 (slB v) (slO v + i) = some (.lit (.string ⟨x.toArray⟩)) := by
      have ld := hld0 9 1 (by kernel_rfl) (by decide) (by decide)
      rw [Nat.mul_one] at ld
      rw [ld]
      rfl
    have hws := wrap_succ hlt (by omega)
    have hfx := hf h x ((he.2 _ (at_lt hb)).trans hb) (List.mem_of_getElem? hx)
    simp only [core, zrA, zrS, zrM, zrL, zrE, reduceCtorEq, zrD, ziE, ziL, ziN, s1, s2, s3, hn, g0, g1, g7, g8, hlt, hc, ld0, hws]
    refine hfx.mono ?_
    rintro _ h2 ⟨e2, rfl⟩
    have E2 := he.trans (e2.mono he.1)
    cases hq : p x with
    | true =>
      have hd := idx_yes hx hq hn0
      simp only [core, zrA, zrS, zrM, zrL, zrE, reduceCtorEq, zrD, ziE, ziL, ziN, s1, s2, s3, hn, g0, g1, g7, g8, hlt, hc, hws, hq]
      first | exact ⟨E2, by rw [hd]⟩
    | false =>
      simp only [core, zrA, zrS, zrM, zrL, zrE, reduceCtorEq, zrD, ziE, ziL, ziN, s1, s2, s3, hn, g0, g1, g7, g8, hlt, hc, hws, hq]
      refine ih _ _ ⟨E2, take_none hx hq hn0, ?_⟩
      simp only [core, zrA, zrS, zrM, zrL, zrE, reduceCtorEq, zrD, ziE, ziL, ziN, hn, g0, g1, g7, g8]
  · rintro t h hc ⟨he, hn0, hn, g0, g1, g7, g8⟩
    rw [List.take_length] at hn0
    have hd := idx_no hn0
    simp only [core, zrA, zrS, zrM, zrL, zrE, reduceCtorEq, zrD, ziE, ziL, ziN, s1, s2, s3, hn, g0, g1, g7, g8, hc]
    first | exact ⟨he, by rw [hd]⟩
  · refine ⟨Ext.refl _ _, fun y hy => by simp at hy, ?_⟩
    simp only [core, zrA, zrS, zrM, zrL, zrE, reduceCtorEq, zrD, ziE, ziL, ziN]
    try ((repeat' apply And.intro) <;> first | rfl | trivial)
theorem filter_step {α : Type} {p : α → Bool} {xs : List α} {j : Nat} {x : α} (hx : xs[j]? = some x) : (xs.take (j + 1)).filter (fun x => !p x) = (xs.take j).filter (fun x => !p x) ++ bif p x then [] else [x] := by
  obtain ⟨h1, h2⟩ := List.getElem?_eq_some_iff.1 hx
  rw [List.take_succ_eq_append_getElem h1, h2, List.filter_append]
  cases h : p x <;> simp [h]
theorem filter_none {α : Type} {p : α → Bool} {xs : List α} (hn : ∀ y ∈ xs, p y = false) : xs.filter (fun x => !p x) = xs := List.filter_eq_self.2 fun x hx => by rw [hn x hx]; rfl
/-- The state of the work: what is kept, what is not yet looked at. -/
structure DelS {α : Type} (p : α → Bool) (xs l : List α) (i j : Nat) : Prop where
  len : l.length = xs.length
  lt : i < j
  le : j ≤ xs.length
  kept : l.take i = (xs.take j).filter fun x => !p x
  rest : l.drop j = xs.drop j
theorem DelS.get {α : Type} {p : α → Bool} {xs l : List α} {i j : Nat} {x : α} (hs : DelS p xs l i j) (hx : xs[j]? = some x) : l[j]? = some x := by
  have h := congrArg (fun a : List α => a[0]?) hs.rest
  simp only [List.getElem?_drop, Nat.add_zero] at h
  rw [h, hx]
theorem DelS.skip {α : Type} {p : α → Bool} {xs l : List α} {i j : Nat} {x : α} (hs : DelS p xs l i j) (hx : xs[j]? = some x) (hp : p x = true) : DelS p xs l i (j + 1) :=
  ⟨hs.len, by have := hs.lt; omega, by have := (List.getElem?_eq_some_iff.1 hx).1; omega, by rw [hs.kept, filter_step hx, hp]; simp, by
    have h := congrArg (fun a : List α => a.drop 1) hs.rest
    simpa only [List.drop_drop] using h⟩
theorem DelS.keep {α : Type} {p : α → Bool} {xs l : List α} {i j : Nat} {x : α} (hs : DelS p xs l i j) (hx : xs[j]? = some x) (hp : p x = false) : DelS p xs (l.set i x) (i + 1) (j + 1) := by
  have hj := (List.getElem?_eq_some_iff.1 hx).1
  have h1 := hs.lt
  have h2 := hs.len
  refine ⟨by simp [h2], by omega, by omega, ?_, ?_⟩
  · have : (l.set i x)[i]? = some x := by rw [List.getElem?_set_self (by omega)]
    obtain ⟨q1, q2⟩ := List.getElem?_eq_some_iff.1 this
    rw [List.take_succ_eq_append_getElem q1, q2, List.take_set_of_le (Nat.le_refl i), hs.kept, filter_step hx, hp]
    rfl
  · rw [List.drop_set_of_lt (by omega)]
    have h := congrArg (fun a : List α => a.drop 1) hs.rest
    simpa only [List.drop_drop] using h
theorem DelS.first {α : Type} {p : α → Bool} {xs : List α} {k : Nat} (h : xs.findIdx? p = some k) : DelS p xs xs k (k + 1) := by
  obtain ⟨h1, h2, h3⟩ := List.findIdx?_eq_some_iff_getElem.1 h
  refine ⟨rfl, by omega, by omega, ?_, rfl⟩
  rw [filter_step (List.getElem?_eq_getElem h1), h2, filter_none fun y hy => ?_]
  · simp
  · obtain ⟨j, hj, rfl⟩ := List.mem_take_iff_getElem.1 hy
    have := h3 j (by omega)
    simpa using this
theorem DelS.done {α : Type} {p : α → Bool} {xs l : List α} {i : Nat} (hs : DelS p xs l i xs.length) : l.take i = xs.filter fun x => !p x := by
  rw [hs.kept, List.take_length]
theorem deleteFT_x {n0 : Nat} {H : AH} {v : AV} {xs : List (List UInt8)} {f b : Nat} {p : List UInt8 → Bool} {box : AB} (ho : OwnX txC 1 n0 H v 9 xs) (hn0 : n0 ≤ H.n) (hl : xs.length ≤ 1000000) (hb : H.at b = some box) (hb0 : b < n0)
    (hf : ∀ h x, h.at b = some box → x ∈ xs → WC Tryz.prog (tabOf Tryz.prog NT0) S0 f [.lit (.string ⟨x.toArray⟩), .ptr b 0] h fun r h' => Ext h.n h h' ∧ r = .lit (.bool (p x))) :
    WC Tryz.prog (tabOf Tryz.prog NT0) S0 37 [v, .fn (.func f) [] [.ptr b 0]] H fun r h' => Ext n0 H h' ∧ OwnX txC 1 n0 h' r 9 (xs.filter fun x => !p x) ∧ ∀ c, c < H.n → Apart v c → h'.at c = H.at c := by
  refine WC_fn Tryz.func37 rfl rfl ?_
  have s1 := ho.isSl
  have s2 := ho.lenD
  have s3 := ho.one
  simp only [core, zrA, zrS, zrM, zrL, zrE, reduceCtorEq, zrD, ziE, ziL, ziN, Tryz.ntmps37, s1, s2, s3]
  refine (indexFT_x (ho.toSl (F := fun _ => True) flatTx fun _ _ => trivial) hl hb hf).mono ?_
  rintro _ h1 ⟨E1, rfl⟩
  have O1 := ho.ext E1 (Nat.le_refl _)
  have E01 : Ext n0 H h1 := E1.mono hn0
  have lb := at_lt hb
  cases hk : xs.findIdx? p with
  | none =>
    have h0 : ixF p xs = -1 := by unfold ixF; rw [hk]
    have hflt : xs.filter (fun x => !p x) = xs := filter_none (List.findIdx?_eq_none_iff.1 hk)
    have hm1 : ((-1 : Int) == -1) = true := rfl
    simp only [core, zrA, zrS, zrM, zrL, zrE, reduceCtorEq, zrD, ziE, ziL, ziN, h0, s1, s2, s3, hflt, hm1]
    exact ⟨E01, O1, fun c hc _ => E1.2 c hc⟩
  | some k =>
    have h0 : ixF p xs = (k : Int) := by unfold ixF; rw [hk]
    have hD0 := DelS.first hk
    have hkn := hD0.le
    have hkm : ((k : Int) == -1) = false := beq_eq_false_iff_ne.2 (by omega)
    obtain ⟨n, hN⟩ : ∃ n, n = xs.length := ⟨_, rfl⟩
    have w1 : IntKind.i64.wrap ((k : Int) + 1) = ((k + 1 : Nat) : Int) := (wrap_in (by omega) (by omega)).trans (by omega)
    rcases O1 with ⟨rfl, hx0⟩ | ⟨hx0, -⟩ | ⟨q, tail, hq, hv, hat⟩
    · rw [hx0] at hkn; simp at hkn
    · rw [hx0] at hkn; simp at hkn
    have jB : slB v = q := by rw [hv]; rfl
    have jO : slO v = 0 := by rw [hv]; rfl
    have hcap : CapOk 1 v := fun b off n cap e => by rw [hv] at e; cases e; rfl
    rw [← hN] at s2 hv
    simp only [core, zrA, zrS, zrM, zrL, zrE, reduceCtorEq, zrD, ziE, ziL, ziN, h0, s1, s2, s3, hkm, w1]
    refine WB_forS (k + 1) n (by omega) (fun j t h => Ext n0 H h ∧ H.n ≤ h.n ∧ (∀ c, c < H.n → c ≠ q → h.at c = H.at c) ∧ ∃ l i, DelS p xs l i j ∧ h.at q = some (.cells (l.flatMap txC ++ tail) 9) ∧ t.n = 42 ∧ t.get 0 = v ∧ t.get 1 = .fn (.func f) [] [.ptr b 0] ∧ t.get 5 = .lit (.int .i64 i) ∧ t.get 6 = .lit (.int .i64 j)) ?_ ?_ _ _ ?_
    · rintro j t h hkj hlt hc ⟨E, hHn, hK, l, i, hD, A, hn, g0, g1, g5, g6⟩ ih
      obtain ⟨x, hx⟩ : ∃ x, xs[j]? = some x := ⟨_, List.getElem?_eq_getElem (by omega)⟩
      have hlx := hD.get hx
      have hlen := hD.len
      have hij := hD.lt
      have hsl : IsSl RTx (fun _ => True) h v l := OwnX.toSl (n0 := n0) (e := 9) flatTx (.inr (.inr ⟨q, tail, hq, by rw [hv, hlen, hN], A⟩)) fun _ _ => trivial
      obtain ⟨c, hc1, hld, hld0⟩ := hsl.at (T := tabOf Tryz.prog NT0) RTx_z hlx
      obtain rfl := RTx_is.1 hc1
      have ld0 : loadA (tabOf Tryz.prog NT0) h 9 (slB v) (slO v + j) = some (.lit (.string ⟨x.toArray⟩)) := by
        have ld := hld0 9 1 (by kernel_rfl) (by decide) (by decide)
        rw [Nat.mul_one] at ld
        rw [ld]
        rfl
      rw [jB, jO, Nat.zero_add] at ld0
      have hws : IntKind.i64.wrap ((j : Int) + 1) = ((j + 1 : Nat) : Int) := (wrap_in (by omega) (by omega)).trans (by omega)
      have hwi : IntKind.i64.wrap ((i : Int) + 1) = ((i + 1 : Nat) : Int) := (wrap_in (by omega) (by omega)).trans (by omega)
      have hbh : h.at b = some box := (E.2 _ hb0).trans hb
      have hfx := hf h x hbh (List.mem_of_getElem? hx)
      simp only [core, zrA, zrS, zrM, zrL, zrE, reduceCtorEq, zrD, ziE, ziL, ziN, s1, s2, s3, jB, jO, hn, g0, g1, g5, g6, hlt, hc, ld0]
      refine hfx.mono ?_
      rintro _ h2 ⟨e2, rfl⟩
      have A2 := (e2.2 _ (at_lt A)).trans A
      have E2 : Ext n0 H h2 := E.trans (e2.mono (by omega))
      have lA2 := at_lt A2
      have hn2 := e2.1
      cases hq : p x with
      | true =>
        simp only [core, zrA, zrS, zrM, zrL, zrE, reduceCtorEq, zrD, ziE, ziL, ziN, s1, s2, s3, jB, jO, hn, g0, g1, g5, g6, hlt, hc, hws, hq]
        refine ih _ _ ⟨E2, by omega, fun c h1 h2 => (e2.2 c (by omega)).trans (hK c h1 h2), l, i, hD.skip hx hq, A2, ?_⟩
        simp only [core, zrA, zrS, zrM, zrL, zrE, reduceCtorEq, zrD, ziE, ziL, ziN, hn, g0, g1, g5, g6]
      | false =>
        have hput : put (l.flatMap txC ++ tail) i [AV.lit (.string ⟨x.toArray⟩)] = some ((l.set i x).flatMap txC ++ tail) := by
          have := put_app (t := tail) (put_el (cf := txC) (z := 1) (l := l) (i := i) (y := x) (fun _ => rfl) (by omega))
          rw [Nat.mul_one] at this
          exact this
        have hin : i < n := by omega
        simp only [corem, WB_cond_s, put, ldL, WB_label, List.nil_append, List.drop_zero, List.take_zero, zrA, zrS, zrM, zrL, zrE, reduceCtorEq, zrD, ziE, ziL, ziN, -put, s1, s2, s3, jB, jO, hn, g0, g1, g5, g6, hlt, hc, hws, hwi, hq, hin, A2, lA2, hput]
        refine ih _ _ ⟨E2.put _ (by omega), by rw [n_put]; omega, fun c h1 h2 => (at_put_ne _ (Ne.symm h2)).trans ((e2.2 c (by omega)).trans (hK c h1 h2)), l.set i x, i + 1, hD.keep hx hq, at_put_same _ lA2, ?_⟩
        simp only [core, zrA, zrS, zrM, zrL, zrE, reduceCtorEq, zrD, ziE, ziL, ziN, hn, g0, g1, g5, g6]
    · rintro t h hc ⟨E, hHn, hK, l, i, hD, A, hn, g0, g1, g5, g6⟩
      have hlen := hD.len
      have hij := hD.lt
      have y1 : ((0 : Int) ≤ (i : Int)) = True := by simp
      have y2 : ((i : Int) ≤ ((n : Nat) : Int)) = True := by simp; omega
      have y3 : (((n : Nat) : Int) ≤ ((n : Nat) : Int)) = True := by simp
      obtain ⟨h3, l', hclr, A3, E3, K3⟩ := clear_x (T := tabOf Tryz.prog NT0) (t := 23) (e := 9) (zv := .lit (.string ⟨#[]⟩)) (z := 1) (cf := txC) (by kernel_rfl) (by kernel_rfl) rfl rfl (fun _ => rfl) (show i ≤ n by omega) (by omega) hq A hv
      simp only [core, zrA, zrS, zrM, zrL, zrE, reduceCtorEq, zrD, ziE, ziL, ziN, s1, s2, s3, hn, g0, g1, g5, g6, hc, hcap, y1, y2, y3, a_clear, hclr]
      have hdn := (hN ▸ hD : DelS p xs l i xs.length).done
      have hli : i = (xs.filter fun x => !p x).length := by rw [← hdn, List.length_take]; omega
      exact ⟨E.trans E3, .inr (.inr ⟨q, l', hq, by rw [hv, ← hli]; simp [subSl, subCap], by rw [← hdn]; exact A3⟩), fun c h1 h2 => (K3 c fun hh => h2 0 n (.un 1) (by rw [hh]; exact hv)).trans (hK c h1 fun hh => h2 0 n (.un 1) (by rw [hh]; exact hv))⟩
    · refine ⟨E01, E1.1, fun c h1 _ => E1.2 c h1, xs, k, hD0, hat, ?_⟩
      simp only [core, zrA, zrS, zrM, zrL, zrE, reduceCtorEq, zrD, ziE, ziL, ziN, s3]
      try ((repeat' apply And.intro) <;> first | rfl | trivial)
end Go.Proofs.YtdcmfchodooolaaGreatDoor.Ex
end

section

set_option linter.unusedSimpArgs false
set_option linter.unusedVariables false
set_option maxRecDepth 10000
set_option maxHeartbeats 4000000
namespace Go.Proofs.YtdcmfchodooolaaGreatDoor.Ex
open Go
theorem deleteFS_x {n0 : Nat} {H : AH} {v : AV} {xs : List SetD} {f b : Nat} {p : SetD → Bool} {box : AB} (ho : OwnX setC 35 n0 H v 28 xs) (hn0 : n0 ≤ H.n) (hl : xs.length ≤ 1000000) (hb : H.at b = some box) (hb0 : b < n0)
    (hf : ∀ h x, h.at b = some box → x ∈ xs → WC Tryz.prog (tabOf Tryz.prog NT0) S0 f [.agg (setC x), .ptr b 0] h fun r h' => Ext h.n h h' ∧ r = .lit (.bool (p x))) :
    WC Tryz.prog (tabOf Tryz.prog NT0) S0 35 [v, .fn (.func f) [] [.ptr b 0]] H fun r h' => Ext n0 H h' ∧ OwnX setC 35 n0 h' r 28 (xs.filter fun x => !p x) ∧ ∀ c, c < H.n → Apart v c → h'.at c = H.at c := by
  refine WC_fn Tryz.func35 rfl rfl ?_
  have s1 := ho.isSl
  have s2 := ho.lenD
  have s3 := ho.one
  simp only [core, zrA, zrS, zrM, zrL, zrE, reduceCtorEq, zrD, ziE, ziL, ziN, Tryz.ntmps35, s1, s2, s3]
  refine (indexFS_x (ho.toSl (F := fun _ => True) flatSet fun _ _ => trivial) hl fun h x he hx => hf h x ((he.2 _ (at_lt hb)).trans hb) hx).mono ?_
  rintro _ h1 ⟨E1, rfl⟩
  have O1 := ho.ext E1 (Nat.le_refl _)
  have E01 : Ext n0 H h1 := E1.mono hn0
  have lb := at_lt hb
  cases hk : xs.findIdx? p with
  | none =>
    have h0 : ixF p xs = -1 := by unfold ixF; rw [hk]
    have hflt : xs.filter (fun x => !p x) = xs := filter_none (List.findIdx?_eq_none_iff.1 hk)
    have hm1 : ((-1 : Int) == -1) = true := rfl
    simp only [core, zrA, zrS, zrM, zrL, zrE, reduceCtorEq, zrD, ziE, ziL, ziN, h0, s1, s2, s3, hflt, hm1]
    exact ⟨E01, O1, fun c hc _ => E1.2 c hc⟩
  | some k =>
    have h0 : ixF p xs = (k : Int) := by unfold ixF; rw [hk]
    have hD0 := DelS.first hk
    have hkn := hD0.le
    have hkm : ((k : Int) == -1) = false := beq_eq_false_iff_ne.2 (by omega)
    obtain ⟨n, hN⟩ : ∃ n, n = xs.length := ⟨_, rfl⟩
    have w1 : IntKind.i64.wrap ((k : Int) + 1) = ((k + 1 : Nat) : Int) := (wrap_in (by omega) (by omega)).trans (by omega)
    rcases O1 with ⟨rfl, hx0⟩ | ⟨hx0, -⟩ | ⟨q, tail, hq, hv, hat⟩
    · rw [hx0] at hkn; simp at hkn
    · rw [hx0] at hkn; simp at hkn
    have jB : slB v = q := by rw [hv]; rfl
    have jO : slO v = 0 := by rw [hv]; rfl
    have hcap : CapOk 35 v := fun b off n cap e => by rw [hv] at e; cases e; rfl
    rw [← hN] at s2 hv
    simp only [core, zrA, zrS, zrM, zrL, zrE, reduceCtorEq, zrD, ziE, ziL, ziN, h0, s1, s2, s3, hkm, w1]
    refine WB_forS (k + 1) n (by omega) (fun j t h => Ext n0 H h ∧ H.n ≤ h.n ∧ (∀ c, c < H.n → c ≠ q → h.at c = H.at c) ∧ ∃ l i, DelS p xs l i j ∧ h.at q = some (.cells (l.flatMap setC ++ tail) 28) ∧ t.n = 42 ∧ t.get 0 = v ∧ t.get 1 = .fn (.func f) [] [.ptr b 0] ∧ t.get 5 = .lit (.int .i64 i) ∧ t.get 6 = .lit (.int .i64 j)) ?_ ?_ _ _ ?_
    · rintro j t h hkj hlt hc ⟨E, hHn, hK, l, i, hD, A, hn, g0, g1, g5, g6⟩ ih
      obtain ⟨x, hx⟩ : ∃ x, xs[j]? = some x := ⟨_, List.getElem?_eq_getElem (by omega)⟩
      have hlx := hD.get hx
      have hlen := hD.len
      have hij := hD.lt
      have hsl : IsSl RSet (fun _ => True) h v l := OwnX.toSl (n0 := n0) (e := 28) flatSet (.inr (.inr ⟨q, tail, hq, by rw [hv, hlen, hN], A⟩)) fun _ _ => trivial
      obtain ⟨c, hc1, hld, hld0⟩ := hsl.at (T := tabOf Tryz.prog NT0) RSet_z hlx
      obtain rfl := RSet_is.1 hc1
      have ld0 : loadA (tabOf Tryz.prog NT0) h 28 (slB v) (slO v + j * 35) = some (.agg (setC x)) := (hld0 28 35 (by kernel_rfl) (by decide) (by decide)).trans rfl
      rw [jB, jO, Nat.zero_add] at ld0
      obtain ⟨hA, hhA⟩ : ∃ hA, hA = h.push (.cells (setC x) 28) := ⟨_, rfl⟩
      have eA : Ext h.n h hA := hhA ▸ (Ext.refl _ _).push _ (Nat.le_refl _)
      have XA : hA.at h.n = some (.cells (setC x) 28) := hhA ▸ at_push_n _ _
      have EA := E.trans (eA.mono (by omega))
      have AA := (eA.2 _ (at_lt A)).trans A
      have LXA : loadA (tabOf Tryz.prog NT0) hA 28 h.n 0 = some (.agg (setC x)) := (ld_at (T := tabOf Tryz.prog NT0) XA _ _).trans rfl
      have lXA := at_lt XA
      have hws : IntKind.i64.wrap ((j : Int) + 1) = ((j + 1 : Nat) : Int) := (wrap_in (by omega) (by omega)).trans (by omega)
      have hwi : IntKind.i64.wrap ((i : Int) + 1) = ((i + 1 : Nat) : Int) := (wrap_in (by omega) (by omega)).trans (by omega)
      have hbh : hA.at b = some box := (EA.2 _ hb0).trans hb
      have hfx := hf hA x hbh (List.mem_of_getElem? hx)
      have hput : put (l.flatMap setC ++ tail) (i * 35) (setC x) = some ((l.set i x).flatMap setC ++ tail) := put_app (put_el (cf := setC) (z := 35) (fun _ => rfl) (by omega))
      unfold setC at ld0 hhA XA LXA hfx
      simp only [core, zrA, zrS, zrM, zrL, zrE, reduceCtorEq, zrD, ziE, ziL, ziN, s1, s2, s3, jB, jO, hn, g0, g1, g5, g6, hlt, hc, ld0, ← hhA, LXA, lXA]
      refine hfx.mono ?_
      rintro _ h2 ⟨e2, rfl⟩
      have A2 := (e2.2 _ (at_lt AA)).trans AA
      have X2 := (e2.2 _ lXA).trans XA
      have E2 : Ext n0 H h2 := EA.trans (e2.mono (by have := eA.1; omega))
      have lA2 := at_lt A2
      have hn2 := e2.1
      have hnA := eA.1
      cases hp : p x with
      | true =>
        simp only [core, zrA, zrS, zrM, zrL, zrE, reduceCtorEq, zrD, ziE, ziL, ziN, s1, s2, s3, jB, jO, hn, g0, g1, g5, g6, hlt, hc, hws, hp]
        refine ih _ _ ⟨E2, by omega, fun c h1 h2 => (e2.2 c (by omega)).trans ((eA.2 c (by omega)).trans (hK c h1 h2)), l, i, hD.skip hx hp, A2, ?_⟩
        simp only [core, zrA, zrS, zrM, zrL, zrE, reduceCtorEq, zrD, ziE, ziL, ziN, hn, g0, g1, g5, g6]
      | false =>
        have hin : i < n := by omega
        have lX2 := at_lt X2
        have LX2 := ld_at (T := tabOf Tryz.prog NT0) X2
        rw [setC.eq_1 x] at hput
        simp only [corem, WB_cond_s, put, ldL, WB_label, List.nil_append, List.drop_zero, List.take_zero, zrA, zrS, zrM, zrL, zrE, reduceCtorEq, zrD, ziE, ziL, ziN, -put, s1, s2, s3, jB, jO, hn, g0, g1, g5, g6, hlt, hc, hws, hwi, hp, hin, LX2, lX2, A2, lA2, hput]
        refine ih _ _ ⟨E2.put _ (by omega), by rw [n_put]; omega, fun c h1 h2 => (at_put_ne _ (Ne.symm h2)).trans ((e2.2 c (by omega)).trans ((eA.2 c (by omega)).trans (hK c h1 h2))), l.set i x, i + 1, hD.keep hx hp, at_put_same _ lA2, ?_⟩
        simp only [core, zrA, zrS, zrM, zrL, zrE, reduceCtorEq, zrD, ziE, ziL, ziN, hn, g0, g1, g5, g6]
    · rintro t h hc ⟨E, hHn, hK, l, i, hD, A, hn, g0, g1, g5, g6⟩
      have hlen := hD.len
      have hij := hD.lt
      have y1 : ((0 : Int) ≤ (i : Int)) = True := by simp
      have y2 : ((i : Int) ≤ ((n : Nat) : Int)) = True := by simp; omega
      have y3 : (((n : Nat) : Int) ≤ ((n : Nat) : Int)) = True := by simp
      obtain ⟨h3, l', hclr, A3, E3, K3⟩ := clear_x (T := tabOf Tryz.prog NT0) (t := 22) (e := 28) (zv := .agg (setC set0)) (z := 35) (cf := setC) (by kernel_rfl) (by kernel_rfl) rfl rfl (fun _ => rfl) (show i ≤ n by omega) (by omega) hq A hv
      simp only [core, zrA, zrS, zrM, zrL, zrE, reduceCtorEq, zrD, ziE, ziL, ziN, s1, s2, s3, hn, g0, g1, g5, g6, hc, hcap, y1, y2, y3, a_clear, hclr]
      have hdn := (hN ▸ hD : DelS p xs l i xs.length).done
      have hli : i = (xs.filter fun x => !p x).length := by rw [← hdn, List.length_take]; omega
      exact ⟨E.trans E3, .inr (.inr ⟨q, l', hq, by rw [hv, ← hli]; simp [subSl, subCap], by rw [← hdn]; exact A3⟩), fun c h1 h2 => (K3 c fun hh => h2 0 n (.un 35) (by rw [hh]; exact hv)).trans (hK c h1 fun hh => h2 0 n (.un 35) (by rw [hh]; exact hv))⟩
    · refine ⟨E01, E1.1, fun c h1 _ => E1.2 c h1, xs, k, hD0, hat, ?_⟩
      simp only [core, zrA, zrS, zrM, zrL, zrE, reduceCtorEq, zrD, ziE, ziL, ziN, s3]
      try ((repeat' apply And.intro) <;> first | rfl | trivial)
end Go.Proofs.YtdcmfchodooolaaGreatDoor.Ex
end

section

set_option linter.unusedSimpArgs false
set_option linter.unusedVariables false
set_option maxRecDepth 10000
set_option maxHeartbeats 4000000
namespace Go.Proofs.YtdcmfchodooolaaGreatDoor.Ex
open Go
/-- A root in the heap, its rows the run's own. -/
def OwnR (n0 : Nat) (h : AH) (v : AV) (r : RootD) : Prop := ∃ a b, v = .agg [a, b] ∧ OwnX setC 35 n0 h a 28 r.live ∧ OwnX txC 1 n0 h b 9 r.ops
def root0 : RootD := ⟨[], []⟩
theorem OwnR.zero {n0 : Nat} {h : AH} : OwnR n0 h (.agg [.lit (.slice none 0 0), .lit (.slice none 0 0)]) root0 := ⟨_, _, rfl, .inl ⟨rfl, rfl⟩, .inl ⟨rfl, rfl⟩⟩
theorem OwnR.mono {n0 n1 : Nat} {h : AH} {v : AV} {r : RootD} (ho : OwnR n0 h v r) (hn : n1 ≤ n0) : OwnR n1 h v r := by
  obtain ⟨a, b, h1, h2, h3⟩ := ho
  exact ⟨a, b, h1, h2.mono hn, h3.mono hn⟩
theorem OwnR.ext {n0 m : Nat} {h h' : AH} {v : AV} {r : RootD} (ho : OwnR n0 h v r) (he : Ext m h h') (hm : h.n ≤ m) : OwnR n0 h' v r := by
  obtain ⟨a, b, h1, h2, h3⟩ := ho
  exact ⟨a, b, h1, h2.ext he hm, h3.ext he hm⟩
theorem close1_x {H : AH} {b : Nat} {id x : List UInt8} (hb : H.at b = some (.cells [.lit (.string ⟨id.toArray⟩)] 9)) :
    WC Tryz.prog (tabOf Tryz.prog NT0) S0 38 [.lit (.string ⟨x.toArray⟩), .ptr b 0] H fun r h' => Ext H.n H h' ∧ r = .lit (.bool (x == id)) := by
  refine WC_fn Tryz.func38 rfl rfl ?_
  have L2 := ld_at (T := tabOf Tryz.prog NT0) hb
  have l2 := at_lt hb
  simp only [core, zrA, zrS, zrM, zrL, zrE, reduceCtorEq, zrD, ziE, ziL, ziN, Tryz.ntmps38, L2, l2, pur_seq]
  first | exact ⟨Ext.refl _ _, rfl⟩ | exact Ext.refl _ _
theorem delete1_x {H : AH} {b : Nat} {name : List UInt8} (x : SetD) (hb : H.at b = some (.cells [.lit (.string ⟨name.toArray⟩)] 9)) :
    WC Tryz.prog (tabOf Tryz.prog NT0) S0 36 [.agg (setC x), .ptr b 0] H fun r h' => Ext H.n H h' ∧ r = .lit (.bool (x.name == name)) := by
  refine WC_fn Tryz.func36 rfl rfl ?_
  have lb := at_lt hb
  obtain ⟨h0, hh0⟩ : ∃ h0, h0 = H.push (.cells (setC x) 28) := ⟨_, rfl⟩
  have E0 : Ext H.n H h0 := hh0 ▸ (Ext.refl _ _).push _ (Nat.le_refl _)
  have A1 : h0.at H.n = some (.cells (setC x) 28) := hh0 ▸ at_push_n _ _
  have A2 := (E0.2 _ lb).trans hb
  unfold setC at hh0 A1
  have L1 := ld_at (T := tabOf Tryz.prog NT0) A1
  have L2 := ld_at (T := tabOf Tryz.prog NT0) A2
  have l1 := at_lt A1
  have l2 := at_lt A2
  simp only [core, zrA, zrS, zrM, zrL, zrE, reduceCtorEq, zrD, ziE, ziL, ziN, Tryz.ntmps36, setC, ← hh0, L1, L2, l1, l2, pur_seq]
  first | exact ⟨E0, rfl⟩ | exact E0
def closeF (r : RootD) (id : List UInt8) : RootD × Bool := if chkF r = 0 ∧ (r.ops.any fun x => id == x) = true then (⟨r.live, r.ops.filter fun x => !(x == id)⟩, true) else (root0, false)
theorem Close_x {F : Nat → Prop} {H : AH} {vl vo : AV} {r : RootD} {id : List UInt8} (hl : IsSl RSet F H vl r.live) (ho : IsSl RTx F H vo r.ops) (hr : RLen r) :
    WC Tryz.prog (tabOf Tryz.prog NT0) S0 12 [.agg [vl, vo], .lit (.string ⟨id.toArray⟩)] H fun v h' => Ext H.n H h' ∧ ∃ u, v = .tup [u, .lit (.bool (closeF r id).2)] ∧ OwnR H.n h' u (closeF r id).1 := by
  refine WC_fn Tryz.func12 rfl rfl ?_
  have l1 := hl.one
  have l2 := hl.isSl
  have o1 := ho.one
  have o2 := ho.isSl
  obtain ⟨hp, hhp⟩ : ∃ hp, hp = H.push (.cells [vl, vo] 25) := ⟨_, rfl⟩
  obtain ⟨hq, hhq⟩ : ∃ hq, hq = hp.push (.cells [.lit (.string ⟨id.toArray⟩)] 9) := ⟨_, rfl⟩
  obtain ⟨hs, hhs⟩ : ∃ hs, hs = hq.push (.cells [.lit (.slice none 0 0), .lit (.slice none 0 0)] 25) := ⟨_, rfl⟩
  have EP : Ext H.n H hp := hhp ▸ (Ext.refl _ _).push _ (Nat.le_refl _)
  have EQ : Ext hp.n hp hq := hhq ▸ (Ext.refl _ _).push _ (Nat.le_refl _)
  have ES : Ext hq.n hq hs := hhs ▸ (Ext.refl _ _).push _ (Nat.le_refl _)
  have nP : hp.n = H.n + 1 := by rw [hhp, n_push]
  have nQ : hq.n = H.n + 2 := by rw [hhq, n_push, nP]
  have nS : hs.n = H.n + 3 := by rw [hhs, n_push, nQ]
  have P0 : hp.at H.n = some (.cells [vl, vo] 25) := hhp ▸ at_push_n _ _
  have Q0 : hq.at hp.n = some (.cells [.lit (.string ⟨id.toArray⟩)] 9) := hhq ▸ at_push_n _ _
  have S0 : hs.at hq.n = some (.cells [.lit (.slice none 0 0), .lit (.slice none 0 0)] 25) := hhs ▸ at_push_n _ _
  have P1 := (ES.2 _ (by omega)).trans ((EQ.2 _ (at_lt P0)).trans P0)
  have Q1 := (ES.2 _ (at_lt Q0)).trans Q0
  have LP := ld_at (T := tabOf Tryz.prog NT0) P1
  have lP := at_lt P1
  have E0 := EP.trans ((EQ.trans (ES.mono EQ.1)).mono EP.1)
  simp only [core, zrA, zrS, zrM, zrL, zrE, reduceCtorEq, zrD, ziE, ziL, ziN, Tryz.ntmps12, l1, l2, o1, o2, ← hhp, ← hhq, ← hhs, LP, lP]
  refine (CheckRoot_x (hl.ext E0 (Nat.le_refl _)) (ho.ext E0 (Nat.le_refl _)) hr.o hr.s).mono ?_
  rintro _ h2 ⟨E2, rfl⟩
  have m2 := E2.1
  have E02 := E0.trans (E2.mono E0.1)
  have P2 := (E2.2 _ lP).trans P1
  have Q2 := (E2.2 _ (at_lt Q1)).trans Q1
  have S2 := (E2.2 _ (at_lt S0)).trans S0
  have lS2 := at_lt S2
  have bad : ∀ h4 : AH, Ext H.n H h4 → h4.at hq.n = some (.cells [.lit (.slice none 0 0), .lit (.slice none 0 0)] 25) → closeF r id = (root0, false) →
      ∃ h5, h5 = h4.put hq.n (.cells [.lit (.slice none 0 0), .lit (.slice none 0 0)] 25) ∧ Ext H.n H h5 ∧ (∀ e i, loadA (tabOf Tryz.prog NT0) h5 e hq.n i = ldL (tabOf Tryz.prog NT0) e [.lit (.slice none 0 0), .lit (.slice none 0 0)] i) ∧ hq.n < h5.n := fun h4 e4 a4 hcl =>
    ⟨_, rfl, e4.put _ (by omega), ld_at (at_put_same _ (at_lt a4)), by rw [n_put]; exact at_lt a4⟩
  cases hk : decide (chkF r = 0) with
  | false =>
    have hb : (chkF r != 0) = true := by rw [bne, beq_eq_false_iff_ne.2 (of_decide_eq_false hk)]; rfl
    have hkn : closeF r id = (root0, false) := by unfold closeF; rw [if_neg fun hh => of_decide_eq_false hk hh.1]
    obtain ⟨h5, hh5, E5, L5, l5⟩ := bad h2 E02 S2 hkn
    simp only [core, zrA, zrS, zrM, zrL, zrE, reduceCtorEq, zrD, ziE, ziL, ziN, aundef, hb, hkn, S2, lS2, ← hh5, L5, l5]
    exact ⟨E5, _, rfl, OwnR.zero⟩
  | true =>
  have hc := of_decide_eq_true hk
  have hb : (chkF r != 0) = false := by rw [hc]; rfl
  obtain ⟨n1, n2⟩ := chk_len hc
  have LP2 := ld_at (T := tabOf Tryz.prog NT0) P2
  have lP2 := at_lt P2
  have LQ2 := ld_at (T := tabOf Tryz.prog NT0) Q2
  have lQ2 := at_lt Q2
  simp only [core, zrA, zrS, zrM, zrL, zrE, reduceCtorEq, zrD, ziE, ziL, ziN, aundef, hb, LP2, lP2, LQ2, lQ2, o1, o2]
  refine (containsT_x (ho.ext E02 (Nat.le_refl _)) (by omega)).mono ?_
  rintro _ h3 ⟨E3, rfl⟩
  have m3 := E3.1
  have E03 := E02.trans (E3.mono E02.1)
  have P3 := (E3.2 _ lP2).trans P2
  have Q3 := (E3.2 _ lQ2).trans Q2
  have S3 := (E3.2 _ lS2).trans S2
  have LP3 := ld_at (T := tabOf Tryz.prog NT0) P3
  have lP3 := at_lt P3
  have lS3 := at_lt S3
  have lQ3 := at_lt Q3
  cases hm : r.ops.any (fun x => id == x) with
  | false =>
    have hkn : closeF r id = (root0, false) := by unfold closeF; rw [if_neg fun hh => by rw [hm] at hh; cases hh.2]
    obtain ⟨h5, hh5, E5, L5, l5⟩ := bad h3 E03 S3 hkn
    simp only [core, zrA, zrS, zrM, zrL, zrE, reduceCtorEq, zrD, ziE, ziL, ziN, aundef, hkn, S3, lS3, ← hh5, L5, l5]
    exact ⟨E5, _, rfl, OwnR.zero⟩
  | true =>
  have hkn : closeF r id = (⟨r.live, r.ops.filter fun x => !(x == id)⟩, true) := by unfold closeF; rw [if_pos ⟨hc, hm⟩]
  simp only [core, zrA, zrS, zrM, zrL, zrE, reduceCtorEq, zrD, ziE, ziL, ziN, aundef, LP3, lP3, l1, l2, o1, o2]
  refine (clone_x (hl.ext E03 (Nat.le_refl _)) (ho.ext E03 (Nat.le_refl _)) (by omega) (by omega)).mono ?_
  rintro _ h4 ⟨E4, a, b, rfl, oa, ob⟩
  have m4 := E4.1
  have P4 := (E4.2 _ lP3).trans P3
  have Q4 := (E4.2 _ lQ3).trans Q3
  have S4 := (E4.2 _ lS3).trans S3
  have lP4 := at_lt P4
  have a1 := oa.one
  have a2 := oa.isSl
  have b1 := ob.one
  have b2 := ob.isSl
  obtain ⟨h5, hh5⟩ : ∃ h5, h5 = h4.put H.n (.cells [a, b] 25) := ⟨_, rfl⟩
  have E04 := E03.trans (E4.mono E03.1)
  have E05 : Ext H.n H h5 := hh5 ▸ E04.put _ (Nat.le_refl _)
  have n5 : h5.n = h4.n := by rw [hh5, n_put]
  have P5 : h5.at H.n = some (.cells [a, b] 25) := hh5 ▸ at_put_same _ lP4
  have Q5 : h5.at hp.n = _ := (hh5 ▸ at_put_ne _ (by omega) : h5.at hp.n = h4.at hp.n).trans Q4
  have S5 : h5.at hq.n = _ := (hh5 ▸ at_put_ne _ (by omega) : h5.at hq.n = h4.at hq.n).trans S4
  have oa5 : OwnX setC 35 h3.n h5 a 28 r.live := hh5 ▸ oa.putLt (by omega)
  have ob5 : OwnX txC 1 h3.n h5 b 9 r.ops := hh5 ▸ ob.putLt (by omega)
  have LP5 := ld_at (T := tabOf Tryz.prog NT0) P5
  have lP5 := at_lt P5
  simp only [core, zrA, zrS, zrM, zrL, zrE, reduceCtorEq, zrD, ziE, ziL, ziN, P4, lP4, a1, a2, b1, b2, ← hh5, LP5, lP5]
  refine (deleteFT_x ob5 (by omega) (by omega) Q5 (by omega) fun h x hb _ => close1_x hb).mono ?_
  rintro w h6 ⟨E6, ow, K6⟩
  have P6 := (E6.2 _ (by omega)).trans P5
  have S6 := (E6.2 _ (by omega)).trans S5
  have lP6 := at_lt P6
  have lS6 := at_lt S6
  have w1 := ow.one
  have w2 := ow.isSl
  have oa6 : OwnX setC 35 h3.n h6 a 28 r.live := oa5.keep fun c off n cap hv => K6 c (oa5.blk hv).1 (oa5.sep ob5 (by decide) hv)
  obtain ⟨h7, hh7⟩ : ∃ h7, h7 = h6.put H.n (.cells [a, w] 25) := ⟨_, rfl⟩
  have E06 := E05.trans (E6.mono (by omega))
  have E07 : Ext H.n H h7 := hh7 ▸ E06.put _ (Nat.le_refl _)
  have P7 : h7.at H.n = some (.cells [a, w] 25) := hh7 ▸ at_put_same _ lP6
  have S7 : h7.at hq.n = _ := (hh7 ▸ at_put_ne _ (by omega) : h7.at hq.n = h6.at hq.n).trans S6
  have LP7 := ld_at (T := tabOf Tryz.prog NT0) P7
  have lP7 := at_lt P7
  have lS7 := at_lt S7
  obtain ⟨h8, hh8⟩ : ∃ h8, h8 = h7.put hq.n (.cells [a, w] 25) := ⟨_, rfl⟩
  have E08 : Ext H.n H h8 := hh8 ▸ E07.put _ (by omega)
  have S8 : h8.at hq.n = some (.cells [a, w] 25) := hh8 ▸ at_put_same _ lS7
  have LS8 := ld_at (T := tabOf Tryz.prog NT0) S8
  have lS8 := at_lt S8
  simp only [core, zrA, zrS, zrM, zrL, zrE, reduceCtorEq, zrD, ziE, ziL, ziN, P6, lP6, a1, a2, w1, w2, ← hh7, LP7, lP7, S7, lS7, ← hh8, LS8, lS8]
  rw [hkn]
  exact ⟨E08, _, rfl, a, w, rfl, (hh8 ▸ (hh7 ▸ oa6.putLt (by omega) : OwnX setC 35 h3.n h7 a 28 r.live).putLt (by omega) : OwnX setC 35 h3.n h8 a 28 r.live).mono (by omega),
    (hh8 ▸ (hh7 ▸ ow.putLt (by omega) : OwnX txC 1 h3.n h7 w 9 _).putLt (by omega) : OwnX txC 1 h3.n h8 w 9 _).mono (by omega)⟩
def deleteF (r : RootD) (name : List UInt8) : RootD × Int := if chkF r = 0 then (if mGood name = true then (if (findF r name).isSome = true then (⟨r.live.filter fun s => !(s.name == name), r.ops⟩, 0) else (root0, 2)) else (root0, 36)) else (root0, chkF r)
theorem Delete_x {F : Nat → Prop} {H : AH} {vl vo : AV} {r : RootD} {name : List UInt8} (hl : IsSl RSet F H vl r.live) (ho : IsSl RTx F H vo r.ops) (hr : RLen r) (hn : name.length ≤ 4611686018427387000) :
    WC Tryz.prog (tabOf Tryz.prog NT0) S0 10 [.agg [vl, vo], .lit (.string ⟨name.toArray⟩)] H fun v h' => Ext H.n H h' ∧ ∃ u, v = .tup [u, .lit (.int .i64 (deleteF r name).2)] ∧ OwnR H.n h' u (deleteF r name).1 := by
  refine WC_fn Tryz.func10 rfl rfl ?_
  have l1 := hl.one
  have l2 := hl.isSl
  have o1 := ho.one
  have o2 := ho.isSl
  obtain ⟨hp, hhp⟩ : ∃ hp, hp = H.push (.cells [vl, vo] 25) := ⟨_, rfl⟩
  obtain ⟨hq, hhq⟩ : ∃ hq, hq = hp.push (.cells [.lit (.string ⟨name.toArray⟩)] 9) := ⟨_, rfl⟩
  obtain ⟨hs, hhs⟩ : ∃ hs, hs = hq.push (.cells [.lit (.slice none 0 0), .lit (.slice none 0 0)] 25) := ⟨_, rfl⟩
  have EP : Ext H.n H hp := hhp ▸ (Ext.refl _ _).push _ (Nat.le_refl _)
  have EQ : Ext hp.n hp hq := hhq ▸ (Ext.refl _ _).push _ (Nat.le_refl _)
  have ES : Ext hq.n hq hs := hhs ▸ (Ext.refl _ _).push _ (Nat.le_refl _)
  have nP : hp.n = H.n + 1 := by rw [hhp, n_push]
  have nQ : hq.n = H.n + 2 := by rw [hhq, n_push, nP]
  have nS : hs.n = H.n + 3 := by rw [hhs, n_push, nQ]
  have P0 : hp.at H.n = some (.cells [vl, vo] 25) := hhp ▸ at_push_n _ _
  have Q0 : hq.at hp.n = some (.cells [.lit (.string ⟨name.toArray⟩)] 9) := hhq ▸ at_push_n _ _
  have S0 : hs.at hq.n = some (.cells [.lit (.slice none 0 0), .lit (.slice none 0 0)] 25) := hhs ▸ at_push_n _ _
  have P1 := (ES.2 _ (by omega)).trans ((EQ.2 _ (at_lt P0)).trans P0)
  have Q1 := (ES.2 _ (at_lt Q0)).trans Q0
  have LP := ld_at (T := tabOf Tryz.prog NT0) P1
  have lP := at_lt P1
  have E0 := EP.trans ((EQ.trans (ES.mono EQ.1)).mono EP.1)
  simp only [core, zrA, zrS, zrM, zrL, zrE, reduceCtorEq, zrD, ziE, ziL, ziN, Tryz.ntmps10, l1, l2, o1, o2, ← hhp, ← hhq, ← hhs, LP, lP]
  refine (CheckRoot_x (hl.ext E0 (Nat.le_refl _)) (ho.ext E0 (Nat.le_refl _)) hr.o hr.s).mono ?_
  rintro _ h2 ⟨E2, rfl⟩
  have m2 := E2.1
  have E02 := E0.trans (E2.mono E0.1)
  have P2 := (E2.2 _ lP).trans P1
  have Q2 := (E2.2 _ (at_lt Q1)).trans Q1
  have S2 := (E2.2 _ (at_lt S0)).trans S0
  have lS2 := at_lt S2
  have bad : ∀ h4 : AH, Ext H.n H h4 → h4.at hq.n = some (.cells [.lit (.slice none 0 0), .lit (.slice none 0 0)] 25) →
      ∃ h5, h5 = h4.put hq.n (.cells [.lit (.slice none 0 0), .lit (.slice none 0 0)] 25) ∧ Ext H.n H h5 ∧ (∀ e i, loadA (tabOf Tryz.prog NT0) h5 e hq.n i = ldL (tabOf Tryz.prog NT0) e [.lit (.slice none 0 0), .lit (.slice none 0 0)] i) ∧ hq.n < h5.n := fun h4 e4 a4 =>
    ⟨_, rfl, e4.put _ (by omega), ld_at (at_put_same _ (at_lt a4)), by rw [n_put]; exact at_lt a4⟩
  cases hk : decide (chkF r = 0) with
  | false =>
    have hb : (chkF r != 0) = true := by rw [bne, beq_eq_false_iff_ne.2 (of_decide_eq_false hk)]; rfl
    have hkn : deleteF r name = (root0, chkF r) := by unfold deleteF; rw [if_neg (of_decide_eq_false hk)]
    obtain ⟨h5, hh5, E5, L5, l5⟩ := bad h2 E02 S2
    simp only [core, zrA, zrS, zrM, zrL, zrE, reduceCtorEq, zrD, ziE, ziL, ziN, aundef, hb, hkn, S2, lS2, ← hh5, L5, l5]
    exact ⟨E5, _, rfl, OwnR.zero⟩
  | true =>
  have hc := of_decide_eq_true hk
  have hb : (chkF r != 0) = false := by rw [hc]; rfl
  obtain ⟨n1, n2⟩ := chk_len hc
  have LP2 := ld_at (T := tabOf Tryz.prog NT0) P2
  have lP2 := at_lt P2
  have LQ2 := ld_at (T := tabOf Tryz.prog NT0) Q2
  have lQ2 := at_lt Q2
  simp only [core, zrA, zrS, zrM, zrL, zrE, reduceCtorEq, zrD, ziE, ziL, ziN, aundef, hb, LP2, lP2, LQ2, lQ2, o1, o2, l1, l2]
  refine (Find_x (hl.ext E02 (Nat.le_refl _)) (ho.ext E02 (Nat.le_refl _)) hr).mono ?_
  rintro _ h3 ⟨E3, rfl⟩
  have m3 := E3.1
  have E03 := E02.trans (E3.mono E02.1)
  have P3 := (E3.2 _ lP2).trans P2
  have Q3 := (E3.2 _ lQ2).trans Q2
  have S3 := (E3.2 _ lS2).trans S2
  obtain ⟨y, hy⟩ : ∃ y, y = (findF r name).getD set0 := ⟨_, rfl⟩
  obtain ⟨hA, hhA⟩ : ∃ hA, hA = h3.push (.cells (setC y) 28) := ⟨_, rfl⟩
  have eA : Ext h3.n h3 hA := hhA ▸ (Ext.refl _ _).push _ (Nat.le_refl _)
  have nA : hA.n = h3.n + 1 := by rw [hhA, n_push]
  have PA := (eA.2 _ (at_lt P3)).trans P3
  have QA := (eA.2 _ (at_lt Q3)).trans Q3
  have SA := (eA.2 _ (at_lt S3)).trans S3
  have EA := E03.trans (eA.mono E03.1)
  have LQA := ld_at (T := tabOf Tryz.prog NT0) QA
  have lQA := at_lt QA
  have lSA := at_lt SA
  rw [← hy]
  unfold setC at hhA ⊢
  simp only [core, zrA, zrS, zrM, zrL, zrE, reduceCtorEq, zrD, ziE, ziL, ziN, ← hhA, LQA, lQA]
  refine (mgood_x hn).mono ?_
  rintro _ h4 ⟨rfl, q5⟩
  replace q5 := q5.symm
  subst q5
  cases hg : mGood name with
  | false =>
    have hkn : deleteF r name = (root0, 36) := by unfold deleteF; rw [if_pos hc, if_neg (by rw [hg]; decide)]
    obtain ⟨h5, hh5, E5, L5, l5⟩ := bad hA EA SA
    simp only [core, zrA, zrS, zrM, zrL, zrE, reduceCtorEq, zrD, ziE, ziL, ziN, aundef, hg, hkn, SA, lSA, ← hh5, L5, l5]
    exact ⟨E5, _, rfl, OwnR.zero⟩
  | true =>
  cases hm : (findF r name).isSome with
  | false =>
    have hkn : deleteF r name = (root0, 2) := by unfold deleteF; rw [if_pos hc, if_pos hg, if_neg (by rw [hm]; decide)]
    obtain ⟨h5, hh5, E5, L5, l5⟩ := bad hA EA SA
    simp only [core, zrA, zrS, zrM, zrL, zrE, reduceCtorEq, zrD, ziE, ziL, ziN, aundef, hg, hm, hkn, SA, lSA, ← hh5, L5, l5]
    exact ⟨E5, _, rfl, OwnR.zero⟩
  | true =>
  have hkn : deleteF r name = (⟨r.live.filter fun s => !(s.name == name), r.ops⟩, 0) := by unfold deleteF; rw [if_pos hc, if_pos hg, if_pos hm]
  have LPA := ld_at (T := tabOf Tryz.prog NT0) PA
  have lPA := at_lt PA
  simp only [core, zrA, zrS, zrM, zrL, zrE, reduceCtorEq, zrD, ziE, ziL, ziN, aundef, hg, hm, LPA, lPA, l1, l2, o1, o2]
  refine (clone_x (hl.ext EA (Nat.le_refl _)) (ho.ext EA (Nat.le_refl _)) (by omega) (by omega)).mono ?_
  rintro _ h4 ⟨E4, a, b, rfl, oa, ob⟩
  have m4 := E4.1
  have P4 := (E4.2 _ lPA).trans PA
  have Q4 := (E4.2 _ lQA).trans QA
  have S4 := (E4.2 _ lSA).trans SA
  have lP4 := at_lt P4
  have a1 := oa.one
  have a2 := oa.isSl
  have b1 := ob.one
  have b2 := ob.isSl
  obtain ⟨h5, hh5⟩ : ∃ h5, h5 = h4.put H.n (.cells [a, b] 25) := ⟨_, rfl⟩
  have E04 := EA.trans (E4.mono EA.1)
  have E05 : Ext H.n H h5 := hh5 ▸ E04.put _ (Nat.le_refl _)
  have n5 : h5.n = h4.n := by rw [hh5, n_put]
  have P5 : h5.at H.n = some (.cells [a, b] 25) := hh5 ▸ at_put_same _ lP4
  have Q5 : h5.at hp.n = _ := (hh5 ▸ at_put_ne _ (by omega) : h5.at hp.n = h4.at hp.n).trans Q4
  have S5 : h5.at hq.n = _ := (hh5 ▸ at_put_ne _ (by omega) : h5.at hq.n = h4.at hq.n).trans S4
  have oa5 : OwnX setC 35 hA.n h5 a 28 r.live := hh5 ▸ oa.putLt (by omega)
  have ob5 : OwnX txC 1 hA.n h5 b 9 r.ops := hh5 ▸ ob.putLt (by omega)
  have LP5 := ld_at (T := tabOf Tryz.prog NT0) P5
  have lP5 := at_lt P5
  simp only [core, zrA, zrS, zrM, zrL, zrE, reduceCtorEq, zrD, ziE, ziL, ziN, P4, lP4, a1, a2, b1, b2, ← hh5, LP5, lP5]
  refine (deleteFS_x oa5 (by omega) (by omega) Q5 (by omega) fun h x hb _ => delete1_x x hb).mono ?_
  rintro w h6 ⟨E6, ow, K6⟩
  have P6 := (E6.2 _ (by omega)).trans P5
  have S6 := (E6.2 _ (by omega)).trans S5
  have lP6 := at_lt P6
  have lS6 := at_lt S6
  have w1 := ow.one
  have w2 := ow.isSl
  have ob6 : OwnX txC 1 hA.n h6 b 9 r.ops := ob5.keep fun c off n cap hv => K6 c (ob5.blk hv).1 (ob5.sep oa5 (by decide) hv)
  obtain ⟨h7, hh7⟩ : ∃ h7, h7 = h6.put H.n (.cells [w, b] 25) := ⟨_, rfl⟩
  have E06 := E05.trans (E6.mono (by omega))
  have E07 : Ext H.n H h7 := hh7 ▸ E06.put _ (Nat.le_refl _)
  have P7 : h7.at H.n = some (.cells [w, b] 25) := hh7 ▸ at_put_same _ lP6
  have S7 : h7.at hq.n = _ := (hh7 ▸ at_put_ne _ (by omega) : h7.at hq.n = h6.at hq.n).trans S6
  have LP7 := ld_at (T := tabOf Tryz.prog NT0) P7
  have lP7 := at_lt P7
  have lS7 := at_lt S7
  obtain ⟨h8, hh8⟩ : ∃ h8, h8 = h7.put hq.n (.cells [w, b] 25) := ⟨_, rfl⟩
  have E08 : Ext H.n H h8 := hh8 ▸ E07.put _ (by omega)
  have S8 : h8.at hq.n = some (.cells [w, b] 25) := hh8 ▸ at_put_same _ lS7
  have LS8 := ld_at (T := tabOf Tryz.prog NT0) S8
  have lS8 := at_lt S8
  simp only [core, zrA, zrS, zrM, zrL, zrE, reduceCtorEq, zrD, ziE, ziL, ziN, P6, lP6, b1, b2, w1, w2, ← hh7, LP7, lP7, S7, lS7, ← hh8, LS8, lS8]
  rw [hkn]
  exact ⟨E08, _, rfl, w, b, rfl, (hh8 ▸ (hh7 ▸ ow.putLt (by omega) : OwnX setC 35 hA.n h7 w 28 _).putLt (by omega) : OwnX setC 35 hA.n h8 w 28 _).mono (by omega),
    (hh8 ▸ (hh7 ▸ ob6.putLt (by omega) : OwnX txC 1 hA.n h7 b 9 r.ops).putLt (by omega) : OwnX txC 1 hA.n h8 b 9 r.ops).mono (by omega)⟩
end Go.Proofs.YtdcmfchodooolaaGreatDoor.Ex
end

section

set_option linter.unusedSimpArgs false
set_option linter.unusedVariables false
set_option maxRecDepth 10000
namespace Go.Proofs.YtdcmfchodooolaaGreatDoor.Ex
open Go
/-- A text laid into its place. -/
def insT (id : List UInt8) : List (List UInt8) → List (List UInt8)
  | [] => [id]
  | x :: r => bif ltS id x then id :: x :: r else x :: insT id r
theorem insT_perm (id : List UInt8) : ∀ l, (insT id l).Perm (l ++ [id])
  | [] => .refl _
  | x :: r => by
    unfold insT
    cases ltS id x with
    | true => exact (List.perm_append_comm (l₁ := [id]) (l₂ := x :: r))
    | false => exact (insT_perm id r).cons x
theorem insT_mem {id y : List UInt8} {l} : y ∈ insT id l ↔ y ∈ l ∨ y = id := by
  rw [(insT_perm id l).mem_iff]; simp
theorem insT_pw {id : List UInt8} : ∀ {l}, l.Pairwise (fun a b => ltS a b = true) → id ∉ l → (insT id l).Pairwise (fun a b => ltS a b = true)
  | [], _, _ => by unfold insT; simp
  | x :: r, h, hn => by
    unfold insT
    obtain ⟨h1, h2⟩ := List.pairwise_cons.1 h
    cases hx : ltS id x with
    | true => exact List.pairwise_cons.2 ⟨fun y hy => by rcases List.mem_cons.1 hy with rfl | hy; exact hx; exact lt_tr hx (h1 y hy), h⟩
    | false =>
      have hxi : ltS x id = true := by
        cases hh : ltS x id with
        | true => rfl
        | false => exact absurd (lt_eq hx hh) fun e => hn (by simp [e])
      exact List.pairwise_cons.2 ⟨fun y hy => by rcases insT_mem.1 hy with hy | rfl; exact h1 y hy; exact hxi, insT_pw h2 fun hm => hn (by simp [hm])⟩
/-- The library's sort of a row in order and one text more lays it into its place. -/
theorem sortT_eq {id : List UInt8} {l : List (List UInt8)} (h : l.Pairwise (fun a b => ltS a b = true)) (hn : id ∉ l) : (l ++ [id]).mergeSort (fun x y => decide (x ≤ y)) = insT id l := by
  refine List.Perm.eq_of_pairwise (le := leS) (fun a b _ _ => le_anti) ?_ ((insT_pw h hn).imp fun h => lt_asym h) ((List.mergeSort_perm _ _).trans (insT_perm id l).symm)
  have := List.pairwise_mergeSort (le := fun x y : List UInt8 => decide (x ≤ y)) (fun a b c h h' => by
    rw [le_dec, Bool.not_eq_true'] at *; exact le_tr h h') (fun a b => by
    rw [le_dec, le_dec]; rcases le_tot a b with h | h <;> unfold leS at h <;> simp [h]) (l ++ [id])
  refine this.imp fun {a b} h => ?_
  rw [le_dec, Bool.not_eq_true'] at h
  exact h
/-- The document's loop. -/
def stepT (id : List UInt8) (s : Bool × List (List UInt8)) (x : List UInt8) : Bool × List (List UInt8) := bif !s.1 && ltS id x then (true, (s.2 ++ [id]) ++ [x]) else (s.1, s.2 ++ [x])
def endT (id : List UInt8) (s : Bool × List (List UInt8)) : List (List UInt8) := bif s.1 then s.2 else s.2 ++ [id]
theorem stepT_done {id : List UInt8} : ∀ (l o : List (List UInt8)), l.foldl (stepT id) (true, o) = (true, o ++ l)
  | [], o => by simp
  | x :: r, o => by
    rw [List.foldl_cons]
    show r.foldl (stepT id) (true, o ++ [x]) = _
    rw [stepT_done r]
    simp
theorem stepT_eq {id : List UInt8} : ∀ (l o : List (List UInt8)), endT id (l.foldl (stepT id) (false, o)) = o ++ insT id l
  | [], o => rfl
  | x :: r, o => by
    rw [List.foldl_cons]
    unfold insT
    cases hx : ltS id x with
    | true =>
      have : stepT id (false, o) x = (true, (o ++ [id]) ++ [x]) := by unfold stepT; rw [hx]; rfl
      rw [this, stepT_done]
      show ((o ++ [id]) ++ [x]) ++ r = _
      simp
    | false =>
      have : stepT id (false, o) x = (false, o ++ [x]) := by unfold stepT; rw [hx]; rfl
      rw [this, stepT_eq r]
      show (o ++ [x]) ++ insT id r = o ++ (x :: insT id r)
      simp
/-- A set laid into its place, the one of its name taken away. -/
def insS (s : SetD) : List SetD → List SetD
  | [] => [s]
  | x :: r => bif ltS x.name s.name then x :: insS s r else s :: (x :: r).filter fun y => !(y.name == s.name)
def stepS (s : SetD) (d : Bool × List SetD) (x : SetD) : Bool × List SetD :=
  let e := bif !d.1 && !ltS x.name s.name then (true, d.2 ++ [s]) else d
  bif x.name == s.name then e else (e.1, e.2 ++ [x])
def endS (s : SetD) (d : Bool × List SetD) : List SetD := bif d.1 then d.2 else d.2 ++ [s]
theorem stepS_done {s : SetD} : ∀ (l o : List SetD), l.foldl (stepS s) (true, o) = (true, o ++ l.filter fun y => !(y.name == s.name))
  | [], o => by simp
  | x :: r, o => by
    rw [List.foldl_cons, List.filter_cons]
    cases hx : x.name == s.name with
    | true =>
      have : stepS s (true, o) x = (true, o) := by unfold stepS; rw [hx]; rfl
      rw [this, stepS_done r]
      simp
    | false =>
      have : stepS s (true, o) x = (true, o ++ [x]) := by unfold stepS; rw [hx]; rfl
      rw [this, stepS_done r]
      simp
theorem stepS_eq {s : SetD} : ∀ (l o : List SetD), endS s (l.foldl (stepS s) (false, o)) = o ++ insS s l
  | [], o => rfl
  | x :: r, o => by
    rw [List.foldl_cons]
    unfold insS
    cases hl : ltS x.name s.name with
    | true =>
      have hx : (x.name == s.name) = false := beq_eq_false_iff_ne.2 (lt_ne hl)
      have : stepS s (false, o) x = (false, o ++ [x]) := by unfold stepS; rw [hx, hl]; rfl
      rw [this, stepS_eq r]
      show (o ++ [x]) ++ insS s r = o ++ (x :: insS s r)
      simp
    | false =>
      rw [List.filter_cons]
      cases hx : x.name == s.name with
      | true =>
        have : stepS s (false, o) x = (true, o ++ [s]) := by unfold stepS; rw [hx, hl]; rfl
        rw [this, stepS_done r]
        show _ = _
        simp [endS]
      | false =>
        have : stepS s (false, o) x = (true, (o ++ [s]) ++ [x]) := by unfold stepS; rw [hx, hl]; rfl
        rw [this, stepS_done r]
        simp [endS]
theorem insS_perm (s : SetD) : ∀ {l : List SetD}, l.Pairwise (fun a b => ltS a.name b.name = true) → (insS s l).Perm ((l.filter fun y => !(y.name == s.name)) ++ [s])
  | [], _ => .refl _
  | x :: r, h => by
    obtain ⟨h1, h2⟩ := List.pairwise_cons.1 h
    unfold insS
    cases hl : ltS x.name s.name with
    | true =>
      have hx : (x.name == s.name) = false := beq_eq_false_iff_ne.2 (lt_ne hl)
      rw [List.filter_cons, hx]
      exact (insS_perm s h2).cons x
    | false => exact (List.perm_append_comm (l₁ := [s]))
theorem insS_pw {s : SetD} : ∀ {l : List SetD}, l.Pairwise (fun a b => ltS a.name b.name = true) → (insS s l).Pairwise (fun a b => ltS a.name b.name = true)
  | [], _ => by unfold insS; simp
  | x :: r, h => by
    obtain ⟨h1, h2⟩ := List.pairwise_cons.1 h
    have hp := insS_perm s h2
    unfold insS
    cases hl : ltS x.name s.name with
    | true =>
      refine List.pairwise_cons.2 ⟨fun y hy => ?_, insS_pw h2⟩
      rcases List.mem_append.1 (hp.mem_iff.1 hy) with hy | hy
      · exact h1 y (List.mem_filter.1 hy).1
      · rw [List.mem_singleton.1 hy]; exact hl
    | false =>
      refine List.pairwise_cons.2 ⟨fun y hy => ?_, h.filter _⟩
      obtain ⟨m1, m2⟩ := List.mem_filter.1 hy
      have hne : y.name ≠ s.name := by simpa using m2
      cases hh : ltS s.name y.name with
      | true => rfl
      | false =>
        cases h3 : ltS y.name s.name with
        | false => exact absurd (lt_eq h3 hh) hne
        | true =>
          rcases List.mem_cons.1 m1 with rfl | m1
          · rw [hl] at h3; cases h3
          · have := lt_tr (h1 y m1) h3
            rw [hl] at this; cases this
/-- The library's sort of a row in order, without the set of that name, and the set. -/
theorem sortS_eq {s : SetD} {l d : List SetD} (h : l.Pairwise (fun a b => ltS a.name b.name = true)) (hp : d.Perm ((l.filter fun y => !(y.name == s.name)) ++ [s])) (hd : d.Pairwise (fun a b => leS a.name b.name)) : d = insS s l := by
  have hi := insS_pw (s := s) h
  have hp2 := hp.trans (insS_perm s h).symm
  refine List.Perm.eq_of_pairwise (le := fun a b => leS a.name b.name) (fun a b ha hb h1 h2 => ?_) hd (hi.imp (S := fun a b : SetD => leS a.name b.name) fun h => lt_asym h) hp2
  have hab := le_anti h1 h2
  have ha' := hp2.mem_iff.1 ha
  obtain ⟨i, hi1, rfl⟩ := List.mem_iff_getElem.1 ha'
  obtain ⟨j, hj1, rfl⟩ := List.mem_iff_getElem.1 hb
  rcases Nat.lt_trichotomy i j with hij | rfl | hij
  · exact absurd hab (lt_ne (List.pairwise_iff_getElem.1 hi i j hi1 hj1 hij))
  · rfl
  · exact absurd hab.symm (lt_ne (List.pairwise_iff_getElem.1 hi j i hj1 hi1 hij))
/-- What a right root is. -/
structure Right (r : RootD) : Prop where
  nO : r.ops.length ≤ 16
  nL : r.live.length ≤ 16
  gO : ∀ x ∈ r.ops, goodIdF x = true
  pO : r.ops.Pairwise (fun a b => ltS a b = true)
  gL : ∀ s ∈ r.live, goodIdF s.id = true ∧ 0 ≤ s.size ∧ s.size ≤ 2147483647 ∧ mGood s.name = true
  pL : r.live.Pairwise (fun a b => ltS a.name b.name = true)
  iL : r.live.Pairwise (fun a b => a.id ≠ b.id)
  iO : ∀ s ∈ r.live, s.id ∉ r.ops
theorem chain_pw {α : Type} {R : α → α → Prop} (ht : ∀ {a b c}, R a b → R b c → R a c) {l : List α} (h : ∀ i (hi : i + 1 < l.length), R l[i] l[i + 1]) : l.Pairwise R := by
  rw [List.pairwise_iff_getElem]
  intro i j hi hj hij
  obtain ⟨k, rfl⟩ : ∃ k, j = i + 1 + k := ⟨j - i - 1, by omega⟩
  induction k with
  | zero => exact h i hj
  | succ k ih => exact ht (ih (by omega) (by omega)) (h (i + 1 + k) hj)
theorem getD_get {α : Type} {l : List α} {i : Nat} {d : α} (hi : i < l.length) : l.getD i d = l[i] := by rw [List.getD_eq_getElem?_getD, List.getElem?_eq_getElem hi]; rfl
theorem okO_iff {l : List (List UInt8)} : (List.range l.length).all (okO l) = true ↔ (∀ x ∈ l, goodIdF x = true) ∧ l.Pairwise (fun a b => ltS a b = true) := by
  simp only [List.all_eq_true, List.mem_range]
  unfold okO
  constructor
  · intro h
    refine ⟨fun x hx => ?_, chain_pw (R := fun a b : List UInt8 => ltS a b = true) (fun h1 h2 => lt_tr h1 h2) fun i hi => ?_⟩
    · obtain ⟨i, hi, rfl⟩ := List.mem_iff_getElem.1 hx
      have := h i hi
      rw [getD_get hi, Bool.and_eq_true] at this
      exact this.1
    · have := h (i + 1) hi
      rw [getD_get hi, Nat.add_sub_cancel, getD_get (by omega), Bool.and_eq_true, Bool.or_eq_true] at this
      rcases this.2 with h | h
      · simp at h
      · exact h
  · rintro ⟨h1, h2⟩ i hi
    rw [getD_get hi, h1 _ (List.getElem_mem hi), Bool.true_and]
    cases i with
    | zero => rfl
    | succ i =>
      rw [Nat.add_sub_cancel, getD_get (by omega), List.pairwise_iff_getElem.1 h2 i (i + 1) (by omega) hi (by omega), Bool.or_true]
theorem okS_iff {o : List (List UInt8)} {l : List SetD} : (List.range l.length).all (okS o l) = true ↔ (∀ s ∈ l, goodIdF s.id = true ∧ 0 ≤ s.size ∧ s.size ≤ 2147483647) ∧ l.Pairwise (fun a b => ltS a.name b.name = true) ∧ l.Pairwise (fun a b => a.id ≠ b.id) ∧ ∀ s ∈ l, s.id ∉ o := by
  simp only [List.all_eq_true, List.mem_range]
  have key : ∀ i (hi : i < l.length), okS o l i = true ↔ (goodIdF l[i].id = true ∧ 0 ≤ l[i].size ∧ l[i].size ≤ 2147483647) ∧ (∀ j (hj : j + 1 = i), ltS l[j].name l[i].name = true) ∧ l[i].id ∉ o ∧ ∀ j (hj : j < i), l[j].id ≠ l[i].id := by
    intro i hi
    unfold okS
    rw [getD_get hi]
    simp only [Bool.and_eq_true, decide_eq_true_eq, Bool.not_eq_true', Bool.or_eq_false_iff, Bool.or_eq_true]
    constructor
    · rintro ⟨⟨⟨⟨h1, h2⟩, h3⟩, h4⟩, h5, h6⟩
      refine ⟨⟨h1, h2, h3⟩, fun j hj => ?_, fun hm => ?_, fun j hj e => ?_⟩
      · subst hj
        rw [Nat.add_sub_cancel, getD_get (by omega)] at h4
        rcases h4 with h4 | h4
        · simp at h4
        · exact h4
      · rw [List.contains_iff_mem.2 hm] at h5; cases h5
      · rw [List.any_eq_false] at h6
        exact h6 l[j] (List.mem_take_iff_getElem.2 ⟨j, by omega, rfl⟩) (by rw [e]; simp)
    · rintro ⟨⟨h1, h2, h3⟩, h4, h5, h6⟩
      refine ⟨⟨⟨⟨h1, h2⟩, h3⟩, ?_⟩, ?_, ?_⟩
      · cases i with
        | zero => exact .inl rfl
        | succ i => rw [Nat.add_sub_cancel, getD_get (by omega)]; exact .inr (h4 i rfl)
      · exact Bool.eq_false_iff.2 fun hh => h5 (List.contains_iff_mem.1 hh)
      · rw [List.any_eq_false]
        intro x hx
        obtain ⟨j, hj, rfl⟩ := List.mem_take_iff_getElem.1 hx
        simpa using h6 j (by omega)
  constructor
  · intro h
    have hk := fun i hi => (key i hi).1 (h i hi)
    refine ⟨fun s hs => ?_, chain_pw (R := fun a b : SetD => ltS a.name b.name = true) (fun h1 h2 => lt_tr h1 h2) fun i hi => (hk (i + 1) hi).2.1 i rfl, List.pairwise_iff_getElem.2 fun i j hi hj hij => (hk j hj).2.2.2 i hij, fun s hs => ?_⟩
    · obtain ⟨i, hi, rfl⟩ := List.mem_iff_getElem.1 hs
      exact (hk i hi).1
    · obtain ⟨i, hi, rfl⟩ := List.mem_iff_getElem.1 hs
      exact (hk i hi).2.2.1
  · rintro ⟨h1, h2, h3, h4⟩ i hi
    exact (key i hi).2 ⟨h1 _ (List.getElem_mem hi), fun j hj => by subst hj; exact List.pairwise_iff_getElem.1 h2 j (j + 1) (by omega) hi (by omega), h4 _ (List.getElem_mem hi), fun j hj => List.pairwise_iff_getElem.1 h3 j i (by omega) hi hj⟩
theorem chk_iff {r : RootD} : chkF r = 0 ↔ Right r := by
  unfold chkF
  constructor
  · intro h
    split at h
    case isFalse => cases h
    rename_i hh
    obtain ⟨h1, h2, h3, h4⟩ := hh
    split at h
    case isFalse => cases h
    rename_i h5
    obtain ⟨o1, o2⟩ := okO_iff.1 h3
    obtain ⟨s1, s2, s3, s4⟩ := okS_iff.1 h4
    rw [List.all_eq_true] at h5
    exact ⟨h1, h2, o1, o2, fun s hs => ⟨(s1 s hs).1, (s1 s hs).2.1, (s1 s hs).2.2, by simpa using h5 s hs⟩, s2, s3, s4⟩
  · intro h
    rw [if_pos ⟨h.nO, h.nL, okO_iff.2 ⟨h.gO, h.pO⟩, okS_iff.2 ⟨fun s hs => ⟨(h.gL s hs).1, (h.gL s hs).2.1, (h.gL s hs).2.2.1⟩, h.pL, h.iL, h.iO⟩⟩, if_pos (List.all_eq_true.2 fun s hs => by simpa using (h.gL s hs).2.2.2)]
theorem Right.close {r : RootD} {p : List UInt8 → Bool} (h : Right r) : Right ⟨r.live, r.ops.filter p⟩ :=
  ⟨Nat.le_trans (List.length_filter_le _ _) h.nO, h.nL, fun x hx => h.gO x (List.mem_filter.1 hx).1, h.pO.filter _, h.gL, h.pL, h.iL, fun s hs hm => h.iO s hs (List.mem_filter.1 hm).1⟩
theorem Right.delete {r : RootD} {p : SetD → Bool} (h : Right r) : Right ⟨r.live.filter p, r.ops⟩ :=
  ⟨h.nO, Nat.le_trans (List.length_filter_le _ _) h.nL, h.gO, h.pO, fun s hs => h.gL s (List.mem_filter.1 hs).1, h.pL.filter _, h.iL.filter _, fun s hs => h.iO s (List.mem_filter.1 hs).1⟩
theorem knows_iff {r : RootD} {id : List UInt8} (h : Right r) : knowsF r id = true ↔ id ∈ r.ops ∨ ∃ s ∈ r.live, s.id = id := by
  unfold knowsF
  rw [decide_eq_true (chk_iff.2 h)]
  simp
theorem Right.open {r : RootD} {id : List UInt8} (h : Right r) (hk : knowsF r id = false) (hg : goodIdF id = true) (hn : r.ops.length < 16) : Right ⟨r.live, insT id r.ops⟩ := by
  have hno : ¬ (id ∈ r.ops ∨ ∃ s ∈ r.live, s.id = id) := fun hh => by rw [(knows_iff h).2 hh] at hk; cases hk
  exact ⟨by have := (insT_perm id r.ops).length_eq; rw [List.length_append] at this; simp at this ⊢; omega, h.nL, fun x hx => by rcases insT_mem.1 hx with hx | rfl; exact h.gO x hx; exact hg, insT_pw h.pO fun hm => hno (.inl hm), h.gL, h.pL, h.iL, fun s hs hm => by
    rcases insT_mem.1 hm with hm | hm
    · exact h.iO s hs hm
    · exact hno (.inr ⟨s, hs, hm⟩)⟩
/-- An opening. -/
def openF (r : RootD) (id : List UInt8) : RootD × Int :=
  if chkF r = 0 then (if goodIdF id = true then (if knowsF r id = true then (root0, 17) else if 16 ≤ r.ops.length then (root0, 28) else (⟨r.live, insT id r.ops⟩, 0)) else (root0, 22)) else (root0, chkF r)
/-- A commit. -/
def commitF (r : RootD) (s : SetD) : RootD × Int :=
  if chkF r = 0 then (if goodIdF s.id = true ∧ 0 ≤ s.size ∧ s.size ≤ 2147483647 then (if mGood s.name = true then (if (r.ops.any fun x => s.id == x) = true then (if (findF r s.name).isSome = false ∧ 16 ≤ r.live.length then (root0, 28) else (⟨insS s r.live, r.ops.filter fun x => !(x == s.id)⟩, 0)) else (root0, 125)) else (root0, 36)) else (root0, 22)) else (root0, chkF r)
end Go.Proofs.YtdcmfchodooolaaGreatDoor.Ex
end

section

set_option linter.unusedSimpArgs false
set_option linter.unusedVariables false
set_option maxRecDepth 10000
set_option maxHeartbeats 4000000
namespace Go.Proofs.YtdcmfchodooolaaGreatDoor.Ex
open Go
theorem CheckRootR_x {F : Nat → Prop} {H : AH} {vl vo : AV} {r : RootD} (hl : IsSl RSet F H vl r.live) (ho : IsSl RTx F H vo r.ops) (hr : RLen r) :
    WC Tryz.prog (tabOf Tryz.prog NT0) S0 22 [.agg [vl, vo]] H fun v h' => Ext H.n H h' ∧ v = .lit (.int .i64 (chkF r)) := by
  refine WC_fn Tryz.func22 rfl rfl ?_
  have so := hr.o
  have ss := hr.s
  have l1 := hl.one
  have l2 := hl.isSl
  have l3 := hl.lenD
  have o1 := ho.one
  have o2 := ho.isSl
  have o3 := ho.lenD
  obtain ⟨n, hN⟩ : ∃ n, n = r.ops.length := ⟨_, rfl⟩
  obtain ⟨m, hM⟩ : ∃ m, m = r.live.length := ⟨_, rfl⟩
  rw [← hN] at o3
  rw [← hM] at l3
  obtain ⟨hp, hhp⟩ : ∃ hp, hp = H.push (.cells [vl, vo] 33) := ⟨_, rfl⟩
  have EP : Ext H.n H hp := hhp ▸ (Ext.refl _ _).push _ (Nat.le_refl _)
  have P0 : hp.at H.n = some (.cells [vl, vo] 33) := hhp ▸ at_push_n _ _
  have LP := ld_at (T := tabOf Tryz.prog NT0) P0
  have lP := at_lt P0
  cases f1 : decide ((16 : Int) < (n : Int)) with
  | true =>
    have hc := chk_long (r := r) (.inl (by have := of_decide_eq_true f1; omega))
    simp only [core, zrA, zrS, zrM, zrL, zrE, reduceCtorEq, zrD, ziE, ziL, ziN, Tryz.ntmps22, l1, l2, l3, o1, o2, o3, ← hhp, LP, lP, f1, aundef, hc]
    first | exact EP | exact ⟨EP, rfl⟩
  | false =>
  cases f2 : decide ((16 : Int) < (m : Int)) with
  | true =>
    have hc := chk_long (r := r) (.inr (by have := of_decide_eq_true f2; omega))
    simp only [core, zrA, zrS, zrM, zrL, zrE, reduceCtorEq, zrD, ziE, ziL, ziN, Tryz.ntmps22, l1, l2, l3, o1, o2, o3, ← hhp, LP, lP, f1, f2, aundef, hc]
    first | exact EP | exact ⟨EP, rfl⟩
  | false =>
  have hn16 : n ≤ 16 := by have := of_decide_eq_false f1; omega
  have hm16 : m ≤ 16 := by have := of_decide_eq_false f2; omega
  simp only [core, zrA, zrS, zrM, zrL, zrE, reduceCtorEq, zrD, ziE, ziL, ziN, Tryz.ntmps22, l1, l2, l3, o1, o2, o3, ← hhp, LP, lP, f1, f2, aundef]
  refine WB_for n (fun i t h => Ext H.n H h ∧ h.at H.n = some (.cells [vl, vo] 33) ∧ (List.range i).all (okO r.ops) = true ∧ ∃ vi, OwnT (H.n + 1) h vi (r.ops.take i) ∧ t.n = 119 ∧ t.get 1 = .ptr H.n 0 ∧ t.get 3 = vi ∧ t.get 23 = vo ∧ t.get 24 = .lit (.int .i64 n) ∧ t.get 25 = .lit (.int .i64 i)) ?_ ?_ _ _ ?_
  · rintro i t h hlt hc ⟨E, R, hall, vi, oi, hn, g1, g3, g23, g24, g25⟩ ih
    have hwi := wrap_succ (n := n) hlt (by omega)
    obtain ⟨x, hx⟩ : ∃ x, r.ops[i]? = some x := ⟨_, List.getElem?_eq_getElem (by omega)⟩
    have hxg : r.ops.getD i [] = x := by rw [List.getD_eq_getElem?_getD, hx]; rfl
    have hxm := List.mem_of_getElem? hx
    have LR := ld_at (T := tabOf Tryz.prog NT0) R
    have lR := at_lt R
    have i1 := oi.one
    have ld : ∀ {h : AH} {i : Nat} {x : List UInt8}, Ext H.n H h → r.ops[i]? = some x → loadA (tabOf Tryz.prog NT0) h 9 (slB vo) (slO vo + i) = some (.lit (.string ⟨x.toArray⟩)) := fun {h i x} e hx => by
      obtain ⟨cc, hc1, hld, hld0⟩ := ho.atE (T := tabOf Tryz.prog NT0) e RTx_z hx
      obtain rfl := RTx_is.1 hc1
      have ld := hld0 9 1 (by kernel_rfl) (by decide) (by decide)
      rw [Nat.mul_one] at ld
      rw [ld]
      rfl
    have l0 := ld E hx
    simp only [core, zrA, zrS, zrM, zrL, zrE, reduceCtorEq, zrD, ziE, ziL, ziN, hn, g1, g3, g23, g24, g25, hlt, hc, o1, o2, o3, l0, LR, lR]
    refine (goodIdR_x (so x hxm)).mono ?_
    rintro _ h2 ⟨E2, rfl⟩
    have R2 := (E2.2 _ lR).trans R
    have LR2 := ld_at (T := tabOf Tryz.prog NT0) R2
    have lR2 := at_lt R2
    have E02 := E.trans (E2.mono E.1)
    have oi2 := oi.ext E2 (Nat.le_refl _)
    cases hg : goodIdF x with
    | false =>
      have hbad := chk_o (r := r) (i := i) (by omega) (by unfold okO; rw [hxg, hg]; rfl)
      simp only [core, zrA, zrS, zrM, zrL, zrE, reduceCtorEq, zrD, ziE, ziL, ziN, hn, g1, g3, g23, g24, g25, aundef, hbad]
      first | exact E02 | exact ⟨E02, rfl⟩
    | true =>
    have htk : r.ops.take (i + 1) = r.ops.take i ++ [x] := by
      obtain ⟨h1, h2⟩ := List.getElem?_eq_some_iff.1 hx
      rw [List.take_succ_eq_append_getElem h1, h2]
    have e5 : Ext h2.n h2 (h2.push (.cells [.lit (.string ⟨x.toArray⟩)] 9)) := (Ext.refl _ _).push _ (Nat.le_refl _)
    have hpush := fun cap => push_tx (cap := cap) (oi2.ext e5 (Nat.le_refl _)) (by rw [n_push]; have := at_lt R2; omega) (at_push_n h2 _) (by rw [List.length_take]; omega)
    by_cases hi0 : i = 0
    · have h0 : ((0 : Int) < (i : Int)) = False := by rw [hi0]; simp
      have hok : okO r.ops i = true := by unfold okO; rw [hxg, hg, hi0]; rfl
      simp only [core, zrA, zrS, zrM, zrL, zrE, reduceCtorEq, zrD, ziE, ziL, ziN, hn, g1, g3, g23, g24, g25, aundef, h0, hwi, i1]
      refine WOp_app (hpush _) ?_
      rintro s6 h6 ⟨o6, e6⟩
      have u6 := o6.one
      simp only [core, zrA, zrS, zrM, zrL, zrE, reduceCtorEq, zrD, ziE, ziL, ziN, hn, g1, g3, g23, g24, g25, u6, hwi]
      refine ih _ _ ⟨(E02.trans (e5.mono E02.1)).trans (e6.mono (Nat.le_succ _)), (e6.2 _ (Nat.lt_succ_self _)).trans ((e5.2 _ lR2).trans R2), range_snoc hall hok, s6, htk ▸ o6, ?_⟩
      simp only [core, zrA, zrS, zrM, zrL, zrE, reduceCtorEq, zrD, ziE, ziL, ziN, hn, g1, g3, g23, g24, g25]
    · have h0 : ((0 : Int) < (i : Int)) = True := by simp; omega
      obtain ⟨y, hy⟩ : ∃ y, r.ops[i - 1]? = some y := ⟨_, List.getElem?_eq_getElem (by omega)⟩
      have hyg : r.ops.getD (i - 1) [] = y := by rw [List.getD_eq_getElem?_getD, hy]; rfl
      have lpy := ld E02 hy
      have w2 : IntKind.i64.wrap ((i : Int) - 1) = ((i - 1 : Nat) : Int) := (wrap_in (by omega) (by omega)).trans (by omega)
      have hin : i - 1 < n := by omega
      cases hlt' : ltS y x with
      | false =>
        have hbad := chk_o (r := r) (i := i) (by omega) (by unfold okO; rw [hxg, hyg, hg, hlt', show (i == 0) = false by simpa using hi0]; rfl)
        simp only [core, zrA, zrS, zrM, zrL, zrE, reduceCtorEq, zrD, ziE, ziL, ziN, hn, g1, g3, g23, g24, g25, aundef, h0, LR2, lR2, o1, o2, o3, w2, hin, lpy, pur_sge, hlt', hbad]
        first | exact E02 | exact ⟨E02, rfl⟩
      | true =>
        have hok : okO r.ops i = true := by unfold okO; rw [hxg, hyg, hg, hlt']; simp
        simp only [core, zrA, zrS, zrM, zrL, zrE, reduceCtorEq, zrD, ziE, ziL, ziN, hn, g1, g3, g23, g24, g25, aundef, h0, LR2, lR2, o1, o2, o3, w2, hin, lpy, pur_sge, hlt', hwi, i1]
        refine WOp_app (hpush _) ?_
        rintro s6 h6 ⟨o6, e6⟩
        have u6 := o6.one
        simp only [core, zrA, zrS, zrM, zrL, zrE, reduceCtorEq, zrD, ziE, ziL, ziN, hn, g1, g3, g23, g24, g25, u6, hwi]
        refine ih _ _ ⟨(E02.trans (e5.mono E02.1)).trans (e6.mono (Nat.le_succ _)), (e6.2 _ (Nat.lt_succ_self _)).trans ((e5.2 _ lR2).trans R2), range_snoc hall hok, s6, htk ▸ o6, ?_⟩
        simp only [core, zrA, zrS, zrM, zrL, zrE, reduceCtorEq, zrD, ziE, ziL, ziN, hn, g1, g3, g23, g24, g25]
  · rintro t h hc ⟨E, R, hall, vi, oi, hn, g1, g3, g23, g24, g25⟩
    have LR := ld_at (T := tabOf Tryz.prog NT0) R
    have lR := at_lt R
    rw [hN, List.take_length] at oi
    have hallO : (List.range r.ops.length).all (okO r.ops) = true := by rw [← hN]; exact hall
    simp only [core, zrA, zrS, zrM, zrL, zrE, reduceCtorEq, zrD, ziE, ziL, ziN, hn, g1, g3, g23, g24, g25, hc, l1, l2, l3, LR, lR]
    refine WB_for m (fun i t h => Ext H.n H h ∧ h.at H.n = some (.cells [vl, vo] 33) ∧ (List.range i).all (okS r.ops r.live) = true ∧ ∃ vi, OwnT (H.n + 1) h vi (r.ops ++ (r.live.take i).map (·.id)) ∧ t.n = 119 ∧ t.get 1 = .ptr H.n 0 ∧ t.get 3 = vi ∧ t.get 53 = vl ∧ t.get 54 = .lit (.int .i64 m) ∧ t.get 55 = .lit (.int .i64 i)) ?_ ?_ _ _ ?_
    · rintro i t h hlt hc2 ⟨E, R, hall2, vi, oi, hn, g1, g3, g53, g54, g55⟩ ih
      have hwi := wrap_succ (n := m) hlt (by omega)
      obtain ⟨x, hx⟩ : ∃ x, r.live[i]? = some x := ⟨_, List.getElem?_eq_getElem (by omega)⟩
      have hxg : r.live.getD i set0 = x := by rw [List.getD_eq_getElem?_getD, hx]; rfl
      have hxm := List.mem_of_getElem? hx
      obtain ⟨cc, hc1, hld, hld0⟩ := hl.atE (T := tabOf Tryz.prog NT0) E RSet_z hx
      obtain rfl := RSet_is.1 hc1
      obtain ⟨hA, hhA⟩ : ∃ hA, hA = h.push (.cells (setC x) 35) := ⟨_, rfl⟩
      have eA : Ext h.n h hA := hhA ▸ (Ext.refl _ _).push _ (Nat.le_refl _)
      have XA : hA.at h.n = some (.cells (setC x) 35) := hhA ▸ at_push_n _ _
      have EA := E.trans (eA.mono E.1)
      have RA := (eA.2 _ (at_lt R)).trans R
      unfold setC at hhA XA hld hld0
      have LXA := ld_at (T := tabOf Tryz.prog NT0) XA
      have lXA := at_lt XA
      have LRA := ld_at (T := tabOf Tryz.prog NT0) RA
      have lRA := at_lt RA
      simp only [core, zrA, zrS, zrM, zrL, zrE, reduceCtorEq, zrD, ziE, ziL, ziN, hn, g1, g3, g53, g54, g55, hlt, hc2, l1, l2, l3, hld, hld0, ← hhA]
      rw [WB_regionD [0, 1, 2, 3, 4, 5, 6, 7, 8, 9, 10, 11, 12, 13, 14, 15, 16, 17, 18, 19, 20, 21, 22, 23, 24, 25, 26, 27, 28, 29] 4226356243181170489693065783724060733400078045070733293938348402583151474092150771819983596239690792338658986001380313359418672181109758510467220460734765490775396558933891719138818786494048386770850064511632691095530780183065870131829621249236987472055988812629445443584 (by kernel_rfl)]
      repeat ((with_reducible refine WDM_cons ?_; simp only [dw1]; try simp only [dw2, zrA, zrM, zrR, zrO, zrE]); simp only [core, zrA, zrS, zrM, zrL, zrE, reduceCtorEq, zrD, ziE, ziL, ziN, cored, hn, g1, g3, g53, g54, g55, LXA, lXA, LRA, lRA])
      refine (goodIdR_x (ss x hxm).1).mono ?_
      rintro _ h2 ⟨E2, rfl⟩
      have EB := EA.trans (E2.mono EA.1)
      have XB := (E2.2 _ lXA).trans XA
      have RB := (E2.2 _ lRA).trans RA
      have LXB := ld_at (T := tabOf Tryz.prog NT0) XB
      have lXB := at_lt XB
      have LRB := ld_at (T := tabOf Tryz.prog NT0) RB
      have lRB := at_lt RB
      have lA := eA.1
      have lB := E2.1
      have oiB := (oi.ext eA (Nat.le_refl _)).ext E2 (Nat.le_refl _)
      have hbad : okS r.ops r.live i = false → chkF r = 22 := fun h => chk_s (r := r) (i := i) (by omega) h
      cases q1 : goodIdF x.id with
      | false =>
        have hb := hbad (by unfold okS; rw [hxg, q1]; rfl)
        repeat (first | ((with_reducible refine WDM_cons ?_; simp only [dw1]; try simp only [dw2, zrA, zrM, zrR, zrO, zrE]); simp only [core, zrA, zrS, zrM, zrL, zrE, reduceCtorEq, zrD, ziE, ziL, ziN, cored, hn, g1, g3, g53, g54, g55, aundef, q1, hb]) | simp only [core, zrA, zrS, zrM, zrL, zrE, reduceCtorEq, zrD, ziE, ziL, ziN, cored, hn, g1, g3, g53, g54, g55, aundef, q1, hb])
        first | exact EB | exact ⟨EB, rfl⟩
      | true =>
      cases q2 : decide (x.size < 0) with
      | true =>
        have hb := hbad (by unfold okS; have := of_decide_eq_true q2; rw [hxg, decide_eq_false (p := 0 ≤ x.size) (by omega)]; simp)
        repeat (first | ((with_reducible refine WDM_cons ?_; simp only [dw1]; try simp only [dw2, zrA, zrM, zrR, zrO, zrE]); simp only [core, zrA, zrS, zrM, zrL, zrE, reduceCtorEq, zrD, ziE, ziL, ziN, cored, hn, g1, g3, g53, g54, g55, LXB, lXB, aundef, q1, q2, hb]) | simp only [core, zrA, zrS, zrM, zrL, zrE, reduceCtorEq, zrD, ziE, ziL, ziN, cored, hn, g1, g3, g53, g54, g55, LXB, lXB, aundef, q1, q2, hb])
        first | exact EB | exact ⟨EB, rfl⟩
      | false =>
      cases q3 : decide (2147483647 < x.size) with
      | true =>
        have hb := hbad (by unfold okS; have := of_decide_eq_true q3; rw [hxg, decide_eq_false (p := x.size ≤ 2147483647) (by omega)]; simp)
        repeat (first | ((with_reducible refine WDM_cons ?_; simp only [dw1]; try simp only [dw2, zrA, zrM, zrR, zrO, zrE]); simp only [core, zrA, zrS, zrM, zrL, zrE, reduceCtorEq, zrD, ziE, ziL, ziN, cored, hn, g1, g3, g53, g54, g55, LXB, lXB, aundef, q1, q2, q3, hb]) | simp only [core, zrA, zrS, zrM, zrL, zrE, reduceCtorEq, zrD, ziE, ziL, ziN, cored, hn, g1, g3, g53, g54, g55, LXB, lXB, aundef, q1, q2, q3, hb])
        first | exact EB | exact ⟨EB, rfl⟩
      | false =>
      have z2 := of_decide_eq_false q2
      have z3 := of_decide_eq_false q3
      have htk : r.live.take (i + 1) = r.live.take i ++ [x] := by
        obtain ⟨h1, h2⟩ := List.getElem?_eq_some_iff.1 hx
        rw [List.take_succ_eq_append_getElem h1, h2]
      obtain ⟨ids, hids⟩ : ∃ ids, ids = r.ops ++ (r.live.take i).map (·.id) := ⟨_, rfl⟩
      rw [← hids] at oiB
      obtain ⟨c, hC⟩ : ∃ c, c = ids.length := ⟨_, rfl⟩
      have hcl : c ≤ 32 := by rw [hC, hids, List.length_append, List.length_map, List.length_take]; omega
      have hdup : (r.ops.contains x.id || (r.live.take i).any fun s => s.id == x.id) = decide (x.id ∈ ids) := by
        rw [hids, Bool.eq_iff_iff]
        simp only [Bool.or_eq_true, List.contains_iff_mem, List.any_eq_true, beq_iff_eq, decide_eq_true_eq, List.mem_append, List.mem_map]
      have i1 := oiB.one
      have i2 := oiB.isSl
      have i3 := oiB.lenD
      rw [← hC] at i3
      have oiS := oiB.toSl (F := fun b => H.n + 1 ≤ b) (G := fun _ => False) (fun _ hh => hh.elim) (fun _ hh => hh)
      obtain ⟨y, hyD⟩ : ∃ y, y = r.live.getD (i - 1) set0 := ⟨_, rfl⟩
      have hokE : (i = 0 ∨ ltS y.name x.name = true) → okS r.ops r.live i = !decide (x.id ∈ ids) := fun hh => by
        unfold okS
        rw [hxg, q1, decide_eq_true (p := 0 ≤ x.size) (by omega), decide_eq_true (p := x.size ≤ 2147483647) (by omega), hdup, ← hyD]
        rcases hh with hh | hh
        · rw [hh]; simp
        · rw [hh]; simp
      have hbr : (((0 : Int) < (i : Int)) = True ∧ ltS y.name x.name = false) ∨ (i = 0 ∨ ltS y.name x.name = true) := by
        by_cases h0 : i = 0
        · exact .inr (.inl h0)
        · cases hh : ltS y.name x.name with
          | true => exact .inr (.inr rfl)
          | false => exact .inl ⟨by simp; omega, rfl⟩
      have hpos : 0 < i → IntKind.i64.wrap ((i : Int) - 1) = ((i - 1 : Nat) : Int) ∧ i - 1 < m ∧ loadA (tabOf Tryz.prog NT0) h2 9 (slB vl) (slO vl + (i - 1) * 35) = some (.lit (.string ⟨y.name.toArray⟩)) := fun h0 => by
        have hy : r.live[i - 1]? = some y := by rw [hyD, List.getD_eq_getElem?_getD, List.getElem?_eq_getElem (by omega)]; rfl
        obtain ⟨cy, hc1, hldy, -⟩ := hl.atE (T := tabOf Tryz.prog NT0) EB RSet_z hy
        obtain rfl := RSet_is.1 hc1
        exact ⟨(wrap_in (by omega) (by omega)).trans (by omega), by omega, (hldy 9 1 0 (by kernel_rfl) (by decide) (by decide)).trans rfl⟩
      rcases hbr with ⟨h0, hlt'⟩ | hgo
      · obtain ⟨w2, hin, lpy⟩ := hpos (by simpa using h0)
        have hb := hbad (by unfold okS; have h0' : ¬ i = 0 := by simp at h0; omega
                            rw [hxg, ← hyD, hlt', beq_eq_false_iff_ne.2 h0']; simp)
        repeat (first | ((with_reducible refine WDM_cons ?_; simp only [dw1]; try simp only [dw2, zrA, zrM, zrR, zrO, zrE]); simp only [core, zrA, zrS, zrM, zrL, zrE, reduceCtorEq, zrD, ziE, ziL, ziN, cored, hn, g1, g3, g53, g54, g55, LXB, lXB, LRB, lRB, l1, l2, l3, aundef, q1, q2, q3, h0, hb, w2, hin, lpy, pur_sge, hlt']) | simp only [core, zrA, zrS, zrM, zrL, zrE, reduceCtorEq, zrD, ziE, ziL, ziN, cored, hn, g1, g3, g53, g54, g55, LXB, lXB, LRB, lRB, l1, l2, l3, aundef, q1, q2, q3, h0, hb, w2, hin, lpy, pur_sge, hlt'])
        first | exact EB | exact ⟨EB, rfl⟩
      have hokE := hokE hgo
      have hcs : (((0 : Int) < (i : Int)) = False ∧ ((0 : Int) < (i : Int)) = False ∧ ((0 : Int) < (i : Int)) = False ∧ ((0 : Int) < (i : Int)) = False ∧ ((0 : Int) < (i : Int)) = False) ∨ (((0 : Int) < (i : Int)) = True ∧ IntKind.i64.wrap ((i : Int) - 1) = ((i - 1 : Nat) : Int) ∧ i - 1 < m ∧ loadA (tabOf Tryz.prog NT0) h2 9 (slB vl) (slO vl + (i - 1) * 35) = some (.lit (.string ⟨y.name.toArray⟩)) ∧ ltS y.name x.name = true) := by
        by_cases h0 : i = 0
        · have : ((0 : Int) < (i : Int)) = False := by rw [h0]; simp
          exact .inl ⟨this, this, this, this, this⟩
        · obtain ⟨w2, hin, lpy⟩ := hpos (by omega)
          exact .inr ⟨by simp; omega, w2, hin, lpy, by rcases hgo with h | h; exact absurd h h0; exact h⟩
      rcases hcs with ⟨h0, w2, hin, lpy, hlt'⟩ | ⟨h0, w2, hin, lpy, hlt'⟩
      all_goals
        repeat (first | ((with_reducible refine WDM_cons ?_; simp only [dw1]; try simp only [dw2, zrA, zrM, zrR, zrO, zrE]); simp only [core, zrA, zrS, zrM, zrL, zrE, reduceCtorEq, zrD, ziE, ziL, ziN, cored, hn, g1, g3, g53, g54, g55, LXB, lXB, LRB, lRB, l1, l2, l3, aundef, q1, q2, q3, h0, w2, hin, lpy, pur_sge, hlt', i1, i2, i3]) | simp only [core, zrA, zrS, zrM, zrL, zrE, reduceCtorEq, zrD, ziE, ziL, ziN, cored, hn, g1, g3, g53, g54, g55, LXB, lXB, LRB, lRB, l1, l2, l3, aundef, q1, q2, q3, h0, w2, hin, lpy, pur_sge, hlt', i1, i2, i3])
        refine WB_for c (fun k t h' => h' = h2 ∧ (∀ z ∈ ids.take k, (z == x.id) = false) ∧ t.n = 119 ∧ t.get 1 = .ptr H.n 0 ∧ t.get 3 = vi ∧ t.get 53 = vl ∧ t.get 54 = .lit (.int .i64 m) ∧ t.get 55 = .lit (.int .i64 i) ∧ t.get 7 = .ptr h.n 0 ∧ t.get 90 = vi ∧ t.get 91 = .lit (.int .i64 c) ∧ t.get 92 = .lit (.int .i64 k)) ?_ ?_ _ _ ?_
        · rintro k t h' hk hc3 ⟨rfl, hno, hn, g1, g3, g53, g54, g55, g7, g90, g91, g92⟩ ih
          have hwk := wrap_succ (n := c) hk (by omega)
          obtain ⟨z, hz⟩ : ∃ z, ids[k]? = some z := ⟨_, List.getElem?_eq_getElem (by omega)⟩
          have lz : loadA (tabOf Tryz.prog NT0) h' 9 (slB vi) (slO vi + k) = some (.lit (.string ⟨z.toArray⟩)) := by
            obtain ⟨cc, hc1, hld, hld0⟩ := oiS.at (T := tabOf Tryz.prog NT0) RTx_z hz
            obtain rfl := RTx_is.1 hc1
            have ld := hld0 9 1 (by kernel_rfl) (by decide) (by decide)
            rw [Nat.mul_one] at ld
            rw [ld]
            rfl
          cases hq : (z == x.id) with
          | true =>
            have hin2 : x.id ∈ ids := by
              have := List.mem_of_getElem? hz
              rw [eq_of_beq hq] at this
              exact this
            have hb := hbad (by rw [hokE, decide_eq_true hin2]; rfl)
            simp only [core, zrA, zrS, zrM, zrL, zrE, reduceCtorEq, zrD, ziE, ziL, ziN, hn, g1, g3, g53, g54, g55, g7, g90, g91, g92, hk, hc3, i1, i2, i3, lz, LXB, lXB, pur_seq, hq, hb]
            first | exact EB | exact ⟨EB, rfl⟩
          | false =>
            simp only [core, zrA, zrS, zrM, zrL, zrE, reduceCtorEq, zrD, ziE, ziL, ziN, hn, g1, g3, g53, g54, g55, g7, g90, g91, g92, hk, hc3, i1, i2, i3, lz, LXB, lXB, pur_seq, hq, hwk]
            refine ih _ _ ⟨rfl, take_none (p := fun z => z == x.id) hz hq hno, ?_⟩
            simp only [core, zrA, zrS, zrM, zrL, zrE, reduceCtorEq, zrD, ziE, ziL, ziN, hn, g1, g3, g53, g54, g55, g7, g90, g91, g92]
        · rintro t h' hc3 ⟨rfl, hno, hn, g1, g3, g53, g54, g55, g7, g90, g91, g92⟩
          rw [hC, List.take_length] at hno
          have hni : x.id ∉ ids := fun hm => by have := hno _ hm; simp at this
          have hok : okS r.ops r.live i = true := by rw [hokE, decide_eq_false hni]; rfl
          simp only [core, zrA, zrS, zrM, zrL, zrE, reduceCtorEq, zrD, ziE, ziL, ziN, hn, g1, g3, g53, g54, g55, g7, g90, g91, g92, hc3, i1, LXB, lXB]
          have e5 : Ext h'.n h' (h'.push (.cells [.lit (.string ⟨x.id.toArray⟩)] 9)) := (Ext.refl _ _).push _ (Nat.le_refl _)
          refine WOp_app (push_tx (oiB.ext e5 (Nat.le_refl _)) (by rw [n_push]; have := at_lt RB; omega) (at_push_n h' _) (by omega)) ?_
          rintro s6 h6 ⟨o6, e6⟩
          have u6 := o6.one
          simp only [core, zrA, zrS, zrM, zrL, zrE, reduceCtorEq, zrD, ziE, ziL, ziN, hn, g1, g3, g53, g54, g55, g7, g90, g91, g92, u6, hwi]
          refine ih _ _ ⟨(EB.trans (e5.mono EB.1)).trans (e6.mono (Nat.le_succ _)), (e6.2 _ (Nat.lt_succ_self _)).trans ((e5.2 _ lRB).trans RB), range_snoc hall2 hok, s6, ?_, ?_⟩
          · rw [htk, List.map_append, ← List.append_assoc, ← hids]
            exact o6
          · simp only [core, zrA, zrS, zrM, zrL, zrE, reduceCtorEq, zrD, ziE, ziL, ziN, hn, g1, g3, g53, g54, g55, g7, g90, g91, g92]
        · refine ⟨rfl, fun z hz => by simp at hz, ?_⟩
          simp only [core, zrA, zrS, zrM, zrL, zrE, reduceCtorEq, zrD, ziE, ziL, ziN, hn, g1, g3, g53, g54, g55]
          try ((repeat' apply And.intro) <;> first | rfl | trivial)
    · rintro t h hc2 ⟨E, R, hall2, vi, oi, hn, g1, g3, g53, g54, g55⟩
      have LR := ld_at (T := tabOf Tryz.prog NT0) R
      have lR := at_lt R
      have hallS : (List.range r.live.length).all (okS r.ops r.live) = true := by rw [← hM]; exact hall2
      have hchk : chkF r = if r.live.all (fun s => mGood s.name) = true then 0 else 36 := by
        unfold chkF
        rw [if_pos ⟨by omega, by omega, hallO, hallS⟩]
      simp only [core, zrA, zrS, zrM, zrL, zrE, reduceCtorEq, zrD, ziE, ziL, ziN, hn, g1, g3, g53, g54, g55, hc2, l1, l2, l3, LR, lR]
      refine WB_for m (fun i t h => Ext H.n H h ∧ h.at H.n = some (.cells [vl, vo] 33) ∧ (∀ s ∈ r.live.take i, mGood s.name = true) ∧ t.n = 119 ∧ t.get 1 = .ptr H.n 0 ∧ t.get 108 = vl ∧ t.get 109 = .lit (.int .i64 m) ∧ t.get 110 = .lit (.int .i64 i)) ?_ ?_ _ _ ?_
      · rintro i t h hlt hc3 ⟨E, R, hgood, hn, g1, g108, g109, g110⟩ ih
        have hwi := wrap_succ (n := m) hlt (by omega)
        obtain ⟨x, hx⟩ : ∃ x, r.live[i]? = some x := ⟨_, List.getElem?_eq_getElem (by omega)⟩
        have hxm := List.mem_of_getElem? hx
        obtain ⟨cc, hc1, hld, hld0⟩ := hl.atE (T := tabOf Tryz.prog NT0) E RSet_z hx
        obtain rfl := RSet_is.1 hc1
        obtain ⟨hA, hhA⟩ : ∃ hA, hA = h.push (.cells (setC x) 35) := ⟨_, rfl⟩
        have eA : Ext h.n h hA := hhA ▸ (Ext.refl _ _).push _ (Nat.le_refl _)
        have XA : hA.at h.n = some (.cells (setC x) 35) := hhA ▸ at_push_n _ _
        have EA := E.trans (eA.mono E.1)
        have RA := (eA.2 _ (at_lt R)).trans R
        unfold setC at hhA XA hld hld0
        have LXA := ld_at (T := tabOf Tryz.prog NT0) XA
        have lXA := at_lt XA
        simp only [core, zrA, zrS, zrM, zrL, zrE, reduceCtorEq, zrD, ziE, ziL, ziN, hn, g1, g108, g109, g110, hlt, hc3, l1, l2, l3, hld, hld0, ← hhA, LXA, lXA]
        refine (rgood_x (Nat.le_trans (ss x hxm).2 (by omega))).mono ?_
        rintro _ h2 ⟨rfl, rfl⟩
        have EB := EA
        have RB := RA
        have htk : r.live.take (i + 1) = r.live.take i ++ [x] := by
          obtain ⟨h1, h2⟩ := List.getElem?_eq_some_iff.1 hx
          rw [List.take_succ_eq_append_getElem h1, h2]
        cases g : mGood x.name with
        | false =>
          have hb : chkF r = 36 := by
            rw [hchk, if_neg]
            intro hh
            have := List.all_eq_true.1 hh x hxm
            rw [g] at this
            cases this
          simp only [core, zrA, zrS, zrM, zrL, zrE, reduceCtorEq, zrD, ziE, ziL, ziN, hn, g1, g108, g109, g110, aundef, g, hb]
          first | exact EB | exact ⟨EB, rfl⟩
        | true =>
          simp only [core, zrA, zrS, zrM, zrL, zrE, reduceCtorEq, zrD, ziE, ziL, ziN, hn, g1, g108, g109, g110, aundef, g, hwi]
          refine ih _ _ ⟨EB, RB, fun s hs => ?_, ?_⟩
          · rw [htk] at hs
            rcases List.mem_append.1 hs with hs | hs
            · exact hgood s hs
            · obtain rfl := List.mem_singleton.1 hs
              exact g
          · simp only [core, zrA, zrS, zrM, zrL, zrE, reduceCtorEq, zrD, ziE, ziL, ziN, hn, g1, g108, g109, g110]
      · rintro t h hc3 ⟨E, R, hgood, hn, g1, g108, g109, g110⟩
        have hb : chkF r = 0 := by
          rw [hchk, if_pos]
          rw [hM, List.take_length] at hgood
          exact List.all_eq_true.2 hgood
        simp only [core, zrA, zrS, zrM, zrL, zrE, reduceCtorEq, zrD, ziE, ziL, ziN, hn, g1, g108, g109, g110, hc3, hb]
        first | exact E | exact ⟨E, rfl⟩
      · refine ⟨E, R, fun s hs => by simp at hs, ?_⟩
        simp only [core, zrA, zrS, zrM, zrL, zrE, reduceCtorEq, zrD, ziE, ziL, ziN, hn, g1, g3, g53, g54, g55]
        try ((repeat' apply And.intro) <;> first | rfl | trivial)
    · refine ⟨E, R, rfl, vi, by simpa using oi, ?_⟩
      simp only [core, zrA, zrS, zrM, zrL, zrE, reduceCtorEq, zrD, ziE, ziL, ziN, hn, g1, g3, g23, g24, g25]
      try ((repeat' apply And.intro) <;> first | rfl | trivial)
  · refine ⟨EP, P0, rfl, .lit (.slice none 0 0), .nil, ?_⟩
    simp only [core, zrA, zrS, zrM, zrL, zrE, reduceCtorEq, zrD, ziE, ziL, ziN]
    try ((repeat' apply And.intro) <;> first | rfl | trivial)
end Go.Proofs.YtdcmfchodooolaaGreatDoor.Ex
end

section

set_option linter.unusedSimpArgs false
set_option linter.unusedVariables false
set_option maxRecDepth 10000
set_option maxHeartbeats 4000000
namespace Go.Proofs.YtdcmfchodooolaaGreatDoor.Ex
open Go
def namesF (r : RootD) : List (List UInt8) := if chkF r = 0 then r.live.map (·.name) else []
theorem FindR_x {F : Nat → Prop} {H : AH} {vl vo : AV} {r : RootD} {name : List UInt8} (hl : IsSl RSet F H vl r.live) (ho : IsSl RTx F H vo r.ops) (hr : RLen r) :
    WC Tryz.prog (tabOf Tryz.prog NT0) S0 15 [.agg [vl, vo], .lit (.string ⟨name.toArray⟩)] H fun v h' => Ext H.n H h' ∧ v = .tup [.agg (setC ((findF r name).getD set0)), .lit (.bool (findF r name).isSome)] := by
  refine WC_fn Tryz.func15 rfl rfl ?_
  have l1 := hl.one
  have l2 := hl.isSl
  have l3 := hl.lenD
  have o1 := ho.one
  have o2 := ho.isSl
  obtain ⟨m, hM⟩ : ∃ m, m = r.live.length := ⟨_, rfl⟩
  rw [← hM] at l3
  obtain ⟨hp, hhp⟩ : ∃ hp, hp = H.push (.cells [vl, vo] 33) := ⟨_, rfl⟩
  obtain ⟨hq, hhq⟩ : ∃ hq, hq = hp.push (.cells zSet 35) := ⟨_, rfl⟩
  have EP : Ext H.n H hp := hhp ▸ (Ext.refl _ _).push _ (Nat.le_refl _)
  have P0 : hp.at H.n = some (.cells [vl, vo] 33) := hhp ▸ at_push_n _ _
  have EQ : Ext hp.n hp hq := hhq ▸ (Ext.refl _ _).push _ (Nat.le_refl _)
  have Q1 : hq.at hp.n = some (.cells zSet 35) := hhq ▸ at_push_n _ _
  have nP : hp.n = H.n + 1 := by rw [hhp, n_push]
  have P1 := (EQ.2 _ (at_lt P0)).trans P0
  have LP := ld_at (T := tabOf Tryz.prog NT0) P1
  have lP := at_lt P1
  have lQ := at_lt Q1
  have E0 := EP.trans (EQ.mono EP.1)
  unfold zSet at hhq Q1
  simp only [core, zrA, zrS, zrM, zrL, zrE, reduceCtorEq, zrD, ziE, ziL, ziN, Tryz.ntmps15, l1, l2, o1, o2, ← hhp, ← hhq, LP, lP]
  refine (CheckRootR_x (hl.ext E0 (Nat.le_refl _)) (ho.ext E0 (Nat.le_refl _)) hr).mono ?_
  rintro _ h2 ⟨E2, rfl⟩
  have E02 := E0.trans (E2.mono E0.1)
  have P2 := (E2.2 _ lP).trans P1
  have Q2 := (E2.2 _ lQ).trans Q1
  have lP2 := at_lt P2
  have lQ2 := at_lt Q2
  cases hk : decide (chkF r = 0) with
  | false =>
    have hb : (chkF r != 0) = true := by rw [bne, beq_eq_false_iff_ne.2 (of_decide_eq_false hk)]; rfl
    have hkn : findF r name = none := by unfold findF; rw [if_neg (of_decide_eq_false hk)]
    obtain ⟨h3, hh3⟩ : ∃ h3, h3 = h2.put hp.n (.cells zSet 35) := ⟨_, rfl⟩
    have E3 : Ext H.n H h3 := hh3 ▸ E02.put _ (by omega)
    have Q3 : h3.at hp.n = some (.cells zSet 35) := hh3 ▸ at_put_same _ lQ2
    have lQ3 := at_lt Q3
    unfold zSet at hh3 Q3
    have LQ3 := ld_at (T := tabOf Tryz.prog NT0) Q3
    simp only [core, zrA, zrS, zrM, zrL, zrE, reduceCtorEq, zrD, ziE, ziL, ziN, hb, hkn, Q2, lQ2, ← hh3, LQ3, lQ3, Option.getD_none, Option.isSome_none, zSet_eq]
    unfold zSet
    first | exact ⟨E3, rfl⟩ | exact E3
  | true =>
  have hc := of_decide_eq_true hk
  have hb : (chkF r != 0) = false := by rw [hc]; rfl
  obtain ⟨n1, n2⟩ := chk_len hc
  have LP2 := ld_at (T := tabOf Tryz.prog NT0) P2
  simp only [core, zrA, zrS, zrM, zrL, zrE, reduceCtorEq, zrD, ziE, ziL, ziN, hb, LP2, lP2, l1, l2, l3]
  refine WB_for m (fun i t h => Ext H.n H h ∧ h.at hp.n = some (.cells zSet 35) ∧ (∀ y ∈ r.live.take i, (y.name == name) = false) ∧ t.n = 26 ∧ t.get 1 = .lit (.string ⟨name.toArray⟩) ∧ t.get 4 = .ptr hp.n 0 ∧ t.get 13 = vl ∧ t.get 14 = .lit (.int .i64 m) ∧ t.get 15 = .lit (.int .i64 i)) ?_ ?_ _ _ ?_
  · rintro i t h hlt hc2 ⟨E, Q, hn0, hn, g1, g4, g13, g14, g15⟩ ih
    have hwi := wrap_succ (n := m) hlt (by omega)
    obtain ⟨x, hx⟩ : ∃ x, r.live[i]? = some x := ⟨_, List.getElem?_eq_getElem (by omega)⟩
    obtain ⟨cc, hc1, hld, hld0⟩ := hl.atE (T := tabOf Tryz.prog NT0) E RSet_z hx
    obtain rfl := RSet_is.1 hc1
    obtain ⟨hA, hhA⟩ : ∃ hA, hA = h.push (.cells (setC x) 35) := ⟨_, rfl⟩
    have eA : Ext h.n h hA := hhA ▸ (Ext.refl _ _).push _ (Nat.le_refl _)
    have XA : hA.at h.n = some (.cells (setC x) 35) := hhA ▸ at_push_n _ _
    have EA := E.trans (eA.mono E.1)
    have QA := (eA.2 _ (at_lt Q)).trans Q
    have lQA := at_lt QA
    have LXA := ld_at (T := tabOf Tryz.prog NT0) XA
    have lXA := at_lt XA
    cases hq : (x.name == name) with
    | true =>
      have hf := find_yes' hc hx hq hn0
      obtain ⟨h3, hh3⟩ : ∃ h3, h3 = hA.put hp.n (.cells (setC x) 35) := ⟨_, rfl⟩
      have E3 : Ext H.n H h3 := hh3 ▸ EA.put _ (by omega)
      have Q3 : h3.at hp.n = some (.cells (setC x) 35) := hh3 ▸ at_put_same _ lQA
      have lQ3 := at_lt Q3
      unfold zSet at QA
      have LQ3 := ld_at (T := tabOf Tryz.prog NT0) Q3
      rw [hf]
      unfold setC at hhA XA hld hld0 LXA LQ3 hh3 ⊢
      simp only [core, zrA, zrS, zrM, zrL, zrE, reduceCtorEq, zrD, ziE, ziL, ziN, hn, g1, g4, g13, g14, g15, hlt, hc2, l1, l2, l3, hld, hld0, ← hhA, LXA, lXA, pur_seq, hq, QA, lQA, ← hh3, LQ3, lQ3, Option.getD_some, Option.isSome_some]
      first | exact ⟨E3, rfl⟩ | exact E3
    | false =>
      unfold setC at hhA XA hld hld0 LXA
      simp only [core, zrA, zrS, zrM, zrL, zrE, reduceCtorEq, zrD, ziE, ziL, ziN, hn, g1, g4, g13, g14, g15, hlt, hc2, l1, l2, l3, hld, hld0, ← hhA, LXA, lXA, pur_seq, hq, hwi]
      refine ih _ _ ⟨EA, QA, take_none (p := fun s : SetD => s.name == name) hx hq hn0, ?_⟩
      simp only [core, zrA, zrS, zrM, zrL, zrE, reduceCtorEq, zrD, ziE, ziL, ziN, hn, g1, g4, g13, g14, g15]
  · rintro t h hc2 ⟨E, Q, hn0, hn, g1, g4, g13, g14, g15⟩
    rw [hM, List.take_length] at hn0
    have hkn : findF r name = none := by
      unfold findF
      rw [if_pos hc]
      exact List.find?_eq_none.2 fun x hx => by rw [hn0 x hx]; decide
    obtain ⟨h3, hh3⟩ : ∃ h3, h3 = h.put hp.n (.cells zSet 35) := ⟨_, rfl⟩
    have lQ := at_lt Q
    have E3 : Ext H.n H h3 := hh3 ▸ E.put _ (by omega)
    have Q3 : h3.at hp.n = some (.cells zSet 35) := hh3 ▸ at_put_same _ lQ
    have lQ3 := at_lt Q3
    unfold zSet at hh3 Q3 Q
    have LQ3 := ld_at (T := tabOf Tryz.prog NT0) Q3
    simp only [core, zrA, zrS, zrM, zrL, zrE, reduceCtorEq, zrD, ziE, ziL, ziN, hn, g1, g4, g13, g14, g15, hc2, hkn, Q, lQ, ← hh3, LQ3, lQ3, Option.getD_none, Option.isSome_none, zSet_eq]
    unfold zSet
    first | exact ⟨E3, rfl⟩ | exact E3
  · refine ⟨E02, Q2, fun y hy => by simp at hy, ?_⟩
    simp only [core, zrA, zrS, zrM, zrL, zrE, reduceCtorEq, zrD, ziE, ziL, ziN]
    try ((repeat' apply And.intro) <;> first | rfl | trivial)
theorem Names_x {F : Nat → Prop} {H : AH} {vl vo : AV} {r : RootD} (hl : IsSl RSet F H vl r.live) (ho : IsSl RTx F H vo r.ops) (hr : RLen r) :
    WC Tryz.prog (tabOf Tryz.prog NT0) S0 17 [.agg [vl, vo]] H fun v h' => Ext H.n H h' ∧ IsSl RTx (fun b => H.n ≤ b) h' v (namesF r) := by
  refine WC_fn Tryz.func17 rfl rfl ?_
  have l1 := hl.one
  have l2 := hl.isSl
  have l3 := hl.lenD
  have o1 := ho.one
  have o2 := ho.isSl
  obtain ⟨m, hM⟩ : ∃ m, m = r.live.length := ⟨_, rfl⟩
  rw [← hM] at l3
  obtain ⟨hp, hhp⟩ : ∃ hp, hp = H.push (.cells [vl, vo] 25) := ⟨_, rfl⟩
  have EP : Ext H.n H hp := hhp ▸ (Ext.refl _ _).push _ (Nat.le_refl _)
  have P0 : hp.at H.n = some (.cells [vl, vo] 25) := hhp ▸ at_push_n _ _
  have LP := ld_at (T := tabOf Tryz.prog NT0) P0
  have lP := at_lt P0
  simp only [core, zrA, zrS, zrM, zrL, zrE, reduceCtorEq, zrD, ziE, ziL, ziN, Tryz.ntmps17, l1, l2, l3, o1, o2, ← hhp, LP, lP]
  refine (CheckRoot_x (hl.ext EP (Nat.le_refl _)) (ho.ext EP (Nat.le_refl _)) hr.o hr.s).mono ?_
  rintro _ h2 ⟨E2, rfl⟩
  have E02 := EP.trans (E2.mono EP.1)
  have P2 := (E2.2 _ lP).trans P0
  have lP2 := at_lt P2
  have LP2 := ld_at (T := tabOf Tryz.prog NT0) P2
  cases hk : decide (chkF r = 0) with
  | false =>
    have hb : (chkF r != 0) = true := by rw [bne, beq_eq_false_iff_ne.2 (of_decide_eq_false hk)]; rfl
    have hkn : namesF r = [] := by unfold namesF; rw [if_neg (of_decide_eq_false hk)]
    simp only [core, zrA, zrS, zrM, zrL, zrE, reduceCtorEq, zrD, ziE, ziL, ziN, hb, hkn]
    exact ⟨E02, (OwnX.toSl (n0 := H.n) (e := 9) flatTx (.inl ⟨rfl, rfl⟩) fun _ hh => hh)⟩
  | true =>
  have hc := of_decide_eq_true hk
  have hb : (chkF r != 0) = false := by rw [hc]; rfl
  obtain ⟨n1, n2⟩ := chk_len hc
  simp only [core, zrA, zrS, zrM, zrL, zrE, reduceCtorEq, zrD, ziE, ziL, ziN, hb, LP2, lP2, l1, l2, l3]
  refine WB_for m (fun i t h => Ext H.n H h ∧ ∃ vi, OwnT (H.n + 1) h vi ((r.live.take i).map (·.name)) ∧ t.n = 23 ∧ t.get 3 = vi ∧ t.get 10 = vl ∧ t.get 11 = .lit (.int .i64 m) ∧ t.get 12 = .lit (.int .i64 i)) ?_ ?_ _ _ ?_
  · rintro i t h hlt hc2 ⟨E, vi, oi, hn, g3, g10, g11, g12⟩ ih
    have hwi := wrap_succ (n := m) hlt (by omega)
    obtain ⟨x, hx⟩ : ∃ x, r.live[i]? = some x := ⟨_, List.getElem?_eq_getElem (by omega)⟩
    obtain ⟨cc, hc1, hld, hld0⟩ := hl.atE (T := tabOf Tryz.prog NT0) E RSet_z hx
    obtain rfl := RSet_is.1 hc1
    have i1 := oi.one
    obtain ⟨hA, hhA⟩ : ∃ hA, hA = h.push (.cells (setC x) 28) := ⟨_, rfl⟩
    have eA : Ext h.n h hA := hhA ▸ (Ext.refl _ _).push _ (Nat.le_refl _)
    have XA : hA.at h.n = some (.cells (setC x) 28) := hhA ▸ at_push_n _ _
    have EA := E.trans (eA.mono E.1)
    have oA := oi.ext eA (Nat.le_refl _)
    have LXA := ld_at (T := tabOf Tryz.prog NT0) XA
    have lXA := at_lt XA
    have htk : r.live.take (i + 1) = r.live.take i ++ [x] := by
      obtain ⟨h1, h2⟩ := List.getElem?_eq_some_iff.1 hx
      rw [List.take_succ_eq_append_getElem h1, h2]
    unfold setC at hhA XA hld hld0 LXA
    simp only [core, zrA, zrS, zrM, zrL, zrE, reduceCtorEq, zrD, ziE, ziL, ziN, hn, g3, g10, g11, g12, hlt, hc2, l1, l2, l3, i1, hld, hld0, ← hhA, LXA, lXA]
    have e5 : Ext hA.n hA (hA.push (.cells [.lit (.string ⟨x.name.toArray⟩)] 9)) := (Ext.refl _ _).push _ (Nat.le_refl _)
    refine WOp_app (push_tx (oA.ext e5 (Nat.le_refl _)) (by rw [n_push]; have := EA.1; omega) (at_push_n hA _) (by rw [List.length_map, List.length_take]; omega)) ?_
    rintro s6 h6 ⟨o6, e6⟩
    have u6 := o6.one
    simp only [core, zrA, zrS, zrM, zrL, zrE, reduceCtorEq, zrD, ziE, ziL, ziN, hn, g3, g10, g11, g12, u6, hwi]
    refine ih _ _ ⟨(EA.trans (e5.mono EA.1)).trans (e6.mono (Nat.le_succ _)), s6, by rw [htk, List.map_append]; exact o6, ?_⟩
    simp only [core, zrA, zrS, zrM, zrL, zrE, reduceCtorEq, zrD, ziE, ziL, ziN, hn, g3, g10, g11, g12]
  · rintro t h hc2 ⟨E, vi, oi, hn, g3, g10, g11, g12⟩
    rw [hM, List.take_length] at oi
    have hkn : namesF r = r.live.map (·.name) := by unfold namesF; rw [if_pos hc]
    have i1 := oi.one
    simp only [core, zrA, zrS, zrM, zrL, zrE, reduceCtorEq, zrD, ziE, ziL, ziN, hn, g3, g10, g11, g12, hc2, i1, hkn]
    exact ⟨E, oi.toSl (G := fun _ => False) (fun _ hh => hh.elim) fun b hh => by omega⟩
  · refine ⟨E02, .lit (.slice none 0 0), .nil, ?_⟩
    simp only [core, zrA, zrS, zrM, zrL, zrE, reduceCtorEq, zrD, ziE, ziL, ziN]
    try ((repeat' apply And.intro) <;> first | rfl | trivial)
theorem NamesR_x {F : Nat → Prop} {H : AH} {vl vo : AV} {r : RootD} (hl : IsSl RSet F H vl r.live) (ho : IsSl RTx F H vo r.ops) (hr : RLen r) :
    WC Tryz.prog (tabOf Tryz.prog NT0) S0 18 [.agg [vl, vo]] H fun v h' => Ext H.n H h' ∧ IsSl RTx (fun b => H.n ≤ b) h' v (namesF r) := by
  refine WC_fn Tryz.func18 rfl rfl ?_
  have l1 := hl.one
  have l2 := hl.isSl
  have l3 := hl.lenD
  have o1 := ho.one
  have o2 := ho.isSl
  obtain ⟨m, hM⟩ : ∃ m, m = r.live.length := ⟨_, rfl⟩
  rw [← hM] at l3
  obtain ⟨hp, hhp⟩ : ∃ hp, hp = H.push (.cells [vl, vo] 33) := ⟨_, rfl⟩
  have EP : Ext H.n H hp := hhp ▸ (Ext.refl _ _).push _ (Nat.le_refl _)
  have P0 : hp.at H.n = some (.cells [vl, vo] 33) := hhp ▸ at_push_n _ _
  have LP := ld_at (T := tabOf Tryz.prog NT0) P0
  have lP := at_lt P0
  simp only [core, zrA, zrS, zrM, zrL, zrE, reduceCtorEq, zrD, ziE, ziL, ziN, Tryz.ntmps18, l1, l2, l3, o1, o2, ← hhp, LP, lP]
  refine (CheckRootR_x (hl.ext EP (Nat.le_refl _)) (ho.ext EP (Nat.le_refl _)) hr).mono ?_
  rintro _ h2 ⟨E2, rfl⟩
  have E02 := EP.trans (E2.mono EP.1)
  have P2 := (E2.2 _ lP).trans P0
  have lP2 := at_lt P2
  have LP2 := ld_at (T := tabOf Tryz.prog NT0) P2
  cases hk : decide (chkF r = 0) with
  | false =>
    have hb : (chkF r != 0) = true := by rw [bne, beq_eq_false_iff_ne.2 (of_decide_eq_false hk)]; rfl
    have hkn : namesF r = [] := by unfold namesF; rw [if_neg (of_decide_eq_false hk)]
    simp only [core, zrA, zrS, zrM, zrL, zrE, reduceCtorEq, zrD, ziE, ziL, ziN, hb, hkn]
    exact ⟨E02, (OwnX.toSl (n0 := H.n) (e := 9) flatTx (.inl ⟨rfl, rfl⟩) fun _ hh => hh)⟩
  | true =>
  have hc := of_decide_eq_true hk
  have hb : (chkF r != 0) = false := by rw [hc]; rfl
  obtain ⟨n1, n2⟩ := chk_len hc
  simp only [core, zrA, zrS, zrM, zrL, zrE, reduceCtorEq, zrD, ziE, ziL, ziN, hb, LP2, lP2, l1, l2, l3]
  refine WB_for m (fun i t h => Ext H.n H h ∧ ∃ vi, OwnT (H.n + 1) h vi ((r.live.take i).map (·.name)) ∧ t.n = 23 ∧ t.get 3 = vi ∧ t.get 10 = vl ∧ t.get 11 = .lit (.int .i64 m) ∧ t.get 12 = .lit (.int .i64 i)) ?_ ?_ _ _ ?_
  · rintro i t h hlt hc2 ⟨E, vi, oi, hn, g3, g10, g11, g12⟩ ih
    have hwi := wrap_succ (n := m) hlt (by omega)
    obtain ⟨x, hx⟩ : ∃ x, r.live[i]? = some x := ⟨_, List.getElem?_eq_getElem (by omega)⟩
    obtain ⟨cc, hc1, hld, hld0⟩ := hl.atE (T := tabOf Tryz.prog NT0) E RSet_z hx
    obtain rfl := RSet_is.1 hc1
    have i1 := oi.one
    obtain ⟨hA, hhA⟩ : ∃ hA, hA = h.push (.cells (setC x) 35) := ⟨_, rfl⟩
    have eA : Ext h.n h hA := hhA ▸ (Ext.refl _ _).push _ (Nat.le_refl _)
    have XA : hA.at h.n = some (.cells (setC x) 35) := hhA ▸ at_push_n _ _
    have EA := E.trans (eA.mono E.1)
    have oA := oi.ext eA (Nat.le_refl _)
    have LXA := ld_at (T := tabOf Tryz.prog NT0) XA
    have lXA := at_lt XA
    have htk : r.live.take (i + 1) = r.live.take i ++ [x] := by
      obtain ⟨h1, h2⟩ := List.getElem?_eq_some_iff.1 hx
      rw [List.take_succ_eq_append_getElem h1, h2]
    unfold setC at hhA XA hld hld0 LXA
    simp only [core, zrA, zrS, zrM, zrL, zrE, reduceCtorEq, zrD, ziE, ziL, ziN, hn, g3, g10, g11, g12, hlt, hc2, l1, l2, l3, i1, hld, hld0, ← hhA, LXA, lXA]
    have e5 : Ext hA.n hA (hA.push (.cells [.lit (.string ⟨x.name.toArray⟩)] 9)) := (Ext.refl _ _).push _ (Nat.le_refl _)
    refine WOp_app (push_tx (oA.ext e5 (Nat.le_refl _)) (by rw [n_push]; have := EA.1; omega) (at_push_n hA _) (by rw [List.length_map, List.length_take]; omega)) ?_
    rintro s6 h6 ⟨o6, e6⟩
    have u6 := o6.one
    simp only [core, zrA, zrS, zrM, zrL, zrE, reduceCtorEq, zrD, ziE, ziL, ziN, hn, g3, g10, g11, g12, u6, hwi]
    refine ih _ _ ⟨(EA.trans (e5.mono EA.1)).trans (e6.mono (Nat.le_succ _)), s6, by rw [htk, List.map_append]; exact o6, ?_⟩
    simp only [core, zrA, zrS, zrM, zrL, zrE, reduceCtorEq, zrD, ziE, ziL, ziN, hn, g3, g10, g11, g12]
  · rintro t h hc2 ⟨E, vi, oi, hn, g3, g10, g11, g12⟩
    rw [hM, List.take_length] at oi
    have hkn : namesF r = r.live.map (·.name) := by unfold namesF; rw [if_pos hc]
    have i1 := oi.one
    simp only [core, zrA, zrS, zrM, zrL, zrE, reduceCtorEq, zrD, ziE, ziL, ziN, hn, g3, g10, g11, g12, hc2, i1, hkn]
    exact ⟨E, oi.toSl (G := fun _ => False) (fun _ hh => hh.elim) fun b hh => by omega⟩
  · refine ⟨E02, .lit (.slice none 0 0), .nil, ?_⟩
    simp only [core, zrA, zrS, zrM, zrL, zrE, reduceCtorEq, zrD, ziE, ziL, ziN]
    try ((repeat' apply And.intro) <;> first | rfl | trivial)
theorem KnowsR_x {F : Nat → Prop} {H : AH} {vl vo : AV} {r : RootD} {id : List UInt8} (hl : IsSl RSet F H vl r.live) (ho : IsSl RTx F H vo r.ops) (hr : RLen r) :
    WC Tryz.prog (tabOf Tryz.prog NT0) S0 20 [.agg [vl, vo], .lit (.string ⟨id.toArray⟩)] H fun v h' => Ext H.n H h' ∧ v = .lit (.bool (knowsF r id)) := by
  refine WC_fn Tryz.func20 rfl rfl ?_
  have l1 := hl.one
  have l2 := hl.isSl
  have l3 := hl.lenD
  have o1 := ho.one
  have o2 := ho.isSl
  have o3 := ho.lenD
  obtain ⟨n, hN⟩ : ∃ n, n = r.ops.length := ⟨_, rfl⟩
  obtain ⟨m, hM⟩ : ∃ m, m = r.live.length := ⟨_, rfl⟩
  rw [← hM] at l3
  rw [← hN] at o3
  obtain ⟨hp, hhp⟩ : ∃ hp, hp = H.push (.cells [vl, vo] 33) := ⟨_, rfl⟩
  have EP : Ext H.n H hp := hhp ▸ (Ext.refl _ _).push _ (Nat.le_refl _)
  have P0 : hp.at H.n = some (.cells [vl, vo] 33) := hhp ▸ at_push_n _ _
  have LP := ld_at (T := tabOf Tryz.prog NT0) P0
  have lP := at_lt P0
  simp only [core, zrA, zrS, zrM, zrL, zrE, reduceCtorEq, zrD, ziE, ziL, ziN, Tryz.ntmps20, l1, l2, l3, o1, o2, o3, ← hhp, LP, lP]
  refine (CheckRootR_x (hl.ext EP (Nat.le_refl _)) (ho.ext EP (Nat.le_refl _)) hr).mono ?_
  rintro _ h2 ⟨E2, rfl⟩
  have E02 := EP.trans (E2.mono EP.1)
  have P2 := (E2.2 _ lP).trans P0
  have lP2 := at_lt P2
  have LP2 := ld_at (T := tabOf Tryz.prog NT0) P2
  cases hk : decide (chkF r = 0) with
  | false =>
    have hb : (chkF r != 0) = true := by rw [bne, beq_eq_false_iff_ne.2 (of_decide_eq_false hk)]; rfl
    have hkn : knowsF r id = false := by unfold knowsF; rw [hk]; rfl
    simp only [core, zrA, zrS, zrM, zrL, zrE, reduceCtorEq, zrD, ziE, ziL, ziN, hb, hkn]
    first | exact ⟨E02, rfl⟩ | exact E02
  | true =>
  have hc := of_decide_eq_true hk
  have hb : (chkF r != 0) = false := by rw [hc]; rfl
  obtain ⟨n1, n2⟩ := chk_len hc
  have hRt := chk_iff.1 hc
  simp only [core, zrA, zrS, zrM, zrL, zrE, reduceCtorEq, zrD, ziE, ziL, ziN, hb, LP2, lP2, o1, o2, o3]
  refine WB_for n (fun i t h => h = h2 ∧ (∀ y ∈ r.ops.take i, (y == id) = false) ∧ t.n = 35 ∧ t.get 1 = .lit (.string ⟨id.toArray⟩) ∧ t.get 2 = .ptr H.n 0 ∧ t.get 13 = vo ∧ t.get 14 = .lit (.int .i64 n) ∧ t.get 15 = .lit (.int .i64 i)) ?_ ?_ _ _ ?_
  · rintro i t h hlt hc2 ⟨rfl, hn0, hn, g1, g2, g13, g14, g15⟩ ih
    have hwi := wrap_succ (n := n) hlt (by omega)
    obtain ⟨x, hx⟩ : ∃ x, r.ops[i]? = some x := ⟨_, List.getElem?_eq_getElem (by omega)⟩
    have l0 : loadA (tabOf Tryz.prog NT0) h 9 (slB vo) (slO vo + i) = some (.lit (.string ⟨x.toArray⟩)) := by
      obtain ⟨cc, hc1, hld, hld0⟩ := ho.atE (T := tabOf Tryz.prog NT0) E02 RTx_z hx
      obtain rfl := RTx_is.1 hc1
      have ld := hld0 9 1 (by kernel_rfl) (by decide) (by decide)
      rw [Nat.mul_one] at ld
      rw [ld]
      rfl
    cases hq : (x == id) with
    | true =>
      have hkn : knowsF r id = true := (knows_iff hRt).2 (.inl (by have := List.mem_of_getElem? hx; rwa [eq_of_beq hq] at this))
      simp only [core, zrA, zrS, zrM, zrL, zrE, reduceCtorEq, zrD, ziE, ziL, ziN, hn, g1, g2, g13, g14, g15, hlt, hc2, o1, o2, o3, l0, pur_seq, hq, hkn]
      first | exact ⟨E02, rfl⟩ | exact E02
    | false =>
      simp only [core, zrA, zrS, zrM, zrL, zrE, reduceCtorEq, zrD, ziE, ziL, ziN, hn, g1, g2, g13, g14, g15, hlt, hc2, o1, o2, o3, l0, pur_seq, hq, hwi]
      refine ih _ _ ⟨rfl, take_none (p := fun z => z == id) hx hq hn0, ?_⟩
      simp only [core, zrA, zrS, zrM, zrL, zrE, reduceCtorEq, zrD, ziE, ziL, ziN, hn, g1, g2, g13, g14, g15]
  · rintro t h hc2 ⟨rfl, hn0, hn, g1, g2, g13, g14, g15⟩
    rw [hN, List.take_length] at hn0
    have hno : id ∉ r.ops := fun hm => by have := hn0 _ hm; simp at this
    simp only [core, zrA, zrS, zrM, zrL, zrE, reduceCtorEq, zrD, ziE, ziL, ziN, hn, g1, g2, g13, g14, g15, hc2, l1, l2, l3, LP2, lP2]
    refine WB_for m (fun i t h => Ext H.n H h ∧ (∀ y ∈ r.live.take i, (y.id == id) = false) ∧ t.n = 35 ∧ t.get 1 = .lit (.string ⟨id.toArray⟩) ∧ t.get 24 = vl ∧ t.get 25 = .lit (.int .i64 m) ∧ t.get 26 = .lit (.int .i64 i)) ?_ ?_ _ _ ?_
    · rintro i t h hlt hc3 ⟨E, hn1, hn, g1, g24, g25, g26⟩ ih
      have hwi := wrap_succ (n := m) hlt (by omega)
      obtain ⟨x, hx⟩ : ∃ x, r.live[i]? = some x := ⟨_, List.getElem?_eq_getElem (by omega)⟩
      obtain ⟨cc, hc1, hld, hld0⟩ := hl.atE (T := tabOf Tryz.prog NT0) E RSet_z hx
      obtain rfl := RSet_is.1 hc1
      obtain ⟨hA, hhA⟩ : ∃ hA, hA = h.push (.cells (setC x) 35) := ⟨_, rfl⟩
      have eA : Ext h.n h hA := hhA ▸ (Ext.refl _ _).push _ (Nat.le_refl _)
      have XA : hA.at h.n = some (.cells (setC x) 35) := hhA ▸ at_push_n _ _
      have EA := E.trans (eA.mono E.1)
      have LXA := ld_at (T := tabOf Tryz.prog NT0) XA
      have lXA := at_lt XA
      unfold setC at hhA XA hld hld0 LXA
      cases hq : (x.id == id) with
      | true =>
        have hkn : knowsF r id = true := (knows_iff hRt).2 (.inr ⟨x, List.mem_of_getElem? hx, eq_of_beq hq⟩)
        simp only [core, zrA, zrS, zrM, zrL, zrE, reduceCtorEq, zrD, ziE, ziL, ziN, hn, g1, g24, g25, g26, hlt, hc3, l1, l2, l3, hld, hld0, ← hhA, LXA, lXA, pur_seq, hq, hkn]
        first | exact ⟨EA, rfl⟩ | exact EA
      | false =>
        simp only [core, zrA, zrS, zrM, zrL, zrE, reduceCtorEq, zrD, ziE, ziL, ziN, hn, g1, g24, g25, g26, hlt, hc3, l1, l2, l3, hld, hld0, ← hhA, LXA, lXA, pur_seq, hq, hwi]
        refine ih _ _ ⟨EA, take_none (p := fun z : SetD => z.id == id) hx hq hn1, ?_⟩
        simp only [core, zrA, zrS, zrM, zrL, zrE, reduceCtorEq, zrD, ziE, ziL, ziN, hn, g1, g24, g25, g26]
    · rintro t h hc3 ⟨E, hn1, hn, g1, g24, g25, g26⟩
      rw [hM, List.take_length] at hn1
      have hkn : knowsF r id = false := Bool.eq_false_iff.2 fun hh => by
        rcases (knows_iff hRt).1 hh with hh | ⟨s, h1, h2⟩
        · exact hno hh
        · have := hn1 s h1
          rw [h2] at this
          simp at this
      simp only [core, zrA, zrS, zrM, zrL, zrE, reduceCtorEq, zrD, ziE, ziL, ziN, hn, g1, g24, g25, g26, hc3, hkn]
      first | exact ⟨E, rfl⟩ | exact E
    · refine ⟨E02, fun y hy => by simp at hy, ?_⟩
      simp only [core, zrA, zrS, zrM, zrL, zrE, reduceCtorEq, zrD, ziE, ziL, ziN, hn, g1, g2, g13, g14, g15]
      try ((repeat' apply And.intro) <;> first | rfl | trivial)
  · refine ⟨rfl, fun y hy => by simp at hy, ?_⟩
    simp only [core, zrA, zrS, zrM, zrL, zrE, reduceCtorEq, zrD, ziE, ziL, ziN]
    try ((repeat' apply And.intro) <;> first | rfl | trivial)
theorem texts_x {F G : Nat → Prop} {H : AH} {v w : AV} {xs : List (List UInt8)} (hv : IsSl RTx F H v xs) (hw : IsSl RTx G H w xs) (hl : xs.length ≤ 4611686018427387000) :
    WC Tryz.prog (tabOf Tryz.prog NT0) S0 16 [v, w] H fun r h' => r = .lit (.bool true) ∧ h' = H := by
  refine WC_fn Tryz.func16 rfl rfl ?_
  have v1 := hv.one
  have v2 := hv.isSl
  have v3 := hv.lenD
  have w1 := hw.one
  have w2 := hw.isSl
  have w3 := hw.lenD
  obtain ⟨n, hN⟩ : ∃ n, n = xs.length := ⟨_, rfl⟩
  rw [← hN] at v3 w3
  have hnn : ((n : Int) != (n : Int)) = false := by simp
  simp only [core, zrA, zrS, zrM, zrL, zrE, reduceCtorEq, zrD, ziE, ziL, ziN, Tryz.ntmps16, v1, v2, v3, w1, w2, w3, hnn]
  refine WB_for n (fun i t h => h = H ∧ t.n = 26 ∧ t.get 0 = v ∧ t.get 1 = w ∧ t.get 12 = .lit (.int .i64 n) ∧ t.get 13 = .lit (.int .i64 i)) ?_ ?_ _ _ ?_
  · rintro i t h hlt hc2 ⟨rfl, hn, g0, g1, g12, g13⟩ ih
    have hwi := wrap_succ (n := n) hlt (by omega)
    obtain ⟨x, hx⟩ : ∃ x, xs[i]? = some x := ⟨_, List.getElem?_eq_getElem (by omega)⟩
    have ld : ∀ {F : Nat → Prop} {v : AV}, IsSl RTx F h v xs → loadA (tabOf Tryz.prog NT0) h 9 (slB v) (slO v + i) = some (.lit (.string ⟨x.toArray⟩)) := fun {F v} hv => by
      obtain ⟨cc, hc1, hld, hld0⟩ := hv.at (T := tabOf Tryz.prog NT0) RTx_z hx
      obtain rfl := RTx_is.1 hc1
      have ld := hld0 9 1 (by kernel_rfl) (by decide) (by decide)
      rw [Nat.mul_one] at ld
      rw [ld]
      rfl
    have la := ld hv
    have lb := ld hw
    have hxx : (x == x) = true := by simp
    simp only [core, zrA, zrS, zrM, zrL, zrE, reduceCtorEq, zrD, ziE, ziL, ziN, hn, g0, g1, g12, g13, hlt, hc2]
    rw [WB_regionD [0, 1, 2, 3, 4, 5, 6, 7, 8] 1205237335491016659828736 (by kernel_rfl)]
    repeat (first | ((with_reducible refine WDM_cons ?_; simp only [dw1]; try simp only [dw2, zrA, zrM, zrR, zrO, zrE]); simp only [core, zrA, zrS, zrM, zrL, zrE, reduceCtorEq, zrD, ziE, ziL, ziN, cored, hn, g0, g1, g12, g13, hlt, v1, v2, v3, w1, w2, w3, la, lb, pur_sne, hxx, hwi]) | simp only [core, zrA, zrS, zrM, zrL, zrE, reduceCtorEq, zrD, ziE, ziL, ziN, cored, hn, g0, g1, g12, g13, hlt, v1, v2, v3, w1, w2, w3, la, lb, pur_sne, hxx, hwi])
    refine ih _ _ ⟨rfl, ?_⟩
    simp only [core, zrA, zrS, zrM, zrL, zrE, reduceCtorEq, zrD, ziE, ziL, ziN, hn, g0, g1, g12, g13]
  · rintro t h hc2 ⟨rfl, hn, g0, g1, g12, g13⟩
    simp only [core, zrA, zrS, zrM, zrL, zrE, reduceCtorEq, zrD, ziE, ziL, ziN, hn, g0, g1, g12, g13, hc2]
    try exact ⟨rfl, rfl⟩
  · refine ⟨rfl, ?_⟩
    simp only [core, zrA, zrS, zrM, zrL, zrE, reduceCtorEq, zrD, ziE, ziL, ziN]
    try ((repeat' apply And.intro) <;> first | rfl | trivial)
end Go.Proofs.YtdcmfchodooolaaGreatDoor.Ex
end

section

set_option linter.unusedSimpArgs false
set_option linter.unusedVariables false
set_option maxRecDepth 10000
set_option maxHeartbeats 4000000
namespace Go.Proofs.YtdcmfchodooolaaGreatDoor.Ex
open Go
/-- A root in the heap, its rows the run's own, its sets of this type. -/
def OwnQ (e : TypeId) (n0 : Nat) (h : AH) (v : AV) (r : RootD) : Prop := ∃ a b, v = .agg [a, b] ∧ OwnX setC 35 n0 h a e r.live ∧ OwnX txC 1 n0 h b 9 r.ops
theorem OwnQ.zero {e : TypeId} {n0 : Nat} {h : AH} : OwnQ e n0 h (.agg [.lit (.slice none 0 0), .lit (.slice none 0 0)]) root0 := ⟨_, _, rfl, .inl ⟨rfl, rfl⟩, .inl ⟨rfl, rfl⟩⟩
theorem snocT {n0 q : Nat} {h : AH} {v : AV} {xs : List (List UInt8)} {x : List UInt8} {cap : Cap} {e' : TypeId} (ho : OwnX txC 1 n0 h v 9 xs) (hn0 : n0 ≤ h.n) (A : h.at q = some (.cells [.lit (.string ⟨x.toArray⟩)] e')) (hl : xs.length ≤ 1000000000000) :
    ∃ s' h', appendA (tabOf Tryz.prog NT0) h 23 23 v (.sl q 0 1 cap) = some (s', h') ∧ OwnX txC 1 n0 h' s' 9 (xs ++ [x]) ∧ Ext n0 h h' := by
  obtain ⟨s', h', a, b, c⟩ := ho.snoc (T := tabOf Tryz.prog NT0) (t := 23) (y := x) (cap := cap) flatTx (by kernel_rfl) (by kernel_rfl) (zv := .lit (.string ⟨#[]⟩)) (by kernel_rfl) (by' := 16) (by kernel_rfl) rfl (by decide) A (by omega) (by omega) hn0
  exact ⟨s', h', a, b.toX, c⟩
theorem snocS {n0 q : Nat} {h : AH} {v : AV} {xs : List SetD} {x : SetD} {cap : Cap} {e' : TypeId} (ho : OwnX setC 35 n0 h v 35 xs) (hn0 : n0 ≤ h.n) (A : h.at q = some (.cells (setC x) e')) (hl : xs.length ≤ 1000000000000) :
    ∃ s' h', appendA (tabOf Tryz.prog NT0) h 31 31 v (.sl q 0 1 cap) = some (s', h') ∧ OwnX setC 35 n0 h' s' 35 (xs ++ [x]) ∧ Ext n0 h h' := by
  obtain ⟨s', h', a, b, c⟩ := ho.snoc (T := tabOf Tryz.prog NT0) (t := 31) (y := x) (cap := cap) flatSet (by kernel_rfl) (by kernel_rfl) (zv := .agg (setC set0)) (by kernel_rfl) (by' := 72) (by kernel_rfl) rfl (by decide) A (by omega) (by omega) hn0
  exact ⟨s', h', a, b.toX, c⟩
theorem filt_len {id : List UInt8} {l : List (List UInt8)} : ((l.filter fun x => !(x == id)).length == l.length) = !(l.any fun x => id == x) := by
  rw [Bool.eq_iff_iff]
  simp only [beq_iff_eq, Bool.not_eq_true', List.any_eq_false]
  constructor
  · intro h x hx hq
    have := List.length_filter_eq_length_iff.1 h x hx
    subst hq
    simp at this
  · intro h
    refine List.length_filter_eq_length_iff.2 fun x hx => ?_
    have := h x hx
    cases hq : x == id with
    | false => rfl
    | true => rw [eq_of_beq hq] at this; simp at this
theorem filt_take {α : Type} {p : α → Bool} {l : List α} {i : Nat} {x : α} (hx : l[i]? = some x) : (l.take (i + 1)).filter p = (l.take i).filter p ++ (if p x = true then [x] else []) := by
  obtain ⟨h1, h2⟩ := List.getElem?_eq_some_iff.1 hx
  rw [List.take_succ_eq_append_getElem h1, h2, List.filter_append]
  congr 1
  cases hp : p x <;> simp [List.filter_cons, hp]
theorem CloseR_x {F : Nat → Prop} {H : AH} {vl vo : AV} {r : RootD} {id : List UInt8} (hl : IsSl RSet F H vl r.live) (ho : IsSl RTx F H vo r.ops) (hr : RLen r) :
    WC Tryz.prog (tabOf Tryz.prog NT0) S0 13 [.agg [vl, vo], .lit (.string ⟨id.toArray⟩)] H fun v h' => Ext H.n H h' ∧ ∃ u, v = .tup [u, .lit (.bool (closeF r id).2)] ∧ OwnQ 35 H.n h' u (closeF r id).1 := by
  refine WC_fn Tryz.func13 rfl rfl ?_
  have l1 := hl.one
  have l2 := hl.isSl
  have l3 := hl.lenD
  have o1 := ho.one
  have o2 := ho.isSl
  have o3 := ho.lenD
  obtain ⟨n, hN⟩ : ∃ n, n = r.ops.length := ⟨_, rfl⟩
  rw [← hN] at o3
  obtain ⟨hp, hhp⟩ : ∃ hp, hp = H.push (.cells [vl, vo] 33) := ⟨_, rfl⟩
  have EP : Ext H.n H hp := hhp ▸ (Ext.refl _ _).push _ (Nat.le_refl _)
  have nP : hp.n = H.n + 1 := by rw [hhp, n_push]
  have P0 : hp.at H.n = some (.cells [vl, vo] 33) := hhp ▸ at_push_n _ _
  obtain ⟨hs, hhs⟩ : ∃ hs, hs = hp.push (.cells [.lit (.slice none 0 0), .lit (.slice none 0 0)] 33) := ⟨_, rfl⟩
  have ES : Ext hp.n hp hs := hhs ▸ (Ext.refl _ _).push _ (Nat.le_refl _)
  have nS : hs.n = H.n + 2 := by rw [hhs, n_push, nP]
  have S0 : hs.at hp.n = some (.cells [.lit (.slice none 0 0), .lit (.slice none 0 0)] 33) := hhs ▸ at_push_n _ _
  have P1 := (ES.2 _ (at_lt P0)).trans P0
  have E0 := EP.trans (ES.mono EP.1)
  have LP := ld_at (T := tabOf Tryz.prog NT0) P1
  have lP := at_lt P1
  have bad : ∀ h4 : AH, Ext H.n H h4 → h4.at hp.n = some (.cells [.lit (.slice none 0 0), .lit (.slice none 0 0)] 33) →
      ∃ h5, h5 = h4.put hp.n (.cells [.lit (.slice none 0 0), .lit (.slice none 0 0)] 33) ∧ Ext H.n H h5 ∧ (∀ e i, loadA (tabOf Tryz.prog NT0) h5 e hp.n i = ldL (tabOf Tryz.prog NT0) e [.lit (.slice none 0 0), .lit (.slice none 0 0)] i) ∧ hp.n < h5.n := fun h4 e4 a4 =>
    ⟨_, rfl, e4.put _ (by omega), ld_at (at_put_same _ (at_lt a4)), by rw [n_put]; exact at_lt a4⟩
  simp only [core, zrA, zrS, zrM, zrL, zrE, reduceCtorEq, zrD, ziE, ziL, ziN, Tryz.ntmps13, l1, l2, l3, o1, o2, o3, ← hhp, ← hhs, LP, lP]
  refine (CheckRootR_x (hl.ext E0 (Nat.le_refl _)) (ho.ext E0 (Nat.le_refl _)) hr).mono ?_
  rintro _ h2 ⟨E2, rfl⟩
  have m2 := E2.1
  have E02 := E0.trans (E2.mono E0.1)
  have P2 := (E2.2 _ lP).trans P1
  have S2 := (E2.2 _ (at_lt S0)).trans S0
  have lS2 := at_lt S2
  cases hk : decide (chkF r = 0) with
  | false =>
    have hb : (chkF r != 0) = true := by rw [bne, beq_eq_false_iff_ne.2 (of_decide_eq_false hk)]; rfl
    have hkn : closeF r id = (root0, false) := by unfold closeF; rw [if_neg fun hh => of_decide_eq_false hk hh.1]
    obtain ⟨h5, hh5, E5, L5, l5⟩ := bad h2 E02 S2
    simp only [core, zrA, zrS, zrM, zrL, zrE, reduceCtorEq, zrD, ziE, ziL, ziN, aundef, hb, hkn, S2, lS2, ← hh5, L5, l5]
    exact ⟨E5, _, rfl, OwnQ.zero⟩
  | true =>
  have hc := of_decide_eq_true hk
  have hb : (chkF r != 0) = false := by rw [hc]; rfl
  obtain ⟨n1, n2⟩ := chk_len hc
  have LP2 := ld_at (T := tabOf Tryz.prog NT0) P2
  have lP2 := at_lt P2
  simp only [core, zrA, zrS, zrM, zrL, zrE, reduceCtorEq, zrD, ziE, ziL, ziN, aundef, hb, LP2, lP2, o1, o2, o3, l1, l2, l3]
  have eC : Ext h2.n h2 (h2.push (.cells [] 35)) := (Ext.refl _ _).push _ (Nat.le_refl _)
  refine WOp_app (ownx_clone (n0 := h2.n) flatSet (by kernel_rfl) (by kernel_rfl) (zv := .agg (setC set0)) (by kernel_rfl) (by' := 72) (by kernel_rfl) rfl (by decide) (hl.ext (E02.trans (eC.mono E02.1)) (Nat.le_refl _)) (by omega) (by omega) (at_push_n h2 _) (Nat.le_refl _) (by rw [n_push]; omega)) ?_
  rintro a h3 ⟨oa, E3⟩
  have E23 := eC.trans (E3.mono eC.1)
  have m3 := E23.1
  have E03 := E02.trans (E23.mono E02.1)
  have P3 := (E23.2 _ lP2).trans P2
  have S3 := (E23.2 _ lS2).trans S2
  have a1 := oa.one
  have a2 := oa.isSl
  obtain ⟨h4, hh4⟩ : ∃ h4, h4 = h3.push (.cells [a, .lit (.slice none 0 0)] 33) := ⟨_, rfl⟩
  have E4 : Ext h3.n h3 h4 := hh4 ▸ (Ext.refl _ _).push _ (Nat.le_refl _)
  have n4 : h4.n = h3.n + 1 := by rw [hh4, n_push]
  have B4 : h4.at h3.n = some (.cells [a, .lit (.slice none 0 0)] 33) := hh4 ▸ at_push_n _ _
  have P4 := (E4.2 _ (at_lt P3)).trans P3
  have LP4 := ld_at (T := tabOf Tryz.prog NT0) P4
  have lP4 := at_lt P4
  simp only [core, zrA, zrS, zrM, zrL, zrE, reduceCtorEq, zrD, ziE, ziL, ziN, aundef, a1, a2, ← hh4, LP4, lP4, o1, o2, o3]
  have E34 := E03.trans (E4.mono E03.1)
  have fin : ∀ h : AH, Ext h3.n h4 h → (Ext H.n H h ∧ h.at H.n = some (.cells [vl, vo] 33) ∧ h.at hp.n = some (.cells [.lit (.slice none 0 0), .lit (.slice none 0 0)] 33) ∧ OwnX setC 35 H.n h a 35 r.live) := fun h e =>
    have e1 : Ext h3.n h3 h := E4.trans e
    ⟨E03.trans (e1.mono E03.1), (e.2 _ (at_lt P3)).trans P4, (e1.2 _ (at_lt S3)).trans S3, (oa.ext e1 (Nat.le_refl _)).mono (by omega)⟩
  refine WB_for n (fun i t h => Ext h3.n h4 h ∧ h3.n < h.n ∧ ∃ u, h.at h3.n = some (.cells [a, u] 33) ∧ OwnX txC 1 (h3.n + 1) h u 9 ((r.ops.take i).filter fun x => !(x == id)) ∧ t.n = 44 ∧ t.get 1 = .lit (.string ⟨id.toArray⟩) ∧ t.get 2 = .ptr H.n 0 ∧ t.get 4 = .ptr hp.n 0 ∧ t.get 6 = .ptr h3.n 0 ∧ t.get 19 = vo ∧ t.get 20 = .lit (.int .i64 n) ∧ t.get 21 = .lit (.int .i64 i)) ?_ ?_ _ _ ?_
  · rintro i t h hlt hc2 ⟨E, hn3, u, B, ou, hn, g1, g2, g4, g6, g19, g20, g21⟩ ih
    have hwi := wrap_succ (n := n) hlt (by omega)
    obtain ⟨x, hx⟩ : ∃ x, r.ops[i]? = some x := ⟨_, List.getElem?_eq_getElem (by omega)⟩
    have l0 : loadA (tabOf Tryz.prog NT0) h 9 (slB vo) (slO vo + i) = some (.lit (.string ⟨x.toArray⟩)) := by
      obtain ⟨cc, hc1, hld, hld0⟩ := ho.atE (T := tabOf Tryz.prog NT0) (fin h E).1 RTx_z hx
      obtain rfl := RTx_is.1 hc1
      have ld := hld0 9 1 (by kernel_rfl) (by decide) (by decide)
      rw [Nat.mul_one] at ld
      rw [ld]
      rfl
    have LB := ld_at (T := tabOf Tryz.prog NT0) B
    have lB := at_lt B
    have u1 := ou.one
    have u2 := ou.isSl
    have hf := filt_take (p := fun x => !(x == id)) hx
    cases hq : (x == id) with
    | true =>
      rw [hq] at hf
      simp only [core, zrA, zrS, zrM, zrL, zrE, reduceCtorEq, zrD, ziE, ziL, ziN, hn, g1, g2, g4, g6, g19, g20, g21, hlt, hc2, o1, o2, o3, l0, pur_sne, hq, hwi]
      refine ih _ _ ⟨E, hn3, u, B, by rw [hf]; simpa using ou, ?_⟩
      simp only [core, zrA, zrS, zrM, zrL, zrE, reduceCtorEq, zrD, ziE, ziL, ziN, hn, g1, g2, g4, g6, g19, g20, g21]
    | false =>
      rw [hq] at hf
      simp only [core, zrA, zrS, zrM, zrL, zrE, reduceCtorEq, zrD, ziE, ziL, ziN, hn, g1, g2, g4, g6, g19, g20, g21, hlt, hc2, o1, o2, o3, l0, pur_sne, hq, hwi, LB, lB, u1, u2]
      have e5 : Ext h.n h (h.push (.cells [.lit (.string ⟨x.toArray⟩)] 9)) := (Ext.refl _ _).push _ (Nat.le_refl _)
      refine WOp_app (snocT (ou.ext e5 (Nat.le_refl _)) (by rw [n_push]; omega) (at_push_n h _) (by have := List.length_filter_le (fun x => !(x == id)) (r.ops.take i); rw [List.length_take] at this; omega)) ?_
      rintro s6 h6 ⟨o6, e6⟩
      have u6 := o6.one
      have u7 := o6.isSl
      have B6 := (e6.2 h3.n (by omega)).trans ((e5.2 _ lB).trans B)
      have lB6 := at_lt B6
      have e56 : Ext h3.n h4 h6 := E.trans ((e5.mono (by omega)).trans (e6.mono (Nat.le_succ _)))
      simp only [core, zrA, zrS, zrM, zrL, zrE, reduceCtorEq, zrD, ziE, ziL, ziN, hn, g1, g2, g4, g6, g19, g20, g21, u6, u7, hwi, B6, lB6]
      refine ih _ _ ⟨e56.put _ (Nat.le_refl _), by rw [n_put]; exact lB6, s6, at_put_same _ lB6, by rw [hf]; exact o6.putLt (Nat.lt_succ_self _), ?_⟩
      simp only [core, zrA, zrS, zrM, zrL, zrE, reduceCtorEq, zrD, ziE, ziL, ziN, hn, g1, g2, g4, g6, g19, g20, g21]
  · rintro t h hc2 ⟨E, hn3, u, B, ou, hn, g1, g2, g4, g6, g19, g20, g21⟩
    rw [hN, List.take_length] at ou
    obtain ⟨EH, Ph, Sh, oh⟩ := fin h E
    have LB := ld_at (T := tabOf Tryz.prog NT0) B
    have lB := at_lt B
    have LPh := ld_at (T := tabOf Tryz.prog NT0) Ph
    have lPh := at_lt Ph
    have lSh := at_lt Sh
    have u1 := ou.one
    have u2 := ou.isSl
    have u3 := ou.lenD
    have hcmp : ((((r.ops.filter fun x => !(x == id)).length : Nat) : Int) == (n : Int)) = !(r.ops.any fun x => id == x) := by
      rw [← filt_len, hN, Bool.eq_iff_iff]
      simp only [beq_iff_eq]
      omega
    cases hm : r.ops.any (fun x => id == x) with
    | false =>
      rw [hm] at hcmp
      have hkn : closeF r id = (root0, false) := by unfold closeF; rw [if_neg fun hh => by rw [hm] at hh; cases hh.2]
      obtain ⟨h5, hh5, E5, L5, l5⟩ := bad h EH Sh
      simp only [core, zrA, zrS, zrM, zrL, zrE, reduceCtorEq, zrD, ziE, ziL, ziN, hn, g1, g2, g4, g6, g19, g20, g21, hc2, hkn, LB, lB, LPh, lPh, u1, u2, u3, o1, o2, o3, hcmp, Sh, lSh, ← hh5, L5, l5]
      exact ⟨E5, _, rfl, OwnQ.zero⟩
    | true =>
      rw [hm] at hcmp
      have hkn : closeF r id = (⟨r.live, r.ops.filter fun x => !(x == id)⟩, true) := by unfold closeF; rw [if_pos ⟨hc, hm⟩]
      obtain ⟨h5, hh5⟩ : ∃ h5, h5 = h.put hp.n (.cells [a, u] 33) := ⟨_, rfl⟩
      have E05 : Ext H.n H h5 := hh5 ▸ EH.put _ (by omega)
      have S5 : h5.at hp.n = some (.cells [a, u] 33) := hh5 ▸ at_put_same _ lSh
      have LS5 := ld_at (T := tabOf Tryz.prog NT0) S5
      have lS5 := at_lt S5
      simp only [core, zrA, zrS, zrM, zrL, zrE, reduceCtorEq, zrD, ziE, ziL, ziN, hn, g1, g2, g4, g6, g19, g20, g21, hc2, hkn, LB, lB, LPh, lPh, a1, a2, u1, u2, u3, o1, o2, o3, hcmp, Sh, lSh, ← hh5, LS5, lS5]
      exact ⟨E05, _, rfl, a, u, rfl, (hh5 ▸ ((oa.ext (E4.trans E) (Nat.le_refl _)).putLt (by omega)) : OwnX setC 35 h2.n h5 a 35 r.live).mono (by omega), (hh5 ▸ ou.putLt (by omega) : OwnX txC 1 (h3.n + 1) h5 u 9 _).mono (by omega)⟩
  · refine ⟨Ext.refl _ _, by omega, _, B4, .inl ⟨rfl, by simp⟩, ?_⟩
    simp only [core, zrA, zrS, zrM, zrL, zrE, reduceCtorEq, zrD, ziE, ziL, ziN]
    try ((repeat' apply And.intro) <;> first | rfl | trivial)
theorem pur_sgt {P : Program} {e : TypeId} {a b : List UInt8} : pur P (binOp .gtr e (Value.string ⟨a.toArray⟩) (Value.string ⟨b.toArray⟩)) = some (.ok (Value.bool (ltS b a))) := by
  have hq : (!(ltS a b || (a == b))) = ltS b a := by
    cases h1 : ltS a b with
    | true => rw [lt_asym h1]; rfl
    | false =>
      cases h2 : ltS b a with
      | true => rw [beq_eq_false_iff_ne.2 (fun hh => lt_ne h2 hh.symm)]; rfl
      | false => rw [lt_eq h1 h2]; simp
  rw [← hq]
  show pur P (pure (Value.bool (!(Op.bytesLess (⟨a.toArray⟩ : ByteArray).toList (⟨b.toArray⟩ : ByteArray).toList || (⟨a.toArray⟩ : ByteArray).toList == (⟨b.toArray⟩ : ByteArray).toList)))) = _
  rw [toList_eq, toList_eq]
  rfl
theorem DeleteR_x {F : Nat → Prop} {H : AH} {vl vo : AV} {r : RootD} {name : List UInt8} (hl : IsSl RSet F H vl r.live) (ho : IsSl RTx F H vo r.ops) (hr : RLen r) (hn : name.length ≤ 4611686018427387000) :
    WC Tryz.prog (tabOf Tryz.prog NT0) S0 11 [.agg [vl, vo], .lit (.string ⟨name.toArray⟩)] H fun v h' => Ext H.n H h' ∧ ∃ u, v = .tup [u, .lit (.int .i64 (deleteF r name).2)] ∧ OwnQ 35 H.n h' u (deleteF r name).1 := by
  refine WC_fn Tryz.func11 rfl rfl ?_
  have l1 := hl.one
  have l2 := hl.isSl
  have l3 := hl.lenD
  have o1 := ho.one
  have o2 := ho.isSl
  have o3 := ho.lenD
  obtain ⟨m, hM⟩ : ∃ m, m = r.live.length := ⟨_, rfl⟩
  rw [← hM] at l3
  obtain ⟨hp, hhp⟩ : ∃ hp, hp = H.push (.cells [vl, vo] 33) := ⟨_, rfl⟩
  have EP : Ext H.n H hp := hhp ▸ (Ext.refl _ _).push _ (Nat.le_refl _)
  have nP : hp.n = H.n + 1 := by rw [hhp, n_push]
  have P0 : hp.at H.n = some (.cells [vl, vo] 33) := hhp ▸ at_push_n _ _
  obtain ⟨hs, hhs⟩ : ∃ hs, hs = hp.push (.cells [.lit (.slice none 0 0), .lit (.slice none 0 0)] 33) := ⟨_, rfl⟩
  have ES : Ext hp.n hp hs := hhs ▸ (Ext.refl _ _).push _ (Nat.le_refl _)
  have nS : hs.n = H.n + 2 := by rw [hhs, n_push, nP]
  have S0 : hs.at hp.n = some (.cells [.lit (.slice none 0 0), .lit (.slice none 0 0)] 33) := hhs ▸ at_push_n _ _
  have P1 := (ES.2 _ (at_lt P0)).trans P0
  have E0 := EP.trans (ES.mono EP.1)
  have LP := ld_at (T := tabOf Tryz.prog NT0) P1
  have lP := at_lt P1
  have bad : ∀ h4 : AH, Ext H.n H h4 → h4.at hp.n = some (.cells [.lit (.slice none 0 0), .lit (.slice none 0 0)] 33) →
      ∃ h5, h5 = h4.put hp.n (.cells [.lit (.slice none 0 0), .lit (.slice none 0 0)] 33) ∧ Ext H.n H h5 ∧ (∀ e i, loadA (tabOf Tryz.prog NT0) h5 e hp.n i = ldL (tabOf Tryz.prog NT0) e [.lit (.slice none 0 0), .lit (.slice none 0 0)] i) ∧ hp.n < h5.n := fun h4 e4 a4 =>
    ⟨_, rfl, e4.put _ (by omega), ld_at (at_put_same _ (at_lt a4)), by rw [n_put]; exact at_lt a4⟩
  simp only [core, zrA, zrS, zrM, zrL, zrE, reduceCtorEq, zrD, ziE, ziL, ziN, Tryz.ntmps11, l1, l2, l3, o1, o2, o3, ← hhp, ← hhs, LP, lP]
  refine (CheckRootR_x (hl.ext E0 (Nat.le_refl _)) (ho.ext E0 (Nat.le_refl _)) hr).mono ?_
  rintro _ h2 ⟨E2, rfl⟩
  have m2 := E2.1
  have E02 := E0.trans (E2.mono E0.1)
  have P2 := (E2.2 _ lP).trans P1
  have S2 := (E2.2 _ (at_lt S0)).trans S0
  have lS2 := at_lt S2
  cases hk : decide (chkF r = 0) with
  | false =>
    have hb : (chkF r != 0) = true := by rw [bne, beq_eq_false_iff_ne.2 (of_decide_eq_false hk)]; rfl
    have hkn : deleteF r name = (root0, chkF r) := by unfold deleteF; rw [if_neg (of_decide_eq_false hk)]
    obtain ⟨h5, hh5, E5, L5, l5⟩ := bad h2 E02 S2
    simp only [core, zrA, zrS, zrM, zrL, zrE, reduceCtorEq, zrD, ziE, ziL, ziN, aundef, hb, hkn, S2, lS2, ← hh5, L5, l5]
    exact ⟨E5, _, rfl, OwnQ.zero⟩
  | true =>
  have hc := of_decide_eq_true hk
  have hb : (chkF r != 0) = false := by rw [hc]; rfl
  obtain ⟨n1, n2⟩ := chk_len hc
  have LP2 := ld_at (T := tabOf Tryz.prog NT0) P2
  have lP2 := at_lt P2
  simp only [core, zrA, zrS, zrM, zrL, zrE, reduceCtorEq, zrD, ziE, ziL, ziN, aundef, hb, LP2, lP2, o1, o2, o3, l1, l2, l3]
  refine (rgood_x hn).mono ?_
  rintro _ h4 ⟨rfl, q5⟩
  replace q5 := q5.symm
  subst q5
  cases hg : mGood name with
  | false =>
    have hkn : deleteF r name = (root0, 36) := by unfold deleteF; rw [if_pos hc, if_neg (by rw [hg]; decide)]
    obtain ⟨h5, hh5, E5, L5, l5⟩ := bad h2 E02 S2
    simp only [core, zrA, zrS, zrM, zrL, zrE, reduceCtorEq, zrD, ziE, ziL, ziN, aundef, hg, hkn, S2, lS2, ← hh5, L5, l5]
    exact ⟨E5, _, rfl, OwnQ.zero⟩
  | true =>
  simp only [core, zrA, zrS, zrM, zrL, zrE, reduceCtorEq, zrD, ziE, ziL, ziN, aundef, hg, LP2, lP2, o1, o2, o3, l1, l2, l3]
  refine (FindR_x (hl.ext E02 (Nat.le_refl _)) (ho.ext E02 (Nat.le_refl _)) hr).mono ?_
  rintro _ h3 ⟨E3, rfl⟩
  have m3 := E3.1
  have E03 := E02.trans (E3.mono E02.1)
  have P3 := (E3.2 _ lP2).trans P2
  have S3 := (E3.2 _ lS2).trans S2
  obtain ⟨y, hy⟩ : ∃ y, y = (findF r name).getD set0 := ⟨_, rfl⟩
  obtain ⟨hA, hhA⟩ : ∃ hA, hA = h3.push (.cells (setC y) 35) := ⟨_, rfl⟩
  have eA : Ext h3.n h3 hA := hhA ▸ (Ext.refl _ _).push _ (Nat.le_refl _)
  have nA : hA.n = h3.n + 1 := by rw [hhA, n_push]
  have PA := (eA.2 _ (at_lt P3)).trans P3
  have SA := (eA.2 _ (at_lt S3)).trans S3
  have EA := E03.trans (eA.mono E03.1)
  have LPA := ld_at (T := tabOf Tryz.prog NT0) PA
  have lPA := at_lt PA
  have lSA := at_lt SA
  rw [← hy]
  unfold setC at hhA ⊢
  cases hm : (findF r name).isSome with
  | false =>
    have hkn : deleteF r name = (root0, 2) := by unfold deleteF; rw [if_pos hc, if_pos hg, if_neg (by rw [hm]; decide)]
    obtain ⟨h5, hh5, E5, L5, l5⟩ := bad hA EA SA
    simp only [core, zrA, zrS, zrM, zrL, zrE, reduceCtorEq, zrD, ziE, ziL, ziN, aundef, hm, hkn, ← hhA, SA, lSA, ← hh5, L5, l5]
    exact ⟨E5, _, rfl, OwnQ.zero⟩
  | true =>
  have hkn : deleteF r name = (⟨r.live.filter fun s => !(s.name == name), r.ops⟩, 0) := by unfold deleteF; rw [if_pos hc, if_pos hg, if_pos hm]
  simp only [core, zrA, zrS, zrM, zrL, zrE, reduceCtorEq, zrD, ziE, ziL, ziN, aundef, hm, ← hhA, LPA, lPA, o1, o2, o3, l1, l2, l3]
  have eC : Ext hA.n hA (hA.push (.cells [] 9)) := (Ext.refl _ _).push _ (Nat.le_refl _)
  refine WOp_app (ownx_clone (n0 := hA.n) flatTx (by kernel_rfl) (by kernel_rfl) (zv := .lit (.string ⟨#[]⟩)) (by kernel_rfl) (by' := 16) (by kernel_rfl) rfl (by decide) (ho.ext (EA.trans (eC.mono EA.1)) (Nat.le_refl _)) (by omega) (by omega) (at_push_n hA _) (Nat.le_refl _) (by rw [n_push]; omega)) ?_
  rintro b h4 ⟨ob, E4⟩
  have E34 := eC.trans (E4.mono eC.1)
  have m4 := E34.1
  have E04 := EA.trans (E34.mono EA.1)
  have P4 := (E34.2 _ lPA).trans PA
  have S4 := (E34.2 _ lSA).trans SA
  have b1 := ob.one
  have b2 := ob.isSl
  obtain ⟨h5, hh5⟩ : ∃ h5, h5 = h4.push (.cells [.lit (.slice none 0 0), b] 33) := ⟨_, rfl⟩
  have E5 : Ext h4.n h4 h5 := hh5 ▸ (Ext.refl _ _).push _ (Nat.le_refl _)
  have n5 : h5.n = h4.n + 1 := by rw [hh5, n_push]
  have B5 : h5.at h4.n = some (.cells [.lit (.slice none 0 0), b] 33) := hh5 ▸ at_push_n _ _
  have P5 := (E5.2 _ (at_lt P4)).trans P4
  have LP5 := ld_at (T := tabOf Tryz.prog NT0) P5
  have lP5 := at_lt P5
  simp only [core, zrA, zrS, zrM, zrL, zrE, reduceCtorEq, zrD, ziE, ziL, ziN, aundef, b1, b2, ← hh5, LP5, lP5, o1, o2, l1, l2, l3]
  have fin : ∀ h : AH, Ext h4.n h5 h → (Ext H.n H h ∧ h.at hp.n = some (.cells [.lit (.slice none 0 0), .lit (.slice none 0 0)] 33) ∧ OwnX txC 1 H.n h b 9 r.ops) := fun h e =>
    have e1 : Ext h4.n h4 h := E5.trans e
    ⟨E04.trans (e1.mono E04.1), (e1.2 _ (at_lt S4)).trans S4, (ob.ext e1 (Nat.le_refl _)).mono (by omega)⟩
  refine WB_for m (fun i t h => Ext h4.n h5 h ∧ h4.n < h.n ∧ ∃ u, h.at h4.n = some (.cells [u, b] 33) ∧ OwnX setC 35 (h4.n + 1) h u 35 ((r.live.take i).filter fun s => !(s.name == name)) ∧ t.n = 55 ∧ t.get 1 = .lit (.string ⟨name.toArray⟩) ∧ t.get 2 = .ptr H.n 0 ∧ t.get 4 = .ptr hp.n 0 ∧ t.get 9 = .ptr h4.n 0 ∧ t.get 37 = vl ∧ t.get 38 = .lit (.int .i64 m) ∧ t.get 39 = .lit (.int .i64 i)) ?_ ?_ _ _ ?_
  · rintro i t h hlt hc2 ⟨E, hn3, u, B, ou, hn, g1, g2, g4, g9, g37, g38, g39⟩ ih
    have hwi := wrap_succ (n := m) hlt (by omega)
    obtain ⟨x, hx⟩ : ∃ x, r.live[i]? = some x := ⟨_, List.getElem?_eq_getElem (by omega)⟩
    obtain ⟨cc, hc1, hld, hld0⟩ := hl.atE (T := tabOf Tryz.prog NT0) (fin h E).1 RSet_z hx
    obtain rfl := RSet_is.1 hc1
    obtain ⟨hA, hhA⟩ : ∃ hA, hA = h.push (.cells (setC x) 35) := ⟨_, rfl⟩
    have eA : Ext h.n h hA := hhA ▸ (Ext.refl _ _).push _ (Nat.le_refl _)
    have XA : hA.at h.n = some (.cells (setC x) 35) := hhA ▸ at_push_n _ _
    have mA := eA.1
    have EA2 := E.trans (eA.mono (by omega))
    have BA := (eA.2 _ (at_lt B)).trans B
    have oA := ou.ext eA (Nat.le_refl _)
    have LXA := ld_at (T := tabOf Tryz.prog NT0) XA
    have lXA := at_lt XA
    have LBA := ld_at (T := tabOf Tryz.prog NT0) BA
    have lBA := at_lt BA
    have u1 := ou.one
    have u2 := ou.isSl
    have hf := filt_take (p := fun s : SetD => !(s.name == name)) hx
    cases hq : (x.name == name) with
    | true =>
      rw [hq] at hf
      unfold setC at hhA XA hld hld0 LXA
      simp only [core, zrA, zrS, zrM, zrL, zrE, reduceCtorEq, zrD, ziE, ziL, ziN, hn, g1, g2, g4, g9, g37, g38, g39, hlt, hc2, l1, l2, l3, hld, hld0, ← hhA, LXA, lXA, pur_sne, hq, hwi]
      refine ih _ _ ⟨EA2, by omega, u, BA, by rw [hf]; simpa using oA, ?_⟩
      simp only [core, zrA, zrS, zrM, zrL, zrE, reduceCtorEq, zrD, ziE, ziL, ziN, hn, g1, g2, g4, g9, g37, g38, g39]
    | false =>
      rw [hq] at hf
      have e5 : Ext hA.n hA (hA.push (.cells (setC x) 35)) := (Ext.refl _ _).push _ (Nat.le_refl _)
      have hsn := fun cap => snocS (cap := cap) (x := x) (oA.ext e5 (Nat.le_refl _)) (by rw [n_push]; omega) (at_push_n hA _) (by have := List.length_filter_le (fun s : SetD => !(s.name == name)) (r.live.take i); rw [List.length_take] at this; omega)
      have B5' := (e5.2 _ lBA).trans BA
      unfold setC at hhA XA hld hld0 LXA hsn e5 B5'
      simp only [core, zrA, zrS, zrM, zrL, zrE, reduceCtorEq, zrD, ziE, ziL, ziN, hn, g1, g2, g4, g9, g37, g38, g39, hlt, hc2, l1, l2, l3, hld, hld0, ← hhA, LXA, lXA, pur_sne, hq, hwi, LBA, lBA, b1, b2, u1, u2]
      refine WOp_app (hsn _) ?_
      rintro s6 h6 ⟨o6, e6⟩
      have u6 := o6.one
      have u7 := o6.isSl
      have B6 := (e6.2 h4.n (by omega)).trans B5'
      have lB6 := at_lt B6
      have e56 : Ext h4.n h5 h6 := EA2.trans ((e5.mono (by omega)).trans (e6.mono (Nat.le_succ _)))
      simp only [core, zrA, zrS, zrM, zrL, zrE, reduceCtorEq, zrD, ziE, ziL, ziN, hn, g1, g2, g4, g9, g37, g38, g39, u6, u7, b1, b2, hwi, B6, lB6]
      refine ih _ _ ⟨e56.put _ (Nat.le_refl _), by rw [n_put]; exact lB6, s6, at_put_same _ lB6, by rw [hf]; exact o6.putLt (Nat.lt_succ_self _), ?_⟩
      simp only [core, zrA, zrS, zrM, zrL, zrE, reduceCtorEq, zrD, ziE, ziL, ziN, hn, g1, g2, g4, g9, g37, g38, g39]
  · rintro t h hc2 ⟨E, hn3, u, B, ou, hn, g1, g2, g4, g9, g37, g38, g39⟩
    rw [hM, List.take_length] at ou
    obtain ⟨EH, Sh, oh⟩ := fin h E
    have LB := ld_at (T := tabOf Tryz.prog NT0) B
    have lB := at_lt B
    have lSh := at_lt Sh
    have u1 := ou.one
    have u2 := ou.isSl
    obtain ⟨h6, hh6⟩ : ∃ h6, h6 = h.put hp.n (.cells [u, b] 33) := ⟨_, rfl⟩
    have E06 : Ext H.n H h6 := hh6 ▸ EH.put _ (by omega)
    have S6 : h6.at hp.n = some (.cells [u, b] 33) := hh6 ▸ at_put_same _ lSh
    have LS6 := ld_at (T := tabOf Tryz.prog NT0) S6
    have lS6 := at_lt S6
    simp only [core, zrA, zrS, zrM, zrL, zrE, reduceCtorEq, zrD, ziE, ziL, ziN, hn, g1, g2, g4, g9, g37, g38, g39, hc2, hkn, LB, lB, b1, b2, u1, u2, Sh, lSh, ← hh6, LS6, lS6]
    exact ⟨E06, _, rfl, u, b, rfl, (hh6 ▸ ou.putLt (by omega) : OwnX setC 35 (h4.n + 1) h6 u 35 _).mono (by omega), (hh6 ▸ ((ob.ext (E5.trans E) (Nat.le_refl _)).putLt (by omega)) : OwnX txC 1 hA.n h6 b 9 r.ops).mono (by omega)⟩
  · refine ⟨Ext.refl _ _, by omega, _, B5, .inl ⟨rfl, by simp⟩, ?_⟩
    simp only [core, zrA, zrS, zrM, zrL, zrE, reduceCtorEq, zrD, ziE, ziL, ziN]
    try ((repeat' apply And.intro) <;> first | rfl | trivial)
end Go.Proofs.YtdcmfchodooolaaGreatDoor.Ex
end

section

set_option linter.unusedSimpArgs false
set_option linter.unusedVariables false
set_option maxRecDepth 10000
set_option maxHeartbeats 4000000
namespace Go.Proofs.YtdcmfchodooolaaGreatDoor.Ex
open Go
theorem foldl_take {α β : Type} {f : β → α → β} {b : β} {l : List α} {i : Nat} {x : α} (hx : l[i]? = some x) : (l.take (i + 1)).foldl f b = f ((l.take i).foldl f b) x := by
  obtain ⟨h1, h2⟩ := List.getElem?_eq_some_iff.1 hx
  rw [List.take_succ_eq_append_getElem h1, h2, List.foldl_append]
  rfl
theorem stepT_len {id : List UInt8} : ∀ (l : List (List UInt8)) (s : Bool × List (List UInt8)), (l.foldl (stepT id) s).2.length ≤ s.2.length + 2 * l.length
  | [], s => by simp
  | x :: r, s => by
    rw [List.foldl_cons]
    have := stepT_len (id := id) r (stepT id s x)
    have h2 : (stepT id s x).2.length ≤ s.2.length + 2 := by
      unfold stepT
      cases !s.1 && ltS id x <;> simp
    rw [List.length_cons]
    omega
theorem stepS_len {s : SetD} : ∀ (l : List SetD) (d : Bool × List SetD), (l.foldl (stepS s) d).2.length ≤ d.2.length + 2 * l.length
  | [], d => by simp
  | x :: r, d => by
    rw [List.foldl_cons]
    have := stepS_len (s := s) r (stepS s d x)
    have h2 : (stepS s d x).2.length ≤ d.2.length + 2 := by
      unfold stepS
      cases !d.1 && !ltS x.name s.name <;> cases x.name == s.name <;> simp
    rw [List.length_cons]
    omega
theorem OpenR_x {F : Nat → Prop} {H : AH} {vl vo : AV} {r : RootD} {id : List UInt8} (hl : IsSl RSet F H vl r.live) (ho : IsSl RTx F H vo r.ops) (hr : RLen r) (hid : id.length ≤ 1100000) :
    WC Tryz.prog (tabOf Tryz.prog NT0) S0 6 [.agg [vl, vo], .lit (.string ⟨id.toArray⟩)] H fun v h' => Ext H.n H h' ∧ ∃ u, v = .tup [u, .lit (.int .i64 (openF r id).2)] ∧ OwnQ 35 H.n h' u (openF r id).1 := by
  refine WC_fn Tryz.func6 rfl rfl ?_
  have l1 := hl.one
  have l2 := hl.isSl
  have l3 := hl.lenD
  have o1 := ho.one
  have o2 := ho.isSl
  have o3 := ho.lenD
  obtain ⟨n, hN⟩ : ∃ n, n = r.ops.length := ⟨_, rfl⟩
  rw [← hN] at o3
  obtain ⟨hp, hhp⟩ : ∃ hp, hp = H.push (.cells [vl, vo] 33) := ⟨_, rfl⟩
  have EP : Ext H.n H hp := hhp ▸ (Ext.refl _ _).push _ (Nat.le_refl _)
  have nP : hp.n = H.n + 1 := by rw [hhp, n_push]
  have P0 : hp.at H.n = some (.cells [vl, vo] 33) := hhp ▸ at_push_n _ _
  obtain ⟨hs, hhs⟩ : ∃ hs, hs = hp.push (.cells [.lit (.slice none 0 0), .lit (.slice none 0 0)] 33) := ⟨_, rfl⟩
  have ES : Ext hp.n hp hs := hhs ▸ (Ext.refl _ _).push _ (Nat.le_refl _)
  have nS : hs.n = H.n + 2 := by rw [hhs, n_push, nP]
  have S0 : hs.at hp.n = some (.cells [.lit (.slice none 0 0), .lit (.slice none 0 0)] 33) := hhs ▸ at_push_n _ _
  have P1 := (ES.2 _ (at_lt P0)).trans P0
  have E0 := EP.trans (ES.mono EP.1)
  have LP := ld_at (T := tabOf Tryz.prog NT0) P1
  have lP := at_lt P1
  have bad : ∀ h4 : AH, Ext H.n H h4 → h4.at hp.n = some (.cells [.lit (.slice none 0 0), .lit (.slice none 0 0)] 33) →
      ∃ h5, h5 = h4.put hp.n (.cells [.lit (.slice none 0 0), .lit (.slice none 0 0)] 33) ∧ Ext H.n H h5 ∧ (∀ e i, loadA (tabOf Tryz.prog NT0) h5 e hp.n i = ldL (tabOf Tryz.prog NT0) e [.lit (.slice none 0 0), .lit (.slice none 0 0)] i) ∧ hp.n < h5.n := fun h4 e4 a4 =>
    ⟨_, rfl, e4.put _ (by omega), ld_at (at_put_same _ (at_lt a4)), by rw [n_put]; exact at_lt a4⟩
  simp only [core, zrA, zrS, zrM, zrL, zrE, reduceCtorEq, zrD, ziE, ziL, ziN, Tryz.ntmps6, l1, l2, l3, o1, o2, o3, ← hhp, ← hhs, LP, lP]
  refine (CheckRootR_x (hl.ext E0 (Nat.le_refl _)) (ho.ext E0 (Nat.le_refl _)) hr).mono ?_
  rintro _ h2 ⟨E2, rfl⟩
  have m2 := E2.1
  have E02 := E0.trans (E2.mono E0.1)
  have P2 := (E2.2 _ lP).trans P1
  have S2 := (E2.2 _ (at_lt S0)).trans S0
  have lS2 := at_lt S2
  cases hk : decide (chkF r = 0) with
  | false =>
    have hb : (chkF r != 0) = true := by rw [bne, beq_eq_false_iff_ne.2 (of_decide_eq_false hk)]; rfl
    have hkn : openF r id = (root0, chkF r) := by unfold openF; rw [if_neg (of_decide_eq_false hk)]
    obtain ⟨h5, hh5, E5, L5, l5⟩ := bad h2 E02 S2
    simp only [core, zrA, zrS, zrM, zrL, zrE, reduceCtorEq, zrD, ziE, ziL, ziN, aundef, hb, hkn, S2, lS2, ← hh5, L5, l5]
    exact ⟨E5, _, rfl, OwnQ.zero⟩
  | true =>
  have hc := of_decide_eq_true hk
  have hb : (chkF r != 0) = false := by rw [hc]; rfl
  obtain ⟨n1, n2⟩ := chk_len hc
  have LP2 := ld_at (T := tabOf Tryz.prog NT0) P2
  have lP2 := at_lt P2
  simp only [core, zrA, zrS, zrM, zrL, zrE, reduceCtorEq, zrD, ziE, ziL, ziN, aundef, hb, LP2, lP2, o1, o2, o3, l1, l2, l3]
  refine (goodIdR_x hid).mono ?_
  rintro _ h3 ⟨E3, rfl⟩
  have m3 := E3.1
  have E03 := E02.trans (E3.mono E02.1)
  have P3 := (E3.2 _ lP2).trans P2
  have S3 := (E3.2 _ lS2).trans S2
  have lS3 := at_lt S3
  cases hg : goodIdF id with
  | false =>
    have hkn : openF r id = (root0, 22) := by unfold openF; rw [if_pos hc, if_neg (by rw [hg]; decide)]
    obtain ⟨h5, hh5, E5, L5, l5⟩ := bad h3 E03 S3
    simp only [core, zrA, zrS, zrM, zrL, zrE, reduceCtorEq, zrD, ziE, ziL, ziN, aundef, hg, hkn, S3, lS3, ← hh5, L5, l5]
    exact ⟨E5, _, rfl, OwnQ.zero⟩
  | true =>
  have LP3 := ld_at (T := tabOf Tryz.prog NT0) P3
  have lP3 := at_lt P3
  simp only [core, zrA, zrS, zrM, zrL, zrE, reduceCtorEq, zrD, ziE, ziL, ziN, aundef, hg, LP3, lP3, o1, o2, o3, l1, l2, l3]
  refine (KnowsR_x (hl.ext E03 (Nat.le_refl _)) (ho.ext E03 (Nat.le_refl _)) hr).mono ?_
  rintro _ hA ⟨eA, rfl⟩
  have nA := eA.1
  have EA := E03.trans (eA.mono E03.1)
  have PA := (eA.2 _ lP3).trans P3
  have SA := (eA.2 _ lS3).trans S3
  have LPA := ld_at (T := tabOf Tryz.prog NT0) PA
  have lPA := at_lt PA
  have lSA := at_lt SA
  cases hm : knowsF r id with
  | true =>
    have hkn : openF r id = (root0, 17) := by unfold openF; rw [if_pos hc, if_pos hg, if_pos hm]
    obtain ⟨h5, hh5, E5, L5, l5⟩ := bad hA EA SA
    simp only [core, zrA, zrS, zrM, zrL, zrE, reduceCtorEq, zrD, ziE, ziL, ziN, aundef, hm, hkn, SA, lSA, ← hh5, L5, l5]
    exact ⟨E5, _, rfl, OwnQ.zero⟩
  | false =>
  cases hf : decide ((16 : Int) ≤ (n : Int)) with
  | true =>
    have hkn : openF r id = (root0, 28) := by unfold openF; rw [if_pos hc, if_pos hg, if_neg (by rw [hm]; decide), if_pos (by have := of_decide_eq_true hf; omega)]
    obtain ⟨h5, hh5, E5, L5, l5⟩ := bad hA EA SA
    simp only [core, zrA, zrS, zrM, zrL, zrE, reduceCtorEq, zrD, ziE, ziL, ziN, aundef, hm, hf, hkn, LPA, lPA, o1, o2, o3, SA, lSA, ← hh5, L5, l5]
    exact ⟨E5, _, rfl, OwnQ.zero⟩
  | false =>
  have hn16 : n < 16 := by have := of_decide_eq_false hf; omega
  have hkn : openF r id = (⟨r.live, insT id r.ops⟩, 0) := by unfold openF; rw [if_pos hc, if_pos hg, if_neg (by rw [hm]; decide), if_neg (by omega)]
  simp only [core, zrA, zrS, zrM, zrL, zrE, reduceCtorEq, zrD, ziE, ziL, ziN, aundef, hm, hf, LPA, lPA, o1, o2, o3, l1, l2, l3]
  have eC : Ext hA.n hA (hA.push (.cells [] 35)) := (Ext.refl _ _).push _ (Nat.le_refl _)
  refine WOp_app (ownx_clone (n0 := hA.n) flatSet (by kernel_rfl) (by kernel_rfl) (zv := .agg (setC set0)) (by kernel_rfl) (by' := 72) (by kernel_rfl) rfl (by decide) (hl.ext (EA.trans (eC.mono EA.1)) (Nat.le_refl _)) (by omega) (by omega) (at_push_n hA _) (Nat.le_refl _) (by rw [n_push]; omega)) ?_
  rintro a h4 ⟨oa, E4⟩
  have E34 := eC.trans (E4.mono eC.1)
  have m4 := E34.1
  have E04 := EA.trans (E34.mono EA.1)
  have P4 := (E34.2 _ lPA).trans PA
  have S4 := (E34.2 _ lSA).trans SA
  have a1 := oa.one
  have a2 := oa.isSl
  obtain ⟨h5, hh5⟩ : ∃ h5, h5 = h4.push (.cells [a, .lit (.slice none 0 0)] 33) := ⟨_, rfl⟩
  have E5 : Ext h4.n h4 h5 := hh5 ▸ (Ext.refl _ _).push _ (Nat.le_refl _)
  have n5 : h5.n = h4.n + 1 := by rw [hh5, n_push]
  have B5 : h5.at h4.n = some (.cells [a, .lit (.slice none 0 0)] 33) := hh5 ▸ at_push_n _ _
  have P5 := (E5.2 _ (at_lt P4)).trans P4
  have LP5 := ld_at (T := tabOf Tryz.prog NT0) P5
  have lP5 := at_lt P5
  simp only [core, zrA, zrS, zrM, zrL, zrE, reduceCtorEq, zrD, ziE, ziL, ziN, aundef, a1, a2, ← hh5, LP5, lP5, o1, o2, o3, l1, l2, l3]
  have fin : ∀ h : AH, Ext h4.n h5 h → (Ext H.n H h ∧ h.at hp.n = some (.cells [.lit (.slice none 0 0), .lit (.slice none 0 0)] 33) ∧ OwnX setC 35 H.n h a 35 r.live) := fun h e =>
    have e1 : Ext h4.n h4 h := E5.trans e
    ⟨E04.trans (e1.mono E04.1), (e1.2 _ (at_lt S4)).trans S4, (oa.ext e1 (Nat.le_refl _)).mono (by omega)⟩
  have pushed : ∀ {h : AH} {u : AV} {xs : List (List UInt8)} {x : List UInt8} {cap : Cap}, Ext h4.n h5 h → h.at h4.n = some (.cells [a, u] 33) → OwnX txC 1 (h4.n + 1) h u 9 xs → xs.length ≤ 1000 →
      ∃ s' h', appendA (tabOf Tryz.prog NT0) (h.push (.cells [.lit (.string ⟨x.toArray⟩)] 9)) 23 23 u (.sl h.n 0 1 cap) = some (s', h') ∧
        ∃ h6, h6 = h'.put h4.n (.cells [a, s'] 33) ∧ h'.at h4.n = some (.cells [a, u] 33) ∧ h4.n < h'.n ∧ s'.one = true ∧ isSl s' = true ∧ Ext h4.n h5 h6 ∧ h6.at h4.n = some (.cells [a, s'] 33) ∧ OwnX txC 1 (h4.n + 1) h6 s' 9 (xs ++ [x]) := fun {h u xs x cap} E B ou hx => by
    have e5 : Ext h.n h (h.push (.cells [.lit (.string ⟨x.toArray⟩)] 9)) := (Ext.refl _ _).push _ (Nat.le_refl _)
    have lB := at_lt B
    obtain ⟨s', h', ha, o6, e6⟩ := snocT (cap := cap) (x := x) (ou.ext e5 (Nat.le_refl _)) (by rw [n_push]; omega) (at_push_n h _) (by omega)
    have B6 := (e6.2 h4.n (by omega)).trans ((e5.2 _ lB).trans B)
    have lB6 := at_lt B6
    have e56 : Ext h4.n h5 h' := E.trans ((e5.mono (by omega)).trans (e6.mono (Nat.le_succ _)))
    exact ⟨s', h', ha, _, rfl, B6, lB6, o6.one, o6.isSl, e56.put _ (Nat.le_refl _), at_put_same _ lB6, o6.putLt (Nat.lt_succ_self _)⟩
  refine WB_for n (fun i t h => Ext h4.n h5 h ∧ ∃ u st, st = (r.ops.take i).foldl (stepT id) (false, []) ∧ h.at h4.n = some (.cells [a, u] 33) ∧ OwnX txC 1 (h4.n + 1) h u 9 st.2 ∧ t.n = 71 ∧ t.get 1 = .lit (.string ⟨id.toArray⟩) ∧ t.get 2 = .ptr H.n 0 ∧ t.get 4 = .ptr hp.n 0 ∧ t.get 7 = .ptr h4.n 0 ∧ t.get 8 = .lit (.bool st.1) ∧ t.get 36 = vo ∧ t.get 37 = .lit (.int .i64 n) ∧ t.get 38 = .lit (.int .i64 i)) ?_ ?_ _ _ ?_
  · rintro i t h hlt hc2 ⟨E, u, st, hst, B, ou, hn, g1, g2, g4, g7, g8, g36, g37, g38⟩ ih
    have hwi := wrap_succ (n := n) hlt (by omega)
    obtain ⟨x, hx⟩ : ∃ x, r.ops[i]? = some x := ⟨_, List.getElem?_eq_getElem (by omega)⟩
    have l0 : loadA (tabOf Tryz.prog NT0) h 9 (slB vo) (slO vo + i) = some (.lit (.string ⟨x.toArray⟩)) := by
      obtain ⟨cc, hc1, hld, hld0⟩ := ho.atE (T := tabOf Tryz.prog NT0) (fin h E).1 RTx_z hx
      obtain rfl := RTx_is.1 hc1
      have ld := hld0 9 1 (by kernel_rfl) (by decide) (by decide)
      rw [Nat.mul_one] at ld
      rw [ld]
      rfl
    have hst2 := foldl_take (f := stepT id) (b := (false, [])) hx
    rw [← hst] at hst2
    have hlen := stepT_len (id := id) (r.ops.take i) (false, [])
    rw [← hst, List.length_take] at hlen
    obtain ⟨d, o⟩ := st
    have hol : o.length ≤ 900 := by
      have : o.length ≤ 0 + 2 * min i r.ops.length := hlen
      omega
    have LB := ld_at (T := tabOf Tryz.prog NT0) B
    have lB := at_lt B
    have u1 := ou.one
    have u2 := ou.isSl
    have hx2 : ∀ (d : Bool) (o : List (List UInt8)), stepT id (d, o) x = bif !d && ltS id x then (true, (o ++ [id]) ++ [x]) else (d, o ++ [x]) := fun _ _ => rfl
    rw [hx2] at hst2
    have two : ∀ (o : List (List UInt8)) (h : AH) (u : AV), o.length ≤ 100 → Ext h4.n h5 h → h.at h4.n = some (.cells [a, u] 33) → OwnX txC 1 (h4.n + 1) h u 9 o → True := fun _ _ _ _ _ _ _ => trivial
    cases hd : (!d && ltS id x) with
    | true =>
      obtain rfl : d = false := by cases d <;> simp_all
      have hli : ltS id x = true := by simpa using hd
      rw [hd] at hst2
      simp only [core, zrA, zrS, zrM, zrL, zrE, reduceCtorEq, zrD, ziE, ziL, ziN, hn, g1, g2, g4, g7, g8, g36, g37, g38, aundef, hlt, hc2, o1, o2, o3, l0, pur_sgt, hli, LB, lB, a1, a2, u1, u2]
      refine WOp_app (pushed E B ou (Nat.le_trans hol (by decide))) ?_
      rintro s6 h6 ⟨h7, hh7, B6, lB6, u6, u7, E7, B7, o7⟩
      have LB7 := ld_at (T := tabOf Tryz.prog NT0) B7
      have lB7 := at_lt B7
      simp only [core, zrA, zrS, zrM, zrL, zrE, reduceCtorEq, zrD, ziE, ziL, ziN, hn, g1, g2, g4, g7, g8, g36, g37, g38, aundef, u6, u7, a1, a2, B6, lB6, ← hh7, LB7, lB7]
      refine WOp_app (pushed E7 B7 o7 (show (o ++ [id]).length ≤ 1000 by rw [List.length_append, List.length_singleton]; omega)) ?_
      rintro s8 h8 ⟨h9, hh9, B8, lB8, u8, u9, E9, B9, o9⟩
      simp only [core, zrA, zrS, zrM, zrL, zrE, reduceCtorEq, zrD, ziE, ziL, ziN, hn, g1, g2, g4, g7, g8, g36, g37, g38, aundef, u8, u9, a1, a2, B8, lB8, ← hh9, hwi]
      refine ih _ _ ⟨E9, s8, (true, (o ++ [id]) ++ [x]), hst2.symm, B9, o9, ?_⟩
      simp only [core, zrA, zrS, zrM, zrL, zrE, reduceCtorEq, zrD, ziE, ziL, ziN, hn, g1, g2, g4, g7, g8, g36, g37, g38]
    | false =>
      rw [hd] at hst2
      have hcs : (d = true ∧ (!d) = false) ∨ (d = false ∧ ltS id x = false) := by cases d <;> simp_all
      rcases hcs with ⟨rfl, hli⟩ | ⟨rfl, hli⟩
      all_goals
        simp only [core, zrA, zrS, zrM, zrL, zrE, reduceCtorEq, zrD, ziE, ziL, ziN, hn, g1, g2, g4, g7, g8, g36, g37, g38, aundef, hlt, hc2, o1, o2, o3, l0, pur_sgt, hli, LB, lB, a1, a2, u1, u2]
        refine WOp_app (pushed E B ou (Nat.le_trans hol (by decide))) ?_
        rintro s6 h6 ⟨h7, hh7, B6, lB6, u6, u7, E7, B7, o7⟩
        simp only [core, zrA, zrS, zrM, zrL, zrE, reduceCtorEq, zrD, ziE, ziL, ziN, hn, g1, g2, g4, g7, g8, g36, g37, g38, aundef, u6, u7, a1, a2, B6, lB6, ← hh7, hwi]
        refine ih _ _ ⟨E7, s6, _, hst2.symm, B7, o7, ?_⟩
        simp only [core, zrA, zrS, zrM, zrL, zrE, reduceCtorEq, zrD, ziE, ziL, ziN, hn, g1, g2, g4, g7, g8, g36, g37, g38, cond_false]
  · rintro t h hc2 ⟨E, u, st, hst, B, ou, hn, g1, g2, g4, g7, g8, g36, g37, g38⟩
    rw [hN, List.take_length] at hst
    have hlen := stepT_len (id := id) r.ops (false, [])
    rw [← hst] at hlen
    have hend := stepT_eq (id := id) r.ops []
    rw [← hst, List.nil_append] at hend
    obtain ⟨d, o⟩ := st
    have hol : o.length ≤ 900 := by
      have : o.length ≤ 0 + 2 * r.ops.length := hlen
      omega
    have LB := ld_at (T := tabOf Tryz.prog NT0) B
    have lB := at_lt B
    have u1 := ou.one
    have u2 := ou.isSl
    have done : ∀ (h : AH) (u : AV), Ext h4.n h5 h → h.at h4.n = some (.cells [a, u] 33) → OwnX txC 1 (h4.n + 1) h u 9 (insT id r.ops) → ∃ h6, h6 = h.put hp.n (.cells [a, u] 33) ∧ h.at hp.n = some (.cells [.lit (.slice none 0 0), .lit (.slice none 0 0)] 33) ∧ hp.n < h.n ∧ hp.n < h6.n ∧ (∀ e i, loadA (tabOf Tryz.prog NT0) h6 e hp.n i = ldL (tabOf Tryz.prog NT0) e [a, u] i) ∧ Ext H.n H h6 ∧ OwnQ 35 H.n h6 (.agg [a, u]) ⟨r.live, insT id r.ops⟩ := fun h u E B ou => by
      obtain ⟨EH, Sh, oh⟩ := fin h E
      have lSh := at_lt Sh
      exact ⟨_, rfl, Sh, lSh, by rw [n_put]; exact lSh, ld_at (at_put_same _ lSh), EH.put _ (by omega), a, u, rfl, ((oa.ext (E5.trans E) (Nat.le_refl _)).putLt (by omega)).mono (by omega), (ou.putLt (by omega)).mono (by omega)⟩
    cases d with
    | true =>
      have hio : o = insT id r.ops := hend
      subst hio
      obtain ⟨h6, hh6, Sh, lSh, l6, L6, E6, Q6⟩ := done h u E B ou
      simp only [core, zrA, zrS, zrM, zrL, zrE, reduceCtorEq, zrD, ziE, ziL, ziN, hn, g1, g2, g4, g7, g8, g36, g37, g38, aundef, hc2, hkn, LB, lB, a1, a2, u1, u2, Sh, lSh, ← hh6, L6, l6]
      exact ⟨E6, _, rfl, Q6⟩
    | false =>
      have hio : o ++ [id] = insT id r.ops := hend
      simp only [core, zrA, zrS, zrM, zrL, zrE, reduceCtorEq, zrD, ziE, ziL, ziN, hn, g1, g2, g4, g7, g8, g36, g37, g38, aundef, hc2, LB, lB, a1, a2, u1, u2]
      refine WOp_app (pushed E B ou (Nat.le_trans hol (by decide))) ?_
      rintro s6 h6 ⟨h7, hh7, B6, lB6, u6, u7, E7, B7, o7⟩
      have LB7 := ld_at (T := tabOf Tryz.prog NT0) B7
      have lB7 := at_lt B7
      obtain ⟨h8, hh8, Sh, lSh, l8, L8, E8, Q8⟩ := done h7 s6 E7 B7 (hio ▸ o7)
      simp only [core, zrA, zrS, zrM, zrL, zrE, reduceCtorEq, zrD, ziE, ziL, ziN, hn, g1, g2, g4, g7, g8, g36, g37, g38, aundef, hkn, u6, u7, a1, a2, B6, lB6, ← hh7, LB7, lB7, Sh, lSh, ← hh8, L8, l8]
      exact ⟨E8, _, rfl, Q8⟩
  · refine ⟨Ext.refl _ _, _, (false, []), rfl, B5, .inl ⟨rfl, rfl⟩, ?_⟩
    simp only [core, zrA, zrS, zrM, zrL, zrE, reduceCtorEq, zrD, ziE, ziL, ziN]
    try ((repeat' apply And.intro) <;> first | rfl | trivial)
end Go.Proofs.YtdcmfchodooolaaGreatDoor.Ex
end

section

set_option linter.unusedSimpArgs false
set_option linter.unusedVariables false
set_option maxRecDepth 10000
set_option maxHeartbeats 4000000
namespace Go.Proofs.YtdcmfchodooolaaGreatDoor.Ex
open Go
theorem snocK {α : Type} {R : Rep α} {cf : α → List AV} {z n0 : Nat} {h : AH} {v : AV} {e : TypeId} {xs : List α} {T : TT} {t : TypeId} {by' q : Nat} {zv : AV} {y : α} {cap : Cap} {e' : TypeId} (hR : FlatK R cf z) (ho : OwnX cf z n0 h v e xs) (hu : und T t = some (.slice e)) (hz : sizeT T e = some z) (hzv : zeroT T e = some zv) (hb : bytesT T e = some by')
    (hzl : zv.cells.length = z) (h200 : z ≤ 200) (hq : h.at q = some (.cells (cf y) e')) (hn : xs.length + 1 ≤ 4611686018427387904) (hby : (xs.length + 1) * by' ≤ 140737488355328) (hn0 : n0 ≤ h.n) :
    ∃ s' h', appendA T h t t v (.sl q 0 1 cap) = some (s', h') ∧ OwnW cf z n0 h' s' e (xs ++ [y]) ∧ Ext n0 h h' ∧ ∀ c, c < h.n → Apart v c → h'.at c = h.at c := by
  have h1 : (cf y).all AV.one = true := by
    rw [List.all_eq_true]
    exact fun w hw => R.one ((hR.is (fun _ => True) h _ _).2 rfl) w hw
  have hs : lenA v = some xs.length := by
    rcases ho with ⟨rfl, rfl⟩ | ⟨rfl, p, hp, rfl, hat⟩ | ⟨p, l, hp, rfl, hat⟩ <;> rfl
  rw [appendA_one hu hz hzv hb hzl hR.z0 h200 hq (hR.len y) h1 hs hn hby]
  have hpl : ∀ x c, c < h.n → (h.push x).at c = h.at c := fun x c hc => at_push_lt _ hc
  rcases ho with ⟨rfl, rfl⟩ | ⟨rfl, p, hp, rfl, hat⟩ | ⟨p, l, hp, rfl, hat⟩
  · exact ⟨_, _, rfl, ⟨h.n, hn0, rfl, by rw [at_push_n]; simp⟩, (Ext.refl _ _).push _ hn0, fun c hc _ => hpl _ c hc⟩
  · have hg : getR h p = some [] := by unfold getR; rw [hat]
    have hc : cut ([] : List AV) 0 (0 * z) = some [] := by simp [cut]
    refine ⟨.sl h.n 0 1 (.un z), h.push (.cells ([] ++ cf y) e), ?_, ⟨h.n, hn0, rfl, by rw [at_push_n]; simp⟩, (Ext.refl _ _).push _ hn0, fun c hc _ => hpl _ c hc⟩
    unfold appendB
    simp only [show Nat.beq 1 0 = false from rfl, show Nat.ble (0 + 1) 0 = false from rfl, hg, hc, cond_false]
  · have hg : getB h p = some (xs.flatMap cf ++ l, e) := by unfold getB; rw [hat]
    have hl := flatMap_len hR.len xs
    have hc : cut (xs.flatMap cf ++ l) 0 (xs.length * z) = some (xs.flatMap cf) := by
      unfold cut
      rw [if_pos (by rw [List.length_append, hl]; omega), List.drop_zero, ← hl, List.take_left']
      rfl
    refine ⟨.sl h.n 0 (xs.length + 1) (.un z), (h.put p .gone).push (.cells (xs.flatMap cf ++ cf y) e), ?_, ⟨h.n, hn0, by simp, ?_⟩, ((Ext.refl n0 h).put .gone hp).push _ (by rw [n_put]; exact hn0), fun c hc hap => ?_⟩
    · unfold appendB
      simp only [show Nat.beq 1 0 = false from rfl, hg, hc, cond_false, Nat.beq_refl, Bool.and_self, cond_true]
    · have := at_push_n (h.put p .gone) (.cells (xs.flatMap cf ++ cf y) e)
      rw [n_put] at this
      rw [this]
      simp
    · rw [at_push_lt _ (by rw [n_put]; exact hc)]
      exact at_put_ne _ fun hh => hap 0 xs.length (.un z) (by rw [hh])
theorem CommitR_x {F : Nat → Prop} {H : AH} {vl vo : AV} {r : RootD} {s : SetD} (hl : IsSl RSet F H vl r.live) (ho : IsSl RTx F H vo r.ops) (hr : RLen r) (hid : s.id.length ≤ 1100000) (hnm : s.name.length ≤ 4611686018427387000) :
    WC Tryz.prog (tabOf Tryz.prog NT0) S0 9 [.agg [vl, vo], .agg (setC s)] H fun v h' => Ext H.n H h' ∧ ∃ u, v = .tup [u, .lit (.int .i64 (commitF r s).2)] ∧ OwnQ 35 H.n h' u (commitF r s).1 := by
  refine WC_fn Tryz.func9 rfl rfl ?_
  have l1 := hl.one
  have l2 := hl.isSl
  have l3 := hl.lenD
  have o1 := ho.one
  have o2 := ho.isSl
  have o3 := ho.lenD
  obtain ⟨m, hM⟩ : ∃ m, m = r.live.length := ⟨_, rfl⟩
  rw [← hM] at l3
  obtain ⟨hp, hhp⟩ : ∃ hp, hp = H.push (.cells [vl, vo] 33) := ⟨_, rfl⟩
  have EP : Ext H.n H hp := hhp ▸ (Ext.refl _ _).push _ (Nat.le_refl _)
  have nP : hp.n = H.n + 1 := by rw [hhp, n_push]
  have P0 : hp.at H.n = some (.cells [vl, vo] 33) := hhp ▸ at_push_n _ _
  obtain ⟨hw, hhw⟩ : ∃ hw, hw = hp.push (.cells (setC s) 35) := ⟨_, rfl⟩
  have EB0 : Ext hp.n hp hw := hhw ▸ (Ext.refl _ _).push _ (Nat.le_refl _)
  have nB : hw.n = H.n + 2 := by rw [hhw, n_push, nP]
  have B0 : hw.at hp.n = some (.cells (setC s) 35) := hhw ▸ at_push_n _ _
  have PB := (EB0.2 _ (at_lt P0)).trans P0
  obtain ⟨hs, hhs⟩ : ∃ hs, hs = hw.push (.cells [.lit (.slice none 0 0), .lit (.slice none 0 0)] 33) := ⟨_, rfl⟩
  have ES : Ext hw.n hw hs := hhs ▸ (Ext.refl _ _).push _ (Nat.le_refl _)
  have nS : hs.n = H.n + 3 := by rw [hhs, n_push, nB]
  have S0 : hs.at hw.n = some (.cells [.lit (.slice none 0 0), .lit (.slice none 0 0)] 33) := hhs ▸ at_push_n _ _
  have P1 := (ES.2 _ (at_lt PB)).trans PB
  have B1 := (ES.2 _ (at_lt B0)).trans B0
  have E0 := EP.trans ((EB0.trans (ES.mono EB0.1)).mono EP.1)
  have LP := ld_at (T := tabOf Tryz.prog NT0) P1
  have lP := at_lt P1
  have bad : ∀ h4 : AH, Ext H.n H h4 → h4.at hw.n = some (.cells [.lit (.slice none 0 0), .lit (.slice none 0 0)] 33) →
      ∃ h5, h5 = h4.put hw.n (.cells [.lit (.slice none 0 0), .lit (.slice none 0 0)] 33) ∧ Ext H.n H h5 ∧ (∀ e i, loadA (tabOf Tryz.prog NT0) h5 e hw.n i = ldL (tabOf Tryz.prog NT0) e [.lit (.slice none 0 0), .lit (.slice none 0 0)] i) ∧ hw.n < h5.n := fun h4 e4 a4 =>
    ⟨_, rfl, e4.put _ (by omega), ld_at (at_put_same _ (at_lt a4)), by rw [n_put]; exact at_lt a4⟩
  have LB0 := ld_at (T := tabOf Tryz.prog NT0) B1
  have lB0 := at_lt B1
  unfold setC at hhw ⊢
  simp only [core, zrA, zrS, zrM, zrL, zrE, reduceCtorEq, zrD, ziE, ziL, ziN, Tryz.ntmps9, l1, l2, l3, o1, o2, o3, ← hhp, ← hhw, ← hhs, LP, lP]
  refine (CheckRootR_x (hl.ext E0 (Nat.le_refl _)) (ho.ext E0 (Nat.le_refl _)) hr).mono ?_
  rintro _ h2 ⟨E2, rfl⟩
  have m2 := E2.1
  have E02 := E0.trans (E2.mono E0.1)
  have P2 := (E2.2 _ lP).trans P1
  have B2 := (E2.2 _ lB0).trans B1
  have S2 := (E2.2 _ (at_lt S0)).trans S0
  have lS2 := at_lt S2
  cases hk : decide (chkF r = 0) with
  | false =>
    have hb : (chkF r != 0) = true := by rw [bne, beq_eq_false_iff_ne.2 (of_decide_eq_false hk)]; rfl
    have hkn : commitF r s = (root0, chkF r) := by unfold commitF; rw [if_neg (of_decide_eq_false hk)]
    obtain ⟨h5, hh5, E5, L5, l5⟩ := bad h2 E02 S2
    simp only [core, zrA, zrS, zrM, zrL, zrE, reduceCtorEq, zrD, ziE, ziL, ziN, aundef, hb, hkn, S2, lS2, ← hh5, L5, l5]
    exact ⟨E5, _, rfl, OwnQ.zero⟩
  | true =>
  have hc := of_decide_eq_true hk
  have hb : (chkF r != 0) = false := by rw [hc]; rfl
  obtain ⟨n1, n2⟩ := chk_len hc
  have LP2 := ld_at (T := tabOf Tryz.prog NT0) P2
  have lP2 := at_lt P2
  have LB2 := ld_at (T := tabOf Tryz.prog NT0) B2
  have lB2 := at_lt B2
  unfold setC at LB2
  simp only [core, zrA, zrS, zrM, zrL, zrE, reduceCtorEq, zrD, ziE, ziL, ziN, aundef, hb, LP2, lP2, LB2, lB2, o1, o2, o3, l1, l2, l3]
  refine (goodIdR_x hid).mono ?_
  rintro _ h3 ⟨E3, rfl⟩
  have m3 := E3.1
  have E03 := E02.trans (E3.mono E02.1)
  have P3 := (E3.2 _ lP2).trans P2
  have B3 := (E3.2 _ lB2).trans B2
  have S3 := (E3.2 _ lS2).trans S2
  have lS3 := at_lt S3
  have LP3 := ld_at (T := tabOf Tryz.prog NT0) P3
  have lP3 := at_lt P3
  have LB3 := ld_at (T := tabOf Tryz.prog NT0) B3
  have lB3 := at_lt B3
  unfold setC at LB3
  have bad22 : ¬ (goodIdF s.id = true ∧ 0 ≤ s.size ∧ s.size ≤ 2147483647) → commitF r s = (root0, 22) := fun hh => by unfold commitF; rw [if_pos hc, if_neg hh]
  cases hg : goodIdF s.id with
  | false =>
    have hkn := bad22 fun hh => by rw [hg] at hh; cases hh.1
    obtain ⟨h5, hh5, E5, L5, l5⟩ := bad h3 E03 S3
    simp only [core, zrA, zrS, zrM, zrL, zrE, reduceCtorEq, zrD, ziE, ziL, ziN, aundef, hg, hkn, S3, lS3, ← hh5, L5, l5]
    exact ⟨E5, _, rfl, OwnQ.zero⟩
  | true =>
  cases q2 : decide (s.size < 0) with
  | true =>
    have hkn := bad22 fun hh => by have := of_decide_eq_true q2; omega
    obtain ⟨h5, hh5, E5, L5, l5⟩ := bad h3 E03 S3
    simp only [core, zrA, zrS, zrM, zrL, zrE, reduceCtorEq, zrD, ziE, ziL, ziN, aundef, hg, q2, hkn, LB3, lB3, S3, lS3, ← hh5, L5, l5]
    exact ⟨E5, _, rfl, OwnQ.zero⟩
  | false =>
  cases q3 : decide (2147483647 < s.size) with
  | true =>
    have hkn := bad22 fun hh => by have := of_decide_eq_true q3; omega
    obtain ⟨h5, hh5, E5, L5, l5⟩ := bad h3 E03 S3
    simp only [core, zrA, zrS, zrM, zrL, zrE, reduceCtorEq, zrD, ziE, ziL, ziN, aundef, hg, q2, q3, hkn, LB3, lB3, S3, lS3, ← hh5, L5, l5]
    exact ⟨E5, _, rfl, OwnQ.zero⟩
  | false =>
  have hok : goodIdF s.id = true ∧ 0 ≤ s.size ∧ s.size ≤ 2147483647 := ⟨hg, by have := of_decide_eq_false q2; omega, by have := of_decide_eq_false q3; omega⟩
  simp only [core, zrA, zrS, zrM, zrL, zrE, reduceCtorEq, zrD, ziE, ziL, ziN, aundef, hg, q2, q3, LP3, lP3, LB3, lB3, o1, o2, o3, l1, l2, l3]
  refine (rgood_x hnm).mono ?_
  rintro _ h4 ⟨rfl, q5⟩
  replace q5 := q5.symm
  subst q5
  cases hn : mGood s.name with
  | false =>
    have hkn : commitF r s = (root0, 36) := by unfold commitF; rw [if_pos hc, if_pos hok, if_neg (by rw [hn]; decide)]
    obtain ⟨h5, hh5, E5, L5, l5⟩ := bad h3 E03 S3
    simp only [core, zrA, zrS, zrM, zrL, zrE, reduceCtorEq, zrD, ziE, ziL, ziN, aundef, hn, hkn, S3, lS3, ← hh5, L5, l5]
    exact ⟨E5, _, rfl, OwnQ.zero⟩
  | true =>
  simp only [core, zrA, zrS, zrM, zrL, zrE, reduceCtorEq, zrD, ziE, ziL, ziN, aundef, hn, LP3, lP3, LB3, lB3, o1, o2, o3, l1, l2, l3]
  refine (CloseR_x (hl.ext E03 (Nat.le_refl _)) (ho.ext E03 (Nat.le_refl _)) hr).mono ?_
  rintro _ h4 ⟨E4, _, rfl, a, b, rfl, oa, ob⟩
  have m4 := E4.1
  have E04 := E03.trans (E4.mono E03.1)
  have P4 := (E4.2 _ lP3).trans P3
  have B4 := (E4.2 _ lB3).trans B3
  have S4 := (E4.2 _ lS3).trans S3
  have a1 := oa.one
  have a2 := oa.isSl
  have b1 := ob.one
  have b2 := ob.isSl
  obtain ⟨h5, hh5⟩ : ∃ h5, h5 = h4.push (.cells [a, b] 33) := ⟨_, rfl⟩
  have E5 : Ext h4.n h4 h5 := hh5 ▸ (Ext.refl _ _).push _ (Nat.le_refl _)
  have n5 : h5.n = h4.n + 1 := by rw [hh5, n_push]
  have C5 : h5.at h4.n = some (.cells [a, b] 33) := hh5 ▸ at_push_n _ _
  have E05 := E04.trans (E5.mono E04.1)
  have P5 := (E5.2 _ (at_lt P4)).trans P4
  have B5 := (E5.2 _ (at_lt B4)).trans B4
  have S5 := (E5.2 _ (at_lt S4)).trans S4
  have LP5 := ld_at (T := tabOf Tryz.prog NT0) P5
  have lP5 := at_lt P5
  have LB5 := ld_at (T := tabOf Tryz.prog NT0) B5
  have lB5 := at_lt B5
  have lS5 := at_lt S5
  unfold setC at LB5
  cases hm : r.ops.any (fun x => s.id == x) with
  | false =>
    have hkn : commitF r s = (root0, 125) := by unfold commitF; rw [if_pos hc, if_pos hok, if_pos hn, if_neg (by rw [hm]; decide)]
    have hcl : (closeF r s.id).2 = false := by unfold closeF; rw [if_neg fun hh => by rw [hm] at hh; cases hh.2]
    obtain ⟨h6, hh6, E6, L6, l6⟩ := bad h5 E05 S5
    simp only [core, zrA, zrS, zrM, zrL, zrE, reduceCtorEq, zrD, ziE, ziL, ziN, aundef, hcl, hkn, a1, a2, b1, b2, ← hh5, S5, lS5, ← hh6, L6, l6]
    exact ⟨E6, _, rfl, OwnQ.zero⟩
  | true =>
  have hcl : closeF r s.id = (⟨r.live, r.ops.filter fun x => !(x == s.id)⟩, true) := by unfold closeF; rw [if_pos ⟨hc, hm⟩]
  have hcl2 : (closeF r s.id).2 = true := by rw [hcl]
  rw [hcl] at oa ob
  simp only [core, zrA, zrS, zrM, zrL, zrE, reduceCtorEq, zrD, ziE, ziL, ziN, aundef, hcl2, a1, a2, b1, b2, ← hh5, LP5, lP5, LB5, lB5, o1, o2, o3, l1, l2, l3]
  refine (FindR_x (hl.ext E05 (Nat.le_refl _)) (ho.ext E05 (Nat.le_refl _)) hr).mono ?_
  rintro _ h6 ⟨E6, rfl⟩
  have m6 := E6.1
  have E06 := E05.trans (E6.mono E05.1)
  have P6 := (E6.2 _ lP5).trans P5
  have B6 := (E6.2 _ lB5).trans B5
  have S6 := (E6.2 _ lS5).trans S5
  have C6 := (E6.2 _ (at_lt C5)).trans C5
  obtain ⟨y, hy⟩ : ∃ y, y = (findF r s.name).getD set0 := ⟨_, rfl⟩
  rw [← hy]
  obtain ⟨h7, hh7⟩ : ∃ h7, h7 = h6.push (.cells (setC y) 35) := ⟨_, rfl⟩
  have E7 : Ext h6.n h6 h7 := hh7 ▸ (Ext.refl _ _).push _ (Nat.le_refl _)
  have n7 : h7.n = h6.n + 1 := by rw [hh7, n_push]
  have E07 := E06.trans (E7.mono E06.1)
  have P7 := (E7.2 _ (at_lt P6)).trans P6
  have B7 := (E7.2 _ (at_lt B6)).trans B6
  have S7 := (E7.2 _ (at_lt S6)).trans S6
  have C7 := (E7.2 _ (at_lt C6)).trans C6
  have LP7 := ld_at (T := tabOf Tryz.prog NT0) P7
  have lP7 := at_lt P7
  have lS7 := at_lt S7
  have lC7 := at_lt C7
  unfold setC at hh7 ⊢
  have hcs : ((findF r s.name).isSome = false ∧ (16 : Int) ≤ (m : Int)) ∨ ((findF r s.name).isSome = true ∧ (findF r s.name).isSome = true) ∨ ((findF r s.name).isSome = false ∧ decide ((16 : Int) ≤ (m : Int)) = false) := by
    cases (findF r s.name).isSome with
    | true => exact .inr (.inl ⟨rfl, rfl⟩)
    | false => by_cases h : (16 : Int) ≤ (m : Int); exact .inl ⟨rfl, h⟩; exact .inr (.inr ⟨rfl, decide_eq_false h⟩)
  rcases hcs with ⟨hf, h16⟩ | hgo
  · have hkn : commitF r s = (root0, 28) := by unfold commitF; rw [if_pos hc, if_pos hok, if_pos hn, if_pos hm, if_pos ⟨hf, by omega⟩]
    have h16' : decide ((16 : Int) ≤ (m : Int)) = true := decide_eq_true h16
    obtain ⟨h8, hh8, E8, L8, l8⟩ := bad h7 E07 S7
    simp only [core, zrA, zrS, zrM, zrL, zrE, reduceCtorEq, zrD, ziE, ziL, ziN, aundef, hf, h16', hkn, ← hh7, LP7, lP7, l1, l2, l3, o1, o2, o3, S7, lS7, ← hh8, L8, l8]
    exact ⟨E8, _, rfl, OwnQ.zero⟩
  have hkn : commitF r s = (⟨insS s r.live, r.ops.filter fun x => !(x == s.id)⟩, 0) := by
    unfold commitF
    rw [if_pos hc, if_pos hok, if_pos hn, if_pos hm, if_neg]
    rintro ⟨h1, h2⟩
    rcases hgo with ⟨h3, -⟩ | ⟨-, h3⟩
    · rw [h3] at h1; cases h1
    · have := of_decide_eq_false h3; omega
  obtain ⟨h8, hh8⟩ : ∃ h8, h8 = h7.put h4.n (.cells [.lit (.slice none 0 0), b] 33) := ⟨_, rfl⟩
  have n8 : h8.n = h7.n := by rw [hh8, n_put]
  have C8 : h8.at h4.n = some (.cells [.lit (.slice none 0 0), b] 33) := hh8 ▸ at_put_same _ lC7
  have K8 : ∀ c, c < h4.n → h8.at c = h4.at c := fun c hc => (hh8 ▸ at_put_ne _ (by omega) : h8.at c = h7.at c).trans ((E7.2 _ (by omega)).trans ((E6.2 _ (by omega)).trans (E5.2 _ hc)))
  have E48 : Ext h4.n h4 h8 := ⟨by omega, K8⟩
  have P8 := (K8 _ (at_lt P4)).trans P4
  have LP8 := ld_at (T := tabOf Tryz.prog NT0) P8
  have lP8 := at_lt P8
  have fin : ∀ h : AH, Ext h4.n h8 h → (Ext H.n H h ∧ h.at hp.n = some (.cells (setC s) 35) ∧ h.at hw.n = some (.cells [.lit (.slice none 0 0), .lit (.slice none 0 0)] 33) ∧ OwnX txC 1 H.n h b 9 (r.ops.filter fun x => !(x == s.id))) := fun h e =>
    have e1 : Ext h4.n h4 h := E48.trans e
    ⟨E04.trans (e1.mono E04.1), (e1.2 _ (at_lt B4)).trans B4, (e1.2 _ (at_lt S4)).trans S4, (ob.ext e1 (Nat.le_refl _)).mono (by omega)⟩
  have pushed : ∀ {h : AH} {u : AV} {xs : List SetD} {x : SetD} {cap : Cap}, Ext h4.n h8 h → h.at h4.n = some (.cells [u, b] 33) → OwnX setC 35 (h4.n + 1) h u 35 xs → xs.length ≤ 1000 →
      ∃ s' h', appendA (tabOf Tryz.prog NT0) (h.push (.cells (setC x) 35)) 31 31 u (.sl h.n 0 1 cap) = some (s', h') ∧
        ∃ h6, h6 = h'.put h4.n (.cells [s', b] 33) ∧ h'.at h4.n = some (.cells [u, b] 33) ∧ h4.n < h'.n ∧ s'.one = true ∧ isSl s' = true ∧ Ext h4.n h8 h6 ∧ h6.at h4.n = some (.cells [s', b] 33) ∧ OwnX setC 35 (h4.n + 1) h6 s' 35 (xs ++ [x]) ∧ ∀ c, c < h.n → c ≠ h4.n → Apart u c → h6.at c = h.at c := fun {h u xs x cap} E B ou hx => by
    have e5 : Ext h.n h (h.push (.cells (setC x) 35)) := (Ext.refl _ _).push _ (Nat.le_refl _)
    have lB := at_lt B
    obtain ⟨s', h', ha, o6, e6, k6⟩ := snocK (T := tabOf Tryz.prog NT0) (t := 31) (y := x) (cap := cap) flatSet (ou.ext e5 (Nat.le_refl _)) (by kernel_rfl) (by kernel_rfl) (zv := .agg (setC set0)) (by kernel_rfl) (by' := 72) (by kernel_rfl) rfl (by decide) (at_push_n h _) (by omega) (by omega) (by rw [n_push]; omega)
    have o6 := o6.toX
    have B6 := (e6.2 h4.n (by omega)).trans ((e5.2 _ lB).trans B)
    have lB6 := at_lt B6
    have e56 : Ext h4.n h8 h' := E.trans ((e5.mono (by omega)).trans (e6.mono (Nat.le_succ _)))
    exact ⟨s', h', ha, _, rfl, B6, lB6, o6.one, o6.isSl, e56.put _ (Nat.le_refl _), at_put_same _ lB6, o6.putLt (Nat.lt_succ_self _), fun c h1 h2 h3 => (at_put_ne _ (Ne.symm h2)).trans ((k6 c (by rw [n_push]; omega) h3).trans (e5.2 _ h1))⟩
  have lC7' := ld_at (T := tabOf Tryz.prog NT0) C7
  rcases hgo with ⟨hf, hlen16⟩ | ⟨hf, hlen16⟩
  all_goals
    simp only [core, zrA, zrS, zrM, zrL, zrE, reduceCtorEq, zrD, ziE, ziL, ziN, aundef, hf, hlen16, ← hh7, LP7, lP7, l1, l2, l3, o1, o2, o3, b1, b2, C7, lC7, lC7', ← hh8, LP8, lP8]
    refine WB_for m (fun i t h => Ext h4.n h8 h ∧ ∃ u st, st = (r.live.take i).foldl (stepS s) (false, []) ∧ h.at h4.n = some (.cells [u, b] 33) ∧ OwnX setC 35 (h4.n + 1) h u 35 st.2 ∧ t.n = 110 ∧ t.get 2 = .ptr H.n 0 ∧ t.get 3 = .ptr hp.n 0 ∧ t.get 4 = .ptr hw.n 0 ∧ t.get 7 = .ptr h4.n 0 ∧ t.get 11 = .lit (.bool st.1) ∧ t.get 68 = vl ∧ t.get 69 = .lit (.int .i64 m) ∧ t.get 70 = .lit (.int .i64 i)) ?_ ?_ _ _ ?_
    · rintro i t h hlt hc2 ⟨E, u, st, hst, B, ou, hn, g2, g3, g4, g7, g11, g68, g69, g70⟩ ih
      have hwi := wrap_succ (n := m) hlt (by omega)
      obtain ⟨x, hx⟩ : ∃ x, r.live[i]? = some x := ⟨_, List.getElem?_eq_getElem (by omega)⟩
      obtain ⟨cc, hc1, hld, hld0⟩ := hl.atE (T := tabOf Tryz.prog NT0) (fin h E).1 RSet_z hx
      obtain rfl := RSet_is.1 hc1
      have hst2 := foldl_take (f := stepS s) (b := (false, [])) hx
      rw [← hst] at hst2
      have hlen := stepS_len (s := s) (r.live.take i) (false, [])
      rw [← hst, List.length_take] at hlen
      obtain ⟨d, o⟩ := st
      have hol : o.length ≤ 900 := by
        have : o.length ≤ 0 + 2 * min i r.live.length := hlen
        omega
      obtain ⟨hA, hhA⟩ : ∃ hA, hA = h.push (.cells (setC x) 35) := ⟨_, rfl⟩
      have eA : Ext h.n h hA := hhA ▸ (Ext.refl _ _).push _ (Nat.le_refl _)
      have nA : hA.n = h.n + 1 := by rw [hhA, n_push]
      have XA : hA.at h.n = some (.cells (setC x) 35) := hhA ▸ at_push_n _ _
      have lB := at_lt B
      have EA := E.trans (eA.mono (by omega))
      have BA := (eA.2 _ lB).trans B
      have oA := ou.ext eA (Nat.le_refl _)
      have SA := (fin hA EA).2.1
      have apx : Apart u h.n := fun off n cap hv => by have := (ou.blk hv).1; omega
      have aps : Apart u hp.n := fun off n cap hv => by have := (ou.blk hv).2.1; omega
      have LBA := ld_at (T := tabOf Tryz.prog NT0) BA
      have lBA := at_lt BA
      have LXA := ld_at (T := tabOf Tryz.prog NT0) XA
      have lXA := at_lt XA
      have LSA := ld_at (T := tabOf Tryz.prog NT0) SA
      have lSA := at_lt SA
      have u1 := ou.one
      have u2 := ou.isSl
      have pS := fun cap => pushed (x := s) (cap := cap) EA BA oA (Nat.le_trans hol (by decide))
      have hx2 : ∀ (d : Bool) (o : List SetD), stepS s (d, o) x = (let e := bif !d && !ltS x.name s.name then (true, o ++ [s]) else (d, o); bif x.name == s.name then e else (e.1, e.2 ++ [x])) := fun _ _ => rfl
      rw [hx2] at hst2
      have pX : ∀ (h : AH) (u : AV) (o : List SetD) (cap : Cap), Ext h4.n h8 h → h.at h4.n = some (.cells [u, b] 33) → OwnX setC 35 (h4.n + 1) h u 35 o → o.length ≤ 1000 → _ := fun h u o cap E B ou hl => pushed (x := x) (cap := cap) E B ou hl
      unfold setC at hhA hld hld0 LXA LSA pS pX
      cases hd : (!d && !ltS x.name s.name) with
      | true =>
        obtain rfl : d = false := by cases d <;> simp_all
        have hli : ltS x.name s.name = false := by simpa using hd
        rw [hd] at hst2
        simp only [core, zrA, zrS, zrM, zrL, zrE, reduceCtorEq, zrD, ziE, ziL, ziN, hn, g2, g3, g4, g7, g11, g68, g69, g70, aundef, hlt, hc2, l1, l2, l3, hld, hld0, ← hhA, LXA, lXA, LSA, lSA, pur_sge, hli, LBA, lBA, b1, b2, u1, u2]
        refine WOp_app (pS _) ?_
        rintro s6 h6 ⟨h9, hh9, B6, lB6, u6, u7, E9, B9, o9, k9⟩
        have X9 := (k9 h.n (by omega) (by omega) apx).trans XA
        have S9 := (fin h9 E9).2.1
        have LX9 := ld_at (T := tabOf Tryz.prog NT0) X9
        have lX9 := at_lt X9
        have LS9 := ld_at (T := tabOf Tryz.prog NT0) S9
        have lS9 := at_lt S9
        have LB9 := ld_at (T := tabOf Tryz.prog NT0) B9
        have lB9 := at_lt B9
        unfold setC at LX9 LS9
        cases hq : (x.name == s.name) with
        | true =>
          rw [hq] at hst2
          simp only [core, zrA, zrS, zrM, zrL, zrE, reduceCtorEq, zrD, ziE, ziL, ziN, hn, g2, g3, g4, g7, g11, g68, g69, g70, aundef, u6, u7, b1, b2, B6, lB6, ← hh9, LX9, lX9, LS9, lS9, pur_sne, hq, hwi]
          refine ih _ _ ⟨E9, s6, (true, o ++ [s]), hst2.symm, B9, o9, ?_⟩
          simp only [core, zrA, zrS, zrM, zrL, zrE, reduceCtorEq, zrD, ziE, ziL, ziN, hn, g2, g3, g4, g7, g11, g68, g69, g70]
        | false =>
          rw [hq] at hst2
          simp only [core, zrA, zrS, zrM, zrL, zrE, reduceCtorEq, zrD, ziE, ziL, ziN, hn, g2, g3, g4, g7, g11, g68, g69, g70, aundef, u6, u7, b1, b2, B6, lB6, ← hh9, LX9, lX9, LS9, lS9, pur_sne, hq, hwi, LB9, lB9]
          refine WOp_app (pX _ _ _ _ E9 B9 o9 (show (o ++ [s]).length ≤ 1000 by rw [List.length_append, List.length_singleton]; omega)) ?_
          rintro s10 h10 ⟨h11, hh11, B10, lB10, u8, u9, E11, B11, o11, -⟩
          simp only [core, zrA, zrS, zrM, zrL, zrE, reduceCtorEq, zrD, ziE, ziL, ziN, hn, g2, g3, g4, g7, g11, g68, g69, g70, aundef, u8, u9, b1, b2, B10, lB10, ← hh11, hwi]
          refine ih _ _ ⟨E11, s10, (true, (o ++ [s]) ++ [x]), hst2.symm, B11, o11, ?_⟩
          simp only [core, zrA, zrS, zrM, zrL, zrE, reduceCtorEq, zrD, ziE, ziL, ziN, hn, g2, g3, g4, g7, g11, g68, g69, g70]
      | false =>
        rw [hd] at hst2
        have hcs : (d = true ∧ (!d) = false) ∨ (d = false ∧ ltS x.name s.name = true) := by cases d <;> simp_all
        rcases hcs with ⟨rfl, hli⟩ | ⟨rfl, hli⟩
        all_goals
          cases hq : (x.name == s.name) with
          | true =>
            rw [hq] at hst2
            simp only [core, zrA, zrS, zrM, zrL, zrE, reduceCtorEq, zrD, ziE, ziL, ziN, hn, g2, g3, g4, g7, g11, g68, g69, g70, aundef, hlt, hc2, l1, l2, l3, hld, hld0, ← hhA, LXA, lXA, LSA, lSA, pur_sge, pur_sne, hq, hli, LBA, lBA, b1, b2, u1, u2, hwi]
            refine ih _ _ ⟨EA, u, _, hst2.symm, BA, oA, ?_⟩
            simp only [core, zrA, zrS, zrM, zrL, zrE, reduceCtorEq, zrD, ziE, ziL, ziN, hn, g2, g3, g4, g7, g11, g68, g69, g70, cond_false, cond_true]
          | false =>
            rw [hq] at hst2
            simp only [core, zrA, zrS, zrM, zrL, zrE, reduceCtorEq, zrD, ziE, ziL, ziN, hn, g2, g3, g4, g7, g11, g68, g69, g70, aundef, hlt, hc2, l1, l2, l3, hld, hld0, ← hhA, LXA, lXA, LSA, lSA, pur_sge, pur_sne, hq, hli, LBA, lBA, b1, b2, u1, u2]
            refine WOp_app (pX _ _ _ _ EA BA oA (Nat.le_trans hol (by decide))) ?_
            rintro s10 h10 ⟨h11, hh11, B10, lB10, u8, u9, E11, B11, o11, -⟩
            simp only [core, zrA, zrS, zrM, zrL, zrE, reduceCtorEq, zrD, ziE, ziL, ziN, hn, g2, g3, g4, g7, g11, g68, g69, g70, aundef, u8, u9, b1, b2, B10, lB10, ← hh11, hwi]
            refine ih _ _ ⟨E11, s10, _, hst2.symm, B11, o11, ?_⟩
            simp only [core, zrA, zrS, zrM, zrL, zrE, reduceCtorEq, zrD, ziE, ziL, ziN, hn, g2, g3, g4, g7, g11, g68, g69, g70, cond_false, cond_true]
    · rintro t h hc2 ⟨E, u, st, hst, B, ou, hn, g2, g3, g4, g7, g11, g68, g69, g70⟩
      rw [hM, List.take_length] at hst
      have hlen := stepS_len (s := s) r.live (false, [])
      rw [← hst] at hlen
      have hend := stepS_eq (s := s) r.live []
      rw [← hst, List.nil_append] at hend
      obtain ⟨d, o⟩ := st
      have hol : o.length ≤ 900 := by
        have : o.length ≤ 0 + 2 * r.live.length := hlen
        omega
      have LB := ld_at (T := tabOf Tryz.prog NT0) B
      have lB := at_lt B
      have u1 := ou.one
      have u2 := ou.isSl
      have SA := (fin h E).2.1
      have LSA := ld_at (T := tabOf Tryz.prog NT0) SA
      have lSA := at_lt SA
      have pS := fun cap => pushed (x := s) (cap := cap) E B ou (Nat.le_trans hol (by decide))
      unfold setC at LSA pS
      have done : ∀ (h : AH) (u : AV), Ext h4.n h8 h → h.at h4.n = some (.cells [u, b] 33) → OwnX setC 35 (h4.n + 1) h u 35 (insS s r.live) → ∃ h6, h6 = h.put hw.n (.cells [u, b] 33) ∧ h.at hw.n = some (.cells [.lit (.slice none 0 0), .lit (.slice none 0 0)] 33) ∧ hw.n < h.n ∧ hw.n < h6.n ∧ (∀ e i, loadA (tabOf Tryz.prog NT0) h6 e hw.n i = ldL (tabOf Tryz.prog NT0) e [u, b] i) ∧ Ext H.n H h6 ∧ OwnQ 35 H.n h6 (.agg [u, b]) ⟨insS s r.live, r.ops.filter fun x => !(x == s.id)⟩ := fun h u E B ou => by
        obtain ⟨EH, -, Sh, oh⟩ := fin h E
        have lSh := at_lt Sh
        exact ⟨_, rfl, Sh, lSh, by rw [n_put]; exact lSh, ld_at (at_put_same _ lSh), EH.put _ (by omega), u, b, rfl, (ou.putLt (by omega)).mono (by omega), ((ob.ext (E48.trans E) (Nat.le_refl _)).putLt (by omega)).mono (by omega)⟩
      cases d with
      | true =>
        have hio : o = insS s r.live := hend
        subst hio
        obtain ⟨h10, hh10, Sh, lSh, l10, L10, E10, Q10⟩ := done h u E B ou
        simp only [core, zrA, zrS, zrM, zrL, zrE, reduceCtorEq, zrD, ziE, ziL, ziN, hn, g2, g3, g4, g7, g11, g68, g69, g70, aundef, hc2, hkn, LB, lB, b1, b2, u1, u2, Sh, lSh, ← hh10, L10, l10]
        exact ⟨E10, _, rfl, Q10⟩
      | false =>
        have hio : o ++ [s] = insS s r.live := hend
        simp only [core, zrA, zrS, zrM, zrL, zrE, reduceCtorEq, zrD, ziE, ziL, ziN, hn, g2, g3, g4, g7, g11, g68, g69, g70, aundef, hc2, LB, lB, LSA, lSA, b1, b2, u1, u2]
        refine WOp_app (pS _) ?_
        rintro s6 h6 ⟨h9, hh9, B6, lB6, u6, u7, E9, B9, o9, -⟩
        have LB9 := ld_at (T := tabOf Tryz.prog NT0) B9
        have lB9 := at_lt B9
        obtain ⟨h10, hh10, Sh, lSh, l10, L10, E10, Q10⟩ := done h9 s6 E9 B9 (hio ▸ o9)
        simp only [core, zrA, zrS, zrM, zrL, zrE, reduceCtorEq, zrD, ziE, ziL, ziN, hn, g2, g3, g4, g7, g11, g68, g69, g70, aundef, hkn, u6, u7, b1, b2, B6, lB6, ← hh9, LB9, lB9, Sh, lSh, ← hh10, L10, l10]
        exact ⟨E10, _, rfl, Q10⟩
    · refine ⟨Ext.refl _ _, _, (false, []), rfl, C8, .inl ⟨rfl, rfl⟩, ?_⟩
      simp only [core, zrA, zrS, zrM, zrL, zrE, reduceCtorEq, zrD, ziE, ziL, ziN]
      try ((repeat' apply And.intro) <;> first | rfl | trivial)
end Go.Proofs.YtdcmfchodooolaaGreatDoor.Ex
end
