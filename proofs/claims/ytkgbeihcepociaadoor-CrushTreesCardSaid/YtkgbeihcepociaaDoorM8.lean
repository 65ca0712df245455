/- Part 8 of the proof: Str, Bkt, Bk2, Gd1, Rt1, Rt2, Rev, Dn, Se1, Par, May. -/
import Derived.Test.YtkgbeihcepociaaDoorM7
section

set_option linter.unusedSimpArgs false
set_option linter.unusedVariables false
set_option maxRecDepth 10000
set_option maxHeartbeats 4000000
namespace Go.Proofs.YtkgbeihcepociaaDoor.Ex
open Go
def drawF (h w : Int) : Int := if w < 1 then -9223372036854775808 else IntKind.i64.wrap ((IntKind.i64.wrap (lnF (IntKind.i64.wrap (andI .u32 h 65535)) - 281474976710656)).tdiv w)
def strawF (x r id w : Int) : Int := drawF (hash3F x (IntKind.u32.wrap id) (IntKind.u32.wrap r)) w
/-- One straw more. -/
def chStep (x r : Int) (s : Int × Int) (i : Nat) (id w : Int) : Int × Int := if w < 1 then s else if s.2 < 0 ∨ s.1 < strawF x r id w then (strawF x r id w, (i : Int)) else s
def chN (ids ws : List Int) (x r : Int) : Nat → Int × Int
  | 0 => (0, -1)
  | n + 1 => chStep x r (chN ids ws x r n) n (ids.getD n 0) (ws.getD n 0)
def chooseF (ids ws : List Int) (x r : Int) : Option Nat := if ids.length = ws.length then (if 0 ≤ (chN ids ws x r ids.length).2 then some (chN ids ws x r ids.length).2.toNat else none) else none
theorem chN_le (ids ws : List Int) (x r : Int) : ∀ n, -1 ≤ (chN ids ws x r n).2 ∧ (chN ids ws x r n).2 < n
  | 0 => by unfold chN; simp
  | n + 1 => by
    have := chN_le ids ws x r n
    unfold chN chStep
    split
    · omega
    · split
      · simp only; omega
      · omega
theorem chooseF_lt {ids ws : List Int} {x r : Int} {k : Nat} (h : chooseF ids ws x r = some k) : k < ids.length ∧ ids.length = ws.length := by
  unfold chooseF at h
  have := chN_le ids ws x r ids.length
  split at h
  case isFalse => cases h
  rename_i he
  split at h
  case isFalse => cases h
  cases h
  exact ⟨by omega, he⟩
def pairV (n : Int) (b : Bool) : AV := .tup [.lit (.int .i64 n), .lit (.bool b)]
def chooseV : Option Nat → AV
  | some k => pairV k true
  | none => pairV 0 false
theorem draw_x {H : AH} (h w : Int) : WC Tryd.prog (tabOf Tryd.prog NT0) S0 74 [.lit (.int .u32 h), .lit (.int .i64 w)] H fun r h' => h' = H ∧ r = .lit (.int .i64 (drawF h w)) := by
  refine WC_fn Tryd.func74 rfl rfl ?_
  simp only [core, Nat.reduceAdd, Nat.reduceSub, Nat.reduceMul, Nat.reduceLT, Nat.reduceEqDiff, reduceCtorEq, Nat.reduceLeDiff, Int.reduceLE, Int.reduceLT, Int.reduceToNat, Tryd.ntmps74]
  refine ⟨fun hq => ?_, fun hq => ?_⟩
  · unfold drawF
    rw [if_pos (by simpa using hq)]
  · have hq : ¬ w < 1 := by simpa using hq
    refine ln_c ?_
    have hw : ¬ w = 0 := by omega
    simp only [core, Nat.reduceAdd, Nat.reduceSub, Nat.reduceMul, Nat.reduceLT, Nat.reduceEqDiff, reduceCtorEq, Nat.reduceLeDiff, Int.reduceLE, Int.reduceLT, Int.reduceToNat, hw]
    unfold drawF
    rw [if_neg hq]
def aggOk : Option AV → Bool
  | some (.agg cs) => cs.all AV.one
  | _ => false
theorem eng_zero : ∃ cs, zeroT (tabOf Tryd.prog NT0) 129 = some (.agg cs) ∧ cs.all AV.one = true := by
  have h : aggOk (zeroT (tabOf Tryd.prog NT0) 129) = true := by kernel_rfl
  revert h
  generalize zeroT (tabOf Tryd.prog NT0) 129 = o
  intro h
  unfold aggOk at h
  split at h
  · exact ⟨_, rfl, h⟩
  · cases h
theorem new_x {H : AH} : WC Tryd.prog (tabOf Tryd.prog NT0) S0 72 [] H fun r h' => ∃ p, r = .ptr p 0 ∧ Ext H.n H h' := by
  refine WC_fn Tryd.func72 rfl rfl ?_
  obtain ⟨cs, hz, h1⟩ := eng_zero
  simp only [core, Nat.reduceAdd, Nat.reduceSub, Nat.reduceMul, Nat.reduceLT, Nat.reduceEqDiff, reduceCtorEq, Nat.reduceLeDiff, Int.reduceLE, Int.reduceLT, Int.reduceToNat, Tryd.ntmps72, hz, h1, bdM, fillA, evalParts]
  exact ⟨_, rfl, (Ext.refl _ _).push _ (Nat.le_refl _)⟩
/-- A value in a block of its own. -/
def Bk (h : AH) (p : Nat) (v : AV) (e : TypeId) : Prop := h.at p = some (.cells [v] e)
theorem Bk.ld {h : AH} {p : Nat} {v : AV} {e0 : TypeId} (hb : Bk h p v e0) (e off : Nat) : loadA (tabOf Tryd.prog NT0) h e p off = ldL (tabOf Tryd.prog NT0) e [v] off := ld_at hb e off
theorem Bk.new {h : AH} {v : AV} {e p : Nat} (hp : p = h.n) : Bk (h.push (.cells [v] e)) p v e := by subst hp; exact at_push_n h _
theorem Bk.old {h : AH} {v : AV} {e p : Nat} {x : AB} (hb : Bk h p v e) : Bk (h.push x) p v e := (at_push_lt _ (at_lt hb)).trans hb
theorem Bk.ext {h h' : AH} {v : AV} {e p : Nat} (hb : Bk h p v e) (he : Ext h.n h h') : Bk h' p v e := (he.2 p (at_lt hb)).trans hb
theorem Bk.lt {h : AH} {v : AV} {e p : Nat} (hb : Bk h p v e) : p < h.n := at_lt hb
theorem straw1_x {F : Nat → Prop} {H : AH} {vi vw ve : AV} {pe px pi pr pw be oe : Nat} {ids ws : List Int} {x r : Int} (hve : ve = .ptr be oe) (he : Bk H pe ve 97) (hx : Bk H px (.lit (.int .u32 x)) 27) (hpi : Bk H pi vi 31) (hr : Bk H pr (.lit (.int .i64 r)) 3) (hpw : Bk H pw vw 31)
    (hi : IsSl RInt F H vi ids) (hw : IsSl RInt F H vw ws) {i : Nat} (hlt : i < ids.length) (hlt2 : i < ws.length) :
    WC Tryd.prog (tabOf Tryd.prog NT0) S0 73 [.lit (.int .i64 i), .ptr pe 0, .ptr px 0, .ptr pi 0, .ptr pr 0, .ptr pw 0] H fun v h' => h' = H ∧ v = .lit (.int .i64 (strawF x r (ids.getD i 0) (ws.getD i 0))) := by
  refine WC_fn Tryd.func73 rfl rfl ?_
  subst hve
  have s1 := hi.isSl
  have s2 := hi.lenD
  have s3 := hw.isSl
  have s4 := hw.lenD
  have hld := hi.int (T := tabOf Tryd.prog NT0) (e := 3) (by kernel_rfl) (by kernel_rfl) hlt
  have hld2 := hw.int (T := tabOf Tryd.prog NT0) (e := 3) (by kernel_rfl) (by kernel_rfl) hlt2
  have L1 := he.ld
  have L2 := hx.ld
  have L3 := hpi.ld
  have L4 := hr.ld
  have L5 := hpw.ld
  simp only [core, Nat.reduceAdd, Nat.reduceSub, Nat.reduceMul, Nat.reduceLT, Nat.reduceEqDiff, reduceCtorEq, Nat.reduceLeDiff, Int.reduceLE, Int.reduceLT, Int.reduceToNat, Tryd.ntmps73]
  rw [WB_regionD [0, 1, 2, 3, 4, 5, 6, 7, 8, 10, 11, 12, 13, 9, 14, 15] 57894719459348330706363797571987788653768963364199945496970372284946646564864 (by kernel_rfl)]
  repeat ((with_reducible refine WDM_cons ?_; simp only [dw1]; try simp only [dw2, Nat.reduceAdd, Nat.reduceMul, Nat.reduceShiftRight, Nat.reduceMod, Nat.reduceEqDiff]); simp only [core, Nat.reduceAdd, Nat.reduceSub, Nat.reduceMul, Nat.reduceLT, Nat.reduceEqDiff, reduceCtorEq, Nat.reduceLeDiff, Int.reduceLE, Int.reduceLT, Int.reduceToNat, cored, s1, s2, s3, s4, hlt, hlt2, hld, hld2, L1, L2, L3, L4, L5])
  refine hash3_c ?_
  repeat ((with_reducible refine WDM_cons ?_; simp only [dw1]; try simp only [dw2, Nat.reduceAdd, Nat.reduceMul, Nat.reduceShiftRight, Nat.reduceMod, Nat.reduceEqDiff]); simp only [core, Nat.reduceAdd, Nat.reduceSub, Nat.reduceMul, Nat.reduceLT, Nat.reduceEqDiff, reduceCtorEq, Nat.reduceLeDiff, Int.reduceLE, Int.reduceLT, Int.reduceToNat, cored, s1, s2, s3, s4, hlt, hlt2, hld, hld2, L1, L2, L3, L4, L5])
  refine (draw_x _ _).mono ?_
  rintro _ h2 ⟨rfl, rfl⟩
  repeat ((with_reducible refine WDM_cons ?_; simp only [dw1]; try simp only [dw2, Nat.reduceAdd, Nat.reduceMul, Nat.reduceShiftRight, Nat.reduceMod, Nat.reduceEqDiff]); simp only [core, Nat.reduceAdd, Nat.reduceSub, Nat.reduceMul, Nat.reduceLT, Nat.reduceEqDiff, reduceCtorEq, Nat.reduceLeDiff, Int.reduceLE, Int.reduceLT, Int.reduceToNat, cored, s1, s2, s3, s4, hlt, hlt2, hld, hld2, L1, L2, L3, L4, L5])
  rfl
theorem choose_x {F : Nat → Prop} {H : AH} {vi vw : AV} {ids ws : List Int} (x r : Int) (hi : IsSl RInt F H vi ids) (hw : IsSl RInt F H vw ws) (hl : ids.length * 8 ≤ 140737488355328) :
    WC Tryd.prog (tabOf Tryd.prog NT0) S0 53 [vi, vw, .lit (.int .u32 x), .lit (.int .i64 r)] H fun v h' => Ext H.n H h' ∧ v = chooseV (chooseF ids ws x r) := by
  refine WC_fn Tryd.func53 rfl rfl ?_
  have s1 := hi.isSl
  have s2 := hi.lenD
  have s3 := hw.isSl
  have s4 := hw.lenD
  have o1 := hi.one
  have o2 := hw.one
  simp only [core, Nat.reduceAdd, Nat.reduceSub, Nat.reduceMul, Nat.reduceLT, Nat.reduceEqDiff, reduceCtorEq, Nat.reduceLeDiff, Int.reduceLE, Int.reduceLT, Int.reduceToNat, Tryd.ntmps53, s1, s2, s3, s4, o1, o2]
  refine ⟨fun hq => ?_, fun hq => ?_⟩
  · have hq : ¬ ids.length = ws.length := by simp at hq; omega
    unfold chooseF
    rw [if_neg hq]
    exact ⟨by repeat (first | exact Ext.refl _ _ | refine Ext.push _ ?_ (by (try simp only [n_push]); omega)), rfl⟩
  · have hq : ids.length = ws.length := by simp at hq; omega
    refine new_x.mono ?_
    rintro _ h1 ⟨p, rfl, e1⟩
    have B1 : Bk h1 H.n vi 31 := Bk.ext (by repeat (first | exact Bk.new rfl | refine Bk.old ?_)) e1
    have B2 : Bk h1 (H.n + 1) vw 31 := Bk.ext (by repeat (first | exact Bk.new rfl | refine Bk.old ?_)) e1
    have B3 : Bk h1 (H.n + 1 + 1) (.lit (.int .u32 x)) 27 := Bk.ext (by repeat (first | exact Bk.new rfl | refine Bk.old ?_)) e1
    have B4 : Bk h1 (H.n + 1 + 1 + 1) (.lit (.int .i64 r)) 3 := Bk.ext (by repeat (first | exact Bk.new rfl | refine Bk.old ?_)) e1
    have E1 : Ext H.n H h1 := Ext.trans (by repeat (first | exact Ext.refl _ _ | refine Ext.push _ ?_ (by (try simp only [n_push]); omega))) (e1.mono (by simp only [n_push]; omega))
    clear e1
    have L2 := B2.ld
    have l2 := B2.lt
    simp only [core, Nat.reduceAdd, Nat.reduceSub, Nat.reduceMul, Nat.reduceLT, Nat.reduceEqDiff, reduceCtorEq, Nat.reduceLeDiff, Int.reduceLE, Int.reduceLT, Int.reduceToNat, s3, s4, L2, l2]
    obtain ⟨h2, hh2⟩ : ∃ h2, h2 = h1.push (.cells [.ptr p 0] 97) := ⟨_, rfl⟩
    have C1 : Bk h2 H.n vi 31 := hh2 ▸ B1.old
    have C2 : Bk h2 (H.n + 1) vw 31 := hh2 ▸ B2.old
    have C3 : Bk h2 (H.n + 1 + 1) (.lit (.int .u32 x)) 27 := hh2 ▸ B3.old
    have C4 : Bk h2 (H.n + 1 + 1 + 1) (.lit (.int .i64 r)) 3 := hh2 ▸ B4.old
    have C5 : Bk h2 h1.n (.ptr p 0) 97 := hh2 ▸ Bk.new rfl
    have E2 : Ext H.n H h2 := hh2 ▸ E1.push _ E1.1
    have hi2 := hi.ext E2 (Nat.le_refl _)
    have hw2 := hw.ext E2 (Nat.le_refl _)
    rw [← hh2]
    clear hh2 B1 B2 B3 B4 L2
    refine WB_for ws.length (fun i t h => h = h2 ∧ t.n = 50 ∧ t.get 11 = .fn (.func 73) [] [.ptr h1.n 0, .ptr (H.n + 1 + 1) 0, .ptr H.n 0, .ptr (H.n + 1 + 1 + 1) 0, .ptr (H.n + 1) 0] ∧ t.get 12 = .lit (.int .i64 (chN ids ws x r i).1) ∧ t.get 13 = .lit (.int .i64 (chN ids ws x r i).2) ∧ t.get 24 = vw ∧ t.get 25 = .lit (.int .i64 ws.length) ∧ t.get 26 = .lit (.int .i64 i)) ?_ ?_ _ _ ?_
    · rintro i t h hlt2 hc ⟨rfl, hn, g11, g12, g13, g24, g25, g26⟩ ih
      have hlt : i < ids.length := by omega
      have hld2 := hw2.int (T := tabOf Tryd.prog NT0) (e := 3) (by kernel_rfl) (by kernel_rfl) hlt2
      have hws := wrap_succ hlt2 (by omega)
      simp only [core, Nat.reduceAdd, Nat.reduceSub, Nat.reduceMul, Nat.reduceLT, Nat.reduceEqDiff, reduceCtorEq, Nat.reduceLeDiff, Int.reduceLE, Int.reduceLT, Int.reduceToNat, s1, s2, s3, s4, hn, g11, g12, g13, g24, g25, g26, hlt, hlt2, hc, hld2, hws]
      refine ⟨fun hq1 => ?_, fun hq1 => ?_⟩
      · refine ih _ _ ⟨rfl, ?_⟩
        have e : chN ids ws x r (i + 1) = chN ids ws x r i := by rw [chN, chStep, if_pos (by simpa using hq1)]
        simp only [core, Nat.reduceAdd, Nat.reduceSub, Nat.reduceMul, Nat.reduceLT, Nat.reduceEqDiff, reduceCtorEq, Nat.reduceLeDiff, Int.reduceLE, Int.reduceLT, Int.reduceToNat, hn, g11, g12, g13, g24, g25, g26, e]
      · have hq1 : ¬ ws.getD i 0 < 1 := by simpa using hq1
        refine (straw1_x rfl C5 C3 C1 C4 C2 hi2 hw2 hlt hlt2).mono ?_
        rintro _ h' ⟨rfl, rfl⟩
        have key : chN ids ws x r (i + 1) = if (chN ids ws x r i).2 < 0 ∨ (chN ids ws x r i).1 < strawF x r (ids.getD i 0) (ws.getD i 0) then (strawF x r (ids.getD i 0) (ws.getD i 0), (i : Int)) else chN ids ws x r i := by rw [chN, chStep, if_neg hq1]
        by_cases hp : (chN ids ws x r i).2 < 0
        · simp only [core, Nat.reduceAdd, Nat.reduceSub, Nat.reduceMul, Nat.reduceLT, Nat.reduceEqDiff, reduceCtorEq, Nat.reduceLeDiff, Int.reduceLE, Int.reduceLT, Int.reduceToNat, hn, g11, g12, g13, g24, g25, g26, hp, hws]
          refine ih _ _ ⟨rfl, ?_⟩
          rw [if_pos (.inl hp)] at key
          simp only [core, Nat.reduceAdd, Nat.reduceSub, Nat.reduceMul, Nat.reduceLT, Nat.reduceEqDiff, reduceCtorEq, Nat.reduceLeDiff, Int.reduceLE, Int.reduceLT, Int.reduceToNat, hn, g11, g12, g13, g24, g25, g26, key]
        · simp only [core, Nat.reduceAdd, Nat.reduceSub, Nat.reduceMul, Nat.reduceLT, Nat.reduceEqDiff, reduceCtorEq, Nat.reduceLeDiff, Int.reduceLE, Int.reduceLT, Int.reduceToNat, hn, g11, g12, g13, g24, g25, g26, hp, hws]
          refine ⟨fun hq2 => ?_, fun hq2 => ?_⟩
          · refine ih _ _ ⟨rfl, ?_⟩
            rw [if_pos (.inr (by simpa using hq2))] at key
            simp only [core, Nat.reduceAdd, Nat.reduceSub, Nat.reduceMul, Nat.reduceLT, Nat.reduceEqDiff, reduceCtorEq, Nat.reduceLeDiff, Int.reduceLE, Int.reduceLT, Int.reduceToNat, hn, g11, g12, g13, g24, g25, g26, key]
          · refine ih _ _ ⟨rfl, ?_⟩
            rw [if_neg (by rintro (h1 | h1); exact hp h1; exact absurd (decide_eq_true h1) (by rw [hq2]; decide))] at key
            simp only [core, Nat.reduceAdd, Nat.reduceSub, Nat.reduceMul, Nat.reduceLT, Nat.reduceEqDiff, reduceCtorEq, Nat.reduceLeDiff, Int.reduceLE, Int.reduceLT, Int.reduceToNat, hn, g11, g12, g13, g24, g25, g26, key]
    · rintro t h hc ⟨rfl, hn, g11, g12, g13, g24, g25, g26⟩
      have hb := chN_le ids ws x r ids.length
      rw [← hq] at g13
      simp only [core, Nat.reduceAdd, Nat.reduceSub, Nat.reduceMul, Nat.reduceLT, Nat.reduceEqDiff, reduceCtorEq, Nat.reduceLeDiff, Int.reduceLE, Int.reduceLT, Int.reduceToNat, s1, s2, s3, s4, hn, g11, g12, g13, g24, g25, g26, hc]
      refine ⟨E2, ?_⟩
      unfold chooseF
      rw [if_pos hq]
      by_cases h0 : 0 ≤ (chN ids ws x r ids.length).2
      · rw [if_neg (by omega), if_pos h0, decide_eq_true h0]
        show AV.tup _ = AV.tup _
        rw [Int.toNat_of_nonneg h0]
      · rw [if_pos (by omega), if_neg h0, decide_eq_false h0]
        rfl
    · simp only [core, Nat.reduceAdd, Nat.reduceSub, Nat.reduceMul, Nat.reduceLT, Nat.reduceEqDiff, reduceCtorEq, Nat.reduceLeDiff, Int.reduceLE, Int.reduceLT, Int.reduceToNat]
      (repeat' apply And.intro) <;> first | rfl | trivial
end Go.Proofs.YtkgbeihcepociaaDoor.Ex
end

section

set_option linter.unusedSimpArgs false
set_option linter.unusedVariables false
set_option maxRecDepth 10000
set_option maxHeartbeats 4000000
namespace Go.Proofs.YtkgbeihcepociaaDoor.Ex
open Go
/-- A map's value. -/
def mpV (m : MapD) (vo vp vb : AV) : AV := .agg [.lit (.int .i64 m.epoch), vo, vp, vb, .lit (.int .i64 m.leaf)]
/-- What a map's value reads. -/
structure MpAt (F : Nat → Prop) (h : AH) (m : MapD) (vo vp vb : AV) : Prop where
  o : IsSl ROsd F h vo m.osds
  p : IsSl RPool F h vp m.pools
  b : IsSl RBkt F h vb m.buckets
theorem MpAt.ext {F : Nat → Prop} {h h' : AH} {m : MapD} {vo vp vb : AV} {n0 : Nat} (hm : MpAt F h m vo vp vb) (he : Ext n0 h h') (hn : h.n ≤ n0) : MpAt F h' m vo vp vb := ⟨hm.o.ext he hn, hm.p.ext he hn, hm.b.ext he hn⟩
def bktV (b : BktD) (va vw : AV) : AV := .agg [.lit (.int .i64 b.id), .lit (.int .i64 b.kind), va, vw]
def bkt0 : BktD := ⟨0, 0, [], []⟩
def bucketF (m : MapD) (id : Int) : Option BktD := m.buckets.find? (fun b => b.id == id)
def bucketG (m : MapD) (id : Int) : BktD := (bucketF m id).getD bkt0
theorem find_drop {α : Type} {p : α → Bool} {l : List α} {i : Nat} {x : α} (hx : l[i]? = some x) : (l.drop i).find? p = if p x then some x else (l.drop (i + 1)).find? p := by
  have hlt := (List.getElem?_eq_some_iff.1 hx).1
  rw [List.drop_eq_getElem_cons hlt, List.find?_cons]
  have : l[i] = x := by rw [List.getElem?_eq_getElem hlt] at hx; exact Option.some.inj hx
  rw [this]
  cases p x <;> rfl
theorem bucketR_x {F : Nat → Prop} {H : AH} {m : MapD} {vo vp vb : AV} (id : Int) (hm : MpAt F H m vo vp vb) (hl : Sm 64 m.buckets) :
    WC Tryd.prog (tabOf Tryd.prog NT0) S0 43 [mpV m vo vp vb, .lit (.int .i64 id)] H fun r h' => Ext H.n H h' ∧ ∃ va vw, r = .tup [bktV (bucketG m id) va vw, .lit (.bool (bucketF m id).isSome)] ∧ IsSl RInt F h' va (bucketG m id).items ∧ IsSl RInt F h' vw (bucketG m id).weights := by
  refine WC_fn Tryd.func43 rfl rfl ?_
  unfold Sm at hl
  have s1 := hm.b.isSl
  have s2 := hm.b.lenD
  have o1 := hm.o.one
  have o2 := hm.p.one
  have o3 := hm.b.one
  simp only [core, Nat.reduceAdd, Nat.reduceSub, Nat.reduceMul, Nat.reduceLT, Nat.reduceEqDiff, reduceCtorEq, Nat.reduceLeDiff, Int.reduceLE, Int.reduceLT, Int.reduceToNat, Tryd.ntmps43, mpV, s1, s2, o1, o2, o3]
  obtain ⟨h2, hh2⟩ : ∃ h2, h2 = (H.push (.cells [.lit (.int .i64 m.epoch), vo, vp, vb, .lit (.int .i64 m.leaf)] 26)).push (.cells [.lit (.int .i64 0), .lit (.int .i64 0), .lit (.slice none 0 0), .lit (.slice none 0 0)] 47) := ⟨_, rfl⟩
  have E0 : Ext H.n H h2 := hh2 ▸ ((Ext.refl _ _).push _ (Nat.le_refl _)).push _ (by rw [n_push]; omega)
  have A0 : h2.at (H.n + 1) = some (.cells [.lit (.int .i64 0), .lit (.int .i64 0), .lit (.slice none 0 0), .lit (.slice none 0 0)] 47) := hh2 ▸ at_push_n _ _
  have n2 : h2.n = H.n + 2 := by rw [hh2, n_push, n_push]
  rw [← hh2]
  clear hh2
  refine WB_for m.buckets.length (fun i t h => Ext h2.n h2 h ∧ bucketF m id = (m.buckets.drop i).find? (fun b => b.id == id) ∧ t.n = 22 ∧ t.get 1 = .lit (.int .i64 id) ∧ t.get 4 = .ptr (H.n + 1) 0 ∧ t.get 9 = vb ∧ t.get 10 = .lit (.int .i64 m.buckets.length) ∧ t.get 11 = .lit (.int .i64 i)) ?_ ?_ _ _ ?_
  · rintro i t h hlt hc ⟨he, hf, hn, g1, g4, g9, g10, g11⟩ ih
    obtain ⟨x, hx⟩ : ∃ x, m.buckets[i]? = some x := ⟨_, List.getElem?_eq_getElem hlt⟩
    have E1 : Ext H.n H h := E0.trans (he.mono (by omega))
    obtain ⟨c, hc1, hld, hld0⟩ := hm.b.atE (T := tabOf Tryd.prog NT0) E1 RBkt_z hx
    obtain ⟨va, vw, rfl, ha, hw, i1, i2⟩ := RBkt_is.1 hc1
    have a1 := ha.one
    have w1 := hw.one
    have hws := wrap_succ hlt (by omega)
    rw [find_drop hx] at hf
    have A1 : h.at (H.n + 1) = some (.cells [.lit (.int .i64 0), .lit (.int .i64 0), .lit (.slice none 0 0), .lit (.slice none 0 0)] 47) := (he.2 _ (by omega)).trans A0
    have l1 : H.n + 1 < h.n := at_lt A1
    simp only [core, Nat.reduceAdd, Nat.reduceSub, Nat.reduceMul, Nat.reduceLT, Nat.reduceEqDiff, reduceCtorEq, Nat.reduceLeDiff, Int.reduceLE, Int.reduceLT, Int.reduceToNat, s1, s2, hn, g1, g4, g9, g10, g11, hlt, hc, hld, hld0, hws, a1, w1]
    refine ⟨fun hq => ?_, fun hq => ?_⟩
    · rw [if_pos hq] at hf
      have hG : bucketG m id = x := by unfold bucketG; rw [hf]; rfl
      simp only [core, Nat.reduceAdd, Nat.reduceSub, Nat.reduceMul, Nat.reduceLT, Nat.reduceEqDiff, reduceCtorEq, Nat.reduceLeDiff, Int.reduceLE, Int.reduceLT, Int.reduceToNat, hn, g1, g4, g9, g10, g11, a1, w1, A1, l1]
      have EF : Ext H.n H ((h.put (H.n + 1) (.cells [.lit (.int .i64 x.id), .lit (.int .i64 x.kind), va, vw] 47)).push (.cells [.lit (.int .i64 x.id), .lit (.int .i64 x.kind), va, vw] 47)) := (E1.put _ (by omega)).push _ (by rw [n_put]; omega)
      rw [hG, hf]
      exact ⟨EF, va, vw, rfl, ha.ext EF (Nat.le_refl _), hw.ext EF (Nat.le_refl _)⟩
    · rw [if_neg (by rw [hq]; decide)] at hf
      refine ih _ _ ⟨he.push _ he.1, hf, ?_⟩
      simp only [core, Nat.reduceAdd, Nat.reduceSub, Nat.reduceMul, Nat.reduceLT, Nat.reduceEqDiff, reduceCtorEq, Nat.reduceLeDiff, Int.reduceLE, Int.reduceLT, Int.reduceToNat, hn, g1, g4, g9, g10, g11]
  · rintro t h hc ⟨he, hf, hn, g1, g4, g9, g10, g11⟩
    have A1 : h.at (H.n + 1) = some (.cells [.lit (.int .i64 0), .lit (.int .i64 0), .lit (.slice none 0 0), .lit (.slice none 0 0)] 47) := (he.2 _ (by omega)).trans A0
    have l1 : H.n + 1 < h.n := at_lt A1
    have E1 : Ext H.n H h := E0.trans (he.mono (by omega))
    have hf : bucketF m id = none := by rw [hf, List.drop_length]; rfl
    have hG : bucketG m id = bkt0 := by unfold bucketG; rw [hf]; rfl
    simp only [core, Nat.reduceAdd, Nat.reduceSub, Nat.reduceMul, Nat.reduceLT, Nat.reduceEqDiff, reduceCtorEq, Nat.reduceLeDiff, Int.reduceLE, Int.reduceLT, Int.reduceToNat, s1, s2, hn, g1, g4, g9, g10, g11, hc, A1, l1, bdM, fillA]
    rw [hG, hf]
    exact ⟨E1.put _ (by omega), _, _, rfl, IsSl.nil, IsSl.nil⟩
  · simp only [core, Nat.reduceAdd, Nat.reduceSub, Nat.reduceMul, Nat.reduceLT, Nat.reduceEqDiff, reduceCtorEq, Nat.reduceLeDiff, Int.reduceLE, Int.reduceLT, Int.reduceToNat]
    refine ⟨Ext.refl _ _, rfl, ?_⟩
    (repeat' apply And.intro) <;> first | rfl | trivial
end Go.Proofs.YtkgbeihcepociaaDoor.Ex
end

section

set_option linter.unusedSimpArgs false
set_option linter.unusedVariables false
set_option maxRecDepth 10000
set_option maxHeartbeats 4000000
namespace Go.Proofs.YtkgbeihcepociaaDoor.Ex
open Go
theorem Ext.step {H h h' : AH} (he : Ext H.n H h) (hk : Ext h.n h h') : Ext H.n H h' := he.trans (hk.mono he.1)
theorem bucket_x {F : Nat → Prop} {H : AH} {m : MapD} {vo vp vb : AV} (id : Int) (hm : MpAt F H m vo vp vb) (hl : Sm 64 m.buckets) (hok : ∀ b ∈ m.buckets, Sm 8 b.items ∧ Sm 8 b.weights) :
    WC Tryd.prog (tabOf Tryd.prog NT0) S0 29 [mpV m vo vp vb, .lit (.int .i64 id)] H fun r h' => Ext H.n H h' ∧ ∃ va vw, r = .tup [bktV (bucketG m id) va vw, .lit (.bool (bucketF m id).isSome)] ∧ IsSl RInt (fun b => H.n ≤ b) h' va (bucketG m id).items ∧ IsSl RInt (fun b => H.n ≤ b) h' vw (bucketG m id).weights := by
  refine WC_fn Tryd.func29 rfl rfl ?_
  unfold Sm at hl
  have s1 := hm.b.isSl
  have s2 := hm.b.lenD
  have o1 := hm.o.one
  have o2 := hm.p.one
  have o3 := hm.b.one
  simp only [core, Nat.reduceAdd, Nat.reduceSub, Nat.reduceMul, Nat.reduceLT, Nat.reduceEqDiff, reduceCtorEq, Nat.reduceLeDiff, Int.reduceLE, Int.reduceLT, Int.reduceToNat, Tryd.ntmps29, mpV, s1, s2, o1, o2, o3]
  obtain ⟨h2, hh2⟩ : ∃ h2, h2 = (H.push (.cells [.lit (.int .i64 m.epoch), vo, vp, vb, .lit (.int .i64 m.leaf)] 26)).push (.cells [.lit (.int .i64 0), .lit (.int .i64 0), .lit (.slice none 0 0), .lit (.slice none 0 0)] 47) := ⟨_, rfl⟩
  have E0 : Ext H.n H h2 := hh2 ▸ ((Ext.refl _ _).push _ (Nat.le_refl _)).push _ (by rw [n_push]; omega)
  have A0 : h2.at (H.n + 1) = some (.cells [.lit (.int .i64 0), .lit (.int .i64 0), .lit (.slice none 0 0), .lit (.slice none 0 0)] 47) := hh2 ▸ at_push_n _ _
  have n2 : h2.n = H.n + 2 := by rw [hh2, n_push, n_push]
  rw [← hh2]
  clear hh2
  refine WB_for m.buckets.length (fun i t h => Ext h2.n h2 h ∧ bucketF m id = (m.buckets.drop i).find? (fun b => b.id == id) ∧ t.n = 30 ∧ t.get 1 = .lit (.int .i64 id) ∧ t.get 4 = .ptr (H.n + 1) 0 ∧ t.get 9 = vb ∧ t.get 10 = .lit (.int .i64 m.buckets.length) ∧ t.get 11 = .lit (.int .i64 i)) ?_ ?_ _ _ ?_
  · rintro i t h hlt hc ⟨he, hf, hn, g1, g4, g9, g10, g11⟩ ih
    obtain ⟨x, hx⟩ : ∃ x, m.buckets[i]? = some x := ⟨_, List.getElem?_eq_getElem hlt⟩
    have E1 : Ext H.n H h := E0.trans (he.mono (by omega))
    obtain ⟨c, hc1, hld, hld0⟩ := hm.b.atE (T := tabOf Tryd.prog NT0) E1 RBkt_z hx
    obtain ⟨va, vw, rfl, ha, hw, i1, i2⟩ := RBkt_is.1 hc1
    obtain ⟨k1, k2⟩ := hok x (List.mem_of_getElem? hx)
    unfold Sm at k1 k2
    have a1 := ha.one
    have w1 := hw.one
    have a2 := ha.isSl
    have w2 := hw.isSl
    have hws := wrap_succ hlt (by omega)
    rw [find_drop hx] at hf
    have A1 : h.at (H.n + 1) = some (.cells [.lit (.int .i64 0), .lit (.int .i64 0), .lit (.slice none 0 0), .lit (.slice none 0 0)] 47) := (he.2 _ (by omega)).trans A0
    have l1 : H.n + 1 < h.n := at_lt A1
    simp only [core, Nat.reduceAdd, Nat.reduceSub, Nat.reduceMul, Nat.reduceLT, Nat.reduceEqDiff, reduceCtorEq, Nat.reduceLeDiff, Int.reduceLE, Int.reduceLT, Int.reduceToNat, s1, s2, hn, g1, g4, g9, g10, g11, hlt, hc, hld, hld0, hws, a1, w1]
    refine ⟨fun hq => ?_, fun hq => ?_⟩
    · rw [if_pos hq] at hf
      have hG : bucketG m id = x := by unfold bucketG; rw [hf]; rfl
      obtain ⟨hp, hhp⟩ : ∃ hp, hp = h.push (.cells [.lit (.int .i64 x.id), .lit (.int .i64 x.kind), va, vw] 47) := ⟨_, rfl⟩
      have EP : Ext h.n h hp := hhp ▸ (Ext.refl _ _).push _ (Nat.le_refl _)
      have P0 : hp.at h.n = some (.cells [.lit (.int .i64 x.id), .lit (.int .i64 x.kind), va, vw] 47) := hhp ▸ at_push_n h _
      have LP0 := ld_at (T := tabOf Tryd.prog NT0) P0
      rw [← hhp]
      rw [WB_regionD [0, 1, 3, 4, 2, 6, 5, 7, 8, 9] 632895786129742360360258634752 (by kernel_rfl)]
      repeat ((with_reducible refine WDM_cons ?_; simp only [dw1]; try simp only [dw2, Nat.reduceAdd, Nat.reduceMul, Nat.reduceShiftRight, Nat.reduceMod, Nat.reduceEqDiff]); simp only [core, Nat.reduceAdd, Nat.reduceSub, Nat.reduceMul, Nat.reduceLT, Nat.reduceEqDiff, reduceCtorEq, Nat.reduceLeDiff, Int.reduceLE, Int.reduceLT, Int.reduceToNat, cored, hn, g1, g4, g9, g10, g11, LP0, a2, w2])
      have E2 := E1.step EP
      refine (clone_x (ha.ext E2 (Nat.le_refl _)) (by omega)).mono ?_
      rintro ra h3 ⟨e3, ra1, -⟩
      have P3 := (e3.2 _ (at_lt P0)).trans P0
      have LP3 := ld_at (T := tabOf Tryd.prog NT0) P3
      have E3 := E2.step e3
      repeat ((with_reducible refine WDM_cons ?_; simp only [dw1]; try simp only [dw2, Nat.reduceAdd, Nat.reduceMul, Nat.reduceShiftRight, Nat.reduceMod, Nat.reduceEqDiff]); simp only [core, Nat.reduceAdd, Nat.reduceSub, Nat.reduceMul, Nat.reduceLT, Nat.reduceEqDiff, reduceCtorEq, Nat.reduceLeDiff, Int.reduceLE, Int.reduceLT, Int.reduceToNat, cored, hn, g1, g4, g9, g10, g11, LP3, a2, w2])
      refine (clone_x (hw.ext E3 (Nat.le_refl _)) (by omega)).mono ?_
      rintro rw1 h4 ⟨e4, rw2, -⟩
      have P4 := (e4.2 _ (at_lt P3)).trans P3
      have LP4 := ld_at (T := tabOf Tryd.prog NT0) P4
      have E4 := E3.step e4
      have l4 := at_lt P4
      have o4 := ra1.one
      have o5 := rw2.one
      have lh : h.n < hp.n := at_lt P0
      have l3 : hp.n ≤ h3.n := e3.1
      have l5 : h3.n ≤ h4.n := e4.1
      have A4 : h4.at (H.n + 1) = some (.cells [.lit (.int .i64 0), .lit (.int .i64 0), .lit (.slice none 0 0), .lit (.slice none 0 0)] 47) := ((e4.2 _ (by omega)).trans ((e3.2 _ (by omega)).trans (EP.2 _ l1))).trans A1
      have l6 : H.n + 1 < h4.n := at_lt A4
      have hne : ¬ h.n = H.n + 1 := by omega
      repeat ((with_reducible refine WDM_cons ?_; simp only [dw1]; try simp only [dw2, Nat.reduceAdd, Nat.reduceMul, Nat.reduceShiftRight, Nat.reduceMod, Nat.reduceEqDiff]); simp only [core, Nat.reduceAdd, Nat.reduceSub, Nat.reduceMul, Nat.reduceLT, Nat.reduceEqDiff, reduceCtorEq, Nat.reduceLeDiff, Int.reduceLE, Int.reduceLT, Int.reduceToNat, cored, hn, g1, g4, g9, g10, g11, LP4, P4, l4, o4, o5, a2, w2, A4, l6, hne])
      rw [hG, hf]
      have k0 := E1.1
      refine ⟨((E4.put _ (by omega)).put _ (by omega)).put _ (by omega), _, _, rfl, ?_, ?_⟩
      · refine ra1.lift fun b hb hlt => ⟨?_, by omega⟩
        rw [at_put_ne _ (by omega), at_put_ne _ (by omega), at_put_ne _ (by omega)]
        exact e4.2 b hlt
      · refine rw2.lift fun b hb hlt => ⟨?_, by omega⟩
        rw [at_put_ne _ (by omega), at_put_ne _ (by omega), at_put_ne _ (by omega)]
    · rw [if_neg (by rw [hq]; decide)] at hf
      refine ih _ _ ⟨he.push _ he.1, hf, ?_⟩
      simp only [core, Nat.reduceAdd, Nat.reduceSub, Nat.reduceMul, Nat.reduceLT, Nat.reduceEqDiff, reduceCtorEq, Nat.reduceLeDiff, Int.reduceLE, Int.reduceLT, Int.reduceToNat, hn, g1, g4, g9, g10, g11]
  · rintro t h hc ⟨he, hf, hn, g1, g4, g9, g10, g11⟩
    have A1 : h.at (H.n + 1) = some (.cells [.lit (.int .i64 0), .lit (.int .i64 0), .lit (.slice none 0 0), .lit (.slice none 0 0)] 47) := (he.2 _ (by omega)).trans A0
    have l1 : H.n + 1 < h.n := at_lt A1
    have E1 : Ext H.n H h := E0.trans (he.mono (by omega))
    have hf : bucketF m id = none := by rw [hf, List.drop_length]; rfl
    have hG : bucketG m id = bkt0 := by unfold bucketG; rw [hf]; rfl
    simp only [core, Nat.reduceAdd, Nat.reduceSub, Nat.reduceMul, Nat.reduceLT, Nat.reduceEqDiff, reduceCtorEq, Nat.reduceLeDiff, Int.reduceLE, Int.reduceLT, Int.reduceToNat, s1, s2, hn, g1, g4, g9, g10, g11, hc, A1, l1, bdM, fillA]
    rw [hG, hf]
    exact ⟨E1.put _ (by omega), _, _, rfl, IsSl.nil, IsSl.nil⟩
  · simp only [core, Nat.reduceAdd, Nat.reduceSub, Nat.reduceMul, Nat.reduceLT, Nat.reduceEqDiff, reduceCtorEq, Nat.reduceLeDiff, Int.reduceLE, Int.reduceLT, Int.reduceToNat]
    refine ⟨Ext.refl _ _, rfl, ?_⟩
    (repeat' apply And.intro) <;> first | rfl | trivial
end Go.Proofs.YtkgbeihcepociaaDoor.Ex
end

section

set_option linter.unusedSimpArgs false
set_option linter.unusedVariables false
set_option maxRecDepth 10000
set_option maxHeartbeats 4000000
namespace Go.Proofs.YtkgbeihcepociaaDoor.Ex
open Go
def kindF (m : MapD) (item : Int) : Int := if 0 ≤ item then (if item < 8 then 0 else -1) else if (bucketF m item).isSome then (bucketG m item).kind else -1
theorem kind_x {F : Nat → Prop} {H : AH} {m : MapD} {vo vp vb : AV} (item : Int) (hm : MpAt F H m vo vp vb) (hl : Sm 64 m.buckets) :
    WC Tryd.prog (tabOf Tryd.prog NT0) S0 42 [mpV m vo vp vb, .lit (.int .i64 item)] H fun r h' => Ext H.n H h' ∧ r = .lit (.int .i64 (kindF m item)) := by
  refine WC_fn Tryd.func42 rfl rfl ?_
  have o1 := hm.o.one
  have o2 := hm.p.one
  have o3 := hm.b.one
  simp only [core, Nat.reduceAdd, Nat.reduceSub, Nat.reduceMul, Nat.reduceLT, Nat.reduceEqDiff, reduceCtorEq, Nat.reduceLeDiff, Int.reduceLE, Int.reduceLT, Int.reduceToNat, Tryd.ntmps42, mpV, o1, o2, o3]
  have EP : ∀ x, Ext H.n H (H.push x) := fun x => (Ext.refl _ _).push _ (Nat.le_refl _)
  refine ⟨fun hq => ⟨fun hq2 => ?_, fun hq2 => ?_⟩, fun hq => ?_⟩
  · refine ⟨EP _, ?_⟩
    unfold kindF
    rw [if_pos (by simpa using hq), if_pos (by simpa using hq2)]
  · refine ⟨EP _, ?_⟩
    unfold kindF
    rw [if_pos (by simpa using hq), if_neg (by simpa using hq2)]
  · have hq : ¬ 0 ≤ item := by simpa using hq
    refine (bucketR_x item (hm.ext (EP _) (Nat.le_refl _)) hl).mono ?_
    rintro _ h1 ⟨e1, va, vw, rfl, b1, b2⟩
    have o4 := b1.one
    have o5 := b2.one
    simp only [core, Nat.reduceAdd, Nat.reduceSub, Nat.reduceMul, Nat.reduceLT, Nat.reduceEqDiff, reduceCtorEq, Nat.reduceLeDiff, Int.reduceLE, Int.reduceLT, Int.reduceToNat, bktV, o4, o5]
    refine ⟨fun hq2 => ?_, fun hq2 => ?_⟩
    · refine ⟨(Ext.step (EP _) e1).push _ (by have := e1.1; rw [n_push] at this; omega), ?_⟩
      unfold kindF
      rw [if_neg hq, if_neg (by simp at hq2; simp [hq2])]
    · refine ⟨(Ext.step (EP _) e1).push _ (by have := e1.1; rw [n_push] at this; omega), ?_⟩
      unfold kindF
      rw [if_neg hq, if_pos (by simpa using hq2)]
def wOk (w : Int) : Bool := decide (0 ≤ w) && decide (w ≤ 1048576)
def itsTo (m : MapD) (i : Nat) : List Int := (m.buckets.take i).flatMap (·.items)
def itemOk (m : MapD) (its : List Int) (b : BktD) (k : Nat) : Bool := decide (0 ≤ kindF m (b.items.getD k 0)) && decide (kindF m (b.items.getD k 0) < b.kind) && !((its ++ b.items.take k).contains (b.items.getD k 0))
def hdOk (m : MapD) (i : Nat) (b : BktD) : Bool := !((m.buckets.take i).any (fun c => c.id == b.id)) && decide (b.id < 0) && decide (1 ≤ b.kind) && decide (b.kind ≤ 3) && (b.items.length == b.weights.length)
def bOk (m : MapD) (i : Nat) (b : BktD) : Bool := hdOk m i b && b.weights.all wOk && (List.range b.items.length).all (itemOk m (itsTo m i) b)
def goodF (m : MapD) : Bool := decide (0 ≤ m.leaf) && decide (m.leaf ≤ 3) && (List.range m.buckets.length).all (fun i => bOk m i (m.buckets.getD i bkt0))
theorem range_all_succ {p : Nat → Bool} {i : Nat} : (List.range (i + 1)).all p = ((List.range i).all p && p i) := by
  rw [List.range_succ, List.all_append]; simp
theorem range_all_false {p : Nat → Bool} {n i : Nat} (hi : i < n) (hp : p i = false) : (List.range n).all p = false := by
  rw [List.all_eq_false]
  exact ⟨i, List.mem_range.2 hi, by simp [hp]⟩
theorem getD_of {α : Type} {l : List α} {i : Nat} {x d : α} (hx : l[i]? = some x) : l.getD i d = x := by rw [List.getD_eq_getElem?_getD, hx]; rfl
theorem good_false {m : MapD} {i : Nat} {x : BktD} (hx : m.buckets[i]? = some x) (h : bOk m i x = false) : goodF m = false := by
  unfold goodF
  rw [range_all_false (i := i) (List.getElem?_eq_some_iff.1 hx).1 (by simp only [getD_of hx]; exact h), Bool.and_false]
theorem itsTo_succ {m : MapD} {i : Nat} {x : BktD} (hx : m.buckets[i]? = some x) : itsTo m (i + 1) = itsTo m i ++ x.items := by
  unfold itsTo
  rw [List.take_add_one, hx, List.flatMap_append]
  simp
theorem any_take {α : Type} {p : α → Bool} {l : List α} {i : Nat} {x : α} (hx : l[i]? = some x) : (l.take (i + 1)).any p = ((l.take i).any p || p x) := by
  rw [List.take_add_one, hx, List.any_append]; simp
theorem any_true' {α : Type} {p : α → Bool} {l : List α} {i : Nat} {x : α} (hx : l[i]? = some x) (hp : p x = true) : l.any p = true := by
  rw [List.any_eq_true]
  exact ⟨x, List.mem_of_getElem? hx, hp⟩
theorem all_take' {α : Type} {p : α → Bool} {l : List α} {i : Nat} {x : α} (hx : l[i]? = some x) : (l.take (i + 1)).all p = ((l.take i).all p && p x) := by
  rw [List.take_add_one, hx, List.all_append]; simp
theorem all_false' {α : Type} {p : α → Bool} {l : List α} {i : Nat} {x : α} (hx : l[i]? = some x) (hp : p x = false) : l.all p = false := by
  rw [List.all_eq_false]
  exact ⟨x, List.mem_of_getElem? hx, by simp [hp]⟩
theorem getD_some' {α : Type} {l : List α} {i : Nat} (d : α) (hi : i < l.length) : l[i]? = some (l.getD i d) := by rw [List.getD_eq_getElem?_getD, List.getElem?_eq_getElem hi]; rfl
theorem contains_take {x : Int} {l : List Int} {i : Nat} (hi : i < l.length) : (l.take (i + 1)).contains x = ((l.take i).contains x || l.getD i 0 == x) := by
  rw [List.take_add_one, getD_some' 0 hi]
  simp only [Option.toList_some, List.contains_eq_any_beq, List.any_append, List.any_cons, List.any_nil, Bool.or_false]
  rw [Bool.beq_comm]
theorem IsSl.i64 {F : Nat → Prop} {h : AH} {v : AV} {xs : List Int} (hs : IsSl RInt F h v xs) : ∀ (i : Nat), i < xs.length → I64 (xs.getD i 0) := fun i hi => by
  obtain ⟨L, h1, _, _, h3⟩ := hs.out
  obtain ⟨c, _, hc⟩ := h3.get (getD_some' 0 hi)
  exact hc.2
/-- The items of a map that is not too great. -/
def OkM (m : MapD) : Prop := Sm 64 m.buckets ∧ (∀ b ∈ m.buckets, Sm 8 b.items ∧ Sm 8 b.weights) ∧ True
theorem nodup_len : ∀ {l r : List Int}, l.Nodup → (∀ x ∈ l, x ∈ r) → l.length ≤ r.length
  | [], r, _, _ => Nat.zero_le _
  | a :: l, r, hn, hs => by
    rw [List.nodup_cons] at hn
    have ha : a ∈ r := hs a (by simp)
    have h1 := List.length_erase_of_mem ha
    have h2 := List.length_pos_of_mem ha
    have h3 := nodup_len (r := r.erase a) hn.2 fun x hx => (List.mem_erase_of_ne (by intro hh; subst hh; exact hn.1 hx)).2 (hs x (by simp [hx]))
    rw [List.length_cons]
    omega
/-- Items so far: unlike, and each is of some kind. -/
def ItsOk (m : MapD) (l : List Int) : Prop := l.Nodup ∧ ∀ d ∈ l, 0 ≤ kindF m d
theorem its_item {m : MapD} {base : List Int} {b : BktD} (hb : ItsOk m base) : ∀ k, k ≤ b.items.length → (List.range k).all (itemOk m base b) = true → ItsOk m (base ++ b.items.take k)
  | 0, _, _ => by rw [List.take_zero, List.append_nil]; exact hb
  | k + 1, hk, h => by
    rw [range_all_succ, Bool.and_eq_true] at h
    obtain ⟨i1, i2⟩ := its_item hb k (by omega) h.1
    have h2 := h.2
    unfold itemOk at h2
    simp only [Bool.and_eq_true, decide_eq_true_eq, Bool.not_eq_true'] at h2
    obtain ⟨⟨h3, _⟩, h4⟩ := h2
    rw [List.take_add_one, getD_some' 0 (by omega), ← List.append_assoc]
    refine ⟨?_, fun d hd => ?_⟩
    · rw [List.nodup_append]
      refine ⟨i1, by simp, fun a ha c hc hac => ?_⟩
      simp only [Option.toList_some, List.mem_singleton] at hc
      subst hc
      subst hac
      rw [List.contains_iff_mem.2 ha] at h4
      cases h4
    · simp only [Option.toList_some, List.mem_append (t := [_]), List.mem_singleton] at hd
      rcases hd with hd | rfl
      · exact i2 d hd
      · exact h3
theorem its_bkts {m : MapD} : ∀ i, i ≤ m.buckets.length → (List.range i).all (fun i => bOk m i (m.buckets.getD i bkt0)) = true → ItsOk m (itsTo m i)
  | 0, _, _ => ⟨List.nodup_nil, fun d hd => by cases hd⟩
  | i + 1, hi, h => by
    rw [range_all_succ, Bool.and_eq_true] at h
    obtain ⟨x, hx⟩ : ∃ x, m.buckets[i]? = some x := ⟨_, List.getElem?_eq_getElem (by omega)⟩
    have h2 := h.2
    rw [getD_of hx] at h2
    unfold bOk at h2
    rw [Bool.and_eq_true] at h2
    have := its_item (its_bkts i (by omega) h.1) x.items.length (Nat.le_refl _) h2.2
    rw [List.take_length] at this
    rw [itsTo_succ hx]
    exact this
theorem its_len {m : MapD} {l : List Int} (h : ItsOk m l) : l.length ≤ 8 + m.buckets.length := by
  have := nodup_len (r := [0, 1, 2, 3, 4, 5, 6, 7] ++ m.buckets.map (·.id)) h.1 fun d hd => by
    have h1 := h.2 d hd
    unfold kindF at h1
    rw [List.mem_append]
    split at h1
    · split at h1
      · left
        simp only [List.mem_cons, List.not_mem_nil, or_false]
        omega
      · omega
    · split at h1
      · rename_i hs
        right
        obtain ⟨b, hb⟩ := Option.isSome_iff_exists.1 hs
        have h2 := List.mem_of_find?_eq_some hb
        have h3 := List.find?_some hb
        exact List.mem_map.2 ⟨b, h2, eq_of_beq h3⟩
      · omega
  rw [List.length_append, List.length_map] at this
  exact this
theorem good_x {F : Nat → Prop} {H : AH} {m : MapD} {vo vp vb : AV} (hm : MpAt F H m vo vp vb) (hok : OkM m) :
    WC Tryd.prog (tabOf Tryd.prog NT0) S0 24 [mpV m vo vp vb] H fun r h' => Ext H.n H h' ∧ r = .lit (.bool (goodF m)) := by
  refine WC_fn Tryd.func24 rfl rfl ?_
  obtain ⟨hl, hbs, hit⟩ := hok
  have hl0 := hl
  unfold Sm at hl
  have s1 := hm.b.isSl
  have s2 := hm.b.lenD
  have o1 := hm.o.one
  have o2 := hm.p.one
  have o3 := hm.b.one
  have hcap : CapOk 4 vb := by obtain ⟨L, -, -, hc, -⟩ := hm.b.out; exact hc
  have EP : ∀ x, Ext H.n H (H.push x) := fun x => (Ext.refl _ _).push _ (Nat.le_refl _)
  simp only [core, Nat.reduceAdd, Nat.reduceSub, Nat.reduceMul, Nat.reduceLT, Nat.reduceEqDiff, reduceCtorEq, Nat.reduceLeDiff, Int.reduceLE, Int.reduceLT, Int.reduceToNat, Tryd.ntmps24, mpV, o1, o2, o3]
  by_cases hl1 : m.leaf < 0
  · simp only [core, Nat.reduceAdd, Nat.reduceSub, Nat.reduceMul, Nat.reduceLT, Nat.reduceEqDiff, reduceCtorEq, Nat.reduceLeDiff, Int.reduceLE, Int.reduceLT, Int.reduceToNat, hl1]
    refine ⟨EP _, ?_⟩
    unfold goodF
    rw [decide_eq_false (show ¬ 0 ≤ m.leaf by omega)]
    rfl
  simp only [core, Nat.reduceAdd, Nat.reduceSub, Nat.reduceMul, Nat.reduceLT, Nat.reduceEqDiff, reduceCtorEq, Nat.reduceLeDiff, Int.reduceLE, Int.reduceLT, Int.reduceToNat, hl1]
  refine ⟨fun hq => ?_, fun hq => ?_⟩
  · refine ⟨EP _, ?_⟩
    unfold goodF
    rw [decide_eq_false (show ¬ m.leaf ≤ 3 by simp at hq; omega), Bool.and_false]
    rfl
  have hl2 : m.leaf ≤ 3 := by simp at hq; omega
  have hg0 : goodF m = (List.range m.buckets.length).all (fun i => bOk m i (m.buckets.getD i bkt0)) := by
    unfold goodF
    rw [decide_eq_true (show 0 ≤ m.leaf by omega), decide_eq_true hl2]
    rfl
  simp only [core, Nat.reduceAdd, Nat.reduceSub, Nat.reduceMul, Nat.reduceLT, Nat.reduceEqDiff, reduceCtorEq, Nat.reduceLeDiff, Int.reduceLE, Int.reduceLT, Int.reduceToNat, s1, s2]
  obtain ⟨h1, hh1⟩ : ∃ h1, h1 = H.push (.cells [.lit (.int .i64 m.epoch), vo, vp, vb, .lit (.int .i64 m.leaf)] 26) := ⟨_, rfl⟩
  have E0 : Ext H.n H h1 := hh1 ▸ EP _
  have A0 : h1.at H.n = some (.cells [.lit (.int .i64 m.epoch), vo, vp, vb, .lit (.int .i64 m.leaf)] 26) := hh1 ▸ at_push_n _ _
  have n1 : h1.n = H.n + 1 := by rw [hh1, n_push]
  rw [← hh1]
  clear hh1
  refine WB_for m.buckets.length (fun i t h => ∃ o, OwnL RInt (fun _ => False) h1.n h o 3 (itsTo m i) ∧ Ext h1.n h1 h ∧ (List.range i).all (fun i => bOk m i (m.buckets.getD i bkt0)) = true ∧ t.n = 116 ∧ t.get 1 = .ptr H.n 0 ∧ t.get 3 = o ∧ t.get 24 = vb ∧ t.get 25 = .lit (.int .i64 m.buckets.length) ∧ t.get 26 = .lit (.int .i64 i)) ?_ ?_ _ _ ?_
  · rintro i t h hlt hc ⟨o, ho, he, hall, hn, g1, g3, g24, g25, g26⟩ ih
    obtain ⟨x, hx⟩ : ∃ x, m.buckets[i]? = some x := ⟨_, List.getElem?_eq_getElem hlt⟩
    have E1 : Ext H.n H h := E0.trans (he.mono (by omega))
    obtain ⟨c, hc1, hld, hld0⟩ := hm.b.atE (T := tabOf Tryd.prog NT0) E1 RBkt_z hx
    obtain ⟨va, vw, rfl, ha, hw, i1, i2⟩ := RBkt_is.1 hc1
    obtain ⟨k1, k2⟩ := hbs x (List.mem_of_getElem? hx)
    unfold Sm at k1 k2
    have a1 := ha.one
    have w1 := hw.one
    have a2 := ha.isSl
    have w2 := hw.isSl
    have a3 := ha.lenD
    have w3 := hw.lenD
    have hws := wrap_succ hlt (by omega)
    have A1 := (he.2 _ (by omega)).trans A0
    have l1 : H.n < h.n := at_lt A1
    have LA1 := ld_at (T := tabOf Tryd.prog NT0) A1
    have hno : i ≤ m.buckets.length := by omega
    have hno2 : (i : Int) ≤ (m.buckets.length : Int) := by omega
    have hsub : IsSl RBkt F H (subSl 4 0 i vb) (m.buckets.take i) := by have := hm.b.sub (l := 0) (r := i) (by omega) hno; rw [List.drop_zero] at this; exact this
    have s3 := hsub.isSl
    have s4 : lenD (subSl 4 0 i vb) = i := by rw [hsub.lenD, List.length_take]; omega
    simp only [core, Nat.reduceAdd, Nat.reduceSub, Nat.reduceMul, Nat.reduceLT, Nat.reduceEqDiff, reduceCtorEq, Nat.reduceLeDiff, Int.reduceLE, Int.reduceLT, Int.reduceToNat, s1, s2, hn, g1, g3, g24, g25, g26, hlt, hc, hld, hld0, hws, a1, w1, LA1, l1, hcap, hno, hno2, s3, s4]
    obtain ⟨hA, hhA⟩ : ∃ hA, hA = h.push (.cells [.lit (.int .i64 x.id), .lit (.int .i64 x.kind), va, vw] 47) := ⟨_, rfl⟩
    have EA : Ext h.n h hA := hhA ▸ (Ext.refl _ _).push _ (Nat.le_refl _)
    have PA : hA.at h.n = some (.cells [.lit (.int .i64 x.id), .lit (.int .i64 x.kind), va, vw] 47) := hhA ▸ at_push_n h _
    rw [← hhA]
    clear hhA
    have hbk : bOk m i x = (hdOk m i x && x.weights.all wOk && (List.range x.items.length).all (itemOk m (itsTo m i) x)) := rfl
    have hbad : ∀ h', Ext H.n H h' → bOk m i x = false → Ext H.n H h' ∧ AV.lit (.bool false) = .lit (.bool (goodF m)) := fun h' e hf => ⟨e, by rw [good_false hx hf]⟩
    refine WB_for i (fun j t h' => Ext hA.n hA h' ∧ (m.buckets.take j).any (fun c => c.id == x.id) = false ∧ t.n = 116 ∧ t.get 1 = .ptr H.n 0 ∧ t.get 3 = o ∧ t.get 5 = .ptr h.n 0 ∧ t.get 24 = vb ∧ t.get 25 = .lit (.int .i64 m.buckets.length) ∧ t.get 26 = .lit (.int .i64 i) ∧ t.get 34 = subSl 4 0 i vb ∧ t.get 35 = .lit (.int .i64 i) ∧ t.get 36 = .lit (.int .i64 j)) ?_ ?_ _ _ ?_
    · rintro j t h' hj hc ⟨he2, hany, hn, g1, g3, g5, g24, g25, g26, g34, g35, g36⟩ ih2
      have hjl : j < m.buckets.length := by omega
      obtain ⟨y, hy⟩ : ∃ y, m.buckets[j]? = some y := ⟨_, List.getElem?_eq_getElem hjl⟩
      have hy2 : (m.buckets.take i)[j]? = some y := by rw [List.getElem?_take, if_pos hj, hy]
      have E2 : Ext H.n H h' := (E1.step EA).step he2
      obtain ⟨c, hc1, hld, hld0⟩ := hsub.atE (T := tabOf Tryd.prog NT0) E2 RBkt_z hy2
      obtain ⟨ya, yw, rfl, ya1, yw1, -, -⟩ := RBkt_is.1 hc1
      have y1 := ya1.one
      have y2 := yw1.one
      have hws := wrap_succ hj (by omega)
      have P2 := (he2.2 _ (at_lt PA)).trans PA
      have LP2 := ld_at (T := tabOf Tryd.prog NT0) P2
      have l2 : h.n < h'.n := at_lt P2
      simp only [core, Nat.reduceAdd, Nat.reduceSub, Nat.reduceMul, Nat.reduceLT, Nat.reduceEqDiff, reduceCtorEq, Nat.reduceLeDiff, Int.reduceLE, Int.reduceLT, Int.reduceToNat, s1, s2, s3, s4, hn, g1, g3, g5, g24, g25, g26, g34, g35, g36, hj, hc, hld, hld0, hws, y1, y2, LP2, l2]
      refine ⟨fun hq => ?_, fun hq => ?_⟩
      · refine hbad _ (E2.push _ E2.1) ?_
        rw [hbk]
        unfold hdOk
        rw [any_true' hy2 hq]
        rfl
      · refine ih2 _ _ ⟨he2.push _ he2.1, ?_, ?_⟩
        · rw [any_take hy, hany]
          simpa using hq
        · simp only [core, Nat.reduceAdd, Nat.reduceSub, Nat.reduceMul, Nat.reduceLT, Nat.reduceEqDiff, reduceCtorEq, Nat.reduceLeDiff, Int.reduceLE, Int.reduceLT, Int.reduceToNat, hn, g1, g3, g5, g24, g25, g26, g34, g35, g36]
    · rintro t h' hc ⟨he2, hany, hn, g1, g3, g5, g24, g25, g26, g34, g35, g36⟩
      have E2 : Ext H.n H h' := (E1.step EA).step he2
      have P2 := (he2.2 _ (at_lt PA)).trans PA
      have LP2 := ld_at (T := tabOf Tryd.prog NT0) P2
      have l2 : h.n < h'.n := at_lt P2
      by_cases c1 : 0 ≤ x.id
      · simp only [core, Nat.reduceAdd, Nat.reduceSub, Nat.reduceMul, Nat.reduceLT, Nat.reduceEqDiff, reduceCtorEq, Nat.reduceLeDiff, Int.reduceLE, Int.reduceLT, Int.reduceToNat, s1, s2, s3, s4, hn, g1, g3, g5, g24, g25, g26, g34, g35, g36, hc, LP2, l2, c1]
        refine hbad _ E2 ?_
        rw [hbk]; unfold hdOk
        rw [decide_eq_false (show ¬ x.id < 0 by omega)]; simp
      by_cases c2 : x.kind < 1
      · simp only [core, Nat.reduceAdd, Nat.reduceSub, Nat.reduceMul, Nat.reduceLT, Nat.reduceEqDiff, reduceCtorEq, Nat.reduceLeDiff, Int.reduceLE, Int.reduceLT, Int.reduceToNat, s1, s2, s3, s4, hn, g1, g3, g5, g24, g25, g26, g34, g35, g36, hc, LP2, l2, c1, c2]
        refine hbad _ E2 ?_
        rw [hbk]; unfold hdOk
        rw [decide_eq_false (show ¬ 1 ≤ x.kind by omega)]; simp
      by_cases c3 : 3 < x.kind
      · simp only [core, Nat.reduceAdd, Nat.reduceSub, Nat.reduceMul, Nat.reduceLT, Nat.reduceEqDiff, reduceCtorEq, Nat.reduceLeDiff, Int.reduceLE, Int.reduceLT, Int.reduceToNat, s1, s2, s3, s4, hn, g1, g3, g5, g24, g25, g26, g34, g35, g36, hc, LP2, l2, c1, c2, c3]
        refine hbad _ E2 ?_
        rw [hbk]; unfold hdOk
        rw [decide_eq_false (show ¬ x.kind ≤ 3 by omega)]; simp
      simp only [core, Nat.reduceAdd, Nat.reduceSub, Nat.reduceMul, Nat.reduceLT, Nat.reduceEqDiff, reduceCtorEq, Nat.reduceLeDiff, Int.reduceLE, Int.reduceLT, Int.reduceToNat, s1, s2, s3, s4, hn, g1, g3, g5, g24, g25, g26, g34, g35, g36, hc, LP2, l2, c1, c2, c3, a2, w2, a3, w3]
      refine ⟨fun hq => ?_, fun hq => ?_⟩
      · refine hbad _ E2 ?_
        rw [hbk]; unfold hdOk
        have : ¬ x.items.length = x.weights.length := by simp at hq; omega
        simp [this]
      have hlen : x.items.length = x.weights.length := by simp at hq; omega
      have hhd : hdOk m i x = true := by
        unfold hdOk
        rw [hany, decide_eq_true (show x.id < 0 by omega), decide_eq_true (show 1 ≤ x.kind by omega), decide_eq_true (show x.kind ≤ 3 by omega)]
        simp [hlen]
      rw [hhd, Bool.true_and] at hbk
      refine WB_for x.weights.length (fun j t h'' => h'' = h' ∧ (x.weights.take j).all wOk = true ∧ t.n = 116 ∧ t.get 1 = .ptr H.n 0 ∧ t.get 3 = o ∧ t.get 5 = .ptr h.n 0 ∧ t.get 24 = vb ∧ t.get 25 = .lit (.int .i64 m.buckets.length) ∧ t.get 26 = .lit (.int .i64 i) ∧ t.get 69 = vw ∧ t.get 70 = .lit (.int .i64 x.weights.length) ∧ t.get 71 = .lit (.int .i64 j)) ?_ ?_ _ _ ?_
      · rintro j t h'' hj hc ⟨rfl, hwall, hn, g1, g3, g5, g24, g25, g26, g69, g70, g71⟩ ih3
        have hldw := (hw.ext E2 (Nat.le_refl _)).int (T := tabOf Tryd.prog NT0) (e := 3) (by kernel_rfl) (by kernel_rfl) hj
        have hws := wrap_succ hj (by omega)
        have hjx := getD_some' 0 hj
        by_cases d1 : x.weights.getD j 0 < 0
        · simp only [core, Nat.reduceAdd, Nat.reduceSub, Nat.reduceMul, Nat.reduceLT, Nat.reduceEqDiff, reduceCtorEq, Nat.reduceLeDiff, Int.reduceLE, Int.reduceLT, Int.reduceToNat, hn, g1, g3, g5, g24, g25, g26, g69, g70, g71, hc, hj, hldw, w2, w3, d1]
          refine hbad _ E2 ?_
          rw [hbk, all_false' hjx (by unfold wOk; rw [decide_eq_false (by omega)]; rfl)]
          rfl
        · simp only [core, Nat.reduceAdd, Nat.reduceSub, Nat.reduceMul, Nat.reduceLT, Nat.reduceEqDiff, reduceCtorEq, Nat.reduceLeDiff, Int.reduceLE, Int.reduceLT, Int.reduceToNat, hn, g1, g3, g5, g24, g25, g26, g69, g70, g71, hc, hj, hldw, w2, w3, d1]
          refine ⟨fun hq => ?_, fun hq => ?_⟩
          · refine hbad _ E2 ?_
            rw [hbk, all_false' hjx (by unfold wOk; rw [decide_eq_false (show ¬ x.weights.getD j 0 ≤ 1048576 by have := of_decide_eq_true hq; omega), Bool.and_false])]
            rfl
          · simp only [hws]
            refine ih3 _ _ ⟨rfl, ?_, ?_⟩
            · rw [all_take' hjx, hwall]
              unfold wOk
              rw [decide_eq_true (show 0 ≤ x.weights.getD j 0 by omega), decide_eq_true (show x.weights.getD j 0 ≤ 1048576 by have := of_decide_eq_false hq; omega)]
              rfl
            · simp only [core, Nat.reduceAdd, Nat.reduceSub, Nat.reduceMul, Nat.reduceLT, Nat.reduceEqDiff, reduceCtorEq, Nat.reduceLeDiff, Int.reduceLE, Int.reduceLT, Int.reduceToNat, hn, g1, g3, g5, g24, g25, g26, g69, g70, g71]
      · rintro t h'' hc ⟨rfl, hwall, hn, g1, g3, g5, g24, g25, g26, g69, g70, g71⟩
        rw [List.take_length] at hwall
        rw [hwall, Bool.true_and] at hbk
        simp only [core, Nat.reduceAdd, Nat.reduceSub, Nat.reduceMul, Nat.reduceLT, Nat.reduceEqDiff, reduceCtorEq, Nat.reduceLeDiff, Int.reduceLE, Int.reduceLT, Int.reduceToNat, hn, g1, g3, g5, g24, g25, g26, g69, g70, g71, hc, LP2, l2, a2, a3]
        refine WB_for x.items.length (fun k t h3 => ∃ o', OwnL RInt (fun _ => False) h1.n h3 o' 3 (itsTo m i ++ x.items.take k) ∧ Ext h1.n h1 h3 ∧ Apart o' h.n ∧ h3.at h.n = some (.cells [.lit (.int .i64 x.id), .lit (.int .i64 x.kind), va, vw] 47) ∧ (List.range k).all (itemOk m (itsTo m i) x) = true ∧ t.n = 116 ∧ t.get 1 = .ptr H.n 0 ∧ t.get 3 = o' ∧ t.get 5 = .ptr h.n 0 ∧ t.get 24 = vb ∧ t.get 25 = .lit (.int .i64 m.buckets.length) ∧ t.get 26 = .lit (.int .i64 i) ∧ t.get 83 = va ∧ t.get 84 = .lit (.int .i64 x.items.length) ∧ t.get 85 = .lit (.int .i64 k)) ?_ ?_ _ _ ?_
        · rintro k t h3 hk hc ⟨o', ho', he3, hap, P3, hkall, hn, g1, g3, g5, g24, g25, g26, g83, g84, g85⟩ ih4
          have E3 : Ext H.n H h3 := E0.trans (he3.mono (by omega))
          have hlda := (ha.ext E3 (Nat.le_refl _)).int (T := tabOf Tryd.prog NT0) (e := 3) (by kernel_rfl) (by kernel_rfl) hk
          have A3 := (he3.2 _ (by omega)).trans A0
          have l3 : H.n < h3.n := at_lt A3
          have LA3 := ld_at (T := tabOf Tryd.prog NT0) A3
          have hws := wrap_succ hk (by omega)
          simp only [core, Nat.reduceAdd, Nat.reduceSub, Nat.reduceMul, Nat.reduceLT, Nat.reduceEqDiff, reduceCtorEq, Nat.reduceLeDiff, Int.reduceLE, Int.reduceLT, Int.reduceToNat, hn, g1, g3, g5, g24, g25, g26, g83, g84, g85, hc, hk, hlda, a2, a3, LA3, l3]
          refine (kind_x (x.items.getD k 0) (hm.ext E3 (Nat.le_refl _)) hl0).mono ?_
          rintro _ h4 ⟨e4, rfl⟩
          have he4 : Ext h1.n h1 h4 := Ext.step he3 e4
          have E4 : Ext H.n H h4 := E3.step e4
          have ho4 := ho'.ext e4 (Nat.le_refl _)
          have P4 := (e4.2 _ (at_lt P3)).trans P3
          have l4 : h.n < h4.n := at_lt P4
          have LP4 := ld_at (T := tabOf Tryd.prog NT0) P4
          by_cases d1 : kindF m (x.items.getD k 0) < 0
          · simp only [core, Nat.reduceAdd, Nat.reduceSub, Nat.reduceMul, Nat.reduceLT, Nat.reduceEqDiff, reduceCtorEq, Nat.reduceLeDiff, Int.reduceLE, Int.reduceLT, Int.reduceToNat, hn, g1, g3, g5, g24, g25, g26, g83, g84, g85, hc, d1]
            refine hbad _ E4 ?_
            rw [hbk, range_all_false hk (by unfold itemOk; rw [decide_eq_false (show ¬ 0 ≤ kindF m (x.items.getD k 0) by omega)]; rfl)]
          simp only [core, Nat.reduceAdd, Nat.reduceSub, Nat.reduceMul, Nat.reduceLT, Nat.reduceEqDiff, reduceCtorEq, Nat.reduceLeDiff, Int.reduceLE, Int.reduceLT, Int.reduceToNat, hn, g1, g3, g5, g24, g25, g26, g83, g84, g85, hc, d1, LP4, l4]
          refine ⟨fun hq => ?_, fun hq => ?_⟩
          · refine hbad _ E4 ?_
            rw [hbk, range_all_false hk (by unfold itemOk; rw [decide_eq_false (show ¬ kindF m (x.items.getD k 0) < x.kind by have := of_decide_eq_true hq; omega), Bool.and_false]; rfl)]
          have d2 : kindF m (x.items.getD k 0) < x.kind := by have := of_decide_eq_false hq; omega
          have v4 := ho4.toSl (F := fun _ => True) (fun _ _ => trivial) (fun _ _ => trivial)
          have b2 := v4.isSl
          have b3 := v4.lenD
          have hlen4 : (itsTo m i ++ x.items.take k).length ≤ 8 + m.buckets.length := its_len (its_item (its_bkts i (by omega) hall) k (by omega) hkall)
          simp only [core, Nat.reduceAdd, Nat.reduceSub, Nat.reduceMul, Nat.reduceLT, Nat.reduceEqDiff, reduceCtorEq, Nat.reduceLeDiff, Int.reduceLE, Int.reduceLT, Int.reduceToNat, hn, g1, g3, g5, g24, g25, g26, g83, g84, g85, hc, b2, b3]
          refine WB_for (itsTo m i ++ x.items.take k).length (fun j t h5 => h5 = h4 ∧ ((itsTo m i ++ x.items.take k).take j).contains (x.items.getD k 0) = false ∧ t.n = 116 ∧ t.get 1 = .ptr H.n 0 ∧ t.get 3 = o' ∧ t.get 5 = .ptr h.n 0 ∧ t.get 11 = .lit (.int .i64 (x.items.getD k 0)) ∧ t.get 24 = vb ∧ t.get 25 = .lit (.int .i64 m.buckets.length) ∧ t.get 26 = .lit (.int .i64 i) ∧ t.get 83 = va ∧ t.get 84 = .lit (.int .i64 x.items.length) ∧ t.get 85 = .lit (.int .i64 k) ∧ t.get 100 = o' ∧ t.get 101 = .lit (.int .i64 (itsTo m i ++ x.items.take k).length) ∧ t.get 102 = .lit (.int .i64 j)) ?_ ?_ _ _ ?_
          · rintro j t h5 hj hc ⟨rfl, hcon, hn, g1, g3, g5, g11, g24, g25, g26, g83, g84, g85, g100, g101, g102⟩ ih5
            have hld5 := v4.int (T := tabOf Tryd.prog NT0) (e := 3) (by kernel_rfl) (by kernel_rfl) hj
            have hws := wrap_succ hj (by omega)
            simp only [core, Nat.reduceAdd, Nat.reduceSub, Nat.reduceMul, Nat.reduceLT, Nat.reduceEqDiff, reduceCtorEq, Nat.reduceLeDiff, Int.reduceLE, Int.reduceLT, Int.reduceToNat, hn, g1, g3, g5, g11, g24, g25, g26, g83, g84, g85, g100, g101, g102, hc, hj, hld5, b2, b3, hws]
            refine ⟨fun hq => ?_, fun hq => ?_⟩
            · refine hbad _ E4 ?_
              rw [hbk, range_all_false hk ?_]
              unfold itemOk
              have : (itsTo m i ++ x.items.take k).contains (x.items.getD k 0) = true := by
                rw [List.contains_iff_mem, ← eq_of_beq hq]
                exact List.mem_of_getElem? (getD_some' 0 hj)
              rw [this]
              simp
            · refine ih5 _ _ ⟨rfl, ?_, ?_⟩
              · rw [contains_take hj, hcon, hq]; rfl
              · simp only [core, Nat.reduceAdd, Nat.reduceSub, Nat.reduceMul, Nat.reduceLT, Nat.reduceEqDiff, reduceCtorEq, Nat.reduceLeDiff, Int.reduceLE, Int.reduceLT, Int.reduceToNat, hn, g1, g3, g5, g11, g24, g25, g26, g83, g84, g85, g100, g101, g102]
          · rintro t h5 hc ⟨rfl, hcon, hn, g1, g3, g5, g11, g24, g25, g26, g83, g84, g85, g100, g101, g102⟩
            rw [List.take_length] at hcon
            simp only [core, Nat.reduceAdd, Nat.reduceSub, Nat.reduceMul, Nat.reduceLT, Nat.reduceEqDiff, reduceCtorEq, Nat.reduceLeDiff, Int.reduceLE, Int.reduceLT, Int.reduceToNat, hn, g1, g3, g5, g11, g24, g25, g26, g83, g84, g85, g100, g101, g102, hc]
            obtain ⟨h6, hh6⟩ : ∃ h6, h6 = h5.push (.cells [.lit (.int .i64 (x.items.getD k 0))] 3) := ⟨_, rfl⟩
            have e6 : Ext h5.n h5 h6 := hh6 ▸ (Ext.refl _ _).push _ (Nat.le_refl _)
            have A6 : h6.at h5.n = some (.cells [.lit (.int .i64 (x.items.getD k 0))] 3) := hh6 ▸ at_push_n h5 _
            have n6 := at_lt A6
            rw [← hh6]
            have ho6 := ho4.ext e6 (Nat.le_refl _)
            have q0 := he4.1
            refine WOp_app (ho6.snoc (by kernel_rfl) (by kernel_rfl) (by kernel_rfl) (zv := .lit (.int .i64 0)) (by kernel_rfl) (by' := 8) (by kernel_rfl) rfl (by decide) (by decide) A6 (y := x.items.getD k 0) ⟨rfl, ha.i64 k hk⟩ (by omega) (by omega) (by omega)) ?_
            rintro s' h7 ⟨o7, e7, k7⟩
            obtain ⟨k8, k9⟩ := k7 h.n (by omega) hap
            simp only [core, Nat.reduceAdd, Nat.reduceSub, Nat.reduceMul, Nat.reduceLT, Nat.reduceEqDiff, reduceCtorEq, Nat.reduceLeDiff, Int.reduceLE, Int.reduceLT, Int.reduceToNat, hn, g1, g3, g5, g11, g24, g25, g26, g83, g84, g85, g100, g101, g102, hws]
            refine ih4 _ _ ⟨s', ?_, (he4.step e6).trans e7, k9, k8.trans ((e6.2 _ (by omega)).trans P4), ?_, ?_⟩
            · rw [List.take_add_one, getD_some' 0 hk]
              simpa using o7
            · rw [range_all_succ, hkall]
              unfold itemOk
              rw [decide_eq_true (show 0 ≤ kindF m (x.items.getD k 0) by omega), decide_eq_true d2, hcon]
              rfl
            · simp only [core, Nat.reduceAdd, Nat.reduceSub, Nat.reduceMul, Nat.reduceLT, Nat.reduceEqDiff, reduceCtorEq, Nat.reduceLeDiff, Int.reduceLE, Int.reduceLT, Int.reduceToNat, hn, g1, g3, g5, g11, g24, g25, g26, g83, g84, g85, g100, g101, g102]
          · simp only [core, Nat.reduceAdd, Nat.reduceSub, Nat.reduceMul, Nat.reduceLT, Nat.reduceEqDiff, reduceCtorEq, Nat.reduceLeDiff, Int.reduceLE, Int.reduceLT, Int.reduceToNat, hn, g1, g3, g5, g24, g25, g26, g83, g84, g85]
            refine ⟨rfl, ?_⟩
            (repeat' apply And.intro) <;> first | rfl | trivial
        · rintro t h3 hc ⟨o', ho', he3, hap, P3, hkall, hn, g1, g3, g5, g24, g25, g26, g83, g84, g85⟩
          rw [List.take_length] at ho'
          simp only [core, Nat.reduceAdd, Nat.reduceSub, Nat.reduceMul, Nat.reduceLT, Nat.reduceEqDiff, reduceCtorEq, Nat.reduceLeDiff, Int.reduceLE, Int.reduceLT, Int.reduceToNat, hn, g1, g3, g5, g24, g25, g26, g83, g84, g85, hc, hws]
          refine ih _ _ ⟨o', ?_, he3, ?_, ?_⟩
          · rw [itsTo_succ hx]; exact ho'
          · rw [range_all_succ, hall, getD_of hx, hbk, hkall]; rfl
          · simp only [core, Nat.reduceAdd, Nat.reduceSub, Nat.reduceMul, Nat.reduceLT, Nat.reduceEqDiff, reduceCtorEq, Nat.reduceLeDiff, Int.reduceLE, Int.reduceLT, Int.reduceToNat, hn, g1, g3, g5, g24, g25, g26, g83, g84, g85]
        · refine ⟨o, ?_, ?_, ?_, P2, rfl, ?_⟩
          · rw [List.take_zero, List.append_nil]
            exact ((ho.ext EA (Nat.le_refl _)).ext he2 (Nat.le_refl _))
          · exact (he.step EA).step he2
          · exact ho.apart (Nat.le_refl _)
          · simp only [core, Nat.reduceAdd, Nat.reduceSub, Nat.reduceMul, Nat.reduceLT, Nat.reduceEqDiff, reduceCtorEq, Nat.reduceLeDiff, Int.reduceLE, Int.reduceLT, Int.reduceToNat, hn, g1, g3, g5, g24, g25, g26, g69, g70, g71]
            (repeat' apply And.intro) <;> first | rfl | trivial
      · simp only [core, Nat.reduceAdd, Nat.reduceSub, Nat.reduceMul, Nat.reduceLT, Nat.reduceEqDiff, reduceCtorEq, Nat.reduceLeDiff, Int.reduceLE, Int.reduceLT, Int.reduceToNat, hn, g1, g3, g5, g24, g25, g26, g34, g35, g36]
        (repeat' apply And.intro) <;> first | rfl | trivial
    · simp only [core, Nat.reduceAdd, Nat.reduceSub, Nat.reduceMul, Nat.reduceLT, Nat.reduceEqDiff, reduceCtorEq, Nat.reduceLeDiff, Int.reduceLE, Int.reduceLT, Int.reduceToNat, hn, g1, g3, g24, g25, g26]
      refine ⟨Ext.refl _ _, rfl, ?_⟩
      (repeat' apply And.intro) <;> first | rfl | trivial
  · rintro t h hc ⟨o, ho, he, hall, hn, g1, g3, g24, g25, g26⟩
    simp only [core, Nat.reduceAdd, Nat.reduceSub, Nat.reduceMul, Nat.reduceLT, Nat.reduceEqDiff, reduceCtorEq, Nat.reduceLeDiff, Int.reduceLE, Int.reduceLT, Int.reduceToNat, s1, s2, hn, g1, g3, g24, g25, g26, hc]
    exact ⟨E0.trans (he.mono (by omega)), by rw [hg0, hall]⟩
  · refine ⟨_, OwnL.nil, Ext.refl _ _, rfl, ?_⟩
    simp only [core, Nat.reduceAdd, Nat.reduceSub, Nat.reduceMul, Nat.reduceLT, Nat.reduceEqDiff, reduceCtorEq, Nat.reduceLeDiff, Int.reduceLE, Int.reduceLT, Int.reduceToNat]
    (repeat' apply And.intro) <;> first | rfl | trivial
end Go.Proofs.YtkgbeihcepociaaDoor.Ex
end

section

set_option linter.unusedSimpArgs false
set_option linter.unusedVariables false
set_option maxRecDepth 10000
set_option maxHeartbeats 4000000
namespace Go.Proofs.YtkgbeihcepociaaDoor.Ex
open Go
def withinF (m : MapD) (id : Int) : Bool := m.buckets.any (fun b => b.items.contains id)
def twiceF (m : MapD) (i : Nat) : Bool := (m.buckets.take i).any (fun c => c.id == (m.buckets.getD i bkt0).id)
theorem within_x {F : Nat → Prop} {H : AH} {m : MapD} {vo vp vb : AV} (id : Int) (hm : MpAt F H m vo vp vb) (hok : OkM m) :
    WC Tryd.prog (tabOf Tryd.prog NT0) S0 40 [mpV m vo vp vb, .lit (.int .i64 id)] H fun r h' => Ext H.n H h' ∧ r = .lit (.bool (withinF m id)) := by
  refine WC_fn Tryd.func40 rfl rfl ?_
  obtain ⟨hl, hbs, hit⟩ := hok
  unfold Sm at hl
  have s1 := hm.b.isSl
  have s2 := hm.b.lenD
  have o1 := hm.o.one
  have o2 := hm.p.one
  have o3 := hm.b.one
  simp only [core, Nat.reduceAdd, Nat.reduceSub, Nat.reduceMul, Nat.reduceLT, Nat.reduceEqDiff, reduceCtorEq, Nat.reduceLeDiff, Int.reduceLE, Int.reduceLT, Int.reduceToNat, Tryd.ntmps40, mpV, o1, o2, o3, s1, s2]
  obtain ⟨h1, hh1⟩ : ∃ h1, h1 = H.push (.cells [.lit (.int .i64 m.epoch), vo, vp, vb, .lit (.int .i64 m.leaf)] 26) := ⟨_, rfl⟩
  have E0 : Ext H.n H h1 := hh1 ▸ (Ext.refl _ _).push _ (Nat.le_refl _)
  rw [← hh1]
  clear hh1
  refine WB_for m.buckets.length (fun i t h => Ext H.n H h ∧ (m.buckets.take i).any (fun b => b.items.contains id) = false ∧ t.n = 28 ∧ t.get 1 = .lit (.int .i64 id) ∧ t.get 10 = vb ∧ t.get 11 = .lit (.int .i64 m.buckets.length) ∧ t.get 12 = .lit (.int .i64 i)) ?_ ?_ _ _ ?_
  · rintro i t h hlt hc ⟨E1, hx0, hn, g1, g10, g11, g12⟩ ih
    obtain ⟨x, hx⟩ : ∃ x, m.buckets[i]? = some x := ⟨_, List.getElem?_eq_getElem hlt⟩
    obtain ⟨c, hc1, hld, hld0⟩ := hm.b.atE (T := tabOf Tryd.prog NT0) E1 RBkt_z hx
    obtain ⟨va, vw, rfl, ha, hw, i1, i2⟩ := RBkt_is.1 hc1
    obtain ⟨k1, k2⟩ := hbs x (List.mem_of_getElem? hx)
    unfold Sm at k1 k2
    have a1 := ha.one
    have w1 := hw.one
    have a2 := ha.isSl
    have a3 := ha.lenD
    have hws := wrap_succ hlt (by omega)
    simp only [core, Nat.reduceAdd, Nat.reduceSub, Nat.reduceMul, Nat.reduceLT, Nat.reduceEqDiff, reduceCtorEq, Nat.reduceLeDiff, Int.reduceLE, Int.reduceLT, Int.reduceToNat, s1, s2, hn, g1, g10, g11, g12, hlt, hc, hld, hld0, a1, w1, a2, a3]
    obtain ⟨hA, hhA⟩ : ∃ hA, hA = h.push (.cells [.lit (.int .i64 x.id), .lit (.int .i64 x.kind), va, vw] 47) := ⟨_, rfl⟩
    have EA : Ext H.n H hA := hhA ▸ E1.push _ E1.1
    rw [← hhA]
    clear hhA
    refine WB_for x.items.length (fun j t h' => h' = hA ∧ (x.items.take j).contains id = false ∧ t.n = 28 ∧ t.get 1 = .lit (.int .i64 id) ∧ t.get 10 = vb ∧ t.get 11 = .lit (.int .i64 m.buckets.length) ∧ t.get 12 = .lit (.int .i64 i) ∧ t.get 17 = va ∧ t.get 18 = .lit (.int .i64 x.items.length) ∧ t.get 19 = .lit (.int .i64 j)) ?_ ?_ _ _ ?_
    · rintro j t h' hj hc ⟨rfl, hy, hn, g1, g10, g11, g12, g17, g18, g19⟩ ih2
      have hlda := (ha.ext EA (Nat.le_refl _)).int (T := tabOf Tryd.prog NT0) (e := 3) (by kernel_rfl) (by kernel_rfl) hj
      have hws := wrap_succ hj (by omega)
      simp only [core, Nat.reduceAdd, Nat.reduceSub, Nat.reduceMul, Nat.reduceLT, Nat.reduceEqDiff, reduceCtorEq, Nat.reduceLeDiff, Int.reduceLE, Int.reduceLT, Int.reduceToNat, hn, g1, g10, g11, g12, g17, g18, g19, hj, hc, hlda, hws, a2, a3]
      refine ⟨fun he => ?_, fun he => ?_⟩
      · refine ⟨EA, ?_⟩
        have : x.items.contains id = true := by
          rw [List.contains_iff_mem, ← eq_of_beq he]
          exact List.mem_of_getElem? (getD_some' 0 hj)
        unfold withinF
        rw [any_true' hx this]
      · refine ih2 _ _ ⟨rfl, ?_, ?_⟩
        · rw [contains_take hj, hy, he]; rfl
        · simp only [core, Nat.reduceAdd, Nat.reduceSub, Nat.reduceMul, Nat.reduceLT, Nat.reduceEqDiff, reduceCtorEq, Nat.reduceLeDiff, Int.reduceLE, Int.reduceLT, Int.reduceToNat, hn, g1, g10, g11, g12, g17, g18, g19]
    · rintro t h' hc ⟨rfl, hy, hn, g1, g10, g11, g12, g17, g18, g19⟩
      rw [List.take_length] at hy
      simp only [core, Nat.reduceAdd, Nat.reduceSub, Nat.reduceMul, Nat.reduceLT, Nat.reduceEqDiff, reduceCtorEq, Nat.reduceLeDiff, Int.reduceLE, Int.reduceLT, Int.reduceToNat, hn, g1, g10, g11, g12, g17, g18, g19, hc, hws]
      refine ih _ _ ⟨EA, ?_, ?_⟩
      · rw [any_take hx, hx0, hy]; rfl
      · simp only [core, Nat.reduceAdd, Nat.reduceSub, Nat.reduceMul, Nat.reduceLT, Nat.reduceEqDiff, reduceCtorEq, Nat.reduceLeDiff, Int.reduceLE, Int.reduceLT, Int.reduceToNat, hn, g1, g10, g11, g12, g17, g18, g19]
    · simp only [core, Nat.reduceAdd, Nat.reduceSub, Nat.reduceMul, Nat.reduceLT, Nat.reduceEqDiff, reduceCtorEq, Nat.reduceLeDiff, Int.reduceLE, Int.reduceLT, Int.reduceToNat, hn, g1, g10, g11, g12]
      refine ⟨rfl, ?_⟩
      (repeat' apply And.intro) <;> first | rfl | trivial
  · rintro t h hc ⟨E1, hx0, hn, g1, g10, g11, g12⟩
    rw [List.take_length] at hx0
    simp only [core, Nat.reduceAdd, Nat.reduceSub, Nat.reduceMul, Nat.reduceLT, Nat.reduceEqDiff, reduceCtorEq, Nat.reduceLeDiff, Int.reduceLE, Int.reduceLT, Int.reduceToNat, s1, s2, hn, g1, g10, g11, g12, hc]
    refine ⟨E1, ?_⟩
    unfold withinF
    rw [hx0]
  · simp only [core, Nat.reduceAdd, Nat.reduceSub, Nat.reduceMul, Nat.reduceLT, Nat.reduceEqDiff, reduceCtorEq, Nat.reduceLeDiff, Int.reduceLE, Int.reduceLT, Int.reduceToNat]
    refine ⟨E0, rfl, ?_⟩
    (repeat' apply And.intro) <;> first | rfl | trivial
theorem twice_x {F : Nat → Prop} {H : AH} {m : MapD} {vo vp vb : AV} {i : Nat} (hi : i < m.buckets.length) (hm : MpAt F H m vo vp vb) (hok : OkM m) :
    WC Tryd.prog (tabOf Tryd.prog NT0) S0 41 [mpV m vo vp vb, .lit (.int .i64 i)] H fun r h' => Ext H.n H h' ∧ r = .lit (.bool (twiceF m i)) := by
  refine WC_fn Tryd.func41 rfl rfl ?_
  obtain ⟨hl, hbs, hit⟩ := hok
  unfold Sm at hl
  have s1 := hm.b.isSl
  have s2 := hm.b.lenD
  have o1 := hm.o.one
  have o2 := hm.p.one
  have o3 := hm.b.one
  have hcap : CapOk 4 vb := by obtain ⟨L, -, -, hc, -⟩ := hm.b.out; exact hc
  have hno : i ≤ m.buckets.length := by omega
  have hno2 : (i : Int) ≤ (m.buckets.length : Int) := by omega
  have hsub : IsSl RBkt F H (subSl 4 0 i vb) (m.buckets.take i) := by have := hm.b.sub (l := 0) (r := i) (by omega) hno; rw [List.drop_zero] at this; exact this
  have s3 := hsub.isSl
  have s4 : lenD (subSl 4 0 i vb) = i := by rw [hsub.lenD, List.length_take]; omega
  simp only [core, Nat.reduceAdd, Nat.reduceSub, Nat.reduceMul, Nat.reduceLT, Nat.reduceEqDiff, reduceCtorEq, Nat.reduceLeDiff, Int.reduceLE, Int.reduceLT, Int.reduceToNat, Tryd.ntmps41, mpV, o1, o2, o3, s1, s2, hcap, hno, hno2, s3, s4]
  obtain ⟨h1, hh1⟩ : ∃ h1, h1 = H.push (.cells [.lit (.int .i64 m.epoch), vo, vp, vb, .lit (.int .i64 m.leaf)] 26) := ⟨_, rfl⟩
  have E0 : Ext H.n H h1 := hh1 ▸ (Ext.refl _ _).push _ (Nat.le_refl _)
  have A0 : h1.at H.n = some (.cells [.lit (.int .i64 m.epoch), vo, vp, vb, .lit (.int .i64 m.leaf)] 26) := hh1 ▸ at_push_n _ _
  have n1 : h1.n = H.n + 1 := by rw [hh1, n_push]
  rw [← hh1]
  clear hh1
  obtain ⟨z, hz⟩ : ∃ z, m.buckets[i]? = some z := ⟨_, List.getElem?_eq_getElem hi⟩
  refine WB_for i (fun j t h => Ext h1.n h1 h ∧ (m.buckets.take j).any (fun c => c.id == z.id) = false ∧ t.n = 26 ∧ t.get 1 = .lit (.int .i64 i) ∧ t.get 2 = .ptr H.n 0 ∧ t.get 10 = subSl 4 0 i vb ∧ t.get 11 = .lit (.int .i64 i) ∧ t.get 12 = .lit (.int .i64 j)) ?_ ?_ _ _ ?_
  · rintro j t h hj hc ⟨he, hx0, hn, g1, g2, g10, g11, g12⟩ ih
    have hjl : j < m.buckets.length := by omega
    obtain ⟨y, hy⟩ : ∃ y, m.buckets[j]? = some y := ⟨_, List.getElem?_eq_getElem hjl⟩
    have hy2 : (m.buckets.take i)[j]? = some y := by rw [List.getElem?_take, if_pos hj, hy]
    have E1 : Ext H.n H h := E0.trans (he.mono (by omega))
    obtain ⟨c, hc1, hld, hld0⟩ := hsub.atE (T := tabOf Tryd.prog NT0) E1 RBkt_z hy2
    obtain ⟨ya, yw, rfl, ya1, yw1, -, -⟩ := RBkt_is.1 hc1
    obtain ⟨c, hc2, hldz, hldz0⟩ := hm.b.atE (T := tabOf Tryd.prog NT0) E1 RBkt_z hz
    obtain ⟨za, zw, rfl, -, -, -, -⟩ := RBkt_is.1 hc2
    have y1 := ya1.one
    have y2 := yw1.one
    have hws := wrap_succ hj (by omega)
    have A1 := (he.2 _ (by omega)).trans A0
    have l1 : H.n < h.n := at_lt A1
    have LA1 := ld_at (T := tabOf Tryd.prog NT0) A1
    have hbl : slB vb < h.n := by
      obtain ⟨L, h1', _, _, h3⟩ := hm.b.out
      rcases h1'.2 with ⟨rfl, rfl⟩ | ⟨b, off, cap, row, rfl, h4, h5⟩
      · have := h3.1; simp at this; omega
      · have := getR_lt h4; have := E1.1; simp only [slB]; omega
    simp only [core, Nat.reduceAdd, Nat.reduceSub, Nat.reduceMul, Nat.reduceLT, Nat.reduceEqDiff, reduceCtorEq, Nat.reduceLeDiff, Int.reduceLE, Int.reduceLT, Int.reduceToNat, s1, s2, s3, s4, hn, g1, g2, g10, g11, g12, hj, hc, hld, hld0, y1, y2, LA1, l1]
    rw [WB_regionD [0, 1, 2, 3, 4, 5, 6, 7, 8] 1205348233113403045970432 (by kernel_rfl)]
    repeat ((with_reducible refine WDM_cons ?_; simp only [dw1]; try simp only [dw2, Nat.reduceAdd, Nat.reduceMul, Nat.reduceShiftRight, Nat.reduceMod, Nat.reduceEqDiff]); simp only [core, Nat.reduceAdd, Nat.reduceSub, Nat.reduceMul, Nat.reduceLT, Nat.reduceEqDiff, reduceCtorEq, Nat.reduceLeDiff, Int.reduceLE, Int.reduceLT, Int.reduceToNat, cored, hn, g1, g2, g10, g11, g12, s1, s2, s3, s4, hi, LA1, l1, hldz, hldz0, hbl])
    refine ⟨fun hq => ?_, fun hq => ?_⟩
    · refine ⟨E1.push _ E1.1, ?_⟩
      unfold twiceF
      rw [getD_of hz, any_true' hy2 hq]
    · simp only [hws]
      refine ih _ _ ⟨he.push _ he.1, ?_, ?_⟩
      · rw [any_take hy, hx0]
        simpa using hq
      · simp only [core, Nat.reduceAdd, Nat.reduceSub, Nat.reduceMul, Nat.reduceLT, Nat.reduceEqDiff, reduceCtorEq, Nat.reduceLeDiff, Int.reduceLE, Int.reduceLT, Int.reduceToNat, hn, g1, g2, g10, g11, g12]
  · rintro t h hc ⟨he, hx0, hn, g1, g2, g10, g11, g12⟩
    simp only [core, Nat.reduceAdd, Nat.reduceSub, Nat.reduceMul, Nat.reduceLT, Nat.reduceEqDiff, reduceCtorEq, Nat.reduceLeDiff, Int.reduceLE, Int.reduceLT, Int.reduceToNat, s1, s2, s3, s4, hn, g1, g2, g10, g11, g12, hc]
    refine ⟨E0.trans (he.mono (by omega)), ?_⟩
    unfold twiceF
    rw [getD_of hz, hx0]
  · simp only [core, Nat.reduceAdd, Nat.reduceSub, Nat.reduceMul, Nat.reduceLT, Nat.reduceEqDiff, reduceCtorEq, Nat.reduceLeDiff, Int.reduceLE, Int.reduceLT, Int.reduceToNat]
    refine ⟨Ext.refl _ _, rfl, ?_⟩
    (repeat' apply And.intro) <;> first | rfl | trivial
def mayO (o : OsdD) (osd x : Int) : Bool := o.ex && o.up && decide (0 < o.weight) && decide (IntKind.i64.wrap ((hash2F x (IntKind.u32.wrap osd)).tmod 65536) < o.weight)
def mayF (m : MapD) (osd x : Int) : Bool := if 0 ≤ osd then (match m.osds[osd.toNat]? with | some o => mayO o osd x | none => false) else false
end Go.Proofs.YtkgbeihcepociaaDoor.Ex
end

section

set_option linter.unusedSimpArgs false
set_option linter.unusedVariables false
set_option maxRecDepth 10000
set_option maxHeartbeats 4000000
namespace Go.Proofs.YtkgbeihcepociaaDoor.Ex
open Go
/-! Own rows of numbers. -/
def iL (xs : List Int) : List AV := xs.map fun n => .lit (.int .i64 n)
theorem iL_len (xs : List Int) : (iL xs).length = xs.length := by simp [iL]
theorem OwnL.ints {G : Nat → Prop} {n0 : Nat} {h : AH} {v : AV} {e : TypeId} {xs : List Int} (ho : OwnL RInt G n0 h v e xs) (hne : xs ≠ []) :
    ∃ p, v = .sl p 0 xs.length (.un 1) ∧ n0 ≤ p ∧ h.at p = some (.cells (iL xs) e) ∧ ∀ x ∈ xs, I64 x := by
  obtain ⟨L, h1, h2⟩ := ho
  have hL : L.flatten = iL xs ∧ ∀ x ∈ xs, I64 x := by
    obtain ⟨e1, e2⟩ := h2
    have key : ∀ (L : List (List AV)) (xs : List Int), L.length = xs.length → (∀ (i : Nat) c x, L[i]? = some c → xs[i]? = some x → RInt.is (fun b => G b ∧ Apart v b) h c x) → L.flatten = iL xs ∧ ∀ x ∈ xs, I64 x := by
      intro L
      induction L with
      | nil => intro xs hl _; cases xs with | nil => exact ⟨rfl, by simp⟩ | cons => cases hl
      | cons a r ih =>
        intro xs hl hh
        cases xs with
        | nil => cases hl
        | cons x xs =>
          obtain ⟨i1, i2⟩ := ih xs (by simpa using hl) (fun i c y a b => hh (i + 1) c y (by simpa using a) (by simpa using b))
          obtain ⟨rfl, j2⟩ := hh 0 a x rfl rfl
          refine ⟨by rw [List.flatten_cons, i1]; rfl, fun y hy => ?_⟩
          rcases List.mem_cons.1 hy with rfl | hy
          · exact j2
          · exact i2 y hy
    exact key L xs e1 e2
  have e0 := h2.1
  rcases h1.2 with ⟨rfl, rfl⟩ | ⟨p, rfl, hp, hat⟩
  · exact absurd (List.eq_nil_of_length_eq_zero (by rw [← e0]; rfl)) hne
  · exact ⟨p, by rw [e0]; rfl, hp, by rw [hat, hL.1], hL.2⟩
theorem OwnL.ofInts {G : Nat → Prop} {n0 : Nat} {h : AH} {e : TypeId} {xs : List Int} {p : Nat} (hp : n0 ≤ p) (hat : h.at p = some (.cells (iL xs) e)) (hx : ∀ x ∈ xs, I64 x) : OwnL RInt G n0 h (.sl p 0 xs.length (.un 1)) e xs := by
  refine ⟨xs.map fun n => [.lit (.int .i64 n)], ⟨?_, .inr ⟨p, ?_, hp, ?_⟩⟩, ?_, fun i c x h1 h2 => ?_⟩
  · intro c hc; obtain ⟨n, _, rfl⟩ := List.mem_map.1 hc; rfl
  · rw [List.length_map]; rfl
  · rw [hat]
    congr 2
    unfold iL
    clear hat hx
    induction xs with
    | nil => rfl
    | cons a r ih => simp only [List.map_cons, List.flatten_cons, ← ih]; rfl
  · simp
  · rw [List.getElem?_map, h2] at h1
    simp only [Option.map_some, Option.some.injEq] at h1
    exact ⟨h1.symm, hx x (List.mem_of_getElem? h2)⟩
theorem ldL_ints {T : TT} {e : TypeId} (hA : isAggT T e = some false) (hS : sizeT T e = some 1) {xs : List Int} {i : Nat} (hi : i < xs.length) : ldL T e (iL xs) i = some (.lit (.int .i64 (xs.getD i 0))) := by
  unfold ldL
  rw [hA, hS]
  simp only [iL, List.getElem?_map, getD_some' 0 hi, Option.map_some]
theorem put_ints {xs : List Int} {i : Nat} {x : Int} (hi : i < xs.length) : put (iL xs) i [.lit (.int .i64 x)] = some (iL (xs.set i x)) := by
  unfold put
  rw [if_pos (by rw [iL_len]; exact hi)]
  congr 1
  unfold iL
  rw [List.map_set, List.set_eq_take_append_cons_drop, if_pos (by rw [List.length_map]; exact hi)]
  simp
def posF (x : Int) (l : List Int) : Nat → Nat
  | 0 => 0
  | n + 1 => if l.getD n 0 < x then posF x l n else n + 1
def insD (x : Int) (l : List Int) : List Int := l.take (posF x l l.length) ++ x :: l.drop (posF x l l.length)
def rootsN (m : MapD) : Nat → List Int
  | 0 => []
  | i + 1 => if withinF m (m.buckets.getD i bkt0).id || twiceF m i then rootsN m i else insD (m.buckets.getD i bkt0).id (rootsN m i)
def rootsR (m : MapD) : List Int := rootsN m m.buckets.length
theorem posF_le (x : Int) (l : List Int) : ∀ n, posF x l n ≤ n
  | 0 => Nat.le_refl 0
  | n + 1 => by unfold posF; split; exact Nat.le_succ_of_le (posF_le x l n); exact Nat.le_refl _
theorem insD_len (x : Int) (l : List Int) : (insD x l).length = l.length + 1 := by
  have := posF_le x l l.length
  unfold insD
  simp
  omega
theorem rootsN_len (m : MapD) : ∀ n, (rootsN m n).length ≤ n
  | 0 => Nat.le_refl 0
  | n + 1 => by
    have := rootsN_len m n
    unfold rootsN
    split
    · omega
    · rw [insD_len]; omega
theorem hole_get {l : List Int} {a b : Nat} {w : Int} (hab : b < a) (hal : a ≤ l.length) : (l.take a ++ w :: l.drop a).getD b 0 = l.getD b 0 := by
  rw [List.getD_eq_getElem?_getD, List.getD_eq_getElem?_getD, List.getElem?_append_left (by rw [List.length_take]; omega), List.getElem?_take, if_pos hab]
theorem hole_len {l : List Int} {a : Nat} {w : Int} (hal : a ≤ l.length) : (l.take a ++ w :: l.drop a).length = l.length + 1 := by simp; omega
theorem hole_set {l : List Int} {a : Nat} {w v : Int} (hal : a ≤ l.length) : (l.take a ++ w :: l.drop a).set a v = l.take a ++ v :: l.drop a := by
  have e : (l.take a).length = a := by rw [List.length_take]; omega
  rw [List.set_append_right _ _ (by omega), e, Nat.sub_self]
  rfl
theorem hole_move {l : List Int} {b : Nat} (hb : b < l.length) : l.take (b + 1) ++ l.getD b 0 :: l.drop (b + 1) = l.take b ++ l.getD b 0 :: l.drop b := by
  have e1 : l.take (b + 1) = l.take b ++ [l.getD b 0] := by rw [List.take_add_one, getD_some' 0 hb]; rfl
  have e2 : l.drop b = l.getD b 0 :: l.drop (b + 1) := by rw [List.drop_eq_getElem_cons hb, List.getD_eq_getElem?_getD, List.getElem?_eq_getElem hb]; rfl
  rw [e1, e2, List.append_assoc]
  rfl
theorem rootsR_x {F : Nat → Prop} {H : AH} {m : MapD} {vo vp vb : AV} (hm : MpAt F H m vo vp vb) (hok : OkM m) :
    WC Tryd.prog (tabOf Tryd.prog NT0) S0 23 [mpV m vo vp vb] H fun r h' => Ext H.n H h' ∧ IsSl RInt (fun b => H.n ≤ b) h' r (rootsR m) := by
  refine WC_fn Tryd.func23 rfl rfl ?_
  obtain ⟨hl, hbs, hit⟩ := id hok
  unfold Sm at hl
  have s1 := hm.b.isSl
  have s2 := hm.b.lenD
  have o1 := hm.o.one
  have o2 := hm.p.one
  have o3 := hm.b.one
  simp only [core, Nat.reduceAdd, Nat.reduceSub, Nat.reduceMul, Nat.reduceLT, Nat.reduceEqDiff, reduceCtorEq, Nat.reduceLeDiff, Int.reduceLE, Int.reduceLT, Int.reduceToNat, Tryd.ntmps23, mpV, o1, o2, o3, s1, s2]
  obtain ⟨h1, hh1⟩ : ∃ h1, h1 = H.push (.cells [.lit (.int .i64 m.epoch), vo, vp, vb, .lit (.int .i64 m.leaf)] 26) := ⟨_, rfl⟩
  have E0 : Ext H.n H h1 := hh1 ▸ (Ext.refl _ _).push _ (Nat.le_refl _)
  have A0 : h1.at H.n = some (.cells [.lit (.int .i64 m.epoch), vo, vp, vb, .lit (.int .i64 m.leaf)] 26) := hh1 ▸ at_push_n _ _
  have n1 : h1.n = H.n + 1 := by rw [hh1, n_push]
  rw [← hh1]
  clear hh1
  refine WB_for m.buckets.length (fun i t h => ∃ o, OwnL RInt (fun _ => False) h1.n h o 3 (rootsN m i) ∧ Ext h1.n h1 h ∧ t.n = 60 ∧ t.get 1 = .ptr H.n 0 ∧ t.get 3 = o ∧ t.get 8 = vb ∧ t.get 9 = .lit (.int .i64 m.buckets.length) ∧ t.get 10 = .lit (.int .i64 i)) ?_ ?_ _ _ ?_
  · rintro i t h hlt hc ⟨o, ho, he, hn, g1, g3, g8, g9, g10⟩ ih
    obtain ⟨x, hx⟩ : ∃ x, m.buckets[i]? = some x := ⟨_, List.getElem?_eq_getElem hlt⟩
    have E1 : Ext H.n H h := E0.trans (he.mono (by omega))
    obtain ⟨c, hc1, hld, hld0⟩ := hm.b.atE (T := tabOf Tryd.prog NT0) E1 RBkt_z hx
    obtain ⟨va, vw, rfl, ha, hw, i1, i2⟩ := RBkt_is.1 hc1
    have a1 := ha.one
    have w1 := hw.one
    have hws := wrap_succ hlt (by omega)
    have A1 := (he.2 _ (by omega)).trans A0
    have l1 : H.n < h.n := at_lt A1
    have LA1 := ld_at (T := tabOf Tryd.prog NT0) A1
    have hstep : rootsN m (i + 1) = if withinF m x.id || twiceF m i then rootsN m i else insD x.id (rootsN m i) := by rw [rootsN, getD_of hx]
    simp only [core, Nat.reduceAdd, Nat.reduceSub, Nat.reduceMul, Nat.reduceLT, Nat.reduceEqDiff, reduceCtorEq, Nat.reduceLeDiff, Int.reduceLE, Int.reduceLT, Int.reduceToNat, s1, s2, hn, g1, g3, g8, g9, g10, hlt, hc, hld, hld0, a1, w1, LA1, l1]
    obtain ⟨hA, hhA⟩ : ∃ hA, hA = h.push (.cells [.lit (.int .i64 x.id), .lit (.int .i64 x.kind), va, vw] 47) := ⟨_, rfl⟩
    have EA : Ext h.n h hA := hhA ▸ (Ext.refl _ _).push _ (Nat.le_refl _)
    have PA : hA.at h.n = some (.cells [.lit (.int .i64 x.id), .lit (.int .i64 x.kind), va, vw] 47) := hhA ▸ at_push_n h _
    rw [← hhA]
    clear hhA
    have E2 : Ext H.n H hA := E1.step EA
    refine (within_x x.id (hm.ext E2 (Nat.le_refl _)) hok).mono ?_
    rintro _ h3 ⟨e3, rfl⟩
    have E3 := E2.step e3
    have P3 := (e3.2 _ (at_lt PA)).trans PA
    have l3 := at_lt P3
    have LP3 := ld_at (T := tabOf Tryd.prog NT0) P3
    have A3 := (e3.2 _ (by have := EA.1; omega)).trans ((EA.2 _ l1).trans A1)
    have l4 := at_lt A3
    have LA3 := ld_at (T := tabOf Tryd.prog NT0) A3
    have he3 : Ext h1.n h1 h3 := (he.step EA).step e3
    have ho3 := (ho.ext EA (Nat.le_refl _)).ext e3 (Nat.le_refl _)
    have hap : Apart o h.n := ho.apart (Nat.le_refl _)
    cases hwi : withinF m x.id with
    | true =>
      simp only [core, Nat.reduceAdd, Nat.reduceSub, Nat.reduceMul, Nat.reduceLT, Nat.reduceEqDiff, reduceCtorEq, Nat.reduceLeDiff, Int.reduceLE, Int.reduceLT, Int.reduceToNat, hn, g1, g3, g8, g9, g10, hc, hws]
      refine ih _ _ ⟨o, ?_, he3, ?_⟩
      · rw [hstep, hwi]; exact ho3
      · simp only [core, Nat.reduceAdd, Nat.reduceSub, Nat.reduceMul, Nat.reduceLT, Nat.reduceEqDiff, reduceCtorEq, Nat.reduceLeDiff, Int.reduceLE, Int.reduceLT, Int.reduceToNat, hn, g1, g3, g8, g9, g10]
    | false =>
    simp only [core, Nat.reduceAdd, Nat.reduceSub, Nat.reduceMul, Nat.reduceLT, Nat.reduceEqDiff, reduceCtorEq, Nat.reduceLeDiff, Int.reduceLE, Int.reduceLT, Int.reduceToNat, hn, g1, g3, g8, g9, g10, hc, LA3, l4]
    refine (twice_x hlt (hm.ext E3 (Nat.le_refl _)) hok).mono ?_
    rintro _ h4 ⟨e4, rfl⟩
    have E4 := E3.step e4
    have P4 := (e4.2 _ l3).trans P3
    have l5 := at_lt P4
    have LP4 := ld_at (T := tabOf Tryd.prog NT0) P4
    have he4 : Ext h1.n h1 h4 := he3.step e4
    have ho4 := ho3.ext e4 (Nat.le_refl _)
    have b2 := ho4.isSl
    have b3 := ho4.lenD
    simp only [core, Nat.reduceAdd, Nat.reduceSub, Nat.reduceMul, Nat.reduceLT, Nat.reduceEqDiff, reduceCtorEq, Nat.reduceLeDiff, Int.reduceLE, Int.reduceLT, Int.reduceToNat, hn, g1, g3, g8, g9, g10, hc]
    refine ⟨fun htw => ?_, fun htw => ?_⟩
    · simp only [hws]
      refine ih _ _ ⟨o, ?_, he4, ?_⟩
      · rw [hstep, hwi, htw]; exact ho4
      · simp only [core, Nat.reduceAdd, Nat.reduceSub, Nat.reduceMul, Nat.reduceLT, Nat.reduceEqDiff, reduceCtorEq, Nat.reduceLeDiff, Int.reduceLE, Int.reduceLT, Int.reduceToNat, hn, g1, g3, g8, g9, g10]
    rw [hwi, htw] at hstep
    have hstep : rootsN m (i + 1) = insD x.id (rootsN m i) := hstep
    have hlr := rootsN_len m i
    simp only [core, Nat.reduceAdd, Nat.reduceSub, Nat.reduceMul, Nat.reduceLT, Nat.reduceEqDiff, reduceCtorEq, Nat.reduceLeDiff, Int.reduceLE, Int.reduceLT, Int.reduceToNat, hn, g1, g3, g8, g9, g10, hc, b2, b3, LP4, l5]
    obtain ⟨h6, hh6⟩ : ∃ h6, h6 = h4.push (.cells [.lit (.int .i64 x.id)] 3) := ⟨_, rfl⟩
    have e6 : Ext h4.n h4 h6 := hh6 ▸ (Ext.refl _ _).push _ (Nat.le_refl _)
    have A6 : h6.at h4.n = some (.cells [.lit (.int .i64 x.id)] 3) := hh6 ▸ at_push_n h4 _
    have n6 := at_lt A6
    rw [← hh6]
    have ho6 := ho4.ext e6 (Nat.le_refl _)
    have q0 := he4.1
    refine WOp_app (ho6.snoc (by kernel_rfl) (by kernel_rfl) (by kernel_rfl) (zv := .lit (.int .i64 0)) (by kernel_rfl) (by' := 8) (by kernel_rfl) rfl (by decide) (by decide) A6 (y := x.id) ⟨rfl, i1⟩ (by omega) (by omega) (by omega)) ?_
    rintro s' h7 ⟨o7, e7, k7⟩
    obtain ⟨k8, k9⟩ := k7 h.n (by omega) hap
    have P7 := k8.trans ((e6.2 _ l5).trans P4)
    have he7 : Ext h1.n h1 h7 := (he4.step e6).trans e7
    obtain ⟨p, rfl, hp, hat, hI⟩ := o7.ints (by simp)
    have hpn : p ≠ h.n := fun hh => k9 _ _ _ (by rw [hh])
    simp only [core, Nat.reduceAdd, Nat.reduceSub, Nat.reduceMul, Nat.reduceLT, Nat.reduceEqDiff, reduceCtorEq, Nat.reduceLeDiff, Int.reduceLE, Int.reduceLT, Int.reduceToNat, hn, g1, g3, g8, g9, g10, hws]
    have hIl : ∀ y ∈ rootsN m i, I64 y := fun y hy => hI y (List.mem_append.2 (.inl hy))
    have hll : (rootsN m i ++ [x.id]).length = (rootsN m i).length + 1 := by simp
    rw [hll]
    refine WB_ind (fun (a : Nat) t h' => ∃ w, h'.at p = some (.cells (iL ((rootsN m i).take a ++ w :: (rootsN m i).drop a)) 3) ∧ I64 w ∧ a ≤ (rootsN m i).length ∧ posF x.id (rootsN m i) a = posF x.id (rootsN m i) (rootsN m i).length ∧ Ext h1.n h1 h' ∧ h'.at h.n = some (.cells [.lit (.int .i64 x.id), .lit (.int .i64 x.kind), va, vw] 47) ∧ t.n = 60 ∧ t.get 1 = .ptr H.n 0 ∧ t.get 3 = .sl p 0 ((rootsN m i).length + 1) (.un 1) ∧ t.get 5 = .ptr h.n 0 ∧ t.get 6 = .lit (.int .i64 a) ∧ t.get 8 = vb ∧ t.get 9 = .lit (.int .i64 m.buckets.length) ∧ t.get 10 = .lit (.int .i64 i)) (fun a => a) ?_ (rootsN m i).length _ _ ?_
    · rintro a t h8 ⟨w, W1, hw64, hal, hpos, he8, P8, hn, g1, g3, g5, g6, g8, g9, g10⟩ ih2
      have LW := ld_at (T := tabOf Tryd.prog NT0) W1
      have l8 := at_lt P8
      have LP8 := ld_at (T := tabOf Tryd.prog NT0) P8
      have qs1 : isSl (.sl p 0 ((rootsN m i).length + 1) (.un 1)) = true := rfl
      have qs2 : lenD (.sl p 0 ((rootsN m i).length + 1) (.un 1)) = (rootsN m i).length + 1 := rfl
      have qs3 : slB (.sl p 0 ((rootsN m i).length + 1) (.un 1)) = p := rfl
      have qs4 : slO (.sl p 0 ((rootsN m i).length + 1) (.un 1)) = 0 := rfl
      have lp := at_lt W1
      cases a with
      | zero =>
        have c0 : ((0 : Int) < ((0 : Nat) : Int)) = False := by decide
        have e1 : 0 < (rootsN m i).length + 1 := by omega
        have hput := put_ints (xs := (rootsN m i).take 0 ++ w :: (rootsN m i).drop 0) (i := 0) (x := x.id) (by rw [hole_len hal]; omega)
        rw [hole_set hal] at hput
        have hst : insD x.id (rootsN m i) = (rootsN m i).take 0 ++ x.id :: (rootsN m i).drop 0 := by unfold insD; rw [← hpos]; rfl
        simp only [corem, WB_cond_s, put, ldL, WB_label, List.nil_append, List.drop_zero, List.take_zero, Nat.reduceAdd, Nat.reduceSub, Nat.reduceMul, Nat.reduceLT, Nat.reduceEqDiff, reduceCtorEq, Nat.reduceLeDiff, Int.reduceLE, Int.reduceLT, Int.reduceToNat, -put, hn, g1, g3, g5, g6, g8, g9, g10]
        rw [WB_regionD [0, 1, 2, 3, 4, 5, 6, 7, 8, 9, 10, 11] 11146287966983201190429055796073810005856256 (by kernel_rfl)]
        repeat (first | ((with_reducible refine WDM_cons ?_; simp only [dw1]; try simp only [dw2, Nat.reduceAdd, Nat.reduceMul, Nat.reduceShiftRight, Nat.reduceMod, Nat.reduceEqDiff]); simp only [corem, WB_cond_s, put, ldL, WB_label, List.nil_append, List.drop_zero, List.take_zero, Nat.reduceAdd, Nat.reduceSub, Nat.reduceMul, Nat.reduceLT, Nat.reduceEqDiff, reduceCtorEq, Nat.reduceLeDiff, Int.reduceLE, Int.reduceLT, Int.reduceToNat, cored, -put, -List.take_zero, -List.drop_zero, -List.nil_append, hn, g1, g3, g5, g6, g8, g9, g10, c0, LP8, l8, qs1, qs2, qs3, qs4, e1, W1, lp, hput, hws]) | simp only [corem, WB_cond_s, put, ldL, WB_label, List.nil_append, List.drop_zero, List.take_zero, Nat.reduceAdd, Nat.reduceSub, Nat.reduceMul, Nat.reduceLT, Nat.reduceEqDiff, reduceCtorEq, Nat.reduceLeDiff, Int.reduceLE, Int.reduceLT, Int.reduceToNat, cored, -put, -List.take_zero, -List.drop_zero, -List.nil_append, hn, g1, g3, g5, g6, g8, g9, g10, c0, LP8, l8, qs1, qs2, qs3, qs4, e1, W1, lp, hput, hws])
        refine ih _ _ ⟨.sl p 0 ((rootsN m i).length + 1) (.un 1), ?_, he8.put _ hp, ?_⟩
        · rw [hstep, hst, ← hole_len (w := x.id) hal]
          refine OwnL.ofInts hp (at_put_same _ lp) ?_
          intro y hy
          rcases List.mem_append.1 hy with hy | hy
          · exact hIl y (List.mem_of_mem_take hy)
          · rcases List.mem_cons.1 hy with rfl | hy
            · exact i1
            · exact hIl y (List.mem_of_mem_drop hy)
        · simp only [core, Nat.reduceAdd, Nat.reduceSub, Nat.reduceMul, Nat.reduceLT, Nat.reduceEqDiff, reduceCtorEq, Nat.reduceLeDiff, Int.reduceLE, Int.reduceLT, Int.reduceToNat, hn, g1, g3, g5, g6, g8, g9, g10]
      | succ b =>
        have c0 : ((0 : Int) < ((b + 1 : Nat) : Int)) = True := by simp only [eq_iff_iff, iff_true]; omega
        have hwb : IntKind.i64.wrap (((b + 1 : Nat) : Int) - 1) = (b : Int) := (wrap_in (by omega) (by omega)).trans (by omega)
        have hb1 : b < (rootsN m i).length := by omega
        have e0 : b < (rootsN m i).length + 1 := by omega
        have e1 : b + 1 < (rootsN m i).length + 1 := by omega
        have hLb : ldL (tabOf Tryd.prog NT0) 3 (iL ((rootsN m i).take (b + 1) ++ w :: (rootsN m i).drop (b + 1))) b = some (.lit (.int .i64 ((rootsN m i).getD b 0))) := by
          rw [ldL_ints (by kernel_rfl) (by kernel_rfl) (by rw [hole_len hal]; omega), hole_get (by omega) hal]
        have hput := put_ints (xs := (rootsN m i).take (b + 1) ++ w :: (rootsN m i).drop (b + 1)) (i := b + 1) (x := x.id) (by rw [hole_len hal]; omega)
        rw [hole_set hal] at hput
        have hput2 := put_ints (xs := (rootsN m i).take (b + 1) ++ w :: (rootsN m i).drop (b + 1)) (i := b + 1) (x := (rootsN m i).getD b 0) (by rw [hole_len hal]; omega)
        rw [hole_set hal, hole_move hb1] at hput2
        simp only [corem, WB_cond_s, put, ldL, WB_label, List.nil_append, List.drop_zero, List.take_zero, Nat.reduceAdd, Nat.reduceSub, Nat.reduceMul, Nat.reduceLT, Nat.reduceEqDiff, reduceCtorEq, Nat.reduceLeDiff, Int.reduceLE, Int.reduceLT, Int.reduceToNat, -put, hn, g1, g3, g5, g6, g8, g9, g10]
        rw [WB_regionD [0, 1, 2, 3, 4, 5, 6, 7, 8, 9, 10, 11] 11146287966983201190429055796073810005856256 (by kernel_rfl)]
        repeat (first | ((with_reducible refine WDM_cons ?_; simp only [dw1]; try simp only [dw2, Nat.reduceAdd, Nat.reduceMul, Nat.reduceShiftRight, Nat.reduceMod, Nat.reduceEqDiff]); simp only [corem, WB_cond_s, put, ldL, WB_label, List.nil_append, List.drop_zero, List.take_zero, Nat.reduceAdd, Nat.reduceSub, Nat.reduceMul, Nat.reduceLT, Nat.reduceEqDiff, reduceCtorEq, Nat.reduceLeDiff, Int.reduceLE, Int.reduceLT, Int.reduceToNat, cored, -put, -ldL, hn, g1, g3, g5, g6, g8, g9, g10, c0, hwb, qs1, qs2, qs3, qs4, e0, e1, LW, hLb, LP8, l8, W1, lp, hput, hput2, hws]) | simp only [corem, WB_cond_s, put, ldL, WB_label, List.nil_append, List.drop_zero, List.take_zero, Nat.reduceAdd, Nat.reduceSub, Nat.reduceMul, Nat.reduceLT, Nat.reduceEqDiff, reduceCtorEq, Nat.reduceLeDiff, Int.reduceLE, Int.reduceLT, Int.reduceToNat, cored, -put, -ldL, hn, g1, g3, g5, g6, g8, g9, g10, c0, hwb, qs1, qs2, qs3, qs4, e0, e1, LW, hLb, LP8, l8, W1, lp, hput, hput2, hws])
        rw [posF] at hpos
        refine ⟨fun hq => ?_, fun hq => ?_⟩
        · rw [if_pos (of_decide_eq_true hq)] at hpos
          refine ih2 b _ _ ⟨(rootsN m i).getD b 0, at_put_same _ lp, hIl _ (List.mem_of_getElem? (getD_some' 0 hb1)), by omega, hpos, he8.put _ hp, (at_put_ne _ hpn).trans P8, ?_⟩ (by omega)
          simp only [core, Nat.reduceAdd, Nat.reduceSub, Nat.reduceMul, Nat.reduceLT, Nat.reduceEqDiff, reduceCtorEq, Nat.reduceLeDiff, Int.reduceLE, Int.reduceLT, Int.reduceToNat, hn, g1, g3, g5, g6, g8, g9, g10]
        · rw [if_neg (of_decide_eq_false hq)] at hpos
          have hst : insD x.id (rootsN m i) = (rootsN m i).take (b + 1) ++ x.id :: (rootsN m i).drop (b + 1) := by unfold insD; rw [← hpos]
          refine ih _ _ ⟨.sl p 0 ((rootsN m i).length + 1) (.un 1), ?_, he8.put _ hp, ?_⟩
          · rw [hstep, hst, ← hole_len (w := x.id) hal]
            refine OwnL.ofInts hp (at_put_same _ lp) ?_
            intro y hy
            rcases List.mem_append.1 hy with hy | hy
            · exact hIl y (List.mem_of_mem_take hy)
            · rcases List.mem_cons.1 hy with rfl | hy
              · exact i1
              · exact hIl y (List.mem_of_mem_drop hy)
          · simp only [core, Nat.reduceAdd, Nat.reduceSub, Nat.reduceMul, Nat.reduceLT, Nat.reduceEqDiff, reduceCtorEq, Nat.reduceLeDiff, Int.reduceLE, Int.reduceLT, Int.reduceToNat, hn, g1, g3, g5, g6, g8, g9, g10]
    · refine ⟨x.id, ?_, i1, Nat.le_refl _, rfl, he7, P7, ?_⟩
      · rw [List.take_length, List.drop_length]; exact hat
      · simp only [core, Nat.reduceAdd, Nat.reduceSub, Nat.reduceMul, Nat.reduceLT, Nat.reduceEqDiff, reduceCtorEq, Nat.reduceLeDiff, Int.reduceLE, Int.reduceLT, Int.reduceToNat, hn, g1, g3, g8, g9, g10]
  · rintro t h hc ⟨o, ho, he, hn, g1, g3, g8, g9, g10⟩
    simp only [core, Nat.reduceAdd, Nat.reduceSub, Nat.reduceMul, Nat.reduceLT, Nat.reduceEqDiff, reduceCtorEq, Nat.reduceLeDiff, Int.reduceLE, Int.reduceLT, Int.reduceToNat, s1, s2, hn, g1, g3, g8, g9, g10, hc]
    exact ⟨E0.trans (he.mono (by omega)), ho.toSl (fun _ h => h.elim) (fun b hb => by omega)⟩
  · refine ⟨_, OwnL.nil, Ext.refl _ _, ?_⟩
    simp only [core, Nat.reduceAdd, Nat.reduceSub, Nat.reduceMul, Nat.reduceLT, Nat.reduceEqDiff, reduceCtorEq, Nat.reduceLeDiff, Int.reduceLE, Int.reduceLT, Int.reduceToNat]
    (repeat' apply And.intro) <;> first | rfl | trivial
end Go.Proofs.YtkgbeihcepociaaDoor.Ex
end

section

set_option linter.unusedSimpArgs false
set_option linter.unusedVariables false
set_option maxRecDepth 10000
set_option maxHeartbeats 4000000
namespace Go.Proofs.YtkgbeihcepociaaDoor.Ex
open Go
theorem getD_set {L : List Int} {i k : Nat} {x : Int} (hi : i < L.length) : (L.set i x).getD k 0 = if k = i then x else L.getD k 0 := by
  rw [List.getD_eq_getElem?_getD, List.getElem?_set]
  by_cases h : i = k
  · subst h; simp [hi]
  · rw [if_neg h, if_neg (fun hh => h hh.symm), List.getD_eq_getElem?_getD]
theorem reverse_x {H : AH} {p : Nat} {xs : List Int} (hat : H.at p = some (.cells (iL xs) 3)) (hl : xs.length < 2 ^ 62) :
    WC Tryd.prog (tabOf Tryd.prog NT0) S0 37 [.sl p 0 xs.length (.un 1)] H fun r h' => h'.at p = some (.cells (iL xs.reverse) 3) ∧ h'.n = H.n ∧ ∀ b, b ≠ p → h'.at b = H.at b := by
  refine WC_fn Tryd.func37 rfl rfl ?_
  obtain ⟨n, hn⟩ : ∃ n, n = xs.length := ⟨_, rfl⟩
  rw [← hn]
  have qs1 : isSl (.sl p 0 n (.un 1)) = true := rfl
  have qs2 : lenD (.sl p 0 n (.un 1)) = n := rfl
  have qs3 : slB (.sl p 0 n (.un 1)) = p := rfl
  have qs4 : slO (.sl p 0 n (.un 1)) = 0 := rfl
  have hw0 : IntKind.i64.wrap ((n : Int) - 1) = (n : Int) - 1 - ((0 : Nat) : Int) := (wrap_in (by omega) (by omega)).trans (by omega)
  simp only [core, Nat.reduceAdd, Nat.reduceSub, Nat.reduceMul, Nat.reduceLT, Nat.reduceEqDiff, reduceCtorEq, Nat.reduceLeDiff, Int.reduceLE, Int.reduceLT, Int.reduceToNat, Tryd.ntmps37, qs1, qs2, hw0]
  refine WB_ind (fun (i : Nat) t h => ∃ L, h.at p = some (.cells (iL L) 3) ∧ L.length = n ∧ (∀ k, k < n → L.getD k 0 = if k < i ∨ n < k + i + 1 then xs.getD (n - 1 - k) 0 else xs.getD k 0) ∧ h.n = H.n ∧ (∀ b, b ≠ p → h.at b = H.at b) ∧ i ≤ n ∧ t.n = 28 ∧ t.get 0 = .sl p 0 n (.un 1) ∧ t.get 2 = .lit (.int .i64 i) ∧ t.get 3 = .lit (.int .i64 ((n : Int) - 1 - (i : Int)))) (fun i => n - i) ?_ 0 _ _ ?_
  · rintro i t h ⟨L, W1, hL, hk, hhn, hkp, hin, hn, g0, g2, g3⟩ ih
    by_cases hlt : (i : Int) < (n : Int) - 1 - (i : Int)
    · obtain ⟨j, hj⟩ : ∃ j : Nat, (n : Int) - 1 - (i : Int) = (j : Int) := ⟨n - 1 - i, by omega⟩
      have hij : i < j := by omega
      have hjn : j < n := by omega
      have hin' : i < n := by omega
      have hji : n = i + j + 1 := by omega
      have hlt2 : ((i : Int) < (j : Int)) = True := by simp only [eq_iff_iff, iff_true]; omega
      rw [hj] at g3
      have hws : IntKind.i64.wrap ((i : Int) + 1) = ((i + 1 : Nat) : Int) := wrap_succ hin' (by omega)
      have hwj : IntKind.i64.wrap ((j : Int) - 1) = (n : Int) - 1 - ((i + 1 : Nat) : Int) := (wrap_in (by omega) (by omega)).trans (by omega)
      have lp := at_lt W1
      have LW := ld_at (T := tabOf Tryd.prog NT0) W1
      have hLj := ldL_ints (T := tabOf Tryd.prog NT0) (e := 3) (by kernel_rfl) (by kernel_rfl) (xs := L) (i := j) (by omega)
      have hLi := ldL_ints (T := tabOf Tryd.prog NT0) (e := 3) (by kernel_rfl) (by kernel_rfl) (xs := L) (i := i) (by omega)
      have hp1 := put_ints (xs := L) (i := i) (x := L.getD j 0) (by omega)
      have hp2 := put_ints (xs := L.set i (L.getD j 0)) (i := j) (x := L.getD i 0) (by rw [List.length_set]; omega)
      simp only [corem, WB_cond_s, put, ldL, WB_label, List.nil_append, List.drop_zero, List.take_zero, Nat.reduceAdd, Nat.reduceSub, Nat.reduceMul, Nat.reduceLT, Nat.reduceEqDiff, reduceCtorEq, Nat.reduceLeDiff, Int.reduceLE, Int.reduceLT, Int.reduceToNat, -put, -ldL, hn, g0, g2, g3, hlt2]
      rw [WB_regionD [0, 1, 2, 3, 4, 5, 6, 7, 8, 9, 10, 11, 12, 13, 14, 15] 57894719459764238329548227498075550650561006036747800846190911987956708278272 (by kernel_rfl)]
      repeat (first | ((with_reducible refine WDM_cons ?_; simp only [dw1]; try simp only [dw2, Nat.reduceAdd, Nat.reduceMul, Nat.reduceShiftRight, Nat.reduceMod, Nat.reduceEqDiff]); simp only [corem, WB_cond_s, put, ldL, WB_label, List.nil_append, List.drop_zero, List.take_zero, Nat.reduceAdd, Nat.reduceSub, Nat.reduceMul, Nat.reduceLT, Nat.reduceEqDiff, reduceCtorEq, Nat.reduceLeDiff, Int.reduceLE, Int.reduceLT, Int.reduceToNat, cored, -put, -ldL, hn, g0, g2, g3, qs1, qs2, qs3, qs4, hin', hjn, LW, hLj, hLi, W1, lp, hp1, hp2, hws, hwj]) | simp only [corem, WB_cond_s, put, ldL, WB_label, List.nil_append, List.drop_zero, List.take_zero, Nat.reduceAdd, Nat.reduceSub, Nat.reduceMul, Nat.reduceLT, Nat.reduceEqDiff, reduceCtorEq, Nat.reduceLeDiff, Int.reduceLE, Int.reduceLT, Int.reduceToNat, cored, -put, -ldL, hn, g0, g2, g3, qs1, qs2, qs3, qs4, hin', hjn, LW, hLj, hLi, W1, lp, hp1, hp2, hws, hwj])
      refine ih (i + 1) _ _ ⟨(L.set i (L.getD j 0)).set j (L.getD i 0), at_put_same _ (by rw [n_put]; exact lp), by simp [hL], fun k hkn => ?_, by rw [n_put, n_put]; exact hhn, fun b hb => by rw [at_put_ne _ (Ne.symm hb), at_put_ne _ (Ne.symm hb)]; exact hkp b hb, by omega, ?_⟩ (by omega)
      · rw [getD_set (by rw [List.length_set]; omega), getD_set (by omega)]
        have q1 := hk i hin'
        have q2 := hk j hjn
        have q3 := hk k hkn
        rw [if_neg (by omega)] at q1 q2
        by_cases c1 : k = j
        · subst c1
          rw [if_pos rfl, if_pos (by omega), q1]
          congr 1
          omega
        · rw [if_neg c1]
          by_cases c2 : k = i
          · subst c2
            rw [if_pos rfl, if_pos (by omega), q2]
            congr 1
            omega
          · rw [if_neg c2, q3]
            by_cases c3 : k < i ∨ n < k + i + 1
            · rw [if_pos c3, if_pos (by omega)]
            · rw [if_neg c3, if_neg (by omega)]
      · simp only [core, Nat.reduceAdd, Nat.reduceSub, Nat.reduceMul, Nat.reduceLT, Nat.reduceEqDiff, reduceCtorEq, Nat.reduceLeDiff, Int.reduceLE, Int.reduceLT, Int.reduceToNat, hn, g0, g2, g3]
    · have hlt2 : ((i : Int) < (n : Int) - 1 - (i : Int)) = False := by simp only [eq_iff_iff, iff_false]; exact hlt
      simp only [core, Nat.reduceAdd, Nat.reduceSub, Nat.reduceMul, Nat.reduceLT, Nat.reduceEqDiff, reduceCtorEq, Nat.reduceLeDiff, Int.reduceLE, Int.reduceLT, Int.reduceToNat, hn, g0, g2, g3, hlt2]
      refine ⟨Or.inl trivial, ?_, hhn, hkp⟩
      rw [W1]
      congr 3
      refine List.ext_getElem (by rw [List.length_reverse]; omega) fun k h1 h2 => ?_
      have q := hk k (by omega)
      rw [List.getElem_reverse]
      rw [List.getD_eq_getElem?_getD, List.getElem?_eq_getElem h1] at q
      simp only [Option.getD_some] at q
      rw [q]
      have hx : xs.getD (n - 1 - k) 0 = xs[xs.length - 1 - k]'(by omega) := by
        rw [show n - 1 - k = xs.length - 1 - k by omega, List.getD_eq_getElem?_getD, List.getElem?_eq_getElem (by omega)]
        rfl
      split
      · exact hx
      · rw [← hx]
        congr 1
        omega
  · refine ⟨xs, hat, hn.symm, fun k hk => ?_, rfl, fun _ _ => rfl, Nat.zero_le _, ?_⟩
    · rw [if_neg (by omega)]
    · simp only [core, Nat.reduceAdd, Nat.reduceSub, Nat.reduceMul, Nat.reduceLT, Nat.reduceEqDiff, reduceCtorEq, Nat.reduceLeDiff, Int.reduceLE, Int.reduceLT, Int.reduceToNat]
      (repeat' apply And.intro) <;> first | rfl | trivial
end Go.Proofs.YtkgbeihcepociaaDoor.Ex
end

section

set_option linter.unusedSimpArgs false
set_option linter.unusedVariables false
set_option maxRecDepth 10000
set_option maxHeartbeats 4000000
namespace Go.Proofs.YtkgbeihcepociaaDoor.Ex
open Go
theorem good_bkt {m : MapD} (hg : goodF m = true) {id : Int} {b : BktD} (hb : bucketF m id = some b) :
    b ∈ m.buckets ∧ b.id = id ∧ 1 ≤ b.kind ∧ b.kind ≤ 3 ∧ b.id < 0 ∧ b.items.length = b.weights.length ∧ (∀ i, i < b.items.length → 0 ≤ kindF m (b.items.getD i 0) ∧ kindF m (b.items.getD i 0) < b.kind) ∧ ∀ i, i < b.weights.length → wOk (b.weights.getD i 0) = true := by
  have hm := List.mem_of_find?_eq_some hb
  have hid := List.find?_some hb
  obtain ⟨j, hj, hjb⟩ := List.mem_iff_getElem.1 hm
  have hx : m.buckets[j]? = some b := by rw [List.getElem?_eq_getElem hj, hjb]
  unfold goodF at hg
  simp only [Bool.and_eq_true] at hg
  have := List.all_eq_true.1 hg.2 j (List.mem_range.2 hj)
  rw [getD_of hx] at this
  unfold bOk hdOk at this
  simp only [Bool.and_eq_true, decide_eq_true_eq, beq_iff_eq] at this
  obtain ⟨⟨⟨⟨⟨⟨a1, a2⟩, a3⟩, a4⟩, a5⟩, a6⟩, a7⟩ := this
  refine ⟨hm, by simpa using hid, a3, a4, a2, a5, fun i hi => ?_, fun i hi => ?_⟩
  · have := List.all_eq_true.1 a7 i (List.mem_range.2 hi)
    unfold itemOk at this
    simp only [Bool.and_eq_true, decide_eq_true_eq] at this
    exact this.1
  · exact List.all_eq_true.1 a6 _ (List.mem_of_getElem? (getD_some' 0 hi))
theorem kind_bkt {m : MapD} {id : Int} (hid : id < 0) {b : BktD} (hb : bucketF m id = some b) : kindF m id = b.kind := by
  unfold kindF bucketG
  rw [if_neg (by omega), hb]
  rfl
def downF (m : MapD) (k x r : Int) : Nat → Int → Option Int
  | 0, _ => none
  | n + 1, at' => match bucketF m at' with
    | none => none
    | some b => match chooseF b.items b.weights x r with
      | none => none
      | some i => if 0 ≤ b.items.getD i 0 ∨ kindF m (b.items.getD i 0) = k then some (b.items.getD i 0) else downF m k x r n (b.items.getD i 0)
def optV : Option Int → AV
  | some k => pairV k true
  | none => pairV 0 false
end Go.Proofs.YtkgbeihcepociaaDoor.Ex
end

section

set_option linter.unusedSimpArgs false
set_option linter.unusedVariables false
set_option maxRecDepth 10000
set_option maxHeartbeats 4000000
namespace Go.Proofs.YtkgbeihcepociaaDoor.Ex
open Go
/-- One try: the osd, and the bucket that it is to have alone. -/
def tryR (m : MapD) (x root : Int) (s : List Int × List Int) (r : Int) : Option (Int × Int) := match downF m m.leaf x r 4 root with
  | none => none
  | some d => if s.2.contains d then none else match (if d < 0 then downF m 0 x r 4 d else some d) with
    | none => none
    | some o => if !mayF m o x || s.1.contains o then none else some (o, d)
def firstR (m : MapD) (x root : Int) (s : List Int × List Int) (k : Nat) : Nat → Option (Int × Int)
  | 0 => none
  | t + 1 => match firstR m x root s k t with
    | some y => some y
    | none => tryR m x root s ((k + t : Nat) : Int)
def copyR (m : MapD) (x root : Int) (s : List Int × List Int) (k : Nat) : List Int × List Int := match firstR m x root s k 50 with
  | some (o, d) => (s.1 ++ [o], s.2 ++ [d])
  | none => s
def selN (m : MapD) (x root : Int) : Nat → List Int × List Int
  | 0 => ([], [])
  | k + 1 => copyR m x root (selN m x root k) k
def cntF (n : Int) : Nat := if 8 < n then 8 else n.toNat
def selectF (m : MapD) (x n : Int) : List Int := if goodF m then (match rootsR m with
  | [] => []
  | root :: _ => (selN m x root (cntF n)).1) else []
theorem selN_len (m : MapD) (x root : Int) : ∀ k, (selN m x root k).1.length ≤ k ∧ (selN m x root k).2.length ≤ k
  | 0 => ⟨Nat.le_refl 0, Nat.le_refl 0⟩
  | k + 1 => by
    obtain ⟨h1, h2⟩ := selN_len m x root k
    unfold selN copyR
    split
    · simp; omega
    · omega
theorem firstR_le {m : MapD} {x root : Int} {s : List Int × List Int} {k i : Nat} {y : Int × Int} (h : firstR m x root s k i = some y) : ∀ j, i ≤ j → firstR m x root s k j = some y
  | 0, hj => by
    have : i = 0 := by omega
    subst this
    exact h
  | j + 1, hj => by
    by_cases hi : i = j + 1
    · subst hi; exact h
    · rw [firstR, firstR_le h j (by omega)]
theorem firstR_zero {m : MapD} {x root : Int} {s : List Int × List Int} {k : Nat} : firstR m x root s k 0 = none := rfl
theorem firstR_next {m : MapD} {x root : Int} {s : List Int × List Int} {k t : Nat} (h : firstR m x root s k t = none) : firstR m x root s k (t + 1) = tryR m x root s ((k + t : Nat) : Int) := by
  rw [firstR, h]
attribute [irreducible] firstR
theorem down_i64 {F : Nat → Prop} {H : AH} {m : MapD} {vo vp vb : AV} {k x r : Int} (hm : MpAt F H m vo vp vb) : ∀ n a d, downF m k x r n a = some d → I64 d
  | 0, a, d, h => by cases h
  | n + 1, a, d, h => by
    unfold downF at h
    cases hb : bucketF m a with
    | none => rw [hb] at h; cases h
    | some b =>
    rw [hb] at h
    simp only at h
    cases hc : chooseF b.items b.weights x r with
    | none => rw [hc] at h; cases h
    | some i =>
    rw [hc] at h
    simp only at h
    split at h
    · cases h
      have hbm := List.mem_of_find?_eq_some hb
      obtain ⟨j, hj, hjb⟩ := List.mem_iff_getElem.1 hbm
      have hx : m.buckets[j]? = some b := by rw [List.getElem?_eq_getElem hj, hjb]
      obtain ⟨c, hc', _⟩ := hm.b.atE (T := tabOf Tryd.prog NT0) (Ext.refl _ _) (z := 4) rfl hx
      obtain ⟨va, vw, rfl, hi1, _⟩ := RBkt_is.1 hc'
      refine hi1.i64 i ?_
      have hq := chN_le b.items b.weights x r b.items.length
      unfold chooseF at hc
      split at hc
      · split at hc
        · have hc := Option.some.inj hc
          omega
        · cases hc
      · cases hc
    · exact down_i64 hm n _ d h
/-- Two own slices lie in two blocks. -/
def Disj (u v : AV) : Prop := ∀ b o n c o' n' c', u = .sl b o n c → v = .sl b o' n' c' → False
theorem Disj.nil_l {v : AV} : Disj (.lit (.slice none 0 0)) v := fun _ _ _ _ _ _ _ h _ => by cases h
theorem Disj.symm {u v : AV} (h : Disj u v) : Disj v u := fun b o n c o' n' c' h1 h2 => h b o' n' c' o n c h2 h1
theorem Disj.apart {u v : AV} (h : Disj u v) {b o n : Nat} {c : Cap} (hv : v = .sl b o n c) : Apart u b := fun o' n' c' hu => h b o' n' c' o n c hu hv
theorem OwnL.other {α : Type} {R : Rep α} {n0 : Nat} {h h' : AH} {u v s : AV} {e : TypeId} {xs : List α} (ho : OwnL R (fun _ => False) n0 h v e xs) (hd : Disj u v) (hk : ∀ b, b < h.n → Apart u b → h'.at b = h.at b ∧ Apart s b) : OwnL R (fun _ => False) n0 h' v e xs ∧ Disj s v := by
  have key : ∀ b off n cap, v = .sl b off n cap → b < h.n := fun b off n cap hv => by
    obtain ⟨L, h1, h2⟩ := ho
    rcases h1.2 with ⟨hh, _⟩ | ⟨p, hh, hp, hat⟩
    · rw [hh] at hv; cases hv
    · rw [hh] at hv; cases hv; exact at_lt hat
  refine ⟨ho.lift (fun b off n cap hv => (hk b (key _ _ _ _ hv) (hd.apart hv)).1) (fun b hb => hb.elim), fun b o n c o' n' c' hs hv => ?_⟩
  exact (hk b (key _ _ _ _ hv) (hd.apart hv)).2 _ _ _ hs
end Go.Proofs.YtkgbeihcepociaaDoor.Ex
end

section

set_option linter.unusedSimpArgs false
set_option linter.unusedVariables false
set_option maxRecDepth 10000
set_option maxHeartbeats 4000000
namespace Go.Proofs.YtkgbeihcepociaaDoor.Ex
open Go
def parentF (m : MapD) (item : Int) : Option BktD := m.buckets.find? (fun b => b.items.contains item)
def parentG (m : MapD) (item : Int) : BktD := (parentF m item).getD bkt0
theorem parent_x {F : Nat → Prop} {H : AH} {m : MapD} {vo vp vb : AV} (item : Int) (hm : MpAt F H m vo vp vb) (hl : Sm 64 m.buckets) (hbs : ∀ b ∈ m.buckets, Sm 8 b.items ∧ Sm 8 b.weights) :
    WC Tryd.prog (tabOf Tryd.prog NT0) S0 35 [mpV m vo vp vb, .lit (.int .i64 item)] H fun r h' => Ext H.n H h' ∧ ∃ va vw, r = .tup [bktV (parentG m item) va vw, .lit (.bool (parentF m item).isSome)] ∧ IsSl RInt F h' va (parentG m item).items ∧ IsSl RInt F h' vw (parentG m item).weights := by
  refine WC_fn Tryd.func35 rfl rfl ?_
  unfold Sm at hl
  have s1 := hm.b.isSl
  have s2 := hm.b.lenD
  have o1 := hm.o.one
  have o2 := hm.p.one
  have o3 := hm.b.one
  simp only [core, Nat.reduceAdd, Nat.reduceSub, Nat.reduceMul, Nat.reduceLT, Nat.reduceEqDiff, reduceCtorEq, Nat.reduceLeDiff, Int.reduceLE, Int.reduceLT, Int.reduceToNat, Tryd.ntmps35, mpV, s1, s2, o1, o2, o3]
  obtain ⟨h2, hh2⟩ : ∃ h2, h2 = (H.push (.cells [.lit (.int .i64 m.epoch), vo, vp, vb, .lit (.int .i64 m.leaf)] 26)).push (.cells [.lit (.int .i64 0), .lit (.int .i64 0), .lit (.slice none 0 0), .lit (.slice none 0 0)] 47) := ⟨_, rfl⟩
  have E0 : Ext H.n H h2 := hh2 ▸ ((Ext.refl _ _).push _ (Nat.le_refl _)).push _ (by rw [n_push]; omega)
  have A0 : h2.at (H.n + 1) = some (.cells [.lit (.int .i64 0), .lit (.int .i64 0), .lit (.slice none 0 0), .lit (.slice none 0 0)] 47) := hh2 ▸ at_push_n _ _
  have n2 : h2.n = H.n + 2 := by rw [hh2, n_push, n_push]
  rw [← hh2]
  clear hh2
  refine WB_for m.buckets.length (fun i t h => Ext h2.n h2 h ∧ parentF m item = (m.buckets.drop i).find? (fun b => b.items.contains item) ∧ t.n = 22 ∧ t.get 1 = .lit (.int .i64 item) ∧ t.get 4 = .ptr (H.n + 1) 0 ∧ t.get 9 = vb ∧ t.get 10 = .lit (.int .i64 m.buckets.length) ∧ t.get 11 = .lit (.int .i64 i)) ?_ ?_ _ _ ?_
  · rintro i t h hlt hc ⟨he, hf, hn, g1, g4, g9, g10, g11⟩ ih
    obtain ⟨x, hx⟩ : ∃ x, m.buckets[i]? = some x := ⟨_, List.getElem?_eq_getElem hlt⟩
    have E1 : Ext H.n H h := E0.trans (he.mono (by omega))
    obtain ⟨c, hc1, hld, hld0⟩ := hm.b.atE (T := tabOf Tryd.prog NT0) E1 RBkt_z hx
    obtain ⟨va, vw, rfl, ha, hw, i1, i2⟩ := RBkt_is.1 hc1
    have a1 := ha.one
    have w1 := hw.one
    have hws := wrap_succ hlt (by omega)
    rw [find_drop hx] at hf
    have A1 : h.at (H.n + 1) = some (.cells [.lit (.int .i64 0), .lit (.int .i64 0), .lit (.slice none 0 0), .lit (.slice none 0 0)] 47) := (he.2 _ (by omega)).trans A0
    have l1 : H.n + 1 < h.n := at_lt A1
    obtain ⟨k1, k2⟩ := hbs x (List.mem_of_getElem? hx)
    unfold Sm at k1
    simp only [core, Nat.reduceAdd, Nat.reduceSub, Nat.reduceMul, Nat.reduceLT, Nat.reduceEqDiff, reduceCtorEq, Nat.reduceLeDiff, Int.reduceLE, Int.reduceLT, Int.reduceToNat, s1, s2, hn, g1, g4, g9, g10, g11, hlt, hc, hld, hld0, hws, a1, w1]
    have EQ : ∀ y, Ext H.n H (h.push y) := fun y => E1.push _ E1.1
    refine (contains_x item (ha.ext (EQ _) (Nat.le_refl _)) (by omega)).mono ?_
    rintro _ h9 ⟨rfl, rfl⟩
    simp only [core, Nat.reduceAdd, Nat.reduceSub, Nat.reduceMul, Nat.reduceLT, Nat.reduceEqDiff, reduceCtorEq, Nat.reduceLeDiff, Int.reduceLE, Int.reduceLT, Int.reduceToNat, s1, s2, hn, g1, g4, g9, g10, g11, hlt, hc, hld, hld0, hws, a1, w1]
    refine ⟨fun hq => ?_, fun hq => ?_⟩
    · rw [if_pos hq] at hf
      have hG : parentG m item = x := by unfold parentG; rw [hf]; rfl
      simp only [core, Nat.reduceAdd, Nat.reduceSub, Nat.reduceMul, Nat.reduceLT, Nat.reduceEqDiff, reduceCtorEq, Nat.reduceLeDiff, Int.reduceLE, Int.reduceLT, Int.reduceToNat, hn, g1, g4, g9, g10, g11, a1, w1, A1, l1]
      have EF : Ext H.n H ((h.put (H.n + 1) (.cells [.lit (.int .i64 x.id), .lit (.int .i64 x.kind), va, vw] 47)).push (.cells [.lit (.int .i64 x.id), .lit (.int .i64 x.kind), va, vw] 47)) := (E1.put _ (by omega)).push _ (by rw [n_put]; omega)
      rw [hG, hf]
      exact ⟨EF, va, vw, rfl, ha.ext EF (Nat.le_refl _), hw.ext EF (Nat.le_refl _)⟩
    · rw [if_neg (by rw [hq]; decide)] at hf
      refine ih _ _ ⟨he.push _ he.1, hf, ?_⟩
      simp only [core, Nat.reduceAdd, Nat.reduceSub, Nat.reduceMul, Nat.reduceLT, Nat.reduceEqDiff, reduceCtorEq, Nat.reduceLeDiff, Int.reduceLE, Int.reduceLT, Int.reduceToNat, hn, g1, g4, g9, g10, g11]
  · rintro t h hc ⟨he, hf, hn, g1, g4, g9, g10, g11⟩
    have A1 : h.at (H.n + 1) = some (.cells [.lit (.int .i64 0), .lit (.int .i64 0), .lit (.slice none 0 0), .lit (.slice none 0 0)] 47) := (he.2 _ (by omega)).trans A0
    have l1 : H.n + 1 < h.n := at_lt A1
    have E1 : Ext H.n H h := E0.trans (he.mono (by omega))
    have hf : parentF m item = none := by rw [hf, List.drop_length]; rfl
    have hG : parentG m item = bkt0 := by unfold parentG; rw [hf]; rfl
    simp only [core, Nat.reduceAdd, Nat.reduceSub, Nat.reduceMul, Nat.reduceLT, Nat.reduceEqDiff, reduceCtorEq, Nat.reduceLeDiff, Int.reduceLE, Int.reduceLT, Int.reduceToNat, s1, s2, hn, g1, g4, g9, g10, g11, hc, A1, l1, bdM, fillA]
    rw [hG, hf]
    exact ⟨E1.put _ (by omega), _, _, rfl, IsSl.nil, IsSl.nil⟩
  · simp only [core, Nat.reduceAdd, Nat.reduceSub, Nat.reduceMul, Nat.reduceLT, Nat.reduceEqDiff, reduceCtorEq, Nat.reduceLeDiff, Int.reduceLE, Int.reduceLT, Int.reduceToNat]
    refine ⟨Ext.refl _ _, rfl, ?_⟩
    (repeat' apply And.intro) <;> first | rfl | trivial
end Go.Proofs.YtkgbeihcepociaaDoor.Ex
end

section

set_option linter.unusedSimpArgs false
set_option linter.unusedVariables false
set_option maxRecDepth 10000
set_option maxHeartbeats 4000000
namespace Go.Proofs.YtkgbeihcepociaaDoor.Ex
open Go
def fitF (m : MapD) (b : BktD) (id : Int) : Bool := if 0 ≤ id then decide (id < 8) else (bucketF m id).isSome && decide ((bucketG m id).kind < b.kind)
theorem may_x {F : Nat → Prop} {H : AH} {m : MapD} {vo vp vb va vw : AV} {b : BktD} (id : Int) (hm : MpAt F H m vo vp vb) (hl : Sm 64 m.buckets) (hbs : ∀ b ∈ m.buckets, Sm 8 b.items ∧ Sm 8 b.weights) (hva : va.one = true) (hvw : vw.one = true) :
    WC Tryd.prog (tabOf Tryd.prog NT0) S0 34 [mpV m vo vp vb, bktV b va vw, .lit (.int .i64 id)] H fun r h' => Ext H.n H h' ∧ r = .lit (.bool (fitF m b id)) := by
  refine WC_fn Tryd.func34 rfl rfl ?_
  have o1 := hm.o.one
  have o2 := hm.p.one
  have o3 := hm.b.one
  simp only [core, Nat.reduceAdd, Nat.reduceSub, Nat.reduceMul, Nat.reduceLT, Nat.reduceEqDiff, reduceCtorEq, Nat.reduceLeDiff, Int.reduceLE, Int.reduceLT, Int.reduceToNat, Tryd.ntmps34, mpV, bktV, o1, o2, o3, hva, hvw]
  obtain ⟨h1, hh1⟩ : ∃ h1, h1 = (H.push (.cells [.lit (.int .i64 m.epoch), vo, vp, vb, .lit (.int .i64 m.leaf)] 26)).push (.cells [.lit (.int .i64 b.id), .lit (.int .i64 b.kind), va, vw] 47) := ⟨_, rfl⟩
  have E1 : Ext H.n H h1 := hh1 ▸ ((Ext.refl _ _).push _ (Nat.le_refl _)).push _ (by rw [n_push]; omega)
  have n1 : h1.n = H.n + 2 := by rw [hh1, n_push, n_push]
  have A1 : h1.at (H.n + 1) = some (.cells [.lit (.int .i64 b.id), .lit (.int .i64 b.kind), va, vw] 47) := by
    rw [hh1]
    have := at_push_n (H.push (.cells [.lit (.int .i64 m.epoch), vo, vp, vb, .lit (.int .i64 m.leaf)] 26)) (.cells [.lit (.int .i64 b.id), .lit (.int .i64 b.kind), va, vw] 47)
    rw [n_push] at this
    exact this
  try rw [← hh1]
  clear hh1
  by_cases h0 : 0 ≤ id
  · simp only [core, Nat.reduceAdd, Nat.reduceSub, Nat.reduceMul, Nat.reduceLT, Nat.reduceEqDiff, reduceCtorEq, Nat.reduceLeDiff, Int.reduceLE, Int.reduceLT, Int.reduceToNat, h0]
    refine ⟨E1, ?_⟩
    unfold fitF
    rw [if_pos h0]
  · simp only [core, Nat.reduceAdd, Nat.reduceSub, Nat.reduceMul, Nat.reduceLT, Nat.reduceEqDiff, reduceCtorEq, Nat.reduceLeDiff, Int.reduceLE, Int.reduceLT, Int.reduceToNat, h0]
    refine (bucket_x id (hm.ext E1 (Nat.le_refl _)) hl hbs).mono ?_
    rintro _ h2 ⟨e2, v1, v2, rfl, b1, b2⟩
    have o4 := b1.one
    have o5 := b2.one
    have E2 := E1.step e2
    have A2 := (e2.2 _ (by omega)).trans A1
    have l2 := at_lt A2
    have LA2 := ld_at (T := tabOf Tryd.prog NT0) A2
    simp only [core, Nat.reduceAdd, Nat.reduceSub, Nat.reduceMul, Nat.reduceLT, Nat.reduceEqDiff, reduceCtorEq, Nat.reduceLeDiff, Int.reduceLE, Int.reduceLT, Int.reduceToNat, bktV, o4, o5, A2, l2, LA2]
    obtain ⟨h3, hh3⟩ : ∃ h3, h3 = h2.push (.cells [.lit (.int .i64 (bucketG m id).id), .lit (.int .i64 (bucketG m id).kind), v1, v2] 47) := ⟨_, rfl⟩
    have e3 : Ext h2.n h2 h3 := hh3 ▸ (Ext.refl _ _).push _ (Nat.le_refl _)
    have B3 : h3.at h2.n = some (.cells [.lit (.int .i64 (bucketG m id).id), .lit (.int .i64 (bucketG m id).kind), v1, v2] 47) := hh3 ▸ at_push_n _ _
    rw [← hh3]
    clear hh3
    have E3 := E2.step e3
    have A3 := (e3.2 _ l2).trans A2
    have l3 := at_lt A3
    have LA3 := ld_at (T := tabOf Tryd.prog NT0) A3
    have LB3 := ld_at (T := tabOf Tryd.prog NT0) B3
    have b3 := at_lt B3
    cases hb : (bucketF m id).isSome with
    | false =>
      simp only [core, Nat.reduceAdd, Nat.reduceSub, Nat.reduceMul, Nat.reduceLT, Nat.reduceEqDiff, reduceCtorEq, Nat.reduceLeDiff, Int.reduceLE, Int.reduceLT, Int.reduceToNat]
      refine ⟨E3, ?_⟩
      unfold fitF
      rw [if_neg h0, hb]
      rfl
    | true =>
      simp only [core, Nat.reduceAdd, Nat.reduceSub, Nat.reduceMul, Nat.reduceLT, Nat.reduceEqDiff, reduceCtorEq, Nat.reduceLeDiff, Int.reduceLE, Int.reduceLT, Int.reduceToNat, LA3, LB3, l3, b3]
      refine ⟨E3, ?_⟩
      unfold fitF
      rw [if_neg h0, hb]
      rfl
end Go.Proofs.YtkgbeihcepociaaDoor.Ex
end
