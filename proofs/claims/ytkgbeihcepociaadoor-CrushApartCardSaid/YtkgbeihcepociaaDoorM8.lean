/- Part 8 of the proof: Str, Bkt, Bk2, Gd1, Rt1, Rt2, Rev, Dn, Se1, Par, May, Mpc, Chk, Ck2, Rtc, Rtp. -/
import Derived.Test.YtkgbeihcepociaaDoorM7
section

set_option linter.unusedSimpArgs false
set_option linter.unusedVariables false
set_option maxRecDepth 10000
set_option maxHeartbeats 4000000
namespace Go.Proofs.YtkgbeihcepociaaDoor.Ex
open Go
def drawF (h w : Int) : Int := if w < 1 then -9223372036854775808 else IntKind.i64.wrap ((IntKind.i64.wrap (lnF (IntKind.i64.wrap (andI .u32 h 65535)) - 281474976710656)).tdiv w)
def strawF (x r id w : Int) : Int := drawF (hash3F x (IntKind.u32.wrap id) (IntKind.u32.wrap r)) w
/-- One straw more. -/
def chStep (x r : Int) (s : Int × Int) (i : Nat) (id w : Int) : Int × Int := if w < 1 then s else if s.2 < 0 ∨ s.1 < strawF x r id w then (strawF x r id w, (i : Int)) else s
def chN (ids ws : List Int) (x r : Int) : Nat → Int × Int
  | 0 => (0, -1)
  | n + 1 => chStep x r (chN ids ws x r n) n (ids.getD n 0) (ws.getD n 0)
def chooseF (ids ws : List Int) (x r : Int) : Option Nat := if ids.length = ws.length then (if 0 ≤ (chN ids ws x r ids.length).2 then some (chN ids ws x r ids.length).2.toNat else none) else none
theorem chN_le (ids ws : List Int) (x r : Int) : ∀ n, -1 ≤ (chN ids ws x r n).2 ∧ (chN ids ws x r n).2 < n
  | 0 => by unfold chN; simp
  | n + 1 => by
    have := chN_le ids ws x r n
    unfold chN chStep
    split
    · omega
    · split
      · simp only; omega
      · omega
theorem chooseF_lt {ids ws : List Int} {x r : Int} {k : Nat} (h : chooseF ids ws x r = some k) : k < ids.length ∧ ids.length = ws.length := by
  unfold chooseF at h
  have := chN_le ids ws x r ids.length
  split at h
  case isFalse => cases h
  rename_i he
  split at h
  case isFalse => cases h
  cases h
  exact ⟨by omega, he⟩
def pairV (n : Int) (b : Bool) : AV := .tup [.lit (.int .i64 n), .lit (.bool b)]
def chooseV : Option Nat → AV
  | some k => pairV k true
  | none => pairV 0 false
theorem draw_x {H : AH} (h w : Int) : WC Tryd.prog (tabOf Tryd.prog NT0) S0 74 [.lit (.int .u32 h), .lit (.int .i64 w)] H fun r h' => h' = H ∧ r = .lit (.int .i64 (drawF h w)) := by
  refine WC_fn Tryd.func74 rfl rfl ?_
  simp only [core, Nat.reduceAdd, Nat.reduceSub, Nat.reduceMul, Nat.reduceLT, Nat.reduceEqDiff, reduceCtorEq, Nat.reduceLeDiff, Int.reduceLE, Int.reduceLT, Int.reduceToNat, Tryd.ntmps74]
  refine ⟨fun hq => ?_, fun hq => ?_⟩
  · unfold drawF
    rw [if_pos (by simpa using hq)]
  · have hq : ¬ w < 1 := by simpa using hq
    refine ln_c ?_
    have hw : ¬ w = 0 := by omega
    simp only [core, Nat.reduceAdd, Nat.reduceSub, Nat.reduceMul, Nat.reduceLT, Nat.reduceEqDiff, reduceCtorEq, Nat.reduceLeDiff, Int.reduceLE, Int.reduceLT, Int.reduceToNat, hw]
    unfold drawF
    rw [if_neg hq]
def aggOk : Option AV → Bool
  | some (.agg cs) => cs.all AV.one
  | _ => false
theorem eng_zero : ∃ cs, zeroT (tabOf Tryd.prog NT0) 129 = some (.agg cs) ∧ cs.all AV.one = true := by
  have h : aggOk (zeroT (tabOf Tryd.prog NT0) 129) = true := by kernel_rfl
  revert h
  generalize zeroT (tabOf Tryd.prog NT0) 129 = o
  intro h
  unfold aggOk at h
  split at h
  · exact ⟨_, rfl, h⟩
  · cases h
theorem new_x {H : AH} : WC Tryd.prog (tabOf Tryd.prog NT0) S0 72 [] H fun r h' => ∃ p, r = .ptr p 0 ∧ Ext H.n H h' := by
  refine WC_fn Tryd.func72 rfl rfl ?_
  obtain ⟨cs, hz, h1⟩ := eng_zero
  simp only [core, Nat.reduceAdd, Nat.reduceSub, Nat.reduceMul, Nat.reduceLT, Nat.reduceEqDiff, reduceCtorEq, Nat.reduceLeDiff, Int.reduceLE, Int.reduceLT, Int.reduceToNat, Tryd.ntmps72, hz, h1, bdM, fillA, evalParts]
  exact ⟨_, rfl, (Ext.refl _ _).push _ (Nat.le_refl _)⟩
/-- A value in a block of its own. -/
def Bk (h : AH) (p : Nat) (v : AV) (e : TypeId) : Prop := h.at p = some (.cells [v] e)
theorem Bk.ld {h : AH} {p : Nat} {v : AV} {e0 : TypeId} (hb : Bk h p v e0) (e off : Nat) : loadA (tabOf Tryd.prog NT0) h e p off = ldL (tabOf Tryd.prog NT0) e [v] off := ld_at hb e off
theorem Bk.new {h : AH} {v : AV} {e p : Nat} (hp : p = h.n) : Bk (h.push (.cells [v] e)) p v e := by subst hp; exact at_push_n h _
theorem Bk.old {h : AH} {v : AV} {e p : Nat} {x : AB} (hb : Bk h p v e) : Bk (h.push x) p v e := (at_push_lt _ (at_lt hb)).trans hb
theorem Bk.ext {h h' : AH} {v : AV} {e p : Nat} (hb : Bk h p v e) (he : Ext h.n h h') : Bk h' p v e := (he.2 p (at_lt hb)).trans hb
theorem Bk.lt {h : AH} {v : AV} {e p : Nat} (hb : Bk h p v e) : p < h.n := at_lt hb
theorem straw1_x {F : Nat → Prop} {H : AH} {vi vw ve : AV} {pe px pi pr pw be oe : Nat} {ids ws : List Int} {x r : Int} (hve : ve = .ptr be oe) (he : Bk H pe ve 97) (hx : Bk H px (.lit (.int .u32 x)) 27) (hpi : Bk H pi vi 31) (hr : Bk H pr (.lit (.int .i64 r)) 3) (hpw : Bk H pw vw 31)
    (hi : IsSl RInt F H vi ids) (hw : IsSl RInt F H vw ws) {i : Nat} (hlt : i < ids.length) (hlt2 : i < ws.length) :
    WC Tryd.prog (tabOf Tryd.prog NT0) S0 73 [.lit (.int .i64 i), .ptr pe 0, .ptr px 0, .ptr pi 0, .ptr pr 0, .ptr pw 0] H fun v h' => h' = H ∧ v = .lit (.int .i64 (strawF x r (ids.getD i 0) (ws.getD i 0))) := by
  refine WC_fn Tryd.func73 rfl rfl ?_
  subst hve
  have s1 := hi.isSl
  have s2 := hi.lenD
  have s3 := hw.isSl
  have s4 := hw.lenD
  have hld := hi.int (T := tabOf Tryd.prog NT0) (e := 3) (by kernel_rfl) (by kernel_rfl) hlt
  have hld2 := hw.int (T := tabOf Tryd.prog NT0) (e := 3) (by kernel_rfl) (by kernel_rfl) hlt2
  have L1 := he.ld
  have L2 := hx.ld
  have L3 := hpi.ld
  have L4 := hr.ld
  have L5 := hpw.ld
  simp only [core, Nat.reduceAdd, Nat.reduceSub, Nat.reduceMul, Nat.reduceLT, Nat.reduceEqDiff, reduceCtorEq, Nat.reduceLeDiff, Int.reduceLE, Int.reduceLT, Int.reduceToNat, Tryd.ntmps73]
  rw [WB_regionD [0, 1, 2, 3, 4, 5, 6, 7, 8, 10, 11, 12, 13, 9, 14, 15] 57894719459348330706363797571987788653768963364199945496970372284946646564864 (by kernel_rfl)]
  repeat ((with_reducible refine WDM_cons ?_; simp only [dw1]; try simp only [dw2, Nat.reduceAdd, Nat.reduceMul, Nat.reduceShiftRight, Nat.reduceMod, Nat.reduceEqDiff]); simp only [core, Nat.reduceAdd, Nat.reduceSub, Nat.reduceMul, Nat.reduceLT, Nat.reduceEqDiff, reduceCtorEq, Nat.reduceLeDiff, Int.reduceLE, Int.reduceLT, Int.reduceToNat, cored, s1, s2, s3, s4, hlt, hlt2, hld, hld2, L1, L2, L3, L4, L5])
  refine hash3_c ?_
  repeat ((with_reducible refine WDM_cons ?_; simp only [dw1]; try simp only [dw2, Nat.reduceAdd, Nat.reduceMul, Nat.reduceShiftRight, Nat.reduceMod, Nat.reduceEqDiff]); simp only [core, Nat.reduceAdd, Nat.reduceSub, Nat.reduceMul, Nat.reduceLT, Nat.reduceEqDiff, reduceCtorEq, Nat.reduceLeDiff, Int.reduceLE, Int.reduceLT, Int.reduceToNat, cored, s1, s2, s3, s4, hlt, hlt2, hld, hld2, L1, L2, L3, L4, L5])
  refine (draw_x _ _).mono ?_
  rintro _ h2 ⟨rfl, rfl⟩
  repeat ((with_reducible refine WDM_cons ?_; simp only [dw1]; try simp only [dw2, Nat.reduceAdd, Nat.reduceMul, Nat.reduceShiftRight, Nat.reduceMod, Nat.reduceEqDiff]); simp only [core, Nat.reduceAdd, Nat.reduceSub, Nat.reduceMul, Nat.reduceLT, Nat.reduceEqDiff, reduceCtorEq, Nat.reduceLeDiff, Int.reduceLE, Int.reduceLT, Int.reduceToNat, cored, s1, s2, s3, s4, hlt, hlt2, hld, hld2, L1, L2, L3, L4, L5])
  rfl
theorem choose_x {F : Nat → Prop} {H : AH} {vi vw : AV} {ids ws : List Int} (x r : Int) (hi : IsSl RInt F H vi ids) (hw : IsSl RInt F H vw ws) (hl : ids.length * 8 ≤ 140737488355328) :
    WC Tryd.prog (tabOf Tryd.prog NT0) S0 53 [vi, vw, .lit (.int .u32 x), .lit (.int .i64 r)] H fun v h' => Ext H.n H h' ∧ v = chooseV (chooseF ids ws x r) := by
  refine WC_fn Tryd.func53 rfl rfl ?_
  have s1 := hi.isSl
  have s2 := hi.lenD
  have s3 := hw.isSl
  have s4 := hw.lenD
  have o1 := hi.one
  have o2 := hw.one
  simp only [core, Nat.reduceAdd, Nat.reduceSub, Nat.reduceMul, Nat.reduceLT, Nat.reduceEqDiff, reduceCtorEq, Nat.reduceLeDiff, Int.reduceLE, Int.reduceLT, Int.reduceToNat, Tryd.ntmps53, s1, s2, s3, s4, o1, o2]
  refine ⟨fun hq => ?_, fun hq => ?_⟩
  · have hq : ¬ ids.length = ws.length := by simp at hq; omega
    unfold chooseF
    rw [if_neg hq]
    exact ⟨by repeat (first | exact Ext.refl _ _ | refine Ext.push _ ?_ (by (try simp only [n_push]); omega)), rfl⟩
  · have hq : ids.length = ws.length := by simp at hq; omega
    refine new_x.mono ?_
    rintro _ h1 ⟨p, rfl, e1⟩
    have B1 : Bk h1 H.n vi 31 := Bk.ext (by repeat (first | exact Bk.new rfl | refine Bk.old ?_)) e1
    have B2 : Bk h1 (H.n + 1) vw 31 := Bk.ext (by repeat (first | exact Bk.new rfl | refine Bk.old ?_)) e1
    have B3 : Bk h1 (H.n + 1 + 1) (.lit (.int .u32 x)) 27 := Bk.ext (by repeat (first | exact Bk.new rfl | refine Bk.old ?_)) e1
    have B4 : Bk h1 (H.n + 1 + 1 + 1) (.lit (.int .i64 r)) 3 := Bk.ext (by repeat (first | exact Bk.new rfl | refine Bk.old ?_)) e1
    have E1 : Ext H.n H h1 := Ext.trans (by repeat (first | exact Ext.refl _ _ | refine Ext.push _ ?_ (by (try simp only [n_push]); omega))) (e1.mono (by simp only [n_push]; omega))
    clear e1
    have L2 := B2.ld
    have l2 := B2.lt
    simp only [core, Nat.reduceAdd, Nat.reduceSub, Nat.reduceMul, Nat.reduceLT, Nat.reduceEqDiff, reduceCtorEq, Nat.reduceLeDiff, Int.reduceLE, Int.reduceLT, Int.reduceToNat, s3, s4, L2, l2]
    obtain ⟨h2, hh2⟩ : ∃ h2, h2 = h1.push (.cells [.ptr p 0] 97) := ⟨_, rfl⟩
    have C1 : Bk h2 H.n vi 31 := hh2 ▸ B1.old
    have C2 : Bk h2 (H.n + 1) vw 31 := hh2 ▸ B2.old
    have C3 : Bk h2 (H.n + 1 + 1) (.lit (.int .u32 x)) 27 := hh2 ▸ B3.old
    have C4 : Bk h2 (H.n + 1 + 1 + 1) (.lit (.int .i64 r)) 3 := hh2 ▸ B4.old
    have C5 : Bk h2 h1.n (.ptr p 0) 97 := hh2 ▸ Bk.new rfl
    have E2 : Ext H.n H h2 := hh2 ▸ E1.push _ E1.1
    have hi2 := hi.ext E2 (Nat.le_refl _)
    have hw2 := hw.ext E2 (Nat.le_refl _)
    rw [← hh2]
    clear hh2 B1 B2 B3 B4 L2
    refine WB_for ws.length (fun i t h => h = h2 ∧ t.n = 50 ∧ t.get 11 = .fn (.func 73) [] [.ptr h1.n 0, .ptr (H.n + 1 + 1) 0, .ptr H.n 0, .ptr (H.n + 1 + 1 + 1) 0, .ptr (H.n + 1) 0] ∧ t.get 12 = .lit (.int .i64 (chN ids ws x r i).1) ∧ t.get 13 = .lit (.int .i64 (chN ids ws x r i).2) ∧ t.get 24 = vw ∧ t.get 25 = .lit (.int .i64 ws.length) ∧ t.get 26 = .lit (.int .i64 i)) ?_ ?_ _ _ ?_
    · rintro i t h hlt2 hc ⟨rfl, hn, g11, g12, g13, g24, g25, g26⟩ ih
      have hlt : i < ids.length := by omega
      have hld2 := hw2.int (T := tabOf Tryd.prog NT0) (e := 3) (by kernel_rfl) (by kernel_rfl) hlt2
      have hws := wrap_succ hlt2 (by omega)
      simp only [core, Nat.reduceAdd, Nat.reduceSub, Nat.reduceMul, Nat.reduceLT, Nat.reduceEqDiff, reduceCtorEq, Nat.reduceLeDiff, Int.reduceLE, Int.reduceLT, Int.reduceToNat, s1, s2, s3, s4, hn, g11, g12, g13, g24, g25, g26, hlt, hlt2, hc, hld2, hws]
      refine ⟨fun hq1 => ?_, fun hq1 => ?_⟩
      · refine ih _ _ ⟨rfl, ?_⟩
        have e : chN ids ws x r (i + 1) = chN ids ws x r i := by rw [chN, chStep, if_pos (by simpa using hq1)]
        simp only [core, Nat.reduceAdd, Nat.reduceSub, Nat.reduceMul, Nat.reduceLT, Nat.reduceEqDiff, reduceCtorEq, Nat.reduceLeDiff, Int.reduceLE, Int.reduceLT, Int.reduceToNat, hn, g11, g12, g13, g24, g25, g26, e]
      · have hq1 : ¬ ws.getD i 0 < 1 := by simpa using hq1
        refine (straw1_x rfl C5 C3 C1 C4 C2 hi2 hw2 hlt hlt2).mono ?_
        rintro _ h' ⟨rfl, rfl⟩
        have key : chN ids ws x r (i + 1) = if (chN ids ws x r i).2 < 0 ∨ (chN ids ws x r i).1 < strawF x r (ids.getD i 0) (ws.getD i 0) then (strawF x r (ids.getD i 0) (ws.getD i 0), (i : Int)) else chN ids ws x r i := by rw [chN, chStep, if_neg hq1]
        by_cases hp : (chN ids ws x r i).2 < 0
        · simp only [core, Nat.reduceAdd, Nat.reduceSub, Nat.reduceMul, Nat.reduceLT, Nat.reduceEqDiff, reduceCtorEq, Nat.reduceLeDiff, Int.reduceLE, Int.reduceLT, Int.reduceToNat, hn, g11, g12, g13, g24, g25, g26, hp, hws]
          refine ih _ _ ⟨rfl, ?_⟩
          rw [if_pos (.inl hp)] at key
          simp only [core, Nat.reduceAdd, Nat.reduceSub, Nat.reduceMul, Nat.reduceLT, Nat.reduceEqDiff, reduceCtorEq, Nat.reduceLeDiff, Int.reduceLE, Int.reduceLT, Int.reduceToNat, hn, g11, g12, g13, g24, g25, g26, key]
        · simp only [core, Nat.reduceAdd, Nat.reduceSub, Nat.reduceMul, Nat.reduceLT, Nat.reduceEqDiff, reduceCtorEq, Nat.reduceLeDiff, Int.reduceLE, Int.reduceLT, Int.reduceToNat, hn, g11, g12, g13, g24, g25, g26, hp, hws]
          refine ⟨fun hq2 => ?_, fun hq2 => ?_⟩
          · refine ih _ _ ⟨rfl, ?_⟩
            rw [if_pos (.inr (by simpa using hq2))] at key
            simp only [core, Nat.reduceAdd, Nat.reduceSub, Nat.reduceMul, Nat.reduceLT, Nat.reduceEqDiff, reduceCtorEq, Nat.reduceLeDiff, Int.reduceLE, Int.reduceLT, Int.reduceToNat, hn, g11, g12, g13, g24, g25, g26, key]
          · refine ih _ _ ⟨rfl, ?_⟩
            rw [if_neg (by rintro (h1 | h1); exact hp h1; exact absurd (decide_eq_true h1) (by rw [hq2]; decide))] at key
            simp only [core, Nat.reduceAdd, Nat.reduceSub, Nat.reduceMul, Nat.reduceLT, Nat.reduceEqDiff, reduceCtorEq, Nat.reduceLeDiff, Int.reduceLE, Int.reduceLT, Int.reduceToNat, hn, g11, g12, g13, g24, g25, g26, key]
    · rintro t h hc ⟨rfl, hn, g11, g12, g13, g24, g25, g26⟩
      have hb := chN_le ids ws x r ids.length
      rw [← hq] at g13
      simp only [core, Nat.reduceAdd, Nat.reduceSub, Nat.reduceMul, Nat.reduceLT, Nat.reduceEqDiff, reduceCtorEq, Nat.reduceLeDiff, Int.reduceLE, Int.reduceLT, Int.reduceToNat, s1, s2, s3, s4, hn, g11, g12, g13, g24, g25, g26, hc]
      refine ⟨E2, ?_⟩
      unfold chooseF
      rw [if_pos hq]
      by_cases h0 : 0 ≤ (chN ids ws x r ids.length).2
      · rw [if_neg (by omega), if_pos h0, decide_eq_true h0]
        show AV.tup _ = AV.tup _
        rw [Int.toNat_of_nonneg h0]
      · rw [if_pos (by omega), if_neg h0, decide_eq_false h0]
        rfl
    · simp only [core, Nat.reduceAdd, Nat.reduceSub, Nat.reduceMul, Nat.reduceLT, Nat.reduceEqDiff, reduceCtorEq, Nat.reduceLeDiff, Int.reduceLE, Int.reduceLT, Int.reduceToNat]
      (repeat' apply And.intro) <;> first | rfl | trivial
end Go.Proofs.YtkgbeihcepociaaDoor.Ex
end

section

set_option linter.unusedSimpArgs false
set_option linter.unusedVariables false
set_option maxRecDepth 10000
set_option maxHeartbeats 4000000
namespace Go.Proofs.YtkgbeihcepociaaDoor.Ex
open Go
/-- A map's value. -/
def mpV (m : MapD) (vo vp vb : AV) : AV := .agg [.lit (.int .i64 m.epoch), vo, vp, vb, .lit (.int .i64 m.leaf)]
/-- What a map's value reads. -/
structure MpAt (F : Nat → Prop) (h : AH) (m : MapD) (vo vp vb : AV) : Prop where
  o : IsSl ROsd F h vo m.osds
  p : IsSl RPool F h vp m.pools
  b : IsSl RBkt F h vb m.buckets
theorem MpAt.ext {F : Nat → Prop} {h h' : AH} {m : MapD} {vo vp vb : AV} {n0 : Nat} (hm : MpAt F h m vo vp vb) (he : Ext n0 h h') (hn : h.n ≤ n0) : MpAt F h' m vo vp vb := ⟨hm.o.ext he hn, hm.p.ext he hn, hm.b.ext he hn⟩
def bktV (b : BktD) (va vw : AV) : AV := .agg [.lit (.int .i64 b.id), .lit (.int .i64 b.kind), va, vw]
def bkt0 : BktD := ⟨0, 0, [], []⟩
def bucketF (m : MapD) (id : Int) : Option BktD := m.buckets.find? (fun b => b.id == id)
def bucketG (m : MapD) (id : Int) : BktD := (bucketF m id).getD bkt0
theorem find_drop {α : Type} {p : α → Bool} {l : List α} {i : Nat} {x : α} (hx : l[i]? = some x) : (l.drop i).find? p = if p x then some x else (l.drop (i + 1)).find? p := by
  have hlt := (List.getElem?_eq_some_iff.1 hx).1
  rw [List.drop_eq_getElem_cons hlt, List.find?_cons]
  have : l[i] = x := by rw [List.getElem?_eq_getElem hlt] at hx; exact Option.some.inj hx
  rw [this]
  cases p x <;> rfl
end Go.Proofs.YtkgbeihcepociaaDoor.Ex
end

section

set_option linter.unusedSimpArgs false
set_option linter.unusedVariables false
set_option maxRecDepth 10000
set_option maxHeartbeats 4000000
namespace Go.Proofs.YtkgbeihcepociaaDoor.Ex
open Go
theorem Ext.step {H h h' : AH} (he : Ext H.n H h) (hk : Ext h.n h h') : Ext H.n H h' := he.trans (hk.mono he.1)
theorem bucket_x {F : Nat → Prop} {H : AH} {m : MapD} {vo vp vb : AV} (id : Int) (hm : MpAt F H m vo vp vb) (hl : Sm 64 m.buckets) (hok : ∀ b ∈ m.buckets, Sm 8 b.items ∧ Sm 8 b.weights) :
    WC Tryd.prog (tabOf Tryd.prog NT0) S0 29 [mpV m vo vp vb, .lit (.int .i64 id)] H fun r h' => Ext H.n H h' ∧ ∃ va vw, r = .tup [bktV (bucketG m id) va vw, .lit (.bool (bucketF m id).isSome)] ∧ IsSl RInt (fun b => H.n ≤ b) h' va (bucketG m id).items ∧ IsSl RInt (fun b => H.n ≤ b) h' vw (bucketG m id).weights := by
  refine WC_fn Tryd.func29 rfl rfl ?_
  unfold Sm at hl
  have s1 := hm.b.isSl
  have s2 := hm.b.lenD
  have o1 := hm.o.one
  have o2 := hm.p.one
  have o3 := hm.b.one
  simp only [core, Nat.reduceAdd, Nat.reduceSub, Nat.reduceMul, Nat.reduceLT, Nat.reduceEqDiff, reduceCtorEq, Nat.reduceLeDiff, Int.reduceLE, Int.reduceLT, Int.reduceToNat, Tryd.ntmps29, mpV, s1, s2, o1, o2, o3]
  obtain ⟨h2, hh2⟩ : ∃ h2, h2 = (H.push (.cells [.lit (.int .i64 m.epoch), vo, vp, vb, .lit (.int .i64 m.leaf)] 26)).push (.cells [.lit (.int .i64 0), .lit (.int .i64 0), .lit (.slice none 0 0), .lit (.slice none 0 0)] 47) := ⟨_, rfl⟩
  have E0 : Ext H.n H h2 := hh2 ▸ ((Ext.refl _ _).push _ (Nat.le_refl _)).push _ (by rw [n_push]; omega)
  have A0 : h2.at (H.n + 1) = some (.cells [.lit (.int .i64 0), .lit (.int .i64 0), .lit (.slice none 0 0), .lit (.slice none 0 0)] 47) := hh2 ▸ at_push_n _ _
  have n2 : h2.n = H.n + 2 := by rw [hh2, n_push, n_push]
  rw [← hh2]
  clear hh2
  refine WB_for m.buckets.length (fun i t h => Ext h2.n h2 h ∧ bucketF m id = (m.buckets.drop i).find? (fun b => b.id == id) ∧ t.n = 30 ∧ t.get 1 = .lit (.int .i64 id) ∧ t.get 4 = .ptr (H.n + 1) 0 ∧ t.get 9 = vb ∧ t.get 10 = .lit (.int .i64 m.buckets.length) ∧ t.get 11 = .lit (.int .i64 i)) ?_ ?_ _ _ ?_
  · rintro i t h hlt hc ⟨he, hf, hn, g1, g4, g9, g10, g11⟩ ih
    obtain ⟨x, hx⟩ : ∃ x, m.buckets[i]? = some x := ⟨_, List.getElem?_eq_getElem hlt⟩
    have E1 : Ext H.n H h := E0.trans (he.mono (by omega))
    obtain ⟨c, hc1, hld, hld0⟩ := hm.b.atE (T := tabOf Tryd.prog NT0) E1 RBkt_z hx
    obtain ⟨va, vw, rfl, ha, hw, i1, i2⟩ := RBkt_is.1 hc1
    obtain ⟨k1, k2⟩ := hok x (List.mem_of_getElem? hx)
    unfold Sm at k1 k2
    have a1 := ha.one
    have w1 := hw.one
    have a2 := ha.isSl
    have w2 := hw.isSl
    have hws := wrap_succ hlt (by omega)
    rw [find_drop hx] at hf
    have A1 : h.at (H.n + 1) = some (.cells [.lit (.int .i64 0), .lit (.int .i64 0), .lit (.slice none 0 0), .lit (.slice none 0 0)] 47) := (he.2 _ (by omega)).trans A0
    have l1 : H.n + 1 < h.n := at_lt A1
    simp only [core, Nat.reduceAdd, Nat.reduceSub, Nat.reduceMul, Nat.reduceLT, Nat.reduceEqDiff, reduceCtorEq, Nat.reduceLeDiff, Int.reduceLE, Int.reduceLT, Int.reduceToNat, s1, s2, hn, g1, g4, g9, g10, g11, hlt, hc, hld, hld0, hws, a1, w1]
    refine ⟨fun hq => ?_, fun hq => ?_⟩
    · rw [if_pos hq] at hf
      have hG : bucketG m id = x := by unfold bucketG; rw [hf]; rfl
      obtain ⟨hp, hhp⟩ : ∃ hp, hp = h.push (.cells [.lit (.int .i64 x.id), .lit (.int .i64 x.kind), va, vw] 47) := ⟨_, rfl⟩
      have EP : Ext h.n h hp := hhp ▸ (Ext.refl _ _).push _ (Nat.le_refl _)
      have P0 : hp.at h.n = some (.cells [.lit (.int .i64 x.id), .lit (.int .i64 x.kind), va, vw] 47) := hhp ▸ at_push_n h _
      have LP0 := ld_at (T := tabOf Tryd.prog NT0) P0
      rw [← hhp]
      rw [WB_regionD [0, 1, 3, 4, 2, 6, 5, 7, 8, 9] 632895786129742360360258634752 (by kernel_rfl)]
      repeat ((with_reducible refine WDM_cons ?_; simp only [dw1]; try simp only [dw2, Nat.reduceAdd, Nat.reduceMul, Nat.reduceShiftRight, Nat.reduceMod, Nat.reduceEqDiff]); simp only [core, Nat.reduceAdd, Nat.reduceSub, Nat.reduceMul, Nat.reduceLT, Nat.reduceEqDiff, reduceCtorEq, Nat.reduceLeDiff, Int.reduceLE, Int.reduceLT, Int.reduceToNat, cored, hn, g1, g4, g9, g10, g11, LP0, a2, w2])
      have E2 := E1.step EP
      refine (clone_x (ha.ext E2 (Nat.le_refl _)) (by omega)).mono ?_
      rintro ra h3 ⟨e3, ra1, -⟩
      have P3 := (e3.2 _ (at_lt P0)).trans P0
      have LP3 := ld_at (T := tabOf Tryd.prog NT0) P3
      have E3 := E2.step e3
      repeat ((with_reducible refine WDM_cons ?_; simp only [dw1]; try simp only [dw2, Nat.reduceAdd, Nat.reduceMul, Nat.reduceShiftRight, Nat.reduceMod, Nat.reduceEqDiff]); simp only [core, Nat.reduceAdd, Nat.reduceSub, Nat.reduceMul, Nat.reduceLT, Nat.reduceEqDiff, reduceCtorEq, Nat.reduceLeDiff, Int.reduceLE, Int.reduceLT, Int.reduceToNat, cored, hn, g1, g4, g9, g10, g11, LP3, a2, w2])
      refine (clone_x (hw.ext E3 (Nat.le_refl _)) (by omega)).mono ?_
      rintro rw1 h4 ⟨e4, rw2, -⟩
      have P4 := (e4.2 _ (at_lt P3)).trans P3
      have LP4 := ld_at (T := tabOf Tryd.prog NT0) P4
      have E4 := E3.step e4
      have l4 := at_lt P4
      have o4 := ra1.one
      have o5 := rw2.one
      have lh : h.n < hp.n := at_lt P0
      have l3 : hp.n ≤ h3.n := e3.1
      have l5 : h3.n ≤ h4.n := e4.1
      have A4 : h4.at (H.n + 1) = some (.cells [.lit (.int .i64 0), .lit (.int .i64 0), .lit (.slice none 0 0), .lit (.slice none 0 0)] 47) := ((e4.2 _ (by omega)).trans ((e3.2 _ (by omega)).trans (EP.2 _ l1))).trans A1
      have l6 : H.n + 1 < h4.n := at_lt A4
      have hne : ¬ h.n = H.n + 1 := by omega
      repeat ((with_reducible refine WDM_cons ?_; simp only [dw1]; try simp only [dw2, Nat.reduceAdd, Nat.reduceMul, Nat.reduceShiftRight, Nat.reduceMod, Nat.reduceEqDiff]); simp only [core, Nat.reduceAdd, Nat.reduceSub, Nat.reduceMul, Nat.reduceLT, Nat.reduceEqDiff, reduceCtorEq, Nat.reduceLeDiff, Int.reduceLE, Int.reduceLT, Int.reduceToNat, cored, hn, g1, g4, g9, g10, g11, LP4, P4, l4, o4, o5, a2, w2, A4, l6, hne])
      rw [hG, hf]
      have k0 := E1.1
      refine ⟨((E4.put _ (by omega)).put _ (by omega)).put _ (by omega), _, _, rfl, ?_, ?_⟩
      · refine ra1.lift fun b hb hlt => ⟨?_, by omega⟩
        rw [at_put_ne _ (by omega), at_put_ne _ (by omega), at_put_ne _ (by omega)]
        exact e4.2 b hlt
      · refine rw2.lift fun b hb hlt => ⟨?_, by omega⟩
        rw [at_put_ne _ (by omega), at_put_ne _ (by omega), at_put_ne _ (by omega)]
    · rw [if_neg (by rw [hq]; decide)] at hf
      refine ih _ _ ⟨he.push _ he.1, hf, ?_⟩
      simp only [core, Nat.reduceAdd, Nat.reduceSub, Nat.reduceMul, Nat.reduceLT, Nat.reduceEqDiff, reduceCtorEq, Nat.reduceLeDiff, Int.reduceLE, Int.reduceLT, Int.reduceToNat, hn, g1, g4, g9, g10, g11]
  · rintro t h hc ⟨he, hf, hn, g1, g4, g9, g10, g11⟩
    have A1 : h.at (H.n + 1) = some (.cells [.lit (.int .i64 0), .lit (.int .i64 0), .lit (.slice none 0 0), .lit (.slice none 0 0)] 47) := (he.2 _ (by omega)).trans A0
    have l1 : H.n + 1 < h.n := at_lt A1
    have E1 : Ext H.n H h := E0.trans (he.mono (by omega))
    have hf : bucketF m id = none := by rw [hf, List.drop_length]; rfl
    have hG : bucketG m id = bkt0 := by unfold bucketG; rw [hf]; rfl
    simp only [core, Nat.reduceAdd, Nat.reduceSub, Nat.reduceMul, Nat.reduceLT, Nat.reduceEqDiff, reduceCtorEq, Nat.reduceLeDiff, Int.reduceLE, Int.reduceLT, Int.reduceToNat, s1, s2, hn, g1, g4, g9, g10, g11, hc, A1, l1, bdM, fillA]
    rw [hG, hf]
    exact ⟨E1.put _ (by omega), _, _, rfl, IsSl.nil, IsSl.nil⟩
  · simp only [core, Nat.reduceAdd, Nat.reduceSub, Nat.reduceMul, Nat.reduceLT, Nat.reduceEqDiff, reduceCtorEq, Nat.reduceLeDiff, Int.reduceLE, Int.reduceLT, Int.reduceToNat]
    refine ⟨Ext.refl _ _, rfl, ?_⟩
    (repeat' apply And.intro) <;> first | rfl | trivial
end Go.Proofs.YtkgbeihcepociaaDoor.Ex
end

section

set_option linter.unusedSimpArgs false
set_option linter.unusedVariables false
set_option maxRecDepth 10000
set_option maxHeartbeats 4000000
namespace Go.Proofs.YtkgbeihcepociaaDoor.Ex
open Go
def kindF (m : MapD) (item : Int) : Int := if 0 ≤ item then (if item < 8 then 0 else -1) else if (bucketF m item).isSome then (bucketG m item).kind else -1
def wOk (w : Int) : Bool := decide (0 ≤ w) && decide (w ≤ 1048576)
def itsTo (m : MapD) (i : Nat) : List Int := (m.buckets.take i).flatMap (·.items)
def itemOk (m : MapD) (its : List Int) (b : BktD) (k : Nat) : Bool := decide (0 ≤ kindF m (b.items.getD k 0)) && decide (kindF m (b.items.getD k 0) < b.kind) && !((its ++ b.items.take k).contains (b.items.getD k 0))
def hdOk (m : MapD) (i : Nat) (b : BktD) : Bool := !((m.buckets.take i).any (fun c => c.id == b.id)) && decide (b.id < 0) && decide (1 ≤ b.kind) && decide (b.kind ≤ 3) && (b.items.length == b.weights.length)
def bOk (m : MapD) (i : Nat) (b : BktD) : Bool := hdOk m i b && b.weights.all wOk && (List.range b.items.length).all (itemOk m (itsTo m i) b)
def goodF (m : MapD) : Bool := decide (0 ≤ m.leaf) && decide (m.leaf ≤ 3) && (List.range m.buckets.length).all (fun i => bOk m i (m.buckets.getD i bkt0))
theorem range_all_succ {p : Nat → Bool} {i : Nat} : (List.range (i + 1)).all p = ((List.range i).all p && p i) := by
  rw [List.range_succ, List.all_append]; simp
theorem range_all_false {p : Nat → Bool} {n i : Nat} (hi : i < n) (hp : p i = false) : (List.range n).all p = false := by
  rw [List.all_eq_false]
  exact ⟨i, List.mem_range.2 hi, by simp [hp]⟩
theorem getD_of {α : Type} {l : List α} {i : Nat} {x d : α} (hx : l[i]? = some x) : l.getD i d = x := by rw [List.getD_eq_getElem?_getD, hx]; rfl
theorem itsTo_succ {m : MapD} {i : Nat} {x : BktD} (hx : m.buckets[i]? = some x) : itsTo m (i + 1) = itsTo m i ++ x.items := by
  unfold itsTo
  rw [List.take_add_one, hx, List.flatMap_append]
  simp
theorem any_take {α : Type} {p : α → Bool} {l : List α} {i : Nat} {x : α} (hx : l[i]? = some x) : (l.take (i + 1)).any p = ((l.take i).any p || p x) := by
  rw [List.take_add_one, hx, List.any_append]; simp
theorem any_true' {α : Type} {p : α → Bool} {l : List α} {i : Nat} {x : α} (hx : l[i]? = some x) (hp : p x = true) : l.any p = true := by
  rw [List.any_eq_true]
  exact ⟨x, List.mem_of_getElem? hx, hp⟩
theorem getD_some' {α : Type} {l : List α} {i : Nat} (d : α) (hi : i < l.length) : l[i]? = some (l.getD i d) := by rw [List.getD_eq_getElem?_getD, List.getElem?_eq_getElem hi]; rfl
theorem IsSl.i64 {F : Nat → Prop} {h : AH} {v : AV} {xs : List Int} (hs : IsSl RInt F h v xs) : ∀ (i : Nat), i < xs.length → I64 (xs.getD i 0) := fun i hi => by
  obtain ⟨L, h1, _, _, h3⟩ := hs.out
  obtain ⟨c, _, hc⟩ := h3.get (getD_some' 0 hi)
  exact hc.2
/-- The items of a map that is not too great. -/
def OkM (m : MapD) : Prop := Sm 64 m.buckets ∧ (∀ b ∈ m.buckets, Sm 8 b.items ∧ Sm 8 b.weights) ∧ True
end Go.Proofs.YtkgbeihcepociaaDoor.Ex
end

section

set_option linter.unusedSimpArgs false
set_option linter.unusedVariables false
set_option maxRecDepth 10000
set_option maxHeartbeats 4000000
namespace Go.Proofs.YtkgbeihcepociaaDoor.Ex
open Go
def withinF (m : MapD) (id : Int) : Bool := m.buckets.any (fun b => b.items.contains id)
def twiceF (m : MapD) (i : Nat) : Bool := (m.buckets.take i).any (fun c => c.id == (m.buckets.getD i bkt0).id)
def mayO (o : OsdD) (osd x : Int) : Bool := o.ex && o.up && decide (0 < o.weight) && decide (IntKind.i64.wrap ((hash2F x (IntKind.u32.wrap osd)).tmod 65536) < o.weight)
def mayF (m : MapD) (osd x : Int) : Bool := if 0 ≤ osd then (match m.osds[osd.toNat]? with | some o => mayO o osd x | none => false) else false
end Go.Proofs.YtkgbeihcepociaaDoor.Ex
end

section

set_option linter.unusedSimpArgs false
set_option linter.unusedVariables false
set_option maxRecDepth 10000
set_option maxHeartbeats 4000000
namespace Go.Proofs.YtkgbeihcepociaaDoor.Ex
open Go
/-! Own rows of numbers. -/
def iL (xs : List Int) : List AV := xs.map fun n => .lit (.int .i64 n)
theorem iL_len (xs : List Int) : (iL xs).length = xs.length := by simp [iL]
theorem OwnL.ints {G : Nat → Prop} {n0 : Nat} {h : AH} {v : AV} {e : TypeId} {xs : List Int} (ho : OwnL RInt G n0 h v e xs) (hne : xs ≠ []) :
    ∃ p, v = .sl p 0 xs.length (.un 1) ∧ n0 ≤ p ∧ h.at p = some (.cells (iL xs) e) ∧ ∀ x ∈ xs, I64 x := by
  obtain ⟨L, h1, h2⟩ := ho
  have hL : L.flatten = iL xs ∧ ∀ x ∈ xs, I64 x := by
    obtain ⟨e1, e2⟩ := h2
    have key : ∀ (L : List (List AV)) (xs : List Int), L.length = xs.length → (∀ (i : Nat) c x, L[i]? = some c → xs[i]? = some x → RInt.is (fun b => G b ∧ Apart v b) h c x) → L.flatten = iL xs ∧ ∀ x ∈ xs, I64 x := by
      intro L
      induction L with
      | nil => intro xs hl _; cases xs with | nil => exact ⟨rfl, by simp⟩ | cons => cases hl
      | cons a r ih =>
        intro xs hl hh
        cases xs with
        | nil => cases hl
        | cons x xs =>
          obtain ⟨i1, i2⟩ := ih xs (by simpa using hl) (fun i c y a b => hh (i + 1) c y (by simpa using a) (by simpa using b))
          obtain ⟨rfl, j2⟩ := hh 0 a x rfl rfl
          refine ⟨by rw [List.flatten_cons, i1]; rfl, fun y hy => ?_⟩
          rcases List.mem_cons.1 hy with rfl | hy
          · exact j2
          · exact i2 y hy
    exact key L xs e1 e2
  have e0 := h2.1
  rcases h1.2 with ⟨rfl, rfl⟩ | ⟨p, rfl, hp, hat⟩
  · exact absurd (List.eq_nil_of_length_eq_zero (by rw [← e0]; rfl)) hne
  · exact ⟨p, by rw [e0]; rfl, hp, by rw [hat, hL.1], hL.2⟩
theorem OwnL.ofInts {G : Nat → Prop} {n0 : Nat} {h : AH} {e : TypeId} {xs : List Int} {p : Nat} (hp : n0 ≤ p) (hat : h.at p = some (.cells (iL xs) e)) (hx : ∀ x ∈ xs, I64 x) : OwnL RInt G n0 h (.sl p 0 xs.length (.un 1)) e xs := by
  refine ⟨xs.map fun n => [.lit (.int .i64 n)], ⟨?_, .inr ⟨p, ?_, hp, ?_⟩⟩, ?_, fun i c x h1 h2 => ?_⟩
  · intro c hc; obtain ⟨n, _, rfl⟩ := List.mem_map.1 hc; rfl
  · rw [List.length_map]; rfl
  · rw [hat]
    congr 2
    unfold iL
    clear hat hx
    induction xs with
    | nil => rfl
    | cons a r ih => simp only [List.map_cons, List.flatten_cons, ← ih]; rfl
  · simp
  · rw [List.getElem?_map, h2] at h1
    simp only [Option.map_some, Option.some.injEq] at h1
    exact ⟨h1.symm, hx x (List.mem_of_getElem? h2)⟩
theorem ldL_ints {T : TT} {e : TypeId} (hA : isAggT T e = some false) (hS : sizeT T e = some 1) {xs : List Int} {i : Nat} (hi : i < xs.length) : ldL T e (iL xs) i = some (.lit (.int .i64 (xs.getD i 0))) := by
  unfold ldL
  rw [hA, hS]
  simp only [iL, List.getElem?_map, getD_some' 0 hi, Option.map_some]
theorem put_ints {xs : List Int} {i : Nat} {x : Int} (hi : i < xs.length) : put (iL xs) i [.lit (.int .i64 x)] = some (iL (xs.set i x)) := by
  unfold put
  rw [if_pos (by rw [iL_len]; exact hi)]
  congr 1
  unfold iL
  rw [List.map_set, List.set_eq_take_append_cons_drop, if_pos (by rw [List.length_map]; exact hi)]
  simp
def posF (x : Int) (l : List Int) : Nat → Nat
  | 0 => 0
  | n + 1 => if l.getD n 0 < x then posF x l n else n + 1
def insD (x : Int) (l : List Int) : List Int := l.take (posF x l l.length) ++ x :: l.drop (posF x l l.length)
def rootsN (m : MapD) : Nat → List Int
  | 0 => []
  | i + 1 => if withinF m (m.buckets.getD i bkt0).id || twiceF m i then rootsN m i else insD (m.buckets.getD i bkt0).id (rootsN m i)
def rootsR (m : MapD) : List Int := rootsN m m.buckets.length
theorem posF_le (x : Int) (l : List Int) : ∀ n, posF x l n ≤ n
  | 0 => Nat.le_refl 0
  | n + 1 => by unfold posF; split; exact Nat.le_succ_of_le (posF_le x l n); exact Nat.le_refl _
end Go.Proofs.YtkgbeihcepociaaDoor.Ex
end

section

set_option linter.unusedSimpArgs false
set_option linter.unusedVariables false
set_option maxRecDepth 10000
set_option maxHeartbeats 4000000
namespace Go.Proofs.YtkgbeihcepociaaDoor.Ex
open Go
theorem getD_set {L : List Int} {i k : Nat} {x : Int} (hi : i < L.length) : (L.set i x).getD k 0 = if k = i then x else L.getD k 0 := by
  rw [List.getD_eq_getElem?_getD, List.getElem?_set]
  by_cases h : i = k
  · subst h; simp [hi]
  · rw [if_neg h, if_neg (fun hh => h hh.symm), List.getD_eq_getElem?_getD]
theorem reverse_x {H : AH} {p : Nat} {xs : List Int} (hat : H.at p = some (.cells (iL xs) 3)) (hl : xs.length < 2 ^ 62) :
    WC Tryd.prog (tabOf Tryd.prog NT0) S0 37 [.sl p 0 xs.length (.un 1)] H fun r h' => h'.at p = some (.cells (iL xs.reverse) 3) ∧ h'.n = H.n ∧ ∀ b, b ≠ p → h'.at b = H.at b := by
  refine WC_fn Tryd.func37 rfl rfl ?_
  obtain ⟨n, hn⟩ : ∃ n, n = xs.length := ⟨_, rfl⟩
  rw [← hn]
  have qs1 : isSl (.sl p 0 n (.un 1)) = true := rfl
  have qs2 : lenD (.sl p 0 n (.un 1)) = n := rfl
  have qs3 : slB (.sl p 0 n (.un 1)) = p := rfl
  have qs4 : slO (.sl p 0 n (.un 1)) = 0 := rfl
  have hw0 : IntKind.i64.wrap ((n : Int) - 1) = (n : Int) - 1 - ((0 : Nat) : Int) := (wrap_in (by omega) (by omega)).trans (by omega)
  simp only [core, Nat.reduceAdd, Nat.reduceSub, Nat.reduceMul, Nat.reduceLT, Nat.reduceEqDiff, reduceCtorEq, Nat.reduceLeDiff, Int.reduceLE, Int.reduceLT, Int.reduceToNat, Tryd.ntmps37, qs1, qs2, hw0]
  refine WB_ind (fun (i : Nat) t h => ∃ L, h.at p = some (.cells (iL L) 3) ∧ L.length = n ∧ (∀ k, k < n → L.getD k 0 = if k < i ∨ n < k + i + 1 then xs.getD (n - 1 - k) 0 else xs.getD k 0) ∧ h.n = H.n ∧ (∀ b, b ≠ p → h.at b = H.at b) ∧ i ≤ n ∧ t.n = 28 ∧ t.get 0 = .sl p 0 n (.un 1) ∧ t.get 2 = .lit (.int .i64 i) ∧ t.get 3 = .lit (.int .i64 ((n : Int) - 1 - (i : Int)))) (fun i => n - i) ?_ 0 _ _ ?_
  · rintro i t h ⟨L, W1, hL, hk, hhn, hkp, hin, hn, g0, g2, g3⟩ ih
    by_cases hlt : (i : Int) < (n : Int) - 1 - (i : Int)
    · obtain ⟨j, hj⟩ : ∃ j : Nat, (n : Int) - 1 - (i : Int) = (j : Int) := ⟨n - 1 - i, by omega⟩
      have hij : i < j := by omega
      have hjn : j < n := by omega
      have hin' : i < n := by omega
      have hji : n = i + j + 1 := by omega
      have hlt2 : ((i : Int) < (j : Int)) = True := by simp only [eq_iff_iff, iff_true]; omega
      rw [hj] at g3
      have hws : IntKind.i64.wrap ((i : Int) + 1) = ((i + 1 : Nat) : Int) := wrap_succ hin' (by omega)
      have hwj : IntKind.i64.wrap ((j : Int) - 1) = (n : Int) - 1 - ((i + 1 : Nat) : Int) := (wrap_in (by omega) (by omega)).trans (by omega)
      have lp := at_lt W1
      have LW := ld_at (T := tabOf Tryd.prog NT0) W1
      have hLj := ldL_ints (T := tabOf Tryd.prog NT0) (e := 3) (by kernel_rfl) (by kernel_rfl) (xs := L) (i := j) (by omega)
      have hLi := ldL_ints (T := tabOf Tryd.prog NT0) (e := 3) (by kernel_rfl) (by kernel_rfl) (xs := L) (i := i) (by omega)
      have hp1 := put_ints (xs := L) (i := i) (x := L.getD j 0) (by omega)
      have hp2 := put_ints (xs := L.set i (L.getD j 0)) (i := j) (x := L.getD i 0) (by rw [List.length_set]; omega)
      simp only [corem, WB_cond_s, put, ldL, WB_label, List.nil_append, List.drop_zero, List.take_zero, Nat.reduceAdd, Nat.reduceSub, Nat.reduceMul, Nat.reduceLT, Nat.reduceEqDiff, reduceCtorEq, Nat.reduceLeDiff, Int.reduceLE, Int.reduceLT, Int.reduceToNat, -put, -ldL, hn, g0, g2, g3, hlt2]
      rw [WB_regionD [0, 1, 2, 3, 4, 5, 6, 7, 8, 9, 10, 11, 12, 13, 14, 15] 57894719459764238329548227498075550650561006036747800846190911987956708278272 (by kernel_rfl)]
      repeat (first | ((with_reducible refine WDM_cons ?_; simp only [dw1]; try simp only [dw2, Nat.reduceAdd, Nat.reduceMul, Nat.reduceShiftRight, Nat.reduceMod, Nat.reduceEqDiff]); simp only [corem, WB_cond_s, put, ldL, WB_label, List.nil_append, List.drop_zero, List.take_zero, Nat.reduceAdd, Nat.reduceSub, Nat.reduceMul, Nat.reduceLT, Nat.reduceEqDiff, reduceCtorEq, Nat.reduceLeDiff, Int.reduceLE, Int.reduceLT, Int.reduceToNat, cored, -put, -ldL, hn, g0, g2, g3, qs1, qs2, qs3, qs4, hin', hjn, LW, hLj, hLi, W1, lp, hp1, hp2, hws, hwj]) | simp only [corem, WB_cond_s, put, ldL, WB_label, List.nil_append, List.drop_zero, List.take_zero, Nat.reduceAdd, Nat.reduceSub, Nat.reduceMul, Nat.reduceLT, Nat.reduceEqDiff, reduceCtorEq, Nat.reduceLeDiff, Int.reduceLE, Int.reduceLT, Int.reduceToNat, cored, -put, -ldL, hn, g0, g2, g3, qs1, qs2, qs3, qs4, hin', hjn, LW, hLj, hLi, W1, lp, hp1, hp2, hws, hwj])
      refine ih (i + 1) _ _ ⟨(L.set i (L.getD j 0)).set j (L.getD i 0), at_put_same _ (by rw [n_put]; exact lp), by simp [hL], fun k hkn => ?_, by rw [n_put, n_put]; exact hhn, fun b hb => by rw [at_put_ne _ (Ne.symm hb), at_put_ne _ (Ne.symm hb)]; exact hkp b hb, by omega, ?_⟩ (by omega)
      · rw [getD_set (by rw [List.length_set]; omega), getD_set (by omega)]
        have q1 := hk i hin'
        have q2 := hk j hjn
        have q3 := hk k hkn
        rw [if_neg (by omega)] at q1 q2
        by_cases c1 : k = j
        · subst c1
          rw [if_pos rfl, if_pos (by omega), q1]
          congr 1
          omega
        · rw [if_neg c1]
          by_cases c2 : k = i
          · subst c2
            rw [if_pos rfl, if_pos (by omega), q2]
            congr 1
            omega
          · rw [if_neg c2, q3]
            by_cases c3 : k < i ∨ n < k + i + 1
            · rw [if_pos c3, if_pos (by omega)]
            · rw [if_neg c3, if_neg (by omega)]
      · simp only [core, Nat.reduceAdd, Nat.reduceSub, Nat.reduceMul, Nat.reduceLT, Nat.reduceEqDiff, reduceCtorEq, Nat.reduceLeDiff, Int.reduceLE, Int.reduceLT, Int.reduceToNat, hn, g0, g2, g3]
    · have hlt2 : ((i : Int) < (n : Int) - 1 - (i : Int)) = False := by simp only [eq_iff_iff, iff_false]; exact hlt
      simp only [core, Nat.reduceAdd, Nat.reduceSub, Nat.reduceMul, Nat.reduceLT, Nat.reduceEqDiff, reduceCtorEq, Nat.reduceLeDiff, Int.reduceLE, Int.reduceLT, Int.reduceToNat, hn, g0, g2, g3, hlt2]
      refine ⟨Or.inl trivial, ?_, hhn, hkp⟩
      rw [W1]
      congr 3
      refine List.ext_getElem (by rw [List.length_reverse]; omega) fun k h1 h2 => ?_
      have q := hk k (by omega)
      rw [List.getElem_reverse]
      rw [List.getD_eq_getElem?_getD, List.getElem?_eq_getElem h1] at q
      simp only [Option.getD_some] at q
      rw [q]
      have hx : xs.getD (n - 1 - k) 0 = xs[xs.length - 1 - k]'(by omega) := by
        rw [show n - 1 - k = xs.length - 1 - k by omega, List.getD_eq_getElem?_getD, List.getElem?_eq_getElem (by omega)]
        rfl
      split
      · exact hx
      · rw [← hx]
        congr 1
        omega
  · refine ⟨xs, hat, hn.symm, fun k hk => ?_, rfl, fun _ _ => rfl, Nat.zero_le _, ?_⟩
    · rw [if_neg (by omega)]
    · simp only [core, Nat.reduceAdd, Nat.reduceSub, Nat.reduceMul, Nat.reduceLT, Nat.reduceEqDiff, reduceCtorEq, Nat.reduceLeDiff, Int.reduceLE, Int.reduceLT, Int.reduceToNat]
      (repeat' apply And.intro) <;> first | rfl | trivial
end Go.Proofs.YtkgbeihcepociaaDoor.Ex
end

section

set_option linter.unusedSimpArgs false
set_option linter.unusedVariables false
set_option maxRecDepth 10000
set_option maxHeartbeats 4000000
namespace Go.Proofs.YtkgbeihcepociaaDoor.Ex
open Go
theorem good_bkt {m : MapD} (hg : goodF m = true) {id : Int} {b : BktD} (hb : bucketF m id = some b) :
    b ∈ m.buckets ∧ b.id = id ∧ 1 ≤ b.kind ∧ b.kind ≤ 3 ∧ b.id < 0 ∧ b.items.length = b.weights.length ∧ (∀ i, i < b.items.length → 0 ≤ kindF m (b.items.getD i 0) ∧ kindF m (b.items.getD i 0) < b.kind) ∧ ∀ i, i < b.weights.length → wOk (b.weights.getD i 0) = true := by
  have hm := List.mem_of_find?_eq_some hb
  have hid := List.find?_some hb
  obtain ⟨j, hj, hjb⟩ := List.mem_iff_getElem.1 hm
  have hx : m.buckets[j]? = some b := by rw [List.getElem?_eq_getElem hj, hjb]
  unfold goodF at hg
  simp only [Bool.and_eq_true] at hg
  have := List.all_eq_true.1 hg.2 j (List.mem_range.2 hj)
  rw [getD_of hx] at this
  unfold bOk hdOk at this
  simp only [Bool.and_eq_true, decide_eq_true_eq, beq_iff_eq] at this
  obtain ⟨⟨⟨⟨⟨⟨a1, a2⟩, a3⟩, a4⟩, a5⟩, a6⟩, a7⟩ := this
  refine ⟨hm, by simpa using hid, a3, a4, a2, a5, fun i hi => ?_, fun i hi => ?_⟩
  · have := List.all_eq_true.1 a7 i (List.mem_range.2 hi)
    unfold itemOk at this
    simp only [Bool.and_eq_true, decide_eq_true_eq] at this
    exact this.1
  · exact List.all_eq_true.1 a6 _ (List.mem_of_getElem? (getD_some' 0 hi))
theorem kind_bkt {m : MapD} {id : Int} (hid : id < 0) {b : BktD} (hb : bucketF m id = some b) : kindF m id = b.kind := by
  unfold kindF bucketG
  rw [if_neg (by omega), hb]
  rfl
def downF (m : MapD) (k x r : Int) : Nat → Int → Option Int
  | 0, _ => none
  | n + 1, at' => match bucketF m at' with
    | none => none
    | some b => match chooseF b.items b.weights x r with
      | none => none
      | some i => if 0 ≤ b.items.getD i 0 ∨ kindF m (b.items.getD i 0) = k then some (b.items.getD i 0) else downF m k x r n (b.items.getD i 0)
def optV : Option Int → AV
  | some k => pairV k true
  | none => pairV 0 false
end Go.Proofs.YtkgbeihcepociaaDoor.Ex
end

section

set_option linter.unusedSimpArgs false
set_option linter.unusedVariables false
set_option maxRecDepth 10000
set_option maxHeartbeats 4000000
namespace Go.Proofs.YtkgbeihcepociaaDoor.Ex
open Go
/-- One try: the osd, and the bucket that it is to have alone. -/
def tryR (m : MapD) (x root : Int) (s : List Int × List Int) (r : Int) : Option (Int × Int) := match downF m m.leaf x r 4 root with
  | none => none
  | some d => if s.2.contains d then none else match (if d < 0 then downF m 0 x r 4 d else some d) with
    | none => none
    | some o => if !mayF m o x || s.1.contains o then none else some (o, d)
def firstR (m : MapD) (x root : Int) (s : List Int × List Int) (k : Nat) : Nat → Option (Int × Int)
  | 0 => none
  | t + 1 => match firstR m x root s k t with
    | some y => some y
    | none => tryR m x root s ((k + t : Nat) : Int)
def copyR (m : MapD) (x root : Int) (s : List Int × List Int) (k : Nat) : List Int × List Int := match firstR m x root s k 50 with
  | some (o, d) => (s.1 ++ [o], s.2 ++ [d])
  | none => s
def selN (m : MapD) (x root : Int) : Nat → List Int × List Int
  | 0 => ([], [])
  | k + 1 => copyR m x root (selN m x root k) k
def cntF (n : Int) : Nat := if 8 < n then 8 else n.toNat
def selectF (m : MapD) (x n : Int) : List Int := if goodF m then (match rootsR m with
  | [] => []
  | root :: _ => (selN m x root (cntF n)).1) else []
theorem selN_len (m : MapD) (x root : Int) : ∀ k, (selN m x root k).1.length ≤ k ∧ (selN m x root k).2.length ≤ k
  | 0 => ⟨Nat.le_refl 0, Nat.le_refl 0⟩
  | k + 1 => by
    obtain ⟨h1, h2⟩ := selN_len m x root k
    unfold selN copyR
    split
    · simp; omega
    · omega
theorem firstR_le {m : MapD} {x root : Int} {s : List Int × List Int} {k i : Nat} {y : Int × Int} (h : firstR m x root s k i = some y) : ∀ j, i ≤ j → firstR m x root s k j = some y
  | 0, hj => by
    have : i = 0 := by omega
    subst this
    exact h
  | j + 1, hj => by
    by_cases hi : i = j + 1
    · subst hi; exact h
    · rw [firstR, firstR_le h j (by omega)]
theorem firstR_zero {m : MapD} {x root : Int} {s : List Int × List Int} {k : Nat} : firstR m x root s k 0 = none := rfl
theorem firstR_next {m : MapD} {x root : Int} {s : List Int × List Int} {k t : Nat} (h : firstR m x root s k t = none) : firstR m x root s k (t + 1) = tryR m x root s ((k + t : Nat) : Int) := by
  rw [firstR, h]
attribute [irreducible] firstR
theorem down_i64 {F : Nat → Prop} {H : AH} {m : MapD} {vo vp vb : AV} {k x r : Int} (hm : MpAt F H m vo vp vb) : ∀ n a d, downF m k x r n a = some d → I64 d
  | 0, a, d, h => by cases h
  | n + 1, a, d, h => by
    unfold downF at h
    cases hb : bucketF m a with
    | none => rw [hb] at h; cases h
    | some b =>
    rw [hb] at h
    simp only at h
    cases hc : chooseF b.items b.weights x r with
    | none => rw [hc] at h; cases h
    | some i =>
    rw [hc] at h
    simp only at h
    split at h
    · cases h
      have hbm := List.mem_of_find?_eq_some hb
      obtain ⟨j, hj, hjb⟩ := List.mem_iff_getElem.1 hbm
      have hx : m.buckets[j]? = some b := by rw [List.getElem?_eq_getElem hj, hjb]
      obtain ⟨c, hc', _⟩ := hm.b.atE (T := tabOf Tryd.prog NT0) (Ext.refl _ _) (z := 4) rfl hx
      obtain ⟨va, vw, rfl, hi1, _⟩ := RBkt_is.1 hc'
      refine hi1.i64 i ?_
      have hq := chN_le b.items b.weights x r b.items.length
      unfold chooseF at hc
      split at hc
      · split at hc
        · have hc := Option.some.inj hc
          omega
        · cases hc
      · cases hc
    · exact down_i64 hm n _ d h
/-- Two own slices lie in two blocks. -/
def Disj (u v : AV) : Prop := ∀ b o n c o' n' c', u = .sl b o n c → v = .sl b o' n' c' → False
theorem Disj.nil_l {v : AV} : Disj (.lit (.slice none 0 0)) v := fun _ _ _ _ _ _ _ h _ => by cases h
theorem Disj.symm {u v : AV} (h : Disj u v) : Disj v u := fun b o n c o' n' c' h1 h2 => h b o' n' c' o n c h2 h1
theorem Disj.apart {u v : AV} (h : Disj u v) {b o n : Nat} {c : Cap} (hv : v = .sl b o n c) : Apart u b := fun o' n' c' hu => h b o' n' c' o n c hu hv
theorem OwnL.other {α : Type} {R : Rep α} {n0 : Nat} {h h' : AH} {u v s : AV} {e : TypeId} {xs : List α} (ho : OwnL R (fun _ => False) n0 h v e xs) (hd : Disj u v) (hk : ∀ b, b < h.n → Apart u b → h'.at b = h.at b ∧ Apart s b) : OwnL R (fun _ => False) n0 h' v e xs ∧ Disj s v := by
  have key : ∀ b off n cap, v = .sl b off n cap → b < h.n := fun b off n cap hv => by
    obtain ⟨L, h1, h2⟩ := ho
    rcases h1.2 with ⟨hh, _⟩ | ⟨p, hh, hp, hat⟩
    · rw [hh] at hv; cases hv
    · rw [hh] at hv; cases hv; exact at_lt hat
  refine ⟨ho.lift (fun b off n cap hv => (hk b (key _ _ _ _ hv) (hd.apart hv)).1) (fun b hb => hb.elim), fun b o n c o' n' c' hs hv => ?_⟩
  exact (hk b (key _ _ _ _ hv) (hd.apart hv)).2 _ _ _ hs
end Go.Proofs.YtkgbeihcepociaaDoor.Ex
end

section

set_option linter.unusedSimpArgs false
set_option linter.unusedVariables false
set_option maxRecDepth 10000
set_option maxHeartbeats 4000000
namespace Go.Proofs.YtkgbeihcepociaaDoor.Ex
open Go
def parentF (m : MapD) (item : Int) : Option BktD := m.buckets.find? (fun b => b.items.contains item)
def parentG (m : MapD) (item : Int) : BktD := (parentF m item).getD bkt0
theorem parent_x {F : Nat → Prop} {H : AH} {m : MapD} {vo vp vb : AV} (item : Int) (hm : MpAt F H m vo vp vb) (hl : Sm 64 m.buckets) (hbs : ∀ b ∈ m.buckets, Sm 8 b.items ∧ Sm 8 b.weights) :
    WC Tryd.prog (tabOf Tryd.prog NT0) S0 35 [mpV m vo vp vb, .lit (.int .i64 item)] H fun r h' => Ext H.n H h' ∧ ∃ va vw, r = .tup [bktV (parentG m item) va vw, .lit (.bool (parentF m item).isSome)] ∧ IsSl RInt F h' va (parentG m item).items ∧ IsSl RInt F h' vw (parentG m item).weights := by
  refine WC_fn Tryd.func35 rfl rfl ?_
  unfold Sm at hl
  have s1 := hm.b.isSl
  have s2 := hm.b.lenD
  have o1 := hm.o.one
  have o2 := hm.p.one
  have o3 := hm.b.one
  simp only [core, Nat.reduceAdd, Nat.reduceSub, Nat.reduceMul, Nat.reduceLT, Nat.reduceEqDiff, reduceCtorEq, Nat.reduceLeDiff, Int.reduceLE, Int.reduceLT, Int.reduceToNat, Tryd.ntmps35, mpV, s1, s2, o1, o2, o3]
  obtain ⟨h2, hh2⟩ : ∃ h2, h2 = (H.push (.cells [.lit (.int .i64 m.epoch), vo, vp, vb, .lit (.int .i64 m.leaf)] 26)).push (.cells [.lit (.int .i64 0), .lit (.int .i64 0), .lit (.slice none 0 0), .lit (.slice none 0 0)] 47) := ⟨_, rfl⟩
  have E0 : Ext H.n H h2 := hh2 ▸ ((Ext.refl _ _).push _ (Nat.le_refl _)).push _ (by rw [n_push]; omega)
  have A0 : h2.at (H.n + 1) = some (.cells [.lit (.int .i64 0), .lit (.int .i64 0), .lit (.slice none 0 0), .lit (.slice none 0 0)] 47) := hh2 ▸ at_push_n _ _
  have n2 : h2.n = H.n + 2 := by rw [hh2, n_push, n_push]
  rw [← hh2]
  clear hh2
  refine WB_for m.buckets.length (fun i t h => Ext h2.n h2 h ∧ parentF m item = (m.buckets.drop i).find? (fun b => b.items.contains item) ∧ t.n = 22 ∧ t.get 1 = .lit (.int .i64 item) ∧ t.get 4 = .ptr (H.n + 1) 0 ∧ t.get 9 = vb ∧ t.get 10 = .lit (.int .i64 m.buckets.length) ∧ t.get 11 = .lit (.int .i64 i)) ?_ ?_ _ _ ?_
  · rintro i t h hlt hc ⟨he, hf, hn, g1, g4, g9, g10, g11⟩ ih
    obtain ⟨x, hx⟩ : ∃ x, m.buckets[i]? = some x := ⟨_, List.getElem?_eq_getElem hlt⟩
    have E1 : Ext H.n H h := E0.trans (he.mono (by omega))
    obtain ⟨c, hc1, hld, hld0⟩ := hm.b.atE (T := tabOf Tryd.prog NT0) E1 RBkt_z hx
    obtain ⟨va, vw, rfl, ha, hw, i1, i2⟩ := RBkt_is.1 hc1
    have a1 := ha.one
    have w1 := hw.one
    have hws := wrap_succ hlt (by omega)
    rw [find_drop hx] at hf
    have A1 : h.at (H.n + 1) = some (.cells [.lit (.int .i64 0), .lit (.int .i64 0), .lit (.slice none 0 0), .lit (.slice none 0 0)] 47) := (he.2 _ (by omega)).trans A0
    have l1 : H.n + 1 < h.n := at_lt A1
    obtain ⟨k1, k2⟩ := hbs x (List.mem_of_getElem? hx)
    unfold Sm at k1
    simp only [core, Nat.reduceAdd, Nat.reduceSub, Nat.reduceMul, Nat.reduceLT, Nat.reduceEqDiff, reduceCtorEq, Nat.reduceLeDiff, Int.reduceLE, Int.reduceLT, Int.reduceToNat, s1, s2, hn, g1, g4, g9, g10, g11, hlt, hc, hld, hld0, hws, a1, w1]
    have EQ : ∀ y, Ext H.n H (h.push y) := fun y => E1.push _ E1.1
    refine (contains_x item (ha.ext (EQ _) (Nat.le_refl _)) (by omega)).mono ?_
    rintro _ h9 ⟨rfl, rfl⟩
    simp only [core, Nat.reduceAdd, Nat.reduceSub, Nat.reduceMul, Nat.reduceLT, Nat.reduceEqDiff, reduceCtorEq, Nat.reduceLeDiff, Int.reduceLE, Int.reduceLT, Int.reduceToNat, s1, s2, hn, g1, g4, g9, g10, g11, hlt, hc, hld, hld0, hws, a1, w1]
    refine ⟨fun hq => ?_, fun hq => ?_⟩
    · rw [if_pos hq] at hf
      have hG : parentG m item = x := by unfold parentG; rw [hf]; rfl
      simp only [core, Nat.reduceAdd, Nat.reduceSub, Nat.reduceMul, Nat.reduceLT, Nat.reduceEqDiff, reduceCtorEq, Nat.reduceLeDiff, Int.reduceLE, Int.reduceLT, Int.reduceToNat, hn, g1, g4, g9, g10, g11, a1, w1, A1, l1]
      have EF : Ext H.n H ((h.put (H.n + 1) (.cells [.lit (.int .i64 x.id), .lit (.int .i64 x.kind), va, vw] 47)).push (.cells [.lit (.int .i64 x.id), .lit (.int .i64 x.kind), va, vw] 47)) := (E1.put _ (by omega)).push _ (by rw [n_put]; omega)
      rw [hG, hf]
      exact ⟨EF, va, vw, rfl, ha.ext EF (Nat.le_refl _), hw.ext EF (Nat.le_refl _)⟩
    · rw [if_neg (by rw [hq]; decide)] at hf
      refine ih _ _ ⟨he.push _ he.1, hf, ?_⟩
      simp only [core, Nat.reduceAdd, Nat.reduceSub, Nat.reduceMul, Nat.reduceLT, Nat.reduceEqDiff, reduceCtorEq, Nat.reduceLeDiff, Int.reduceLE, Int.reduceLT, Int.reduceToNat, hn, g1, g4, g9, g10, g11]
  · rintro t h hc ⟨he, hf, hn, g1, g4, g9, g10, g11⟩
    have A1 : h.at (H.n + 1) = some (.cells [.lit (.int .i64 0), .lit (.int .i64 0), .lit (.slice none 0 0), .lit (.slice none 0 0)] 47) := (he.2 _ (by omega)).trans A0
    have l1 : H.n + 1 < h.n := at_lt A1
    have E1 : Ext H.n H h := E0.trans (he.mono (by omega))
    have hf : parentF m item = none := by rw [hf, List.drop_length]; rfl
    have hG : parentG m item = bkt0 := by unfold parentG; rw [hf]; rfl
    simp only [core, Nat.reduceAdd, Nat.reduceSub, Nat.reduceMul, Nat.reduceLT, Nat.reduceEqDiff, reduceCtorEq, Nat.reduceLeDiff, Int.reduceLE, Int.reduceLT, Int.reduceToNat, s1, s2, hn, g1, g4, g9, g10, g11, hc, A1, l1, bdM, fillA]
    rw [hG, hf]
    exact ⟨E1.put _ (by omega), _, _, rfl, IsSl.nil, IsSl.nil⟩
  · simp only [core, Nat.reduceAdd, Nat.reduceSub, Nat.reduceMul, Nat.reduceLT, Nat.reduceEqDiff, reduceCtorEq, Nat.reduceLeDiff, Int.reduceLE, Int.reduceLT, Int.reduceToNat]
    refine ⟨Ext.refl _ _, rfl, ?_⟩
    (repeat' apply And.intro) <;> first | rfl | trivial
end Go.Proofs.YtkgbeihcepociaaDoor.Ex
end

section

set_option linter.unusedSimpArgs false
set_option linter.unusedVariables false
set_option maxRecDepth 10000
set_option maxHeartbeats 4000000
namespace Go.Proofs.YtkgbeihcepociaaDoor.Ex
open Go
def fitF (m : MapD) (b : BktD) (id : Int) : Bool := if 0 ≤ id then decide (id < 8) else (bucketF m id).isSome && decide ((bucketG m id).kind < b.kind)
theorem may_x {F : Nat → Prop} {H : AH} {m : MapD} {vo vp vb va vw : AV} {b : BktD} (id : Int) (hm : MpAt F H m vo vp vb) (hl : Sm 64 m.buckets) (hbs : ∀ b ∈ m.buckets, Sm 8 b.items ∧ Sm 8 b.weights) (hva : va.one = true) (hvw : vw.one = true) :
    WC Tryd.prog (tabOf Tryd.prog NT0) S0 34 [mpV m vo vp vb, bktV b va vw, .lit (.int .i64 id)] H fun r h' => Ext H.n H h' ∧ r = .lit (.bool (fitF m b id)) := by
  refine WC_fn Tryd.func34 rfl rfl ?_
  have o1 := hm.o.one
  have o2 := hm.p.one
  have o3 := hm.b.one
  simp only [core, Nat.reduceAdd, Nat.reduceSub, Nat.reduceMul, Nat.reduceLT, Nat.reduceEqDiff, reduceCtorEq, Nat.reduceLeDiff, Int.reduceLE, Int.reduceLT, Int.reduceToNat, Tryd.ntmps34, mpV, bktV, o1, o2, o3, hva, hvw]
  obtain ⟨h1, hh1⟩ : ∃ h1, h1 = (H.push (.cells [.lit (.int .i64 m.epoch), vo, vp, vb, .lit (.int .i64 m.leaf)] 26)).push (.cells [.lit (.int .i64 b.id), .lit (.int .i64 b.kind), va, vw] 47) := ⟨_, rfl⟩
  have E1 : Ext H.n H h1 := hh1 ▸ ((Ext.refl _ _).push _ (Nat.le_refl _)).push _ (by rw [n_push]; omega)
  have n1 : h1.n = H.n + 2 := by rw [hh1, n_push, n_push]
  have A1 : h1.at (H.n + 1) = some (.cells [.lit (.int .i64 b.id), .lit (.int .i64 b.kind), va, vw] 47) := by
    rw [hh1]
    have := at_push_n (H.push (.cells [.lit (.int .i64 m.epoch), vo, vp, vb, .lit (.int .i64 m.leaf)] 26)) (.cells [.lit (.int .i64 b.id), .lit (.int .i64 b.kind), va, vw] 47)
    rw [n_push] at this
    exact this
  try rw [← hh1]
  clear hh1
  by_cases h0 : 0 ≤ id
  · simp only [core, Nat.reduceAdd, Nat.reduceSub, Nat.reduceMul, Nat.reduceLT, Nat.reduceEqDiff, reduceCtorEq, Nat.reduceLeDiff, Int.reduceLE, Int.reduceLT, Int.reduceToNat, h0]
    refine ⟨E1, ?_⟩
    unfold fitF
    rw [if_pos h0]
  · simp only [core, Nat.reduceAdd, Nat.reduceSub, Nat.reduceMul, Nat.reduceLT, Nat.reduceEqDiff, reduceCtorEq, Nat.reduceLeDiff, Int.reduceLE, Int.reduceLT, Int.reduceToNat, h0]
    refine (bucket_x id (hm.ext E1 (Nat.le_refl _)) hl hbs).mono ?_
    rintro _ h2 ⟨e2, v1, v2, rfl, b1, b2⟩
    have o4 := b1.one
    have o5 := b2.one
    have E2 := E1.step e2
    have A2 := (e2.2 _ (by omega)).trans A1
    have l2 := at_lt A2
    have LA2 := ld_at (T := tabOf Tryd.prog NT0) A2
    simp only [core, Nat.reduceAdd, Nat.reduceSub, Nat.reduceMul, Nat.reduceLT, Nat.reduceEqDiff, reduceCtorEq, Nat.reduceLeDiff, Int.reduceLE, Int.reduceLT, Int.reduceToNat, bktV, o4, o5, A2, l2, LA2]
    obtain ⟨h3, hh3⟩ : ∃ h3, h3 = h2.push (.cells [.lit (.int .i64 (bucketG m id).id), .lit (.int .i64 (bucketG m id).kind), v1, v2] 47) := ⟨_, rfl⟩
    have e3 : Ext h2.n h2 h3 := hh3 ▸ (Ext.refl _ _).push _ (Nat.le_refl _)
    have B3 : h3.at h2.n = some (.cells [.lit (.int .i64 (bucketG m id).id), .lit (.int .i64 (bucketG m id).kind), v1, v2] 47) := hh3 ▸ at_push_n _ _
    rw [← hh3]
    clear hh3
    have E3 := E2.step e3
    have A3 := (e3.2 _ l2).trans A2
    have l3 := at_lt A3
    have LA3 := ld_at (T := tabOf Tryd.prog NT0) A3
    have LB3 := ld_at (T := tabOf Tryd.prog NT0) B3
    have b3 := at_lt B3
    cases hb : (bucketF m id).isSome with
    | false =>
      simp only [core, Nat.reduceAdd, Nat.reduceSub, Nat.reduceMul, Nat.reduceLT, Nat.reduceEqDiff, reduceCtorEq, Nat.reduceLeDiff, Int.reduceLE, Int.reduceLT, Int.reduceToNat]
      refine ⟨E3, ?_⟩
      unfold fitF
      rw [if_neg h0, hb]
      rfl
    | true =>
      simp only [core, Nat.reduceAdd, Nat.reduceSub, Nat.reduceMul, Nat.reduceLT, Nat.reduceEqDiff, reduceCtorEq, Nat.reduceLeDiff, Int.reduceLE, Int.reduceLT, Int.reduceToNat, LA3, LB3, l3, b3]
      refine ⟨E3, ?_⟩
      unfold fitF
      rw [if_neg h0, hb]
      rfl
end Go.Proofs.YtkgbeihcepociaaDoor.Ex
end

section

set_option linter.unusedSimpArgs false
set_option linter.unusedVariables false
set_option maxRecDepth 10000
set_option maxHeartbeats 4000000
namespace Go.Proofs.YtkgbeihcepociaaDoor.Ex
open Go
/-- A map whose keys are these, each with 1. -/
def Ones (es : List AE) (ks : List Int) : Prop := es.map (fun e => (e.key, e.val)) = ks.map (fun k => (.int .i64 k, .lit (.int .i64 1)))
theorem findA_int (d : Int) : ∀ (ks : List Int) (es : List AE) (i : Nat), Ones es ks → (d ∉ ks → findA (.int .i64) (.int .i64 d) es i = some none) ∧ (d ∈ ks → ∃ j, j < es.length ∧ findA (.int .i64) (.int .i64 d) es i = some (some (i + j, .lit (.int .i64 1))) ∧ ∀ x, findA (.int .i64) (.int .i64 d) (es.modify j fun e => { e with key := .int .i64 d, val := x }) i = some (some (i + j, x)))
  | [], es, i, h => by
    have : es = [] := by unfold Ones at h; simpa using h
    subst this
    exact ⟨fun _ => rfl, fun h => by cases h⟩
  | k :: ks, es, i, h => by
    cases es with
    | nil => unfold Ones at h; simp at h
    | cons e es =>
    unfold Ones at h
    simp only [List.map_cons, List.cons.injEq, Prod.mk.injEq] at h
    obtain ⟨⟨h1, h2⟩, h3⟩ := h
    obtain ⟨r1, r2⟩ := findA_int d ks es (i + 1) h3
    have hs : Instr.sameNow (.int .i64) (.int .i64 d) e.key = some (d == k) := by rw [h1]; rfl
    have hd : Instr.sameNow (.int .i64) (.int .i64 d) (.int .i64 d) = some (d == d) := rfl
    by_cases hk : d = k
    · subst hk
      refine ⟨fun hn => absurd (List.mem_cons_self ..) hn, fun _ => ⟨0, by simp, ?_, fun x => ?_⟩⟩
      · unfold findA
        rw [hs, beq_self_eq_true, h2]
        rfl
      · simp only [List.modify_zero_cons]
        unfold findA
        simp only [hd, beq_self_eq_true]
        rfl
    · have hkb : (d == k) = false := by simpa using hk
      refine ⟨fun hn => ?_, fun hm => ?_⟩
      · unfold findA
        rw [hs, hkb]
        exact r1 (fun hh => hn (List.mem_cons_of_mem _ hh))
      · obtain ⟨j, hj, q1, q2⟩ := r2 (by rcases List.mem_cons.1 hm with h | h; exact absurd h hk; exact h)
        refine ⟨j + 1, by simpa using hj, ?_, fun x => ?_⟩
        · unfold findA
          rw [hs, hkb]
          simp only
          rw [q1]
          congr 3
          omega
        · rw [List.modify_succ_cons]
          unfold findA
          rw [hs, hkb]
          simp only
          rw [q2 x]
          congr 3
          omega
theorem Ones.snoc {es : List AE} {ks : List Int} {k : Int} {c : Nat} (h : Ones es ks) : Ones (es ++ [{ key := .int .i64 k, val := .lit (.int .i64 1), born := c }]) (ks ++ [k]) := by
  unfold Ones at *
  rw [List.map_append, List.map_append, h]
  rfl
section
variable {P : Program} {T : TT} {t : TM} {h : AH} {d : Option Tmp} {ty e : TypeId} {ps : String} {af : Array Edge} {g : Option (Nat × Bool)}
theorem a_mkm : aop P T ⟨d, .makeMap e none, ty, ps, af, g⟩ t h = some (.val (.mp h.n), h.push (.map [] 0)) := rfl
theorem a_look {m k : Operand} {ok : Bool} : aop P T ⟨d, .lookup e m k ok, ty, ps, af, g⟩ t h = aLookup T t h e m k ok := rfl
theorem a_mupd {m k x : Operand} : aop P T ⟨d, .mapUpdate e m k x, ty, ps, af, g⟩ t h = aUpdate T t h e m k x := rfl
end
section
variable {T : TT} {t kt et : TypeId} {h : AH} {b : Nat} {es : List AE} {c : Nat} {ks : List Int} {d : Int}
theorem findT_int (hu : und T t = some (.map kt et)) (hi : und T kt = some (.int .i64)) : findT T t (.int .i64 d) es = findA (.int .i64) (.int .i64 d) es 0 := by
  unfold findT
  rw [hu]
  simp only
  unfold und at hi
  cases hT : T kt with
  | none => rw [hT] at hi; cases hi
  | some i =>
    rw [hT] at hi
    simp only [Option.map_some, Option.some.injEq] at hi
    simp only [hi]
    rfl
theorem look_new (hu : und T t = some (.map kt et)) (hi : und T kt = some (.int .i64)) (hz : zeroT T et = some (.lit (.int .i64 0))) (hb : h.at b = some (.map es c)) (ho : Ones es ks) (hd : d ∉ ks) :
    lookupA T h t (.mp b) (.lit (.int .i64 d)) false = some (.lit (.int .i64 0)) := by
  unfold lookupA
  simp only [keyOf, entsA, hb, elemT, hu, findT_int hu hi, (findA_int d ks es 0 ho).1 hd, hz]
  rfl
theorem look_old (hu : und T t = some (.map kt et)) (hi : und T kt = some (.int .i64)) (hz : zeroT T et = some (.lit (.int .i64 0))) (hb : h.at b = some (.map es c)) (ho : Ones es ks) (hd : d ∈ ks) :
    lookupA T h t (.mp b) (.lit (.int .i64 d)) false = some (.lit (.int .i64 1)) := by
  obtain ⟨j, hj, q1, q2⟩ := (findA_int d ks es 0 ho).2 hd
  unfold lookupA
  simp only [keyOf, entsA, hb, elemT, hu, findT_int hu hi, q1, hz]
  rfl
theorem upd_new {x : AV} (hu : und T t = some (.map kt et)) (hi : und T kt = some (.int .i64)) (hb : h.at b = some (.map es c)) (ho : Ones es ks) (hd : d ∉ ks) :
    updateA T h t (.mp b) (.lit (.int .i64 d)) x = some (h.put b (.map (es ++ [{ key := .int .i64 d, val := x, born := c }]) (c + 1))) := by
  unfold updateA
  simp only [keyOf, hb, findT_int hu hi, (findA_int d ks es 0 ho).1 hd]
theorem upd_old {x : AV} (hu : und T t = some (.map kt et)) (hi : und T kt = some (.int .i64)) (hz : zeroT T et = some (.lit (.int .i64 0))) (hb : h.at b = some (.map es c)) (ho : Ones es ks) (hd : d ∈ ks) :
    ∃ es', updateA T h t (.mp b) (.lit (.int .i64 d)) x = some (h.put b (.map es' c)) ∧ ∀ h', h'.at b = some (.map es' c) → lookupA T h' t (.mp b) (.lit (.int .i64 d)) false = some x := by
  obtain ⟨j, hj, q1, q2⟩ := (findA_int d ks es 0 ho).2 hd
  refine ⟨es.modify (0 + j) fun e => { e with key := .int .i64 d, val := x }, ?_, fun h' hb' => ?_⟩
  · unfold updateA
    simp only [keyOf, hb, findT_int hu hi, q1]
  · unfold lookupA
    rw [Nat.zero_add] at hb'
    simp only [keyOf, entsA, hb', elemT, hu, findT_int hu hi, q2 x, hz]
    rfl
/-- What a new key gives, and the next look. -/
theorem look_put {cc : Nat} (hu : und T t = some (.map kt et)) (hi : und T kt = some (.int .i64)) (hz : zeroT T et = some (.lit (.int .i64 0))) (ho : Ones es ks) (hb : h.at b = some (.map (es ++ [{ key := .int .i64 d, val := .lit (.int .i64 1), born := c }]) cc)) :
    lookupA T h t (.mp b) (.lit (.int .i64 d)) false = some (.lit (.int .i64 1)) :=
  look_old hu hi hz hb ho.snoc (List.mem_append.2 (.inr (List.mem_cons_self ..)))
end
end Go.Proofs.YtkgbeihcepociaaDoor.Ex
end

section

set_option linter.unusedSimpArgs false
set_option linter.unusedVariables false
set_option maxRecDepth 10000
set_option maxHeartbeats 4000000
namespace Go.Proofs.YtkgbeihcepociaaDoor.Ex
open Go
def itemC (m : MapD) (its : List Int) (b : BktD) (k : Nat) : Bool := !((its ++ b.items.take k).contains (b.items.getD k 0)) && fitF m b (b.items.getD k 0) && wOk (b.weights.getD k 0)
def bC (m : MapD) (i : Nat) (b : BktD) : Bool := hdOk m i b && (List.range b.items.length).all (itemC m (itsTo m i) b)
def checkF (m : MapD) : Bool := decide (0 ≤ m.leaf) && decide (m.leaf ≤ 3) && (List.range m.buckets.length).all (fun i => bC m i (m.buckets.getD i bkt0))
theorem check_false {m : MapD} {i : Nat} {x : BktD} (hx : m.buckets[i]? = some x) (h : bC m i x = false) : checkF m = false := by
  unfold checkF
  rw [range_all_false (i := i) (List.getElem?_eq_some_iff.1 hx).1 (by simp only [getD_of hx]; exact h), Bool.and_false]
def errC (m : MapD) : Int := if checkF m then 0 else 22
theorem check_x {F : Nat → Prop} {H : AH} {m : MapD} {vo vp vb : AV} (hm : MpAt F H m vo vp vb) (hok : OkM m) :
    WC Tryd.prog (tabOf Tryd.prog NT0) S0 16 [mpV m vo vp vb] H fun r h' => Ext H.n H h' ∧ r = .lit (.int .i64 (errC m)) := by
  refine WC_fn Tryd.func16 rfl rfl ?_
  obtain ⟨hl, hbs, hit⟩ := hok
  have hl0 := hl
  unfold Sm at hl
  have s1 := hm.b.isSl
  have s2 := hm.b.lenD
  have o1 := hm.o.one
  have o2 := hm.p.one
  have o3 := hm.b.one
  have hcap : CapOk 4 vb := by obtain ⟨L, -, -, hc, -⟩ := hm.b.out; exact hc
  have EP : ∀ x, Ext H.n H (H.push x) := fun x => (Ext.refl _ _).push _ (Nat.le_refl _)
  have hbad0 : ∀ h', Ext H.n H h' → checkF m = false → Ext H.n H h' ∧ AV.lit (.int .i64 22) = .lit (.int .i64 (errC m)) := fun h' e hf => ⟨e, by unfold errC; rw [hf]; rfl⟩
  simp only [core, Nat.reduceAdd, Nat.reduceSub, Nat.reduceMul, Nat.reduceLT, Nat.reduceEqDiff, reduceCtorEq, Nat.reduceLeDiff, Int.reduceLE, Int.reduceLT, Int.reduceToNat, Tryd.ntmps16, mpV, o1, o2, o3]
  by_cases hl1 : m.leaf < 0
  · simp only [core, Nat.reduceAdd, Nat.reduceSub, Nat.reduceMul, Nat.reduceLT, Nat.reduceEqDiff, reduceCtorEq, Nat.reduceLeDiff, Int.reduceLE, Int.reduceLT, Int.reduceToNat, hl1]
    refine hbad0 _ (EP _) ?_
    unfold checkF
    rw [decide_eq_false (show ¬ 0 ≤ m.leaf by omega)]
    rfl
  by_cases hl2 : 3 < m.leaf
  · simp only [core, Nat.reduceAdd, Nat.reduceSub, Nat.reduceMul, Nat.reduceLT, Nat.reduceEqDiff, reduceCtorEq, Nat.reduceLeDiff, Int.reduceLE, Int.reduceLT, Int.reduceToNat, hl1, hl2]
    refine hbad0 _ (EP _) ?_
    unfold checkF
    rw [decide_eq_false (show ¬ m.leaf ≤ 3 by omega), Bool.and_false]
    rfl
  have hg0 : checkF m = (List.range m.buckets.length).all (fun i => bC m i (m.buckets.getD i bkt0)) := by
    unfold checkF
    rw [decide_eq_true (show 0 ≤ m.leaf by omega), decide_eq_true (show m.leaf ≤ 3 by omega)]
    rfl
  simp only [core, Nat.reduceAdd, Nat.reduceSub, Nat.reduceMul, Nat.reduceLT, Nat.reduceEqDiff, reduceCtorEq, Nat.reduceLeDiff, Int.reduceLE, Int.reduceLT, Int.reduceToNat, a_mkm, hl1, hl2, s1, s2]
  obtain ⟨h1, hh1⟩ : ∃ h1, h1 = (H.push (.cells [.lit (.int .i64 m.epoch), vo, vp, vb, .lit (.int .i64 m.leaf)] 26)).push (.map [] 0) := ⟨_, rfl⟩
  have E0 : Ext H.n H h1 := hh1 ▸ (EP _).push _ (by rw [n_push]; omega)
  have A0 : h1.at H.n = some (.cells [.lit (.int .i64 m.epoch), vo, vp, vb, .lit (.int .i64 m.leaf)] 26) := by
    rw [hh1, at_push_lt _ (by rw [n_push]; omega)]
    exact at_push_n _ _
  have M0 : h1.at (H.n + 1) = some (.map [] 0) := by
    rw [hh1]
    have := at_push_n (H.push (.cells [.lit (.int .i64 m.epoch), vo, vp, vb, .lit (.int .i64 m.leaf)] 26)) (.map [] 0)
    rw [n_push] at this
    exact this
  have n1 : h1.n = H.n + 2 := by rw [hh1, n_push, n_push]
  rw [← hh1]
  clear hh1
  refine WB_for m.buckets.length (fun i t h => ∃ es c, h.at (H.n + 1) = some (.map es c) ∧ Ones es (itsTo m i) ∧ Ext H.n H h ∧ h.at H.n = some (.cells [.lit (.int .i64 m.epoch), vo, vp, vb, .lit (.int .i64 m.leaf)] 26) ∧ (List.range i).all (fun i => bC m i (m.buckets.getD i bkt0)) = true ∧ t.n = 105 ∧ t.get 1 = .ptr H.n 0 ∧ t.get 3 = .mp (H.n + 1) ∧ t.get 20 = vb ∧ t.get 21 = .lit (.int .i64 m.buckets.length) ∧ t.get 22 = .lit (.int .i64 i)) ?_ ?_ _ _ ?_
  · rintro i t h hlt hc ⟨es, cl, M1, ho, E1, A1, hall, hn, g1, g3, g20, g21, g22⟩ ih
    obtain ⟨x, hx⟩ : ∃ x, m.buckets[i]? = some x := ⟨_, List.getElem?_eq_getElem hlt⟩
    obtain ⟨c, hc1, hld, hld0⟩ := hm.b.atE (T := tabOf Tryd.prog NT0) E1 RBkt_z hx
    obtain ⟨va, vw, rfl, ha, hw, i1, i2⟩ := RBkt_is.1 hc1
    obtain ⟨k1, k2⟩ := hbs x (List.mem_of_getElem? hx)
    unfold Sm at k1 k2
    have a1 := ha.one
    have w1 := hw.one
    have a2 := ha.isSl
    have w2 := hw.isSl
    have a3 := ha.lenD
    have w3 := hw.lenD
    have hws := wrap_succ hlt (by omega)
    have l1 : H.n < h.n := at_lt A1
    have lm : H.n + 1 < h.n := at_lt M1
    have LA1 := ld_at (T := tabOf Tryd.prog NT0) A1
    have hno : i ≤ m.buckets.length := by omega
    have hno2 : (i : Int) ≤ (m.buckets.length : Int) := by omega
    have hsub : IsSl RBkt F H (subSl 4 0 i vb) (m.buckets.take i) := by have := hm.b.sub (l := 0) (r := i) (by omega) hno; rw [List.drop_zero] at this; exact this
    have s3 := hsub.isSl
    have s4 : lenD (subSl 4 0 i vb) = i := by rw [hsub.lenD, List.length_take]; omega
    have hbk : bC m i x = (hdOk m i x && (List.range x.items.length).all (itemC m (itsTo m i) x)) := rfl
    have hbad : ∀ h', Ext H.n H h' → bC m i x = false → Ext H.n H h' ∧ AV.lit (.int .i64 22) = .lit (.int .i64 (errC m)) := fun h' e hf => hbad0 _ e (check_false hx hf)
    obtain ⟨hA, hhA⟩ : ∃ hA, hA = h.push (.cells [.lit (.int .i64 x.id), .lit (.int .i64 x.kind), va, vw] 47) := ⟨_, rfl⟩
    have EA : Ext h.n h hA := hhA ▸ (Ext.refl _ _).push _ (Nat.le_refl _)
    have PA : hA.at h.n = some (.cells [.lit (.int .i64 x.id), .lit (.int .i64 x.kind), va, vw] 47) := hhA ▸ at_push_n h _
    have AA := (EA.2 _ l1).trans A1
    have LAA := ld_at (T := tabOf Tryd.prog NT0) AA
    have lA := at_lt AA
    have LPA := ld_at (T := tabOf Tryd.prog NT0) PA
    have lPA := at_lt PA
    have EHA := E1.step EA
    by_cases c1 : 0 ≤ x.id
    · simp only [core, Nat.reduceAdd, Nat.reduceSub, Nat.reduceMul, Nat.reduceLT, Nat.reduceEqDiff, reduceCtorEq, Nat.reduceLeDiff, Int.reduceLE, Int.reduceLT, Int.reduceToNat, s1, s2, hn, g1, g3, g20, g21, g22, hlt, hc, hld, hld0, a1, w1, ← hhA, LPA, lPA, c1]
      refine hbad _ EHA ?_
      rw [hbk]; unfold hdOk
      rw [decide_eq_false (show ¬ x.id < 0 by omega)]; simp
    by_cases c2 : x.kind < 1
    · simp only [core, Nat.reduceAdd, Nat.reduceSub, Nat.reduceMul, Nat.reduceLT, Nat.reduceEqDiff, reduceCtorEq, Nat.reduceLeDiff, Int.reduceLE, Int.reduceLT, Int.reduceToNat, s1, s2, hn, g1, g3, g20, g21, g22, hlt, hc, hld, hld0, a1, w1, ← hhA, LPA, lPA, c1, c2]
      refine hbad _ EHA ?_
      rw [hbk]; unfold hdOk
      rw [decide_eq_false (show ¬ 1 ≤ x.kind by omega)]; simp
    by_cases c3 : 3 < x.kind
    · simp only [core, Nat.reduceAdd, Nat.reduceSub, Nat.reduceMul, Nat.reduceLT, Nat.reduceEqDiff, reduceCtorEq, Nat.reduceLeDiff, Int.reduceLE, Int.reduceLT, Int.reduceToNat, s1, s2, hn, g1, g3, g20, g21, g22, hlt, hc, hld, hld0, a1, w1, ← hhA, LPA, lPA, c1, c2, c3]
      refine hbad _ EHA ?_
      rw [hbk]; unfold hdOk
      rw [decide_eq_false (show ¬ x.kind ≤ 3 by omega)]; simp
    simp only [core, Nat.reduceAdd, Nat.reduceSub, Nat.reduceMul, Nat.reduceLT, Nat.reduceEqDiff, reduceCtorEq, Nat.reduceLeDiff, Int.reduceLE, Int.reduceLT, Int.reduceToNat, s1, s2, hn, g1, g3, g20, g21, g22, hlt, hc, hld, hld0, a1, w1, ← hhA, LPA, lPA, c1, c2, c3, a2, w2, a3, w3]
    refine ⟨fun hq => ?_, fun hq => ?_⟩
    · refine hbad _ EHA ?_
      rw [hbk]; unfold hdOk
      have : ¬ x.items.length = x.weights.length := by simp at hq; omega
      simp [this]
    have hlen : x.items.length = x.weights.length := by simp at hq; omega
    simp only [core, Nat.reduceAdd, Nat.reduceSub, Nat.reduceMul, Nat.reduceLT, Nat.reduceEqDiff, reduceCtorEq, Nat.reduceLeDiff, Int.reduceLE, Int.reduceLT, Int.reduceToNat, s1, s2, hn, g1, g3, g20, g21, g22, LAA, lA, hcap, hno, hno2, s3, s4]
    have MA : hA.at (H.n + 1) = some (.map es cl) := (EA.2 _ lm).trans M1
    refine WB_for i (fun j t h' => Ext hA.n hA h' ∧ (m.buckets.take j).any (fun c => c.id == x.id) = false ∧ t.n = 105 ∧ t.get 1 = .ptr H.n 0 ∧ t.get 3 = .mp (H.n + 1) ∧ t.get 4 = .lit (.int .i64 i) ∧ t.get 5 = .ptr h.n 0 ∧ t.get 20 = vb ∧ t.get 21 = .lit (.int .i64 m.buckets.length) ∧ t.get 22 = .lit (.int .i64 i) ∧ t.get 52 = subSl 4 0 i vb ∧ t.get 53 = .lit (.int .i64 i) ∧ t.get 54 = .lit (.int .i64 j)) ?_ ?_ _ _ ?_
    · rintro j t h' hj hc ⟨he2, hany, hn, g1, g3, g4, g5, g20, g21, g22, g52, g53, g54⟩ ih2
      have hjl : j < m.buckets.length := by omega
      obtain ⟨y, hy⟩ : ∃ y, m.buckets[j]? = some y := ⟨_, List.getElem?_eq_getElem hjl⟩
      have hy2 : (m.buckets.take i)[j]? = some y := by rw [List.getElem?_take, if_pos hj, hy]
      have E2 : Ext H.n H h' := EHA.step he2
      obtain ⟨c, hc1, hld, hld0⟩ := hsub.atE (T := tabOf Tryd.prog NT0) E2 RBkt_z hy2
      obtain ⟨ya, yw, rfl, ya1, yw1, -, -⟩ := RBkt_is.1 hc1
      have y1 := ya1.one
      have y2 := yw1.one
      have hws := wrap_succ hj (by omega)
      have P2 := (he2.2 _ lPA).trans PA
      have LP2 := ld_at (T := tabOf Tryd.prog NT0) P2
      have l2 : h.n < h'.n := at_lt P2
      simp only [core, Nat.reduceAdd, Nat.reduceSub, Nat.reduceMul, Nat.reduceLT, Nat.reduceEqDiff, reduceCtorEq, Nat.reduceLeDiff, Int.reduceLE, Int.reduceLT, Int.reduceToNat, s1, s2, s3, s4, hn, g1, g3, g4, g5, g20, g21, g22, g52, g53, g54, hj, hc, hld, hld0, hws, y1, y2, LP2, l2]
      refine ⟨fun hq => ?_, fun hq => ?_⟩
      · refine hbad _ (E2.push _ E2.1) ?_
        rw [hbk]
        unfold hdOk
        rw [any_true' hy2 hq]
        rfl
      · refine ih2 _ _ ⟨he2.push _ he2.1, ?_, ?_⟩
        · rw [any_take hy, hany]
          simpa using hq
        · simp only [core, Nat.reduceAdd, Nat.reduceSub, Nat.reduceMul, Nat.reduceLT, Nat.reduceEqDiff, reduceCtorEq, Nat.reduceLeDiff, Int.reduceLE, Int.reduceLT, Int.reduceToNat, hn, g1, g3, g4, g5, g20, g21, g22, g52, g53, g54]
    · rintro t h' hc ⟨he2, hany, hn, g1, g3, g4, g5, g20, g21, g22, g52, g53, g54⟩
      have E2 : Ext H.n H h' := EHA.step he2
      have P2 := (he2.2 _ lPA).trans PA
      have LP2 := ld_at (T := tabOf Tryd.prog NT0) P2
      have l2 : h.n < h'.n := at_lt P2
      have A2 := (he2.2 _ lA).trans AA
      have M2 := (he2.2 _ (at_lt MA)).trans MA
      have hhd : hdOk m i x = true := by
        unfold hdOk
        rw [hany, decide_eq_true (show x.id < 0 by omega), decide_eq_true (show 1 ≤ x.kind by omega), decide_eq_true (show x.kind ≤ 3 by omega)]
        simp [hlen]
      rw [hhd, Bool.true_and] at hbk
      simp only [core, Nat.reduceAdd, Nat.reduceSub, Nat.reduceMul, Nat.reduceLT, Nat.reduceEqDiff, reduceCtorEq, Nat.reduceLeDiff, Int.reduceLE, Int.reduceLT, Int.reduceToNat, s1, s2, s3, s4, hn, g1, g3, g4, g5, g20, g21, g22, g52, g53, g54, hc, LP2, l2, a2, a3]
      refine WB_for x.items.length (fun k t h3 => ∃ es c, h3.at (H.n + 1) = some (.map es c) ∧ Ones es (itsTo m i ++ x.items.take k) ∧ Ext H.n H h3 ∧ h3.at H.n = some (.cells [.lit (.int .i64 m.epoch), vo, vp, vb, .lit (.int .i64 m.leaf)] 26) ∧ h3.at h.n = some (.cells [.lit (.int .i64 x.id), .lit (.int .i64 x.kind), va, vw] 47) ∧ (List.range k).all (itemC m (itsTo m i) x) = true ∧ t.n = 105 ∧ t.get 1 = .ptr H.n 0 ∧ t.get 3 = .mp (H.n + 1) ∧ t.get 5 = .ptr h.n 0 ∧ t.get 20 = vb ∧ t.get 21 = .lit (.int .i64 m.buckets.length) ∧ t.get 22 = .lit (.int .i64 i) ∧ t.get 65 = va ∧ t.get 66 = .lit (.int .i64 x.items.length) ∧ t.get 67 = .lit (.int .i64 k)) ?_ ?_ _ _ ?_
      · rintro k t h3 hk hc ⟨es, cl, M3, ho3, E3, A3, P3, hkall, hn, g1, g3, g5, g20, g21, g22, g65, g66, g67⟩ ih4
        have hlda := (ha.ext E3 (Nat.le_refl _)).int (T := tabOf Tryd.prog NT0) (e := 3) (by kernel_rfl) (by kernel_rfl) hk
        have hws := wrap_succ hk (by omega)
        have lm3 := at_lt M3
        have l3 := at_lt A3
        have lp3 := at_lt P3
        obtain ⟨d, hd⟩ : ∃ d, d = x.items.getD k 0 := ⟨_, rfl⟩
        have hu : und (tabOf Tryd.prog NT0) 64 = some (.map 3 3) := by kernel_rfl
        have hi : und (tabOf Tryd.prog NT0) 3 = some (.int .i64) := by kernel_rfl
        have hz : zeroT (tabOf Tryd.prog NT0) 3 = some (.lit (.int .i64 0)) := by kernel_rfl
        have w01 : IntKind.i64.wrap (0 + 1) = 1 := by decide
        have w11 : IntKind.i64.wrap (1 + 1) = 2 := by decide
        rw [← hd] at hlda
        by_cases hmem : d ∈ itsTo m i ++ x.items.take k
        · have hL := look_old hu hi hz M3 ho3 hmem
          obtain ⟨es', hU, hL2⟩ := upd_old (x := .lit (.int .i64 2)) hu hi hz M3 ho3 hmem
          obtain ⟨h4, hh4⟩ : ∃ h4, h4 = h3.put (H.n + 1) (.map es' cl) := ⟨_, rfl⟩
          have E4 : Ext H.n H h4 := hh4 ▸ E3.put _ (by omega)
          have hL4 := hL2 h4 (by rw [hh4]; exact at_put_same _ lm3)
          rw [← hh4] at hU
          simp only [core, Nat.reduceAdd, Nat.reduceSub, Nat.reduceMul, Nat.reduceLT, Nat.reduceEqDiff, reduceCtorEq, Nat.reduceLeDiff, Int.reduceLE, Int.reduceLT, Int.reduceToNat, hn, g1, g3, g5, g20, g21, g22, g65, g66, g67, hc, hk, hlda, a2, a3, a_look, aLookup, a_mupd, aUpdate, hL, hU, hL4, w11]
          refine hbad _ E4 ?_
          rw [hbk, range_all_false hk ?_]
          unfold itemC
          rw [← hd, List.contains_iff_mem.2 hmem]
          rfl
        have hL := look_new hu hi hz M3 ho3 hmem
        have hU := upd_new (x := .lit (.int .i64 1)) hu hi M3 ho3 hmem
        obtain ⟨h4, hh4⟩ : ∃ h4, h4 = h3.put (H.n + 1) (.map (es ++ [{ key := .int .i64 d, val := .lit (.int .i64 1), born := cl }]) (cl + 1)) := ⟨_, rfl⟩
        have E4 : Ext H.n H h4 := hh4 ▸ E3.put _ (by omega)
        have M4 : h4.at (H.n + 1) = some (.map (es ++ [{ key := .int .i64 d, val := .lit (.int .i64 1), born := cl }]) (cl + 1)) := by rw [hh4]; exact at_put_same _ lm3
        have hL4 := look_put hu hi hz ho3 M4
        rw [← hh4] at hU
        have hne : H.n + 1 ≠ h.n := by omega
        have A4 := A3
        rw [← at_put_ne (.map (es ++ [{ key := .int .i64 d, val := .lit (.int .i64 1), born := cl }]) (cl + 1)) (show H.n + 1 ≠ H.n by omega), ← hh4] at A4
        have P4 := P3
        rw [← at_put_ne (.map (es ++ [{ key := .int .i64 d, val := .lit (.int .i64 1), born := cl }]) (cl + 1)) hne, ← hh4] at P4
        have l4 := at_lt A4
        have lp4 := at_lt P4
        have LA4 := ld_at (T := tabOf Tryd.prog NT0) A4
        have LP4 := ld_at (T := tabOf Tryd.prog NT0) P4
        simp only [core, Nat.reduceAdd, Nat.reduceSub, Nat.reduceMul, Nat.reduceLT, Nat.reduceEqDiff, reduceCtorEq, Nat.reduceLeDiff, Int.reduceLE, Int.reduceLT, Int.reduceToNat, hn, g1, g3, g5, g20, g21, g22, g65, g66, g67, hc, hk, hlda, a2, a3, a_look, aLookup, a_mupd, aUpdate, hL, hU, hL4, w01, LA4, l4, LP4, lp4]
        refine (may_x (b := x) d (hm.ext E4 (Nat.le_refl _)) hl0 hbs a1 w1).mono ?_
        rintro _ h5 ⟨e5, rfl⟩
        have E5 := E4.step e5
        have A5 := (e5.2 _ l4).trans A4
        have P5 := (e5.2 _ lp4).trans P4
        have M5 := (e5.2 _ (at_lt M4)).trans M4
        have lp5 := at_lt P5
        have LP5 := ld_at (T := tabOf Tryd.prog NT0) P5
        have hcon : (itsTo m i ++ x.items.take k).contains d = false := by
          cases hcc : (itsTo m i ++ x.items.take k).contains d with
          | false => rfl
          | true => exact absurd (List.contains_iff_mem.1 hcc) hmem
        have hit : itemC m (itsTo m i) x k = (fitF m x d && wOk (x.weights.getD k 0)) := by
          unfold itemC
          rw [← hd, hcon]
          rfl
        cases hfit : fitF m x d with
        | false =>
          simp only [core, Nat.reduceAdd, Nat.reduceSub, Nat.reduceMul, Nat.reduceLT, Nat.reduceEqDiff, reduceCtorEq, Nat.reduceLeDiff, Int.reduceLE, Int.reduceLT, Int.reduceToNat, hn, g1, g3, g5, g20, g21, g22, g65, g66, g67]
          refine hbad _ E5 ?_
          rw [hbk, range_all_false hk (by rw [hit, hfit]; rfl)]
        | true =>
        rw [hfit, Bool.true_and] at hit
        have hkw : k < x.weights.length := by omega
        have hldw := (hw.ext E5 (Nat.le_refl _)).int (T := tabOf Tryd.prog NT0) (e := 3) (by kernel_rfl) (by kernel_rfl) hkw
        by_cases d1 : x.weights.getD k 0 < 0
        · simp only [core, Nat.reduceAdd, Nat.reduceSub, Nat.reduceMul, Nat.reduceLT, Nat.reduceEqDiff, reduceCtorEq, Nat.reduceLeDiff, Int.reduceLE, Int.reduceLT, Int.reduceToNat, hn, g1, g3, g5, g20, g21, g22, g65, g66, g67, LP5, lp5, w2, w3, hkw, hldw, d1]
          refine hbad _ E5 ?_
          rw [hbk, range_all_false hk (by rw [hit]; unfold wOk; rw [decide_eq_false (by omega)]; rfl)]
        by_cases d2 : 1048576 < x.weights.getD k 0
        · simp only [core, Nat.reduceAdd, Nat.reduceSub, Nat.reduceMul, Nat.reduceLT, Nat.reduceEqDiff, reduceCtorEq, Nat.reduceLeDiff, Int.reduceLE, Int.reduceLT, Int.reduceToNat, hn, g1, g3, g5, g20, g21, g22, g65, g66, g67, LP5, lp5, w2, w3, hkw, hldw, d1, d2]
          refine hbad _ E5 ?_
          rw [hbk, range_all_false hk (by rw [hit]; unfold wOk; rw [decide_eq_false (show ¬ x.weights.getD k 0 ≤ 1048576 by omega), Bool.and_false])]
        simp only [core, Nat.reduceAdd, Nat.reduceSub, Nat.reduceMul, Nat.reduceLT, Nat.reduceEqDiff, reduceCtorEq, Nat.reduceLeDiff, Int.reduceLE, Int.reduceLT, Int.reduceToNat, hn, g1, g3, g5, g20, g21, g22, g65, g66, g67, LP5, lp5, w2, w3, hkw, hldw, d1, d2, hws]
        refine ih4 _ _ ⟨_, _, M5, ?_, E5, A5, P5, ?_, ?_⟩
        · rw [List.take_add_one, getD_some' 0 hk, ← hd]
          simpa using ho3.snoc (k := d)
        · rw [range_all_succ, hkall, hit]
          unfold wOk
          rw [decide_eq_true (show 0 ≤ x.weights.getD k 0 by omega), decide_eq_true (show x.weights.getD k 0 ≤ 1048576 by omega)]
          rfl
        · simp only [core, Nat.reduceAdd, Nat.reduceSub, Nat.reduceMul, Nat.reduceLT, Nat.reduceEqDiff, reduceCtorEq, Nat.reduceLeDiff, Int.reduceLE, Int.reduceLT, Int.reduceToNat, hn, g1, g3, g5, g20, g21, g22, g65, g66, g67]
      · rintro t h3 hc ⟨es, cl, M3, ho3, E3, A3, P3, hkall, hn, g1, g3, g5, g20, g21, g22, g65, g66, g67⟩
        rw [List.take_length] at ho3
        simp only [core, Nat.reduceAdd, Nat.reduceSub, Nat.reduceMul, Nat.reduceLT, Nat.reduceEqDiff, reduceCtorEq, Nat.reduceLeDiff, Int.reduceLE, Int.reduceLT, Int.reduceToNat, hn, g1, g3, g5, g20, g21, g22, g65, g66, g67, hc, hws]
        refine ih _ _ ⟨es, cl, M3, ?_, E3, A3, ?_, ?_⟩
        · rw [itsTo_succ hx]; exact ho3
        · rw [range_all_succ, hall, getD_of hx, hbk, hkall]; rfl
        · simp only [core, Nat.reduceAdd, Nat.reduceSub, Nat.reduceMul, Nat.reduceLT, Nat.reduceEqDiff, reduceCtorEq, Nat.reduceLeDiff, Int.reduceLE, Int.reduceLT, Int.reduceToNat, hn, g1, g3, g5, g20, g21, g22, g65, g66, g67]
      · refine ⟨_, _, M2, ?_, E2, A2, P2, rfl, ?_⟩
        · rw [List.take_zero, List.append_nil]; exact ho
        · simp only [core, Nat.reduceAdd, Nat.reduceSub, Nat.reduceMul, Nat.reduceLT, Nat.reduceEqDiff, reduceCtorEq, Nat.reduceLeDiff, Int.reduceLE, Int.reduceLT, Int.reduceToNat, hn, g1, g3, g4, g5, g20, g21, g22, g52, g53, g54]
          (repeat' apply And.intro) <;> first | rfl | trivial
    · simp only [core, Nat.reduceAdd, Nat.reduceSub, Nat.reduceMul, Nat.reduceLT, Nat.reduceEqDiff, reduceCtorEq, Nat.reduceLeDiff, Int.reduceLE, Int.reduceLT, Int.reduceToNat, hn, g1, g3, g20, g21, g22]
      refine ⟨Ext.refl _ _, rfl, ?_⟩
      (repeat' apply And.intro) <;> first | rfl | trivial
  · rintro t h hc ⟨es, cl, M1, ho, E1, A1, hall, hn, g1, g3, g20, g21, g22⟩
    simp only [core, Nat.reduceAdd, Nat.reduceSub, Nat.reduceMul, Nat.reduceLT, Nat.reduceEqDiff, reduceCtorEq, Nat.reduceLeDiff, Int.reduceLE, Int.reduceLT, Int.reduceToNat, s1, s2, hn, g1, g3, g20, g21, g22, hc]
    exact ⟨E1, by unfold errC; rw [hg0, hall]; rfl⟩
  · refine ⟨_, _, M0, rfl, E0, A0, rfl, ?_⟩
    simp only [core, Nat.reduceAdd, Nat.reduceSub, Nat.reduceMul, Nat.reduceLT, Nat.reduceEqDiff, reduceCtorEq, Nat.reduceLeDiff, Int.reduceLE, Int.reduceLT, Int.reduceToNat]
    (repeat' apply And.intro) <;> first | rfl | trivial
end Go.Proofs.YtkgbeihcepociaaDoor.Ex
end

section

set_option linter.unusedSimpArgs false
set_option linter.unusedVariables false
set_option maxRecDepth 10000
set_option maxHeartbeats 4000000
namespace Go.Proofs.YtkgbeihcepociaaDoor.Ex
open Go
theorem wAll {l : List Int} : l.all wOk = (List.range l.length).all (fun k => wOk (l.getD k 0)) := by
  apply Bool.eq_iff_iff.2
  rw [List.all_eq_true, List.all_eq_true]
  constructor
  · intro h k hk
    exact h _ (List.mem_of_getElem? (getD_some' 0 (List.mem_range.1 hk)))
  · intro h y hy
    obtain ⟨j, hj, hjb⟩ := List.mem_iff_getElem.1 hy
    have := h j (List.mem_range.2 hj)
    rw [List.getD_eq_getElem?_getD, List.getElem?_eq_getElem hj, hjb] at this
    exact this
theorem fit_kind {m : MapD} {b : BktD} {d : Int} (hk : ∀ c ∈ m.buckets, 1 ≤ c.kind) (hb : 1 ≤ b.kind) : fitF m b d = (decide (0 ≤ kindF m d) && decide (kindF m d < b.kind)) := by
  unfold fitF kindF
  by_cases h0 : 0 ≤ d
  · rw [if_pos h0, if_pos h0]
    by_cases h8 : d < 8
    · rw [if_pos h8, decide_eq_true h8, decide_eq_true (show (0 : Int) < b.kind by omega)]
      rfl
    · rw [if_neg h8, decide_eq_false h8]
      rfl
  · rw [if_neg h0, if_neg h0]
    unfold bucketG
    cases hf : bucketF m d with
    | none => rfl
    | some c =>
      have := hk c (List.mem_of_find?_eq_some hf)
      simp only [Option.isSome_some, if_true, Option.getD_some, Bool.true_and]
      rw [decide_eq_true (show 0 ≤ c.kind by omega), Bool.true_and]
theorem hd_kind {m : MapD} {i : Nat} {b : BktD} (h : hdOk m i b = true) : 1 ≤ b.kind ∧ b.items.length = b.weights.length := by
  unfold hdOk at h
  simp only [Bool.and_eq_true, decide_eq_true_eq, beq_iff_eq] at h
  exact ⟨h.1.1.2, h.2⟩
theorem bC_bOk {m : MapD} {i : Nat} {b : BktD} (hk : ∀ c ∈ m.buckets, 1 ≤ c.kind) (h : hdOk m i b = true) : bC m i b = bOk m i b := by
  obtain ⟨h1, h2⟩ := hd_kind h
  unfold bC bOk
  rw [h, wAll, ← h2]
  apply Bool.eq_iff_iff.2
  simp only [Bool.true_and, Bool.and_eq_true, List.all_eq_true, List.mem_range]
  unfold itemC itemOk
  simp only [fit_kind hk h1, Bool.and_eq_true]
  constructor
  · intro h
    exact ⟨fun k hk => (h k hk).2, fun k hk => ⟨(h k hk).1.2, (h k hk).1.1⟩⟩
  · intro h k hk
    exact ⟨⟨(h.2 k hk).2, (h.2 k hk).1⟩, h.1 k hk⟩
theorem all_kind {m : MapD} {p : Nat → BktD → Bool} (hp : ∀ i b, p i b = true → hdOk m i b = true) (h : (List.range m.buckets.length).all (fun i => p i (m.buckets.getD i bkt0)) = true) : (∀ c ∈ m.buckets, 1 ≤ c.kind) ∧ ∀ i, i < m.buckets.length → hdOk m i (m.buckets.getD i bkt0) = true := by
  have h2 : ∀ i, i < m.buckets.length → hdOk m i (m.buckets.getD i bkt0) = true := fun i hi => hp _ _ (List.all_eq_true.1 h i (List.mem_range.2 hi))
  refine ⟨fun c hc => ?_, h2⟩
  obtain ⟨j, hj, hjb⟩ := List.mem_iff_getElem.1 hc
  have := (hd_kind (h2 j hj)).1
  rw [List.getD_eq_getElem?_getD, List.getElem?_eq_getElem hj, hjb] at this
  exact this
theorem check_good (m : MapD) : checkF m = goodF m := by
  unfold checkF goodF
  congr 1
  apply Bool.eq_iff_iff.2
  constructor
  · intro h
    obtain ⟨h1, h2⟩ := all_kind (p := bC m) (fun i b hb => by unfold bC at hb; simp only [Bool.and_eq_true] at hb; exact hb.1) h
    rw [List.all_eq_true] at *
    intro i hi
    rw [← bC_bOk h1 (h2 i (List.mem_range.1 hi))]
    exact h i hi
  · intro h
    obtain ⟨h1, h2⟩ := all_kind (p := bOk m) (fun i b hb => by unfold bOk at hb; simp only [Bool.and_eq_true] at hb; exact hb.1.1) h
    rw [List.all_eq_true] at *
    intro i hi
    rw [bC_bOk h1 (h2 i (List.mem_range.1 hi))]
    exact h i hi
theorem goodC_x {F : Nat → Prop} {H : AH} {m : MapD} {vo vp vb : AV} (hm : MpAt F H m vo vp vb) (hok : OkM m) :
    WC Tryd.prog (tabOf Tryd.prog NT0) S0 21 [mpV m vo vp vb] H fun r h' => Ext H.n H h' ∧ r = .lit (.bool (goodF m)) := by
  refine WC_fn Tryd.func21 rfl rfl ?_
  have o1 := hm.o.one
  have o2 := hm.p.one
  have o3 := hm.b.one
  have EP : ∀ x, Ext H.n H (H.push x) := fun x => (Ext.refl _ _).push _ (Nat.le_refl _)
  simp only [core, Nat.reduceAdd, Nat.reduceSub, Nat.reduceMul, Nat.reduceLT, Nat.reduceEqDiff, reduceCtorEq, Nat.reduceLeDiff, Int.reduceLE, Int.reduceLT, Int.reduceToNat, Tryd.ntmps21, mpV, o1, o2, o3]
  refine (check_x (hm.ext (EP _) (Nat.le_refl _)) hok).mono ?_
  rintro _ h2 ⟨e2, rfl⟩
  rw [← check_good]
  unfold errC
  cases checkF m with
  | true =>
    simp only [core, Nat.reduceAdd, Nat.reduceSub, Nat.reduceMul, Nat.reduceLT, Nat.reduceEqDiff, reduceCtorEq, Nat.reduceLeDiff, Int.reduceLE, Int.reduceLT, Int.reduceToNat]
    exact ⟨(EP _).step e2, rfl⟩
  | false =>
    simp only [core, Nat.reduceAdd, Nat.reduceSub, Nat.reduceMul, Nat.reduceLT, Nat.reduceEqDiff, reduceCtorEq, Nat.reduceLeDiff, Int.reduceLE, Int.reduceLT, Int.reduceToNat]
    exact ⟨(EP _).step e2, rfl⟩
end Go.Proofs.YtkgbeihcepociaaDoor.Ex
end

section

set_option linter.unusedSimpArgs false
set_option linter.unusedVariables false
set_option maxRecDepth 10000
set_option maxHeartbeats 4000000
namespace Go.Proofs.YtkgbeihcepociaaDoor.Ex
open Go
theorem sort_c {H : AH} {p : Nat} {xs : List Int} {c : Cap} {Q : AV → AH → Prop} (hat : H.at p = some (.cells (iL xs) 3)) (hne : xs ≠ []) (hl : xs.length ≤ 4611686018427387903) (hq : Q (.tup []) (H.put p (.cells (iL (srtI xs)) 3))) :
    WC Tryd.prog (tabOf Tryd.prog NT0) S0 36 [.sl p 0 xs.length c] H Q := by
  refine WC_sum Tryd.func36 rfl (g := sSort) rfl ?_ hq
  have h0 : Nat.beq xs.length 0 = false := by
    cases xs with
    | nil => exact absurd rfl hne
    | cons => rfl
  have hi : intsL (iL xs) = some xs := intsL_avI xs
  unfold sSort
  simp only [h0, cond_false, hat, hi]
  have h1 : Nat.beq xs.length xs.length = true := by simp
  have h2 : Nat.ble xs.length 4611686018427387903 = true := Nat.ble_eq_true_of_le hl
  rw [h1, h2]
  rfl
theorem sort_nil_c {H : AH} {Q : AV → AH → Prop} (hq : Q (.tup []) H) : WC Tryd.prog (tabOf Tryd.prog NT0) S0 36 [.lit (.slice none 0 0)] H Q :=
  WC_sum Tryd.func36 rfl (g := sSort) rfl rfl hq
theorem sort_zero_c {H : AH} {p : Nat} {c : Cap} {Q : AV → AH → Prop} (hq : Q (.tup []) H) : WC Tryd.prog (tabOf Tryd.prog NT0) S0 36 [.sl p 0 0 c] H Q :=
  WC_sum Tryd.func36 rfl (g := sSort) rfl rfl hq
theorem compact_c {H : AH} {p : Nat} {xs : List Int} {c : Cap} {Q : AV → AH → Prop} (hat : H.at p = some (.cells (iL xs) 3)) (hne : xs ≠ []) (hl : xs.length ≤ 4611686018427387903) (hq : Q (.sl p 0 (cmpI xs).length c) (H.put p (.cells (iL (cmpO xs)) 3))) :
    WC Tryd.prog (tabOf Tryd.prog NT0) S0 38 [.sl p 0 xs.length c] H Q := by
  refine WC_sum Tryd.func38 rfl (g := sCompact) rfl ?_ hq
  have h0 : Nat.beq xs.length 0 = false := by
    cases xs with
    | nil => exact absurd rfl hne
    | cons => rfl
  have hi : intsL (iL xs) = some xs := intsL_avI xs
  unfold sCompact
  simp only [h0, cond_false, hat, hi]
  have h1 : Nat.beq xs.length xs.length = true := by simp
  have h2 : Nat.ble xs.length 4611686018427387903 = true := Nat.ble_eq_true_of_le hl
  rw [h1, h2]
  rfl
theorem compact_nil_c {H : AH} {Q : AV → AH → Prop} (hq : Q (.lit (.slice none 0 0)) H) : WC Tryd.prog (tabOf Tryd.prog NT0) S0 38 [.lit (.slice none 0 0)] H Q :=
  WC_sum Tryd.func38 rfl (g := sCompact) rfl rfl hq
theorem compact_zero_c {H : AH} {p : Nat} {c : Cap} {Q : AV → AH → Prop} (hq : Q (.sl p 0 0 c) H) : WC Tryd.prog (tabOf Tryd.prog NT0) S0 38 [.sl p 0 0 c] H Q :=
  WC_sum Tryd.func38 rfl (g := sCompact) rfl rfl hq
theorem cmpI_dis {xs : List Int} (hne : ∀ i, i + 1 < xs.length → ¬ xs.getD (i + 1) 0 = xs.getD i 0) : cmpI xs = xs ∧ cmpO xs = xs := by
  have h1 : cmpI xs = xs := by
    refine Lib.compact_all xs fun j hj => ?_
    unfold Lib.keeps
    rw [decide_eq_true_eq]
    cases j with
    | zero => exact .inl rfl
    | succ i =>
      refine .inr fun hh => hne i hj ?_
      have e1 : xs.toArray[i + 1]! = xs.getD (i + 1) 0 := by simp [List.getD_eq_getElem?_getD, List.getElem!_eq_getElem?_getD]
      have e2 : xs.toArray[i + 1 - 1]! = xs.getD i 0 := by simp [List.getD_eq_getElem?_getD, List.getElem!_eq_getElem?_getD]
      rw [e1, e2] at hh
      exact hh
  exact ⟨h1, by unfold cmpO; rw [h1, Nat.sub_self]; simp⟩
theorem reverse_nil {H : AH} : WC Tryd.prog (tabOf Tryd.prog NT0) S0 37 [.lit (.slice none 0 0)] H fun r h' => h' = H := by
  refine WC_fn Tryd.func37 rfl rfl ?_
  have w1 : IntKind.i64.wrap (0 - 1) = -1 := by decide
  have c1 : ((0 : Int) < -1) = False := by decide
  have w2 : IntKind.i64.wrap (((0 : Nat) : Int) - 1) = -1 := by decide
  have q1 : isSl (.lit (.slice none 0 0)) = true := rfl
  have q2 : lenD (.lit (.slice none 0 0)) = 0 := rfl
  simp only [core, Nat.reduceAdd, Nat.reduceSub, Nat.reduceMul, Nat.reduceLT, Nat.reduceEqDiff, reduceCtorEq, Nat.reduceLeDiff, Int.reduceLE, Int.reduceLT, Int.reduceToNat, Tryd.ntmps37, q1, q2, w1, w2]
  refine WB_ind (fun (i : Nat) t h => h = H ∧ t.n = 28 ∧ t.get 0 = .lit (.slice none 0 0) ∧ t.get 2 = .lit (.int .i64 0) ∧ t.get 3 = .lit (.int .i64 (-1))) (fun i => 0) ?_ 0 _ _ ?_
  · rintro i t h ⟨rfl, hn, g0, g2, g3⟩ ih
    simp only [core, Nat.reduceAdd, Nat.reduceSub, Nat.reduceMul, Nat.reduceLT, Nat.reduceEqDiff, reduceCtorEq, Nat.reduceLeDiff, Int.reduceLE, Int.reduceLT, Int.reduceToNat, hn, g0, g2, g3, c1]
    exact Or.inl trivial
  · refine ⟨rfl, ?_⟩
    simp only [core, Nat.reduceAdd, Nat.reduceSub, Nat.reduceMul, Nat.reduceLT, Nat.reduceEqDiff, reduceCtorEq, Nat.reduceLeDiff, Int.reduceLE, Int.reduceLT, Int.reduceToNat]
/-- The buckets without a parent, in order. -/
def orphN (m : MapD) : Nat → List Int
  | 0 => []
  | i + 1 => if (parentF m (m.buckets.getD i bkt0).id).isSome then orphN m i else orphN m i ++ [(m.buckets.getD i bkt0).id]
theorem orphN_len (m : MapD) : ∀ i, (orphN m i).length ≤ i
  | 0 => Nat.le_refl 0
  | i + 1 => by
    have := orphN_len m i
    unfold orphN
    split
    · omega
    · simp; omega
def crootsF (m : MapD) : List Int := (srtI (orphN m m.buckets.length)).reverse
theorem rootsC_x {F : Nat → Prop} {H : AH} {m : MapD} {vo vp vb : AV} (hm : MpAt F H m vo vp vb) (hok : OkM m) (hdis : ∀ i, i + 1 < (crootsF m).length → ¬ (crootsF m).getD (i + 1) 0 = (crootsF m).getD i 0) :
    WC Tryd.prog (tabOf Tryd.prog NT0) S0 17 [mpV m vo vp vb] H fun v h' => Ext H.n H h' ∧ IsSl RInt (fun b => H.n ≤ b) h' v (crootsF m) := by
  refine WC_fn Tryd.func17 rfl rfl ?_
  obtain ⟨hl, hbs, hit⟩ := hok
  have hl0 := hl
  unfold Sm at hl
  have s1 := hm.b.isSl
  have s2 := hm.b.lenD
  have o1 := hm.o.one
  have o2 := hm.p.one
  have o3 := hm.b.one
  have EP : ∀ x, Ext H.n H (H.push x) := fun x => (Ext.refl _ _).push _ (Nat.le_refl _)
  simp only [core, Nat.reduceAdd, Nat.reduceSub, Nat.reduceMul, Nat.reduceLT, Nat.reduceEqDiff, reduceCtorEq, Nat.reduceLeDiff, Int.reduceLE, Int.reduceLT, Int.reduceToNat, Tryd.ntmps17, mpV, s1, s2, o1, o2, o3]
  obtain ⟨h1, hh1⟩ : ∃ h1, h1 = H.push (.cells [.lit (.int .i64 m.epoch), vo, vp, vb, .lit (.int .i64 m.leaf)] 26) := ⟨_, rfl⟩
  have E0 : Ext H.n H h1 := hh1 ▸ EP _
  have A0 : h1.at H.n = some (.cells [.lit (.int .i64 m.epoch), vo, vp, vb, .lit (.int .i64 m.leaf)] 26) := hh1 ▸ at_push_n _ _
  have n1 : h1.n = H.n + 1 := by rw [hh1, n_push]
  rw [← hh1]
  clear hh1
  refine WB_for m.buckets.length (fun i t h => ∃ o, OwnL RInt (fun _ => False) h1.n h o 3 (orphN m i) ∧ Ext h1.n h1 h ∧ t.n = 36 ∧ t.get 1 = .ptr H.n 0 ∧ t.get 3 = o ∧ t.get 9 = vb ∧ t.get 10 = .lit (.int .i64 m.buckets.length) ∧ t.get 11 = .lit (.int .i64 i)) ?_ ?_ _ _ ?_
  · rintro i t h hlt hc ⟨o, ho, he, hn, g1, g3, g9, g10, g11⟩ ih
    obtain ⟨x, hx⟩ : ∃ x, m.buckets[i]? = some x := ⟨_, List.getElem?_eq_getElem hlt⟩
    have E1 : Ext H.n H h := E0.trans (he.mono (by omega))
    obtain ⟨c, hc1, hld, hld0⟩ := hm.b.atE (T := tabOf Tryd.prog NT0) E1 RBkt_z hx
    obtain ⟨va, vw, rfl, ha, hw, i1, i2⟩ := RBkt_is.1 hc1
    have a1 := ha.one
    have w1 := hw.one
    have hws := wrap_succ hlt (by omega)
    have A1 := (he.2 _ (by omega)).trans A0
    have l1 : H.n < h.n := at_lt A1
    have hstep : orphN m (i + 1) = if (parentF m x.id).isSome then orphN m i else orphN m i ++ [x.id] := by rw [orphN, getD_of hx]
    obtain ⟨hA, hhA⟩ : ∃ hA, hA = h.push (.cells [.lit (.int .i64 x.id), .lit (.int .i64 x.kind), va, vw] 47) := ⟨_, rfl⟩
    have EA : Ext h.n h hA := hhA ▸ (Ext.refl _ _).push _ (Nat.le_refl _)
    have PA : hA.at h.n = some (.cells [.lit (.int .i64 x.id), .lit (.int .i64 x.kind), va, vw] 47) := hhA ▸ at_push_n h _
    have AA := (EA.2 _ l1).trans A1
    have LAA := ld_at (T := tabOf Tryd.prog NT0) AA
    have lA := at_lt AA
    have LPA := ld_at (T := tabOf Tryd.prog NT0) PA
    have lPA := at_lt PA
    have EHA := E1.step EA
    simp only [core, Nat.reduceAdd, Nat.reduceSub, Nat.reduceMul, Nat.reduceLT, Nat.reduceEqDiff, reduceCtorEq, Nat.reduceLeDiff, Int.reduceLE, Int.reduceLT, Int.reduceToNat, s1, s2, hn, g1, g3, g9, g10, g11, hlt, hc, hld, hld0, a1, w1, ← hhA, LPA, lPA, LAA, lA]
    refine (parent_x x.id (hm.ext EHA (Nat.le_refl _)) hl0 hbs).mono ?_
    rintro _ h2 ⟨e2, v1, v2, rfl, b1, b2⟩
    have o4 := b1.one
    have o5 := b2.one
    have E2 := EHA.step e2
    have P2 := (e2.2 _ lPA).trans PA
    have l2 := at_lt P2
    simp only [core, Nat.reduceAdd, Nat.reduceSub, Nat.reduceMul, Nat.reduceLT, Nat.reduceEqDiff, reduceCtorEq, Nat.reduceLeDiff, Int.reduceLE, Int.reduceLT, Int.reduceToNat, hn, g1, g3, g9, g10, g11, bktV, o4, o5]
    obtain ⟨h3, hh3⟩ : ∃ h3, h3 = h2.push (.cells [.lit (.int .i64 (parentG m x.id).id), .lit (.int .i64 (parentG m x.id).kind), v1, v2] 47) := ⟨_, rfl⟩
    have e3 : Ext h2.n h2 h3 := hh3 ▸ (Ext.refl _ _).push _ (Nat.le_refl _)
    have P3 := (e3.2 _ l2).trans P2
    have l3 := at_lt P3
    have LP3 := ld_at (T := tabOf Tryd.prog NT0) P3
    have he3 : Ext h1.n h1 h3 := ((he.step EA).step e2).step e3
    have ho3 := ((ho.ext EA (Nat.le_refl _)).ext e2 (Nat.le_refl _)).ext e3 (Nat.le_refl _)
    rw [← hh3]
    clear hh3
    cases hp : (parentF m x.id).isSome with
    | true =>
      rw [hp, if_pos rfl] at hstep
      simp only [core, Nat.reduceAdd, Nat.reduceSub, Nat.reduceMul, Nat.reduceLT, Nat.reduceEqDiff, reduceCtorEq, Nat.reduceLeDiff, Int.reduceLE, Int.reduceLT, Int.reduceToNat, hn, g1, g3, g9, g10, g11, hws]
      refine ih _ _ ⟨o, by rw [hstep]; exact ho3, he3, ?_⟩
      simp only [core, Nat.reduceAdd, Nat.reduceSub, Nat.reduceMul, Nat.reduceLT, Nat.reduceEqDiff, reduceCtorEq, Nat.reduceLeDiff, Int.reduceLE, Int.reduceLT, Int.reduceToNat, hn, g1, g3, g9, g10, g11]
    | false =>
      rw [hp, if_neg (by decide)] at hstep
      simp only [core, Nat.reduceAdd, Nat.reduceSub, Nat.reduceMul, Nat.reduceLT, Nat.reduceEqDiff, reduceCtorEq, Nat.reduceLeDiff, Int.reduceLE, Int.reduceLT, Int.reduceToNat, hn, g1, g3, g9, g10, g11, LP3, l3]
      obtain ⟨h6, hh6⟩ : ∃ h6, h6 = h3.push (.cells [.lit (.int .i64 x.id)] 3) := ⟨_, rfl⟩
      have e6 : Ext h3.n h3 h6 := hh6 ▸ (Ext.refl _ _).push _ (Nat.le_refl _)
      have A6 : h6.at h3.n = some (.cells [.lit (.int .i64 x.id)] 3) := hh6 ▸ at_push_n h3 _
      have n6 := at_lt A6
      rw [← hh6]
      have q0 := he3.1
      have q1 := orphN_len m i
      refine WOp_app ((ho3.ext e6 (Nat.le_refl _)).snoc (by kernel_rfl) (by kernel_rfl) (by kernel_rfl) (zv := .lit (.int .i64 0)) (by kernel_rfl) (by' := 8) (by kernel_rfl) rfl (by decide) (by decide) A6 (y := x.id) ⟨rfl, i1⟩ (by omega) (by omega) (by omega)) ?_
      rintro s' h7 ⟨o7, e7, k7⟩
      have t7 := o7.one
      simp only [core, Nat.reduceAdd, Nat.reduceSub, Nat.reduceMul, Nat.reduceLT, Nat.reduceEqDiff, reduceCtorEq, Nat.reduceLeDiff, Int.reduceLE, Int.reduceLT, Int.reduceToNat, hn, g1, g3, g9, g10, g11, hws, t7]
      refine ih _ _ ⟨s', by rw [hstep]; exact o7, (he3.step e6).trans e7, ?_⟩
      simp only [core, Nat.reduceAdd, Nat.reduceSub, Nat.reduceMul, Nat.reduceLT, Nat.reduceEqDiff, reduceCtorEq, Nat.reduceLeDiff, Int.reduceLE, Int.reduceLT, Int.reduceToNat, hn, g1, g3, g9, g10, g11]
  · rintro t h hc ⟨o, ho, he, hn, g1, g3, g9, g10, g11⟩
    have E1 : Ext H.n H h := E0.trans (he.mono (by omega))
    have q1 := orphN_len m m.buckets.length
    obtain ⟨xs, hxs⟩ : ∃ xs, xs = orphN m m.buckets.length := ⟨_, rfl⟩
    rw [← hxs] at ho q1
    have hcr : crootsF m = (srtI xs).reverse := by unfold crootsF; rw [hxs]
    have hsl : (srtI xs).length = xs.length := by unfold srtI; simp
    by_cases hne : xs = []
    · subst hne
      have hcr0 : crootsF m = [] := by rw [hcr]; unfold srtI; simp
      obtain ⟨L, h1', h2'⟩ := ho
      have hL : L = [] := List.eq_nil_of_length_eq_zero h2'.1
      subst hL
      rcases h1'.2 with ⟨rfl, _⟩ | ⟨p, rfl, hp, hat⟩
      · simp only [core, Nat.reduceAdd, Nat.reduceSub, Nat.reduceMul, Nat.reduceLT, Nat.reduceEqDiff, reduceCtorEq, Nat.reduceLeDiff, Int.reduceLE, Int.reduceLT, Int.reduceToNat, s1, s2, hn, g1, g3, g9, g10, g11, hc]
        refine sort_nil_c ?_
        simp only [core, Nat.reduceAdd, Nat.reduceSub, Nat.reduceMul, Nat.reduceLT, Nat.reduceEqDiff, reduceCtorEq, Nat.reduceLeDiff, Int.reduceLE, Int.reduceLT, Int.reduceToNat, s1, s2, hn, g1, g3, g9, g10, g11, hc]
        refine reverse_nil.mono ?_
        rintro _ h3 rfl
        simp only [core, Nat.reduceAdd, Nat.reduceSub, Nat.reduceMul, Nat.reduceLT, Nat.reduceEqDiff, reduceCtorEq, Nat.reduceLeDiff, Int.reduceLE, Int.reduceLT, Int.reduceToNat, s1, s2, hn, g1, g3, g9, g10, g11, hc]
        refine compact_nil_c ?_
        simp only [core, Nat.reduceAdd, Nat.reduceSub, Nat.reduceMul, Nat.reduceLT, Nat.reduceEqDiff, reduceCtorEq, Nat.reduceLeDiff, Int.reduceLE, Int.reduceLT, Int.reduceToNat, s1, s2, hn, g1, g3, g9, g10, g11, hc]
        rw [hcr0]
        exact ⟨E1, IsSl.nil⟩
      · have hat : h.at p = some (.cells (iL []) 3) := hat
        simp only [core, Nat.reduceAdd, Nat.reduceSub, Nat.reduceMul, Nat.reduceLT, Nat.reduceEqDiff, reduceCtorEq, Nat.reduceLeDiff, Int.reduceLE, Int.reduceLT, Int.reduceToNat, s1, s2, hn, g1, g3, g9, g10, g11, hc]
        refine sort_zero_c ?_
        simp only [core, Nat.reduceAdd, Nat.reduceSub, Nat.reduceMul, Nat.reduceLT, Nat.reduceEqDiff, reduceCtorEq, Nat.reduceLeDiff, Int.reduceLE, Int.reduceLT, Int.reduceToNat, s1, s2, hn, g1, g3, g9, g10, g11, hc]
        refine (reverse_x hat (by decide)).mono ?_
        rintro _ h3 ⟨hat3, hn3, hk3⟩
        have E3 : Ext H.n H h3 := ⟨by rw [hn3]; exact E1.1, fun b hb => (hk3 b (by omega)).trans (E1.2 b hb)⟩
        have ho3 : OwnL RInt (fun _ => False) H.n h3 (.sl p 0 ([] : List Int).length (.un 1)) 3 [] := OwnL.ofInts (by omega) hat3 (fun y hy => by cases hy)
        have hv3 : IsSl RInt (fun b => H.n ≤ b) h3 (.sl p 0 0 (.un 1)) [] := ho3.toSl (fun _ hf => hf.elim) (fun b hb => hb)
        simp only [core, Nat.reduceAdd, Nat.reduceSub, Nat.reduceMul, Nat.reduceLT, Nat.reduceEqDiff, reduceCtorEq, Nat.reduceLeDiff, Int.reduceLE, Int.reduceLT, Int.reduceToNat, s1, s2, hn, g1, g3, g9, g10, g11, hc]
        refine compact_zero_c ?_
        simp only [core, Nat.reduceAdd, Nat.reduceSub, Nat.reduceMul, Nat.reduceLT, Nat.reduceEqDiff, reduceCtorEq, Nat.reduceLeDiff, Int.reduceLE, Int.reduceLT, Int.reduceToNat, s1, s2, hn, g1, g3, g9, g10, g11, hc]
        rw [hcr0]
        exact ⟨E3, hv3⟩
    · obtain ⟨p, rfl, hp, hat, hI⟩ := ho.ints hne
      simp only [core, Nat.reduceAdd, Nat.reduceSub, Nat.reduceMul, Nat.reduceLT, Nat.reduceEqDiff, reduceCtorEq, Nat.reduceLeDiff, Int.reduceLE, Int.reduceLT, Int.reduceToNat, s1, s2, hn, g1, g3, g9, g10, g11, hc]
      refine sort_c hat hne (by omega) ?_
      obtain ⟨h2, hh2⟩ : ∃ h2, h2 = h.put p (.cells (iL (srtI xs)) 3) := ⟨_, rfl⟩
      have hat2 : h2.at p = some (.cells (iL (srtI xs)) 3) := hh2 ▸ at_put_same _ (at_lt hat)
      have E2 : Ext H.n H h2 := hh2 ▸ E1.put _ (by omega)
      rw [← hh2]
      clear hh2
      simp only [core, Nat.reduceAdd, Nat.reduceSub, Nat.reduceMul, Nat.reduceLT, Nat.reduceEqDiff, reduceCtorEq, Nat.reduceLeDiff, Int.reduceLE, Int.reduceLT, Int.reduceToNat, s1, s2, hn, g1, g3, g9, g10, g11, hc]
      have hrv := reverse_x hat2 (by omega)
      rw [hsl] at hrv
      refine hrv.mono ?_
      rintro _ h3 ⟨hat3, hn3, hk3⟩
      have E3 : Ext H.n H h3 := ⟨by rw [hn3]; exact E2.1, fun b hb => (hk3 b (by omega)).trans (E2.2 b hb)⟩
      have hlr : (srtI xs).reverse.length = xs.length := by simp [hsl]
      have hI2 : ∀ y ∈ (srtI xs).reverse, I64 y := fun y hy => hI y (by
        rw [List.mem_reverse] at hy
        unfold srtI at hy
        exact (List.mergeSort_perm _ _).mem_iff.1 hy)
      have ho3 : OwnL RInt (fun _ => False) H.n h3 (.sl p 0 (srtI xs).reverse.length (.un 1)) 3 (srtI xs).reverse := OwnL.ofInts (by omega) hat3 hI2
      have hv3 : IsSl RInt (fun b => H.n ≤ b) h3 (.sl p 0 xs.length (.un 1)) (crootsF m) := by
        rw [hcr, ← hlr]
        exact ho3.toSl (fun _ hf => hf.elim) (fun b hb => hb)
      simp only [core, Nat.reduceAdd, Nat.reduceSub, Nat.reduceMul, Nat.reduceLT, Nat.reduceEqDiff, reduceCtorEq, Nat.reduceLeDiff, Int.reduceLE, Int.reduceLT, Int.reduceToNat, s1, s2, hn, g1, g3, g9, g10, g11, hc]
      rw [hcr] at hdis
      obtain ⟨d1, d2⟩ := cmpI_dis hdis
      have hne3 : (srtI xs).reverse ≠ [] := fun hh => hne (List.eq_nil_of_length_eq_zero (by rw [← hlr, hh]; rfl))
      rw [← hlr]
      refine compact_c hat3 hne3 (by rw [hlr]; omega) ?_
      rw [d1, d2]
      simp only [core, Nat.reduceAdd, Nat.reduceSub, Nat.reduceMul, Nat.reduceLT, Nat.reduceEqDiff, reduceCtorEq, Nat.reduceLeDiff, Int.reduceLE, Int.reduceLT, Int.reduceToNat, s1, s2, hn, g1, g3, g9, g10, g11, hc]
      refine ⟨E3.put _ (by omega), ?_⟩
      have ho4 : OwnL RInt (fun _ => False) H.n (h3.put p (.cells (iL (srtI xs).reverse) 3)) (.sl p 0 (srtI xs).reverse.length (.un 1)) 3 (srtI xs).reverse := OwnL.ofInts (by omega) (at_put_same _ (at_lt hat3)) hI2
      rw [hcr]
      exact ho4.toSl (fun _ hf => hf.elim) (fun b hb => hb)
  · refine ⟨_, OwnL.nil, Ext.refl _ _, ?_⟩
    simp only [core, Nat.reduceAdd, Nat.reduceSub, Nat.reduceMul, Nat.reduceLT, Nat.reduceEqDiff, reduceCtorEq, Nat.reduceLeDiff, Int.reduceLE, Int.reduceLT, Int.reduceToNat]
    (repeat' apply And.intro) <;> first | rfl | trivial
end Go.Proofs.YtkgbeihcepociaaDoor.Ex
end

section

set_option linter.unusedSimpArgs false
set_option linter.unusedVariables false
set_option maxRecDepth 10000
set_option maxHeartbeats 4000000
namespace Go.Proofs.YtkgbeihcepociaaDoor.Ex
open Go
theorem insD_perm {x : Int} {l : List Int} : (insD x l).Perm (x :: l) := by
  unfold insD
  have h := (List.perm_middle (a := x) (l₁ := l.take (posF x l l.length)) (l₂ := l.drop (posF x l l.length)))
  rw [List.take_append_drop] at h
  exact h
theorem posF_spec {x : Int} {l : List Int} : ∀ n, n ≤ l.length → (∀ k, posF x l n ≤ k → k < n → l.getD k 0 < x) ∧ (0 < posF x l n → x ≤ l.getD (posF x l n - 1) 0)
  | 0, _ => ⟨fun k h1 h2 => by omega, fun h => by unfold posF at h; omega⟩
  | n + 1, hn => by
    obtain ⟨h1, h2⟩ := posF_spec (x := x) (l := l) n (by omega)
    unfold posF
    split
    · rename_i hq
      refine ⟨fun k h3 h4 => ?_, h2⟩
      by_cases hk : k = n
      · subst hk; simpa using hq
      · exact h1 k h3 (by omega)
    · rename_i hq
      refine ⟨fun k h3 h4 => by omega, fun _ => ?_⟩
      simpa using hq
theorem desc_get {l : List Int} (hs : l.Pairwise (fun a b => b < a)) {i j : Nat} (hij : i < j) (hj : j < l.length) : l.getD j 0 < l.getD i 0 := by
  rw [List.getD_eq_getElem?_getD, List.getD_eq_getElem?_getD, List.getElem?_eq_getElem hj, List.getElem?_eq_getElem (by omega)]
  exact List.pairwise_iff_getElem.1 hs i j (by omega) hj hij
theorem insD_desc {x : Int} {l : List Int} (hs : l.Pairwise (fun a b => b < a)) (hx : x ∉ l) : (insD x l).Pairwise (fun a b => b < a) := by
  obtain ⟨h1, h2⟩ := posF_spec (x := x) (l := l) l.length (Nat.le_refl _)
  have hp := posF_le x l l.length
  unfold insD
  rw [List.pairwise_append]
  refine ⟨hs.sublist (List.take_sublist _ _), List.pairwise_cons.2 ⟨fun y hy => ?_, hs.sublist (List.drop_sublist _ _)⟩, fun y hy z hz => ?_⟩
  · obtain ⟨j, hj, rfl⟩ := List.mem_iff_getElem.1 hy
    rw [List.length_drop] at hj
    have := h1 (posF x l l.length + j) (by omega) (by omega)
    rw [List.getD_eq_getElem?_getD, List.getElem?_eq_getElem (by omega)] at this
    rw [List.getElem_drop]
    exact this
  · obtain ⟨j, hj, rfl⟩ := List.mem_iff_getElem.1 hy
    rw [List.length_take] at hj
    have hjl : j < l.length := by omega
    have hyx : x < (l.take (posF x l l.length))[j] := by
      have e : (l.take (posF x l l.length))[j] = l.getD j 0 := by
        rw [List.getElem_take, List.getD_eq_getElem?_getD, List.getElem?_eq_getElem hjl]
        rfl
      rw [e]
      have h3 := h2 (by omega)
      have h4 : l.getD (posF x l l.length - 1) 0 ≤ l.getD j 0 := by
        by_cases hh : j = posF x l l.length - 1
        · rw [← hh]; exact Int.le_refl _
        · exact Int.le_of_lt (desc_get hs (by omega) (by omega))
      have h5 : l.getD j 0 ≠ x := fun hh => hx (by
        rw [← hh, List.getD_eq_getElem?_getD, List.getElem?_eq_getElem hjl]
        exact List.getElem_mem hjl)
      omega
    rcases List.mem_cons.1 hz with rfl | hz
    · exact hyx
    · obtain ⟨k, hk, rfl⟩ := List.mem_iff_getElem.1 hz
      rw [List.length_drop] at hk
      have := h1 (posF x l l.length + k) (by omega) (by omega)
      rw [List.getD_eq_getElem?_getD, List.getElem?_eq_getElem (by omega)] at this
      rw [List.getElem_drop]
      exact Int.lt_trans this hyx
theorem parent_within {m : MapD} {id : Int} : (parentF m id).isSome = withinF m id := by
  unfold parentF withinF
  apply Bool.eq_iff_iff.2
  rw [List.find?_isSome, List.any_eq_true]
theorem good_once {m : MapD} (hg : goodF m = true) {i : Nat} (hi : i < m.buckets.length) : twiceF m i = false := by
  unfold goodF at hg
  simp only [Bool.and_eq_true] at hg
  have := List.all_eq_true.1 hg.2 i (List.mem_range.2 hi)
  unfold bOk hdOk at this
  simp only [Bool.and_eq_true] at this
  have h := this.1.1.1.1.1.1
  unfold twiceF
  simpa using h
theorem roots_walk {m : MapD} (hg : goodF m = true) : ∀ i, i ≤ m.buckets.length → (rootsN m i).Perm (orphN m i) ∧ (rootsN m i).Pairwise (fun a b => b < a) ∧ ∀ y ∈ orphN m i, ∃ c ∈ m.buckets.take i, c.id = y
  | 0, _ => ⟨List.Perm.refl _, List.Pairwise.nil, fun y hy => by cases hy⟩
  | i + 1, hi => by
    obtain ⟨h1, h2, h3⟩ := roots_walk hg i (by omega)
    have hx : m.buckets[i]? = some (m.buckets.getD i bkt0) := getD_some' bkt0 (by omega)
    have htk : m.buckets.take (i + 1) = m.buckets.take i ++ [m.buckets.getD i bkt0] := by rw [List.take_add_one, hx]; rfl
    unfold rootsN orphN
    rw [good_once hg (by omega), Bool.or_false, parent_within]
    cases hw : withinF m (m.buckets.getD i bkt0).id with
    | true =>
      refine ⟨h1, h2, fun y hy => ?_⟩
      obtain ⟨c, hc, hcy⟩ := h3 y hy
      exact ⟨c, by rw [htk]; exact List.mem_append.2 (.inl hc), hcy⟩
    | false =>
      have hno : (m.buckets.getD i bkt0).id ∉ rootsN m i := fun hmem => by
        obtain ⟨c, hc, hcy⟩ := h3 _ (h1.mem_iff.1 hmem)
        have := good_once hg (show i < m.buckets.length by omega)
        unfold twiceF at this
        rw [List.any_eq_false] at this
        exact this c hc (by simpa using hcy)
      refine ⟨?_, insD_desc h2 hno, fun y hy => ?_⟩
      · refine insD_perm.trans ((List.Perm.cons _ h1).trans ?_)
        exact (List.perm_append_comm (l₁ := [_]) (l₂ := orphN m i))
      · rcases List.mem_append.1 hy with hy | hy
        · obtain ⟨c, hc, hcy⟩ := h3 y hy
          exact ⟨c, by rw [htk]; exact List.mem_append.2 (.inl hc), hcy⟩
        · exact ⟨m.buckets.getD i bkt0, by rw [htk]; exact List.mem_append.2 (.inr (List.mem_cons_self ..)), (List.mem_singleton.1 hy).symm⟩
theorem roots_same {m : MapD} (hg : goodF m = true) : crootsF m = rootsR m := by
  obtain ⟨h1, h2, _⟩ := roots_walk hg m.buckets.length (Nat.le_refl _)
  unfold crootsF rootsR
  refine List.Perm.eq_of_pairwise (le := fun a b => b ≤ a) (fun a b _ _ h3 h4 => Int.le_antisymm h4 h3) ?_ (h2.imp fun h => Int.le_of_lt h) ((List.reverse_perm _).trans ((List.mergeSort_perm _ _).trans h1.symm))
  rw [List.pairwise_reverse]
  unfold srtI
  have := List.pairwise_mergeSort (le := fun x y : Int => decide (x ≤ y)) (fun a b c h h' => by simp at *; omega) (fun a b => by simp; omega) (orphN m m.buckets.length)
  exact this.imp fun h => by simpa using h
theorem croots_dis {m : MapD} (hg : goodF m = true) : ∀ i, i + 1 < (crootsF m).length → ¬ (crootsF m).getD (i + 1) 0 = (crootsF m).getD i 0 := fun i hi => by
  obtain ⟨_, h2, _⟩ := roots_walk hg m.buckets.length (Nat.le_refl _)
  rw [roots_same hg] at hi ⊢
  have := desc_get (l := rootsR m) h2 (show i < i + 1 by omega) hi
  omega
theorem rootsG_x {F : Nat → Prop} {H : AH} {m : MapD} {vo vp vb : AV} (hm : MpAt F H m vo vp vb) (hok : OkM m) (hg : goodF m = true) :
    WC Tryd.prog (tabOf Tryd.prog NT0) S0 17 [mpV m vo vp vb] H fun v h' => Ext H.n H h' ∧ IsSl RInt (fun b => H.n ≤ b) h' v (rootsR m) := by
  rw [← roots_same hg]
  exact rootsC_x hm hok (croots_dis hg)
end Go.Proofs.YtkgbeihcepociaaDoor.Ex
end
