/- Part 3 of the proof: ExTab, W, Ws, Own, Row, Rep, Wr, Tab, Bt, Core, Exf, Add64, Cad, Efb, Lay4, Mn0, Msm, ExcL, Sl2, Eq, Sh0, Sh1. -/
import Derived.IntWalk
import Derived.Test.YtpfibijbieblnaaGreatDoorRows
import Derived.Laws.LoneSync
import Derived.Shelf.Strconv.Atoi
import Derived.Shelf.Strconv.Itoa3
import Derived.Shelf.Strings.Count
import Derived.Shelf.Strings.OnBuilder
import Derived.Shelf.Strings.Search2
import Derived.Shelf.Strings.SlTrimAscii
import Derived.Test.YtpfibijbieblnaaGreatDoorProg
import Derived.Lib.Atoi
import Derived.Lib.ItoaNum
import Derived.Lib.Bytealg
import Derived.Lib.AtoiErrMem
import Derived.Lib.Join
import Derived.Laws.StructEq
import Derived.Test.YtpfibijbieblnaaGreatDoorM2
section

namespace Go.Proofs.YtpfibijbieblnaaGreatDoor.Ex
open Go
def NT0 : NT := (.node (.node (.node (.node (.node (.node (.node (.node .leaf 1 .leaf) 2 (.node .leaf 3 .leaf)) 4 (.node (.node .leaf 5 .leaf) 6 .leaf)) 7 (.node (.node (.node .leaf 8 .leaf) 9 (.node .leaf 10 .leaf)) 11 (.node (.node .leaf 12 .leaf) 13 .leaf))) 14 (.node (.node (.node (.node .leaf 15 .leaf) 16 (.node .leaf 17 .leaf)) 18 (.node (.node .leaf 19 .leaf) 20 .leaf)) 21 (.node (.node (.node .leaf 22 .leaf) 23 (.node .leaf 24 .leaf)) 25 (.node (.node .leaf 26 .leaf) 27 .leaf)))) 28 (.node (.node (.node (.node (.node .leaf 29 .leaf) 30 (.node .leaf 31 .leaf)) 32 (.node (.node .leaf 33 .leaf) 34 .leaf)) 35 (.node (.node (.node .leaf 36 .leaf) 37 (.node .leaf 38 .leaf)) 39 (.node (.node .leaf 40 .leaf) 41 .leaf))) 42 (.node (.node (.node (.node .leaf 44 .leaf) 45 (.node .leaf 46 .leaf)) 47 (.node (.node .leaf 48 .leaf) 50 .leaf)) 51 (.node (.node (.node .leaf 52 .leaf) 53 (.node .leaf 54 .leaf)) 55 (.node (.node .leaf 56 .leaf) 57 .leaf))))) 58 (.node (.node (.node (.node (.node (.node .leaf 59 .leaf) 60 (.node .leaf 61 .leaf)) 62 (.node (.node .leaf 64 .leaf) 65 .leaf)) 67 (.node (.node (.node .leaf 68 .leaf) 69 (.node .leaf 70 .leaf)) 72 (.node (.node .leaf 74 .leaf) 75 .leaf))) 76 (.node (.node (.node (.node .leaf 77 .leaf) 78 (.node .leaf 79 .leaf)) 80 (.node (.node .leaf 81 .leaf) 82 .leaf)) 83 (.node (.node (.node .leaf 84 .leaf) 85 (.node .leaf 86 .leaf)) 87 (.node (.node .leaf 88 .leaf) 89 .leaf)))) 90 (.node (.node (.node (.node (.node .leaf 91 .leaf) 92 (.node .leaf 93 .leaf)) 94 (.node (.node .leaf 95 .leaf) 96 .leaf)) 97 (.node (.node (.node .leaf 98 .leaf) 99 (.node .leaf 100 .leaf)) 101 (.node (.node .leaf 102 .leaf) 103 .leaf))) 104 (.node (.node (.node (.node .leaf 105 .leaf) 106 (.node .leaf 107 .leaf)) 108 (.node (.node .leaf 109 .leaf) 110 .leaf)) 111 (.node (.node (.node .leaf 112 .leaf) 113 (.node .leaf 114 .leaf)) 115 (.node (.node .leaf 116 .leaf) 117 .leaf)))))) 118 (.node (.node (.node (.node (.node (.node (.node .leaf 119 .leaf) 121 (.node .leaf 122 .leaf)) 123 (.node (.node .leaf 124 .leaf) 125 .leaf)) 126 (.node (.node (.node .leaf 127 .leaf) 128 (.node .leaf 129 .leaf)) 130 (.node (.node .leaf 131 .leaf) 132 .leaf))) 133 (.node (.node (.node (.node .leaf 134 .leaf) 135 (.node .leaf 136 .leaf)) 137 (.node (.node .leaf 138 .leaf) 139 .leaf)) 140 (.node (.node (.node .leaf 141 .leaf) 142 (.node .leaf 144 .leaf)) 145 (.node (.node .leaf 146 .leaf) 147 .leaf)))) 148 (.node (.node (.node (.node (.node .leaf 149 .leaf) 150 (.node .leaf 151 .leaf)) 152 (.node (.node .leaf 153 .leaf) 154 .leaf)) 155 (.node (.node (.node .leaf 156 .leaf) 157 (.node .leaf 158 .leaf)) 159 (.node (.node .leaf 161 .leaf) 162 .leaf))) 163 (.node (.node (.node (.node .leaf 164 .leaf) 165 (.node .leaf 166 .leaf)) 167 (.node (.node .leaf 168 .leaf) 169 .leaf)) 170 (.node (.node (.node .leaf 171 .leaf) 172 (.node .leaf 173 .leaf)) 174 (.node (.node .leaf 175 .leaf) 176 .leaf))))) 177 (.node (.node (.node (.node (.node (.node .leaf 178 .leaf) 179 (.node .leaf 181 .leaf)) 182 (.node (.node .leaf 183 .leaf) 185 .leaf)) 186 (.node (.node (.node .leaf 187 .leaf) 188 (.node .leaf 189 .leaf)) 190 (.node (.node .leaf 192 .leaf) 193 .leaf))) 194 (.node (.node (.node (.node .leaf 195 .leaf) 196 (.node .leaf 197 .leaf)) 199 (.node (.node .leaf 200 .leaf) 202 .leaf)) 203 (.node (.node (.node .leaf 205 .leaf) 206 (.node .leaf 207 .leaf)) 208 (.node (.node .leaf 209 .leaf) 210 .leaf)))) 211 (.node (.node (.node (.node (.node .leaf 212 .leaf) 213 (.node .leaf 214 .leaf)) 215 (.node (.node .leaf 216 .leaf) 217 .leaf)) 218 (.node (.node (.node .leaf 219 .leaf) 220 (.node .leaf 221 .leaf)) 222 (.node (.node .leaf 223 .leaf) 224 .leaf))) 225 (.node (.node (.node (.node .leaf 226 .leaf) 227 (.node .leaf 228 .leaf)) 229 (.node (.node .leaf 230 .leaf) 231 .leaf)) 232 (.node (.node (.node .leaf 233 .leaf) 234 .leaf) 235 (.node (.node .leaf 236 .leaf) 237 .leaf)))))))
set_option maxRecDepth 100000 in
theorem tab_sound : TT.Sound Tryz.prog (tabOf Tryz.prog NT0) := tabOf_sound (by decide +kernel)
end Go.Proofs.YtpfibijbieblnaaGreatDoor.Ex
end

section

set_option linter.unusedSimpArgs false
set_option linter.unusedVariables false
namespace Go.Proofs.YtpfibijbieblnaaGreatDoor.Ex
open Go
/-! Operations that neither defer nor recover. -/
def plainOp : Op → Bool
  | .defer _ => false
  | .call c => (match c.callee with | .builtin .recover => false | _ => true)
  | _ => true
def AN.plain : AN → Bool
  | .defer _ _ => false
  | .recover => false
  | _ => true
def Pl (x : AR) : Prop := ∀ n h1, x = some (n, h1) → n.plain = true
theorem Pl_none : Pl none := fun n h1 h => by cases h
theorem Pl_some {n : AN} {h : AH} (hn : n.plain = true) : Pl (some (n, h)) := fun n' h1 e => by
  simp only [Option.some.injEq, Prod.mk.injEq] at e
  rw [← e.1]
  exact hn
theorem Pl_map {α : Type} {x : Option α} {f : α → AN × AH} (hf : ∀ y, (f y).1.plain = true) : Pl (x.map f) := fun n h1 e => by
  simp only [Option.map_eq_some_iff] at e
  obtain ⟨y, _, e2⟩ := e
  rw [show n = (f y).1 by rw [e2]]
  exact hf y
theorem Pl_val {x : Option AV} {h : AH} : Pl (val h x) := Pl_map fun _ => rfl
theorem Pl_orLit {P : Program} {t : TM} {h : AH} {o : Oper} {r : Unit → AR} (hr : Pl (r ())) : Pl (orLit P o t h r) := by
  unfold orLit
  split
  · rename_i n hn
    refine Pl_some ?_
    unfold litOp at hn
    split at hn
    · unfold ofPR at hn
      split at hn
      · simp only [Option.map_eq_some_iff] at hn; obtain ⟨_, _, rfl⟩ := hn; rfl
      · simp only [Option.map_eq_some_iff] at hn; obtain ⟨_, _, rfl⟩ := hn; rfl
      · cases hn
    · cases hn
  · exact hr
theorem Pl_pv {h : AH} {x : Option (PR Value)} : Pl (ofPV h x) := by
  unfold ofPV
  split
  · exact Pl_map fun _ => rfl
  · exact Pl_map fun _ => rfl
  · exact Pl_none
theorem Pl_if {c : Prop} [Decidable c] {a b : AR} (ha : Pl a) (hb : Pl b) : Pl (if c then a else b) := by split <;> assumption
theorem Pl_bif {c : Bool} {a b : AR} (ha : Pl a) (hb : Pl b) : Pl (bif c then a else b) := by cases c <;> assumption
theorem Pl_callA {P : Program} {h : AH} {f : AV} {args : List AV} : Pl ((callA P f args).map (·, h)) := fun n h1 e => by
  simp only [Option.map_eq_some_iff, Prod.mk.injEq] at e
  obtain ⟨y, hy, rfl, _⟩ := e
  unfold callA at hy
  split at hy
  · obtain rfl := Option.some.inj hy; rfl
  · obtain rfl := Option.some.inj hy; rfl
  · simp only [Option.map_eq_some_iff] at hy; obtain ⟨_, _, rfl⟩ := hy; rfl
  · cases hy
theorem aop_plain {P : Program} {T : TT} {t : TM} {h : AH} {o : Oper} (hp : plainOp o.op = true) : Pl (aop P T o t h) := by
  obtain ⟨dst, op, ty, pos, after, guard⟩ := o
  have e0 : ∀ x : AR, (∃ y : Option AV, x = val h y) → Pl x := fun x ⟨y, e⟩ => e ▸ Pl_val
  cases op <;> simp only [aop] <;> first
    | exact Pl_none | exact Pl_val | exact Pl_map fun _ => rfl | skip
  all_goals first
    | (cases hp; done)
    | (simp only [aPick, aBox, aBuild, aBuildSlice, aLoad, aStore, aNilCheck, aBin, aUn, aConvert, aConv1, aMakeInterface, aMakeFunc, aMakeSlice, aSlice, aSlice1, aFieldAddr, aField, aIndexAddr, aIndex, aLookup, aUpdate, aRange, aNext, aEntry, aExtract, aAssert, aPanic, aSame, aAlloc]
       repeat' (first | exact Pl_none | exact Pl_val | exact Pl_pv | (exact Pl_map fun _ => rfl) | exact Pl_some rfl | refine Pl_orLit ?_ | refine Pl_bif ?_ ?_ | refine Pl_if ?_ ?_ | split)
       done)
    | skip
  · rename_i r; cases r <;> first | exact Pl_none | exact Pl_some rfl
  · rename_i c
    unfold aCall
    split
    · rename_i b hb
      unfold aBuiltin
      repeat' (first | exact Pl_none | exact Pl_val | (exact Pl_map fun _ => rfl) | exact Pl_some rfl | refine Pl_orLit ?_ | split)
      all_goals (simp only [plainOp, hb] at hp; first | cases hp | skip)
    · split <;> first | exact Pl_callA | exact Pl_none
    · split <;> first | exact Pl_callA | exact Pl_none
section
variable {P : Program} {T : TT} {S : Sums}
/-! More fuel does not hurt. -/
def RLe (r r' : Rec) : Prop := ∀ t h x, r t h = some x → r' t h = some x
def OLe {α : Type} (a b : Option α) : Prop := ∀ x, a = some x → b = some x
theorem OLe.refl {α : Type} (a : Option α) : OLe a a := fun _ h => h
variable {r r' : Rec}
theorem xCall1_mono (hr : RLe r r') {a b : Option (Out × AH)} (hab : OLe a b) (cm : Option Mode) : OLe (xCall1 r cm a) (xCall1 r' cm b) := fun x hx => by
  cases a with
  | none => cases hx
  | some p => rw [hab _ rfl]; revert hx; unfold xCall1; split <;> first | exact fun hx => hr _ _ _ hx | exact id
theorem xCall_mono (hr : RLe r r') (f : FuncId) (args : List AV) (cm : Option Mode) (h : AH) : OLe (xCall P S r f args cm h) (xCall P S r' f args cm h) := fun x hx => by
  unfold xCall at hx ⊢
  split at hx
  · split at hx
    · split at hx
      · exact hx
      · exact hx
      · exact xCall1_mono hr (fun y hy => hr _ _ _ hy) _ x hx
    · cases hx
  · cases hx
theorem xUnwind1_mono (hr : RLe r r') {a b : Option (Out × AH)} (hab : OLe a b) (fr : AFr) (ds : List ADI) : OLe (xUnwind1 r fr ds a) (xUnwind1 r' fr ds b) := fun x hx => by
  cases a with
  | none => cases hx
  | some p => rw [hab _ rfl]; revert hx; unfold xUnwind1; split <;> first | exact fun hx => hr _ _ _ hx | exact id
theorem xUnwind_mono (hr : RLe r r') (fr : AFr) (m : Mode) (h : AH) : OLe (xUnwind P T r fr m h) (xUnwind P T r' fr m h) := fun x hx => by
  unfold xUnwind at hx ⊢
  split at hx
  · split at hx <;> exact hx
  · split at hx
    · exact hr _ _ _ hx
    · cases hx
  · exact xUnwind1_mono hr (fun y hy => hr _ _ _ hy) _ _ x hx
theorem xRound_mono (hr : RLe r r') (l : Nat) (args : List AV) (h : AH) : OLe (xRound P r l args h) (xRound P r' l args h) := fun x hx => by
  unfold xRound at hx ⊢
  split at hx
  · rename_i lo hl
    split at hx
    · rename_i hlen
      rw [if_pos hlen]
      cases hb : r (.body { fn := lo.fn, tmps := setParams lo.tmps lo.params args, todo := [.code lo.assign, .beginRound, .code lo.body], defers := [], cm := none, roundOf := some l }) h with
      | none => rw [hb] at hx; cases hx
      | some p => rw [hb] at hx; rw [hr _ _ _ hb]; exact hx
    · cases hx
  · cases hx
theorem xRange1_mono (hr : RLe r r') {a b : Option (Out × AH)} (hab : OLe a b) (fr : AFr) (k : List AI) (d l : Nat) : OLe (xRange1 r fr k d l a) (xRange1 r' fr k d l b) := fun x hx => by
  cases a with
  | none => cases hx
  | some p => rw [hab _ rfl]; revert hx; unfold xRange1; split <;> first | exact fun hx => hr _ _ _ hx | exact id
theorem xRange_mono (hr : RLe r r') (fr : AFr) (k : List AI) (h : AH) (f : Operand) (ps : Array Tmp) (a b : Code) : OLe (xRange P r fr k h f ps a b) (xRange P r' fr k h f ps a b) := fun x hx => by
  unfold xRange at hx ⊢
  split at hx
  · split at hx
    · exact xRange1_mono hr (fun y hy => hr _ _ _ hy) _ _ _ _ x hx
    · cases hx
  · cases hx
theorem xBegin_mono (hr : RLe r r') (fr : AFr) (k : List AI) (h : AH) : OLe (xBegin r fr k h) (xBegin r' fr k h) := fun x hx => by
  unfold xBegin at hx ⊢
  split at hx
  · split at hx
    · split at hx
      · exact hr _ _ _ hx
      · cases hx
    · cases hx
  · cases hx
theorem xEnd_mono (hr : RLe r r') (fr : AFr) (l : Nat) (k : List AI) (h : AH) : OLe (xEnd r fr l k h) (xEnd r' fr l k h) := fun x hx => by
  unfold xEnd at hx ⊢
  split at hx
  · split at hx
    · cases hx
    · exact hr _ _ _ hx
  · cases hx
theorem xCalled_mono (hr : RLe r r') {a b : Option (Out × AH)} (hab : OLe a b) (fr : AFr) (o : Oper) (it : AI) (k : List AI) : OLe (xCalled r fr o it k a) (xCalled r' fr o it k b) := fun x hx => by
  cases a with
  | none => cases hx
  | some p => rw [hab _ rfl]; revert hx; unfold xCalled; split <;> first | exact fun hx => hr _ _ _ hx | exact id
theorem xOp_mono (hr : RLe r r') (fr : AFr) (o : Oper) (it : AI) (k : List AI) (a : AR) : OLe (xOp r fr o it k a) (xOp r' fr o it k a) := fun x hx => by
  unfold xOp at hx ⊢
  split at hx
  · exact hr _ _ _ hx
  · exact xCalled_mono hr (fun y hy => hr _ _ _ hy) _ _ _ _ x hx
  · exact xCalled_mono hr (fun y hy => hr _ _ _ hy) _ _ _ _ x hx
  · split at hx
    · cases hx
    · rename_i hn; rw [if_neg hn]; exact hr _ _ _ hx
  · split at hx
    · cases hx
    · rename_i hn; rw [if_neg hn]; exact hr _ _ _ hx
  · exact hx
  · cases hx
theorem xReg_mono (hr : RLe r r') (fr : AFr) (ops : Array Oper) (i : Nat) (l : List Nat) (k : List AI) (h : AH) : OLe (xReg P T r fr ops i l k h) (xReg P T r' fr ops i l k h) := fun x hx => by
  unfold xReg at hx ⊢
  split at hx
  · split at hx
    · exact xOp_mono hr _ _ _ _ _ x hx
    · exact hr _ _ _ hx
    · cases hx
  · cases hx
theorem xCalledD_mono (hr : RLe r r') {a b : Option (Out × AH)} (hab : OLe a b) (fr : AFr) (o : Oper) (it : AI) (k : List AI) : OLe (xCalledD r fr o it k a) (xCalledD r' fr o it k b) := fun x hx => by
  cases a with
  | none => cases hx
  | some p => rw [hab _ rfl]; revert hx; unfold xCalledD; split <;> first | exact fun hx => hr _ _ _ hx | exact id
theorem xOpD_mono (hr : RLe r r') (fr : AFr) (ops : Array Oper) (i : Nat) (o : Oper) (l : List Nat) (rs : List (Nat × RD × AV)) (k : List AI) (a : AR) : OLe (xOpD P T r fr ops i o l rs k a) (xOpD P T r' fr ops i o l rs k a) := fun x hx => by
  unfold xOpD at hx ⊢
  split at hx
  · split at hx
    · exact hr _ _ _ hx
    · exact xCalledD_mono hr (fun y hy => hr _ _ _ hy) _ _ _ _ x hx
    · exact xCalledD_mono hr (fun y hy => hr _ _ _ hy) _ _ _ _ x hx
    · cases hx
  · split at hx
    · split at hx
      · exact hr _ _ _ hx
      · rename_i hrd
        cases hl : (litOp P o fr.tmps).isSome with
        | false => rw [hl] at hx; cases hx
        | true => rw [hl] at hx; exact hr _ _ _ hx
    · cases hx
  · split at hx
    · exact hr _ _ _ hx
    · cases hx
theorem xRegD1_mono (hr : RLe r r') (fr : AFr) (ops : Array Oper) (i : Nat) (o : Oper) (l : List Nat) (rs : List (Nat × RD × AV)) (k : List AI) (h : AH) : OLe (xRegD1 P T r fr ops i o l rs k h) (xRegD1 P T r' fr ops i o l rs k h) := fun x hx => by
  unfold xRegD1 at hx ⊢
  split at hx
  · exact xOpD_mono hr _ _ _ _ _ _ _ _ x hx
  · exact hr _ _ _ hx
  · cases hx
theorem xRegD_mono (hr : RLe r r') (fr : AFr) (ops : Array Oper) (i : Nat) (l : List Nat) (rs : List (Nat × RD × AV)) (k : List AI) (h : AH) : OLe (xRegD P T r fr ops i l rs k h) (xRegD P T r' fr ops i l rs k h) := fun x hx => by
  unfold xRegD at hx ⊢
  split at hx
  · split at hx
    · rename_i ha
      rw [if_pos ha]
      split at hx
      · rename_i hh; rw [if_pos hh]; exact xRegD1_mono hr _ _ _ _ _ _ _ _ x hx
      · cases hx
    · rename_i ha
      rw [if_neg ha]
      exact xRegD1_mono hr _ _ _ _ _ _ _ _ x hx
  · cases hx
theorem xCode_mono (hr : RLe r r') (fr : AFr) (k : List AI) (h : AH) (c : Code) : OLe (xCode P T r fr k h c) (xCode P T r' fr k h c) := fun x hx => by
  cases c with
  | ret => exact hx
  | skip => exact hr _ _ _ hx
  | label n => exact hr _ _ _ hx
  | seq a b => exact hr _ _ _ hx
  | cond c a b =>
    simp only [xCode, xCond] at hx ⊢
    split at hx
    · exact hr _ _ _ hx
    · cases hx
  | block id c => exact hr _ _ _ hx
  | loop c => exact hr _ _ _ hx
  | scope c => exact hr _ _ _ hx
  | exit id =>
    simp only [xCode, xExit] at hx ⊢
    split at hx
    · exact hr _ _ _ hx
    · exact hx
  | goto n =>
    simp only [xCode, xGoto] at hx ⊢
    split at hx
    · exact hr _ _ _ hx
    · cases hx
  | rangeFunc f ps a b => exact xRange_mono hr _ _ _ _ _ _ _ x hx
  | region id ops draw =>
    simp only [xCode, xRegion] at hx ⊢
    cases draw with
    | true =>
      simp only [cond_true] at hx ⊢
      cases hok : okD T ops with
      | false => rw [hok] at hx; cases hx
      | true => rw [hok] at hx; exact hr _ _ _ hx
    | false => exact hr _ _ _ hx
  | refuse why => cases hx
theorem xBody_mono (hr : RLe r r') (fr : AFr) (h : AH) : OLe (xBody P T r fr h) (xBody P T r' fr h) := fun x hx => by
  unfold xBody at hx ⊢
  split at hx
  · exact hx
  · rename_i it k hk
    unfold xItem at hx ⊢
    split at hx
    · exact xCode_mono hr _ _ _ _ x hx
    · exact hr _ _ _ hx
    · exact hr _ _ _ hx
    · exact hr _ _ _ hx
    · exact hr _ _ _ hx
    · exact xReg_mono hr _ _ _ _ _ _ x hx
    · split at hx
      · rename_i hh; rw [if_pos hh]; exact hr _ _ _ hx
      · cases hx
    · exact xRegD_mono hr _ _ _ _ _ _ _ x hx
    · exact xBegin_mono hr _ _ _ x hx
    · exact xEnd_mono hr _ _ _ _ x hx
theorem xStep_mono (hr : RLe r r') : RLe (xStep P T S r) (xStep P T S r') := fun t h x hx => by
  cases t with
  | call f args cm => exact xCall_mono hr _ _ _ _ x hx
  | body fr => exact xBody_mono hr _ _ x hx
  | unwind fr m => exact xUnwind_mono hr _ _ _ x hx
  | round l args => exact xRound_mono hr _ _ _ x hx
theorem ex_mono1 : ∀ n, RLe (ex P T S n) (ex P T S (n + 1))
  | 0 => fun t h x hx => by cases hx
  | n + 1 => fun t h x hx => xStep_mono (ex_mono1 n) t h x hx
theorem ex_mono {n m : Nat} (hnm : n ≤ m) : RLe (ex P T S n) (ex P T S m) := by
  induction hnm with
  | refl => exact fun _ _ _ h => h
  | step _ ih => exact fun t h x hx => ex_mono1 _ t h x (ih t h x hx)
/-- A task comes to something of which Q holds. -/
def W (P : Program) (T : TT) (S : Sums) (t : Task) (h : AH) (Q : Out → AH → Prop) : Prop := ∃ n o h', ex P T S n t h = some (o, h') ∧ Q o h'
theorem W.mono {t : Task} {h : AH} {Q Q' : Out → AH → Prop} (hw : W P T S t h Q) (hq : ∀ o h', Q o h' → Q' o h') : W P T S t h Q' := by
  obtain ⟨n, o, h', h1, h2⟩ := hw
  exact ⟨n, o, h', h1, hq _ _ h2⟩
theorem W_eq {t t' : Task} {h h' : AH} {Q : Out → AH → Prop} (e : ∀ rec : Rec, xStep P T S rec t h = rec t' h') : W P T S t h Q = W P T S t' h' Q := by
  apply propext
  constructor
  · rintro ⟨n, o, h2, h3, h4⟩
    refine ⟨n, o, h2, ?_, h4⟩
    have h5 : ex P T S (n + 1) t h = some (o, h2) := ex_mono1 n _ _ _ h3
    rw [← h5]
    exact (e (ex P T S n)).symm
  · rintro ⟨n, o, h2, h3, h4⟩
    exact ⟨n + 1, o, h2, (e (ex P T S n)).trans h3, h4⟩
theorem W_end {t : Task} {h h' : AH} {o : Out} {Q : Out → AH → Prop} (e : ∀ rec : Rec, xStep P T S rec t h = some (o, h')) : W P T S t h Q = Q o h' := by
  apply propext
  constructor
  · rintro ⟨n, o2, h2, h3, h4⟩
    have h5 : ex P T S (n + 1) t h = some (o2, h2) := ex_mono1 n _ _ _ h3
    have h6 : ex P T S (n + 1) t h = some (o, h') := e (ex P T S n)
    rw [h5] at h6
    simp only [Option.some.injEq, Prod.mk.injEq] at h6
    rw [← h6.1, ← h6.2]
    exact h4
  · exact fun hq => ⟨1, o, h', e (ex P T S 0), hq⟩
/-- What stays of a frame while its body runs. -/
structure FE where
  fn : FuncId
  defers : List ADI := []
  cm : Option Mode := none
  ro : Option Nat := none
def FE.fr (E : FE) (t : TM) (k : List AI) : AFr := { fn := E.fn, tmps := t, todo := k, defers := E.defers, cm := E.cm, roundOf := E.ro }
abbrev KK := Option Code → TM → AH → Prop
/-- The blocks for deferred calls that ranges over functions have laid are taken up. -/
inductive Coll (ok : Prop) : List ADI → List ADI → AH → AH → Prop
  | refl (ds : List ADI) (h : AH) : Coll ok ds ds h h
  | cons {b : Nat} {ds ds0 : List ADI} {h h' : AH} : ok → h.at b = some .defd → Coll ok ds ds0 (h.put b .gone) h' → Coll ok (.coll b :: ds) ds0 h h'
theorem Coll.len {ok : Prop} {ds ds0 : List ADI} {h h' : AH} (c : Coll ok ds ds0 h h') : ds0.length ≤ ds.length := by
  induction c with
  | refl => exact Nat.le_refl _
  | cons _ _ _ ih => simp only [List.length_cons]; omega
theorem Coll.same {ok : Prop} {ds : List ADI} {h h' : AH} (c : Coll ok ds ds h h') : h' = h := by
  cases c with
  | refl => rfl
  | cons _ _ c => have := c.len; simp only [List.length_cons] at this; omega
theorem Coll.snoc {ok : Prop} {ds ds0 ds1 : List ADI} {b : Nat} {h h' : AH} (c : Coll ok ds ds1 h h') (e : ds1 = .coll b :: ds0) (hok : ok) (hb : h'.at b = some .defd) : Coll ok ds ds0 h (h'.put b .gone) := by
  induction c with
  | refl => subst e; exact .cons hok hb (.refl _ _)
  | cons h1 h2 _ ih => exact .cons h1 h2 (ih e hb)
/-- A frame's body runs to its end; K is told the jump, the temporaries and the heap (behind the taking up of what ranges over functions deferred). -/
def WB (P : Program) (T : TT) (S : Sums) (E : FE) (t : TM) (k : List AI) (h : AH) (K : KK) : Prop :=
  W P T S (.body (E.fr t k)) h fun o h' => ∃ j t' k' ds h'', o = .left j (({ E with defers := ds } : FE).fr t' k') ∧ Coll (E.ro = none) ds E.defers h' h'' ∧ K j t' h''
/-- A call comes back. -/
def WC (P : Program) (T : TT) (S : Sums) (f : FuncId) (args : List AV) (h : AH) (Q : AV → AH → Prop) : Prop :=
  W P T S (.call f args none) h fun o h' => ∃ v cm, o = .ended (.ret v) cm ∧ Q v h'
theorem WC.mono {f : FuncId} {args : List AV} {h : AH} {Q Q' : AV → AH → Prop} (hw : WC P T S f args h Q) (hq : ∀ v h', Q v h' → Q' v h') : WC P T S f args h Q' :=
  W.mono hw fun o h' ⟨v, cm, e, hv⟩ => ⟨v, cm, e, hq v h' hv⟩
theorem WB.mono {E : FE} {t : TM} {k : List AI} {h : AH} {K K' : KK} (hw : WB P T S E t k h K) (hq : ∀ j t' h', K j t' h' → K' j t' h') : WB P T S E t k h K' :=
  W.mono hw fun o h' ⟨j, t', k', ds, h'', e, hc, hv⟩ => ⟨j, t', k', ds, h'', e, hc, hq j t' h'' hv⟩
variable {E : FE} {t : TM} {k : List AI} {h : AH} {K : KK}
theorem WB_eq {t' : TM} {k' : List AI} {h' : AH} (e : ∀ rec : Rec, xBody P T rec (E.fr t k) h = rec (.body (E.fr t' k')) h') : WB P T S E t k h K = WB P T S E t' k' h' K := W_eq e
theorem FE.fr_inj {t' : TM} {k' : List AI} {ds : List ADI} (e : E.fr t k = ({ E with defers := ds } : FE).fr t' k') : t = t' ∧ k = k' ∧ E.defers = ds := by
  simp only [FE.fr, AFr.mk.injEq] at e
  exact ⟨e.2.1, e.2.2.1, e.2.2.2.1⟩
theorem WB_end {j : Option Code} (e : ∀ rec : Rec, xBody P T rec (E.fr t k) h = some (.left j (E.fr t k), h)) : WB P T S E t k h K = K j t h := by
  unfold WB
  rw [W_end (t := .body (E.fr t k)) (h' := h) (o := .left j (E.fr t k)) (fun rec => e rec)]
  apply propext
  constructor
  · rintro ⟨j', t', k', ds, h'', e1, hc, hk⟩
    simp only [Out.left.injEq] at e1
    obtain ⟨rfl, e2⟩ := e1
    obtain ⟨rfl, _, rfl⟩ := FE.fr_inj e2
    rw [hc.same] at hk
    exact hk
  · exact fun hk => ⟨j, t, k, E.defers, h, rfl, .refl _ _, hk⟩
theorem WB_nil : WB P T S E t [] h K = K none t h := WB_end fun _ => rfl
theorem WB_ret : WB P T S E t (.code .ret :: k) h K = K (some .ret) t h := WB_end fun _ => rfl
theorem WB_skip : WB P T S E t (.code .skip :: k) h K = WB P T S E t k h K := WB_eq fun _ => rfl
theorem WB_label {n : Nat} : WB P T S E t (.code (.label n) :: k) h K = WB P T S E t k h K := WB_eq fun _ => rfl
theorem WB_seq {a b : Code} : WB P T S E t (.code (.seq a b) :: k) h K = WB P T S E t (.code a :: .code b :: k) h K := WB_eq fun _ => rfl
theorem WB_block {id : Nat} {c : Code} : WB P T S E t (.code (.block id c) :: k) h K = WB P T S E t (.code c :: .blk id :: k) h K := WB_eq fun _ => rfl
theorem WB_loop {c : Code} : WB P T S E t (.code (.loop c) :: k) h K = WB P T S E t (.lp c :: k) h K :=
  (WB_eq (k' := .code c :: .lp c :: k) fun _ => rfl).trans (WB_eq (k := .lp c :: k) fun _ => rfl).symm
theorem WB_lp {c : Code} : WB P T S E t (.lp c :: k) h K = WB P T S E t (.code c :: .lp c :: k) h K := WB_eq fun _ => rfl
theorem WB_scope {c : Code} : WB P T S E t (.code (.scope c) :: k) h K = WB P T S E t (.code c :: .sc c :: k) h K := WB_eq fun _ => rfl
theorem WB_blk {id : Nat} : WB P T S E t (.blk id :: k) h K = WB P T S E t k h K := WB_eq fun _ => rfl
theorem WB_sc {c : Code} : WB P T S E t (.sc c :: k) h K = WB P T S E t k h K := WB_eq fun _ => rfl
theorem WB_region {id : Nat} {ops : Array Oper} : WB P T S E t (.code (.region id ops false) :: k) h K = WB P T S E t (.reg ops (List.range ops.size) :: k) h K := WB_eq fun _ => rfl
theorem WB_reg_nil {ops : Array Oper} : WB P T S E t (.reg ops [] :: k) h K = WB P T S E t k h K := WB_eq fun _ => rfl
def WExit (P : Program) (T : TT) (S : Sums) (E : FE) (t : TM) (id : Nat) (h : AH) (K : KK) : Option (List AI) → Prop
  | some k' => WB P T S E t k' h K
  | none => K (some (.exit id)) t h
theorem WB_exit {id : Nat} : WB P T S E t (.code (.exit id) :: k) h K = WExit P T S E t id h K (exitA id k) := by
  cases hk : exitA id k with
  | some k' => exact WB_eq fun _ => by simp [xBody, FE.fr, xItem, xCode, xExit, hk, goOn]
  | none => exact WB_end fun _ => by simp [xBody, FE.fr, xItem, xCode, xExit, hk]
/-- A condition. -/
def WIf (A B : Prop) : Option AV → Prop
  | some (.lit (.bool b)) => (b = true → A) ∧ (b = false → B)
  | _ => False
theorem WB_cond {c : Operand} {a b : Code} (x : Bool) (hx : evalA t c = some (.lit (.bool x))) : WB P T S E t (.code (.cond c a b) :: k) h K = WB P T S E t (.code (bif x then a else b) :: k) h K :=
  WB_eq fun _ => by simp [xBody, FE.fr, xItem, xCode, xCond, hx, goOn]
theorem WB_cond_if {c : Operand} {a b : Code} (hw : WIf (WB P T S E t (.code a :: k) h K) (WB P T S E t (.code b :: k) h K) (evalA t c)) : WB P T S E t (.code (.cond c a b) :: k) h K := by
  unfold WIf at hw
  split at hw
  · rename_i x hx
    rw [WB_cond x hx]
    cases x
    · exact hw.2 rfl
    · exact hw.1 rfl
  · exact hw.elim
/-- What an operation's outcome leads to. -/
def WOp (P : Program) (T : TT) (S : Sums) (E : FE) (t : TM) (o : Oper) (k : List AI) (K : KK) : AR → Prop
  | some (.val v, h1) => WB P T S E (setTmp t o.dst v) k h1 K
  | some (.enter g a, h1) => WC P T S g a h1 fun v h2 => WB P T S E (setTmp t o.dst v) k h2 K
  | some (.round l a, h1) => W P T S (.round l a) h1 fun x h2 => ∃ v cm, x = .ended (.ret v) cm ∧ WB P T S E (setTmp t o.dst v) k h2 K
  | _ => False
theorem WB_called {o : Oper} {it : AI} {k0 : List AI} {h1 : AH} {tk : Task} (e : ∀ rec : Rec, xBody P T rec (E.fr t k) h = xCalled rec (E.fr t k) o it k0 (rec tk h1))
    (hw : W P T S tk h1 fun x h2 => ∃ v cm, x = .ended (.ret v) cm ∧ WB P T S E (setTmp t o.dst v) (it :: k0) h2 K) : WB P T S E t k h K := by
  obtain ⟨n, x, h2, h3, v, cm, rfl, m, x2, h4, h5, h6⟩ := hw
  refine ⟨max n m + 1, x2, h4, ?_, h6⟩
  show xBody P T (ex P T S (max n m)) (E.fr t k) h = _
  rw [e, ex_mono (Nat.le_max_left n m) _ _ _ h3]
  exact ex_mono (Nat.le_max_right n m) _ _ _ h5
theorem WB_called_eq {o : Oper} {it : AI} {k0 : List AI} {h1 : AH} {tk : Task} (e : ∀ rec : Rec, xBody P T rec (E.fr t k) h = xCalled rec (E.fr t k) o it k0 (rec tk h1)) :
    WB P T S E t k h K = W P T S tk h1 fun x h2 => ∃ v cm, x = .ended (.ret v) cm ∧ WB P T S E (setTmp t o.dst v) (it :: k0) h2 K := by
  apply propext
  refine ⟨fun hw => ?_, WB_called e⟩
  obtain ⟨n, x, h2, h3, j, t', k', ds, h'', rfl, h4⟩ := hw
  cases n with
  | zero => cases h3
  | succ n =>
    have h5 : xCalled (ex P T S n) (E.fr t k) o it k0 (ex P T S n tk h1) = some (.left j (({ E with defers := ds } : FE).fr t' k'), h2) := by rw [← e]; exact h3
    cases hx : ex P T S n tk h1 with
    | none => rw [hx] at h5; cases h5
    | some p =>
      rw [hx] at h5
      obtain ⟨x, hh⟩ := p
      cases x with
      | ended en cm =>
        cases en with
        | ret v => exact ⟨n, _, _, hx, v, cm, rfl, n, _, _, h5, j, t', k', ds, h'', rfl, h4⟩
        | pan c => simp [xCalled] at h5
      | left a b => simp [xCalled] at h5
      | raised a b => simp [xCalled] at h5
theorem WB_none (e : ∀ rec : Rec, xBody P T rec (E.fr t k) h = none) : WB P T S E t k h K = False := by
  apply propext
  refine ⟨fun hw => ?_, False.elim⟩
  obtain ⟨n, x, h2, h3, _⟩ := hw
  cases n with
  | zero => cases h3
  | succ n =>
    have : xBody P T (ex P T S n) (E.fr t k) h = some (x, h2) := h3
    rw [e] at this
    cases this
/-- What the next operation of a region leads to. -/
def WReg (P : Program) (T : TT) (S : Sums) (E : FE) (t : TM) (ops : Array Oper) (l : List Nat) (k : List AI) (h : AH) (K : KK) (o : Oper) : Option Bool → Prop
  | some true => WOp P T S E t o (.reg ops l :: k) K (aop P T o t h)
  | some false => WB P T S E (setTmp t o.dst aundef) (.reg ops l :: k) h K
  | none => False
theorem WB_reg_eq {ops : Array Oper} {i : Nat} {l : List Nat} (o : Oper) (ho : ops[i]? = some o) (hn : ∀ g a h1, aop P T o t h ≠ some (.defer g a, h1)) (hn2 : ∀ h1, aop P T o t h ≠ some (.recover, h1)) : WB P T S E t (.reg ops (i :: l) :: k) h K = WReg P T S E t ops l k h K o (wantedA ops t o) := by
  cases hg : wantedA ops t o with
  | none => exact WB_none fun rec => by simp [xBody, FE.fr, xItem, xReg, ho, hg]
  | some b =>
    cases b with
    | false => exact WB_eq fun rec => by simp [xBody, FE.fr, xItem, xReg, ho, hg]; rfl
    | true =>
      have e0 : ∀ rec : Rec, xBody P T rec (E.fr t (.reg ops (i :: l) :: k)) h = xOp rec (E.fr t (.reg ops (i :: l) :: k)) o (.reg ops l) k (aop P T o t h) := fun rec => by
        simp [xBody, FE.fr, xItem, xReg, ho, hg]
      show _ = WOp P T S E t o (.reg ops l :: k) K (aop P T o t h)
      cases ha : aop P T o t h with
      | none => rw [ha] at e0; exact WB_none e0
      | some p =>
        obtain ⟨an, h1⟩ := p
        rw [ha] at e0
        cases an with
        | val v => exact WB_eq e0
        | enter g a => exact WB_called_eq e0
        | round l a => exact WB_called_eq e0
        | defer g a => exact absurd ha (hn g a h1)
        | recover => exact absurd ha (hn2 h1)
        | pan v =>
          apply propext
          refine ⟨fun hw => ?_, False.elim⟩
          obtain ⟨n, x, h2, h3, j, t', k', ds, h'', rfl, h4⟩ := hw
          cases n with
          | zero => cases h3
          | succ n =>
            have h5 := e0 (ex P T S n)
            have h6 : xBody P T (ex P T S n) (E.fr t (.reg ops (i :: l) :: k)) h = some (.left j (({ E with defers := ds } : FE).fr t' k'), h2) := h3
            rw [h5] at h6
            simp [xOp] at h6
def plainO : Option Oper → Bool
  | some o => plainOp o.op
  | none => true
def WRegO (P : Program) (T : TT) (S : Sums) (E : FE) (t : TM) (ops : Array Oper) (l : List Nat) (k : List AI) (h : AH) (K : KK) : Option Oper → Prop
  | some o => WReg P T S E t ops l k h K o (wantedA ops t o)
  | none => False
theorem WB_reg_s {ops : Array Oper} {i : Nat} {l : List Nat} (hp : plainO (ops[i]?) = true) : WB P T S E t (.reg ops (i :: l) :: k) h K = WRegO P T S E t ops l k h K (ops[i]?) := by
  cases ho : ops[i]? with
  | none => exact WB_none fun rec => by simp [xBody, FE.fr, xItem, xReg, ho]
  | some o =>
    rw [ho] at hp
    have hpl := aop_plain (P := P) (T := T) (t := t) (h := h) (o := o) hp
    exact WB_reg_eq o ho (fun g a h1 e => by have := hpl _ _ e; cases this) (fun h1 e => by have := hpl _ _ e; cases this)
theorem WRegO_some {ops : Array Oper} {l : List Nat} {d : Option Tmp} {op : Op} {ty : TypeId} {ps : String} {af : Array Edge} : WRegO P T S E t ops l k h K (some ⟨d, op, ty, ps, af, none⟩) = WOp P T S E t ⟨d, op, ty, ps, af, none⟩ (.reg ops l :: k) K (aop P T ⟨d, op, ty, ps, af, none⟩ t h) := rfl
theorem WRegO_guard {ops : Array Oper} {l : List Nat} {d : Option Tmp} {op : Op} {ty : TypeId} {ps : String} {af : Array Edge} {g : Nat × Bool} : WRegO P T S E t ops l k h K (some ⟨d, op, ty, ps, af, some g⟩) = WReg P T S E t ops l k h K ⟨d, op, ty, ps, af, some g⟩ (wantedA ops t ⟨d, op, ty, ps, af, some g⟩) := rfl
theorem WReg_true {ops : Array Oper} {l : List Nat} {o : Oper} : WReg P T S E t ops l k h K o (some true) = WOp P T S E t o (.reg ops l :: k) K (aop P T o t h) := rfl
theorem WReg_false {ops : Array Oper} {l : List Nat} {o : Oper} : WReg P T S E t ops l k h K o (some false) = WB P T S E (setTmp t o.dst aundef) (.reg ops l :: k) h K := rfl
theorem WB_cond_s {c : Operand} {a b : Code} : WB P T S E t (.code (.cond c a b) :: k) h K = WIf (WB P T S E t (.code a :: k) h K) (WB P T S E t (.code b :: k) h K) (evalA t c) := by
  apply propext
  refine ⟨fun hw => ?_, WB_cond_if⟩
  unfold WIf
  split
  · rename_i x hx
    rw [WB_cond x hx] at hw
    cases x
    · exact ⟨fun e => (by cases e), fun _ => hw⟩
    · exact ⟨fun _ => hw, fun e => (by cases e)⟩
  · rename_i hx
    have : WB P T S E t (.code (.cond c a b) :: k) h K = False := WB_none fun rec => by
      simp only [xBody, FE.fr, xItem, xCode, xCond]
    exact this ▸ hw
/-! Regions that draw their order. -/
/-- The number that a region's order is. -/
structure MO (ops : Array Oper) where
  m : Nat
  ok : mat ops = m
def WDM (P : Program) (T : TT) (S : Sums) (E : FE) (t : TM) {ops : Array Oper} (M : MO ops) (l : List Nat) (rs : List (Nat × RD × AV)) (k : List AI) (h : AH) (K : KK) : Prop := WB P T S E t (.regD ops l rs :: k) h K
theorem WB_regionD {id : Nat} {ops : Array Oper} (l : List Nat) (m : Nat) (hk : (okD T ops && (orderD T ops == l) && Nat.beq (mat ops) m) = true) :
    WB P T S E t (.code (.region id ops true) :: k) h K = WDM P T S E t (⟨m, Nat.eq_of_beq_eq_true (by simp only [Bool.and_eq_true] at hk; exact hk.2)⟩ : MO ops) l [] k h K := by
  simp only [Bool.and_eq_true, beq_iff_eq] at hk
  unfold WDM
  rw [← hk.1.2]
  exact WB_eq fun rec => by simp [xBody, FE.fr, xItem, xCode, xRegion, hk.1.1, goOn]
theorem WDM_nil {ops : Array Oper} {M : MO ops} {rs : List (Nat × RD × AV)} : WDM P T S E t M [] rs k h K = (hold T h rs = true ∧ WB P T S E t k h K) := by
  unfold WDM
  cases hh : hold T h rs with
  | false => rw [WB_none fun rec => by simp [xBody, FE.fr, xItem, hh]]; simp
  | true => rw [WB_eq (t' := t) (k' := k) (h' := h) fun rec => by simp [xBody, FE.fr, xItem, hh, goOn]]; simp
/-- What an operation of such a region leads to. -/
def WOpD (P : Program) (T : TT) (S : Sums) (E : FE) (t : TM) {ops : Array Oper} (M : MO ops) (i : Nat) (o : Oper) (l : List Nat) (rs : List (Nat × RD × AV)) (k : List AI) (K : KK) : Kind → AR → Prop
  | .acts, some (.val v, h1) => WDM P T S E (setTmp t o.dst v) M l rs k h1 K
  | .acts, some (.enter g a, h1) => WC P T S g a h1 fun v h2 => WDM P T S E (setTmp t o.dst v) M l rs k h2 K
  | .acts, some (.round g a, h1) => W P T S (.round g a) h1 fun x h2 => ∃ v cm, x = .ended (.ret v) cm ∧ WDM P T S E (setTmp t o.dst v) M l rs k h2 K
  | .reads, some (.val v, h1) => match rdOf o t with
    | some rd => WDM P T S E (setTmp t o.dst v) M l ((i, rd, v) :: rs) k h1 K
    | none => (litOp P o t).isSome = true ∧ WDM P T S E (setTmp t o.dst v) M l rs k h1 K
  | .still, some (.val v, h1) => WDM P T S E (setTmp t o.dst v) M l rs k h1 K
  | .alloc, some (.val v, h1) => WDM P T S E (setTmp t o.dst v) M l rs k h1 K
  | _, _ => False
def WRegD (P : Program) (T : TT) (S : Sums) (E : FE) (t : TM) {ops : Array Oper} (M : MO ops) (i : Nat) (l : List Nat) (rs : List (Nat × RD × AV)) (k : List AI) (h : AH) (K : KK) (o : Oper) : Option Bool → Prop
  | some true => WOpD P T S E t M i o l rs k K (kindOf T o) (aop P T o t h)
  | some false => WDM P T S E (setTmp t o.dst aundef) M l rs k h K
  | none => False
def dropR (n m i : Nat) (rs : List (Nat × RD × AV)) : List (Nat × RD × AV) := rs.filter fun x => !waits n m i x.1
def WRegDO (P : Program) (T : TT) (S : Sums) (E : FE) (t : TM) {ops : Array Oper} (M : MO ops) (i : Nat) (l : List Nat) (rs : List (Nat × RD × AV)) (k : List AI) (h : AH) (K : KK) : Option Oper → Prop
  | some o => match kindOf T o with
    | .acts => hold T h rs = true ∧ WRegD P T S E t M i l (dropR ops.size M.m i rs) k h K o (wantedA ops t o)
    | _ => WRegD P T S E t M i l rs k h K o (wantedA ops t o)
  | none => False
theorem WD_called {o : Oper} {it : AI} {k0 : List AI} {h1 : AH} {tk : Task} (e : ∀ rec : Rec, xBody P T rec (E.fr t k) h = xCalledD rec (E.fr t k) o it k0 (rec tk h1))
    (hw : W P T S tk h1 fun x h2 => ∃ v cm, x = .ended (.ret v) cm ∧ WB P T S E (setTmp t o.dst v) (it :: k0) h2 K) : WB P T S E t k h K := by
  obtain ⟨n, x, h2, h3, v, cm, rfl, m, x2, h4, h5, h6⟩ := hw
  refine ⟨max n m + 1, x2, h4, ?_, h6⟩
  show xBody P T (ex P T S (max n m)) (E.fr t k) h = _
  rw [e, ex_mono (Nat.le_max_left n m) _ _ _ h3]
  exact ex_mono (Nat.le_max_right n m) _ _ _ h5
theorem WD_op {ops : Array Oper} {M : MO ops} {i : Nat} {l : List Nat} {rs rs0 : List (Nat × RD × AV)} {o : Oper} (e : ∀ rec : Rec, xBody P T rec (E.fr t (.regD ops (i :: l) rs0 :: k)) h = xRegD1 P T rec (E.fr t (.regD ops (i :: l) rs0 :: k)) ops i o l rs k h)
    (hw : WRegD P T S E t M i l rs k h K o (wantedA ops t o)) : WB P T S E t (.regD ops (i :: l) rs0 :: k) h K := by
  cases hg : wantedA ops t o with
  | none => rw [hg] at hw; exact hw.elim
  | some b =>
    rw [hg] at hw
    cases b with
    | false =>
      rw [WB_eq (t' := setTmp t o.dst aundef) (k' := .regD ops l rs :: k) (h' := h) fun rec => by rw [e]; simp [xRegD1, FE.fr, hg]; rfl]
      exact hw
    | true =>
      have e1 : ∀ rec : Rec, xBody P T rec (E.fr t (.regD ops (i :: l) rs0 :: k)) h = xOpD P T rec (E.fr t (.regD ops (i :: l) rs0 :: k)) ops i o l rs k (aop P T o t h) := fun rec => by rw [e]; simp [xRegD1, FE.fr, hg]
      have hw : WOpD P T S E t M i o l rs k K (kindOf T o) (aop P T o t h) := hw
      unfold WOpD at hw
      split at hw
      · rename_i v h1 hk ha
        rw [WB_eq (t' := setTmp t o.dst v) (k' := .regD ops l rs :: k) (h' := h1) fun rec => by rw [e1, ha]; simp only [xOpD, hk]; rfl]
        exact hw
      · rename_i g a h1 hk ha
        refine WD_called (o := o) (it := .regD ops l rs) (k0 := k) (h1 := h1) (tk := .call g a none) (fun rec => ?_) hw
        rw [e1, ha]
        simp only [xOpD, hk]
      · rename_i g a h1 hk ha
        refine WD_called (o := o) (it := .regD ops l rs) (k0 := k) (h1 := h1) (tk := .round g a) (fun rec => ?_) hw
        rw [e1, ha]
        simp only [xOpD, hk]
      · rename_i v h1 hk ha
        split at hw
        · rename_i rd hrd
          rw [WB_eq (t' := setTmp t o.dst v) (k' := .regD ops l ((i, rd, v) :: rs) :: k) (h' := h1) fun rec => by
            rw [e1, ha]
            simp only [xOpD, hk]
            show (match rdOf o t with | some rd => _ | none => _) = _
            rw [hrd]; rfl]
          exact hw
        · rename_i hrd
          rw [WB_eq (t' := setTmp t o.dst v) (k' := .regD ops l rs :: k) (h' := h1) fun rec => by
            rw [e1, ha]
            simp only [xOpD, hk]
            show (match rdOf o t with | some rd => _ | none => (bif (litOp P o t).isSome then _ else _)) = _
            rw [hrd]
            simp only [hw.1, cond_true]
            rfl]
          exact hw.2
      · rename_i v h1 hk ha
        rw [WB_eq (t' := setTmp t o.dst v) (k' := .regD ops l rs :: k) (h' := h1) fun rec => by rw [e1, ha]; simp only [xOpD, hk]; rfl]
        exact hw
      · rename_i v h1 hk ha
        rw [WB_eq (t' := setTmp t o.dst v) (k' := .regD ops l rs :: k) (h' := h1) fun rec => by rw [e1, ha]; simp only [xOpD, hk]; rfl]
        exact hw
      · exact hw.elim
theorem WDM_cons {ops : Array Oper} {M : MO ops} {i : Nat} {l : List Nat} {rs : List (Nat × RD × AV)} (hw : WRegDO P T S E t M i l rs k h K (ops[i]?)) : WDM P T S E t M (i :: l) rs k h K := by
  unfold WDM
  cases ho : ops[i]? with
  | none => rw [ho] at hw; exact hw.elim
  | some o =>
    rw [ho] at hw
    have hw : (match kindOf T o with
      | .acts => hold T h rs = true ∧ WRegD P T S E t M i l (dropR ops.size M.m i rs) k h K o (wantedA ops t o)
      | _ => WRegD P T S E t M i l rs k h K o (wantedA ops t o)) := hw
    have hact : isAct T ops i = (match kindOf T o with | .acts => true | _ => false) := by simp only [isAct, ho]; rfl
    split at hw
    · rename_i hk
      refine WD_op (M := M) (rs := dropR ops.size M.m i rs) (o := o) (fun rec => ?_) hw.2
      rw [hk] at hact
      simp only [xBody, FE.fr, xItem, xRegD, ho, hact, hw.1, if_true]
      rw [M.ok]
      rfl
    · rename_i hk
      refine WD_op (M := M) (rs := rs) (o := o) (fun rec => ?_) hw
      have : isAct T ops i = false := by
        rw [hact]
        split
        · rename_i h2; exact absurd h2 hk
        · rfl
      simp [xBody, FE.fr, xItem, xRegD, ho, this]
/-- What was deferred is taken up, and the results are told. -/
theorem unwind_coll {f : FuncId} {fn : Func} (hf : P.funcs[f]? = some fn) {ok : Prop} {ds ds0 : List ADI} {h1 h2 : AH} (c : Coll ok ds ds0 h1 h2) (h0 : ds0 = []) {t' : TM} {k' : List AI} {l : List AV} (hl : resultsA T h2 t' fn.results.toList = some l) :
    ∃ n, ex P T S n (.unwind (FE.fr { fn := f, defers := ds } t' k') .ret) h1 = some (.ended (.ret (oneOf l)) none, h2) := by
  induction c with
  | refl ds h =>
    subst h0
    refine ⟨1, ?_⟩
    show xUnwind P T (ex P T S 0) (FE.fr { fn := f } t' k') .ret _ = _
    simp only [xUnwind, FE.fr, xResults, hf, hl, Option.map_some]
  | @cons b ds ds0 h h' h1 h2 c ih =>
    obtain ⟨n, hn⟩ := ih h0 hl
    refine ⟨n + 1, ?_⟩
    rw [← hn]
    show xUnwind P T (ex P T S n) (FE.fr { fn := f, defers := .coll b :: ds } t' k') .ret h = _
    simp only [xUnwind, FE.fr, h2]
/-- A function is called. -/
theorem WC_fn {f : FuncId} {args : List AV} {fn : Func} {c : Code} {Q : AV → AH → Prop} (hf : P.funcs[f]? = some fn) (hb : fn.body = some c) (hS : S f = none)
    (hw : WB P T S { fn := f } (TM.ofL args (fn.ntmps - args.length)) [.code c] h fun j t h1 => (j = none ∨ j = some .ret) ∧ ∃ l, resultsA T h1 t fn.results.toList = some l ∧ Q (oneOf l) h1) : WC P T S f args h Q := by
  obtain ⟨n, o, h1, h2, j, t', k', ds, h'', rfl, hcl, hj, l, hl, hq⟩ := hw
  obtain ⟨m, hm⟩ := unwind_coll (S := S) hf hcl rfl (k' := k') hl
  refine ⟨max n m + 1, .ended (.ret (oneOf l)) none, h'', ?_, oneOf l, none, rfl, hq⟩
  show xCall P S (ex P T S (max n m)) f args none h = _
  unfold xCall
  rw [hf]
  simp only [hb, hS]
  have e1 : ex P T S (max n m) (.body { fn := f, tmps := TM.ofL args (fn.ntmps - args.length), todo := [.code c], defers := [], cm := none, roundOf := none }) h = some (.left j (FE.fr { fn := f, defers := ds } t' k'), h1) := ex_mono (Nat.le_max_left n m) _ _ _ h2
  rw [e1]
  have e2 := ex_mono (Nat.le_max_right n m) _ _ _ hm
  rcases hj with rfl | rfl
  · exact e2
  · exact e2
theorem WB_ind {ι : Type} (Inv : ι → TM → AH → Prop) (ms : ι → Nat) {c : Code}
    (body : ∀ i t h, Inv i t h → (∀ j t' h', Inv j t' h' → ms j < ms i → WB P T S E t' (.lp c :: k) h' K) → WB P T S E t (.code c :: .lp c :: k) h K) :
    ∀ i t h, Inv i t h → WB P T S E t (.lp c :: k) h K := by
  have key : ∀ n i t h, ms i = n → Inv i t h → WB P T S E t (.lp c :: k) h K := fun n => by
    induction n using Nat.strongRecOn with
    | _ n ih =>
      intro i t h hn hi
      rw [WB_lp]
      exact body i t h hi fun j t' h' hj hlt => ih (ms j) (by omega) j t' h' rfl hj
  exact fun i t h hi => key _ i t h rfl hi
end
end Go.Proofs.YtpfibijbieblnaaGreatDoor.Ex
end

section

set_option linter.unusedSimpArgs false
set_option linter.unusedVariables false
namespace Go.Proofs.YtpfibijbieblnaaGreatDoor.Ex
open Go
section
variable {P : Program} {T : TT} {S : Sums} {t : TM} {h : AH} {d : Option Tmp} {ty : TypeId} {ps : String} {af : Array Edge} {g : Option (Nat × Bool)}
/-! What the rules ask of a type. -/
def bytesT (T : TT) (t : TypeId) : Option Nat := (T t).map (·.bytes)
/-- A field's place, its size, and whether it has parts. -/
def fieldOff (T : TT) (t : TypeId) (i : Nat) : Option (Nat × Nat × Bool) := match und T t with
  | some (.struct fs) => match fs[i]? with
    | some f => match sizeT T f.type, isAggT T f.type with
      | some z, some a => some (f.offset, z, a)
      | _, _ => none
    | none => none
  | _ => none
/-! Temporaries. -/
def TM.get (t : TM) (i : Nat) : AV := (t.at i).getD aundef
theorem get_set_same {i : Nat} {v : AV} (hi : i < t.n) : (t.set i v).get i = v := by
  unfold TM.get
  rw [← TL_at, TL_set, List.getElem?_set_self (by rw [TL_n]; exact hi)]
  rfl
theorem get_set_ne {i j : Nat} {v : AV} (hi : i ≠ j) : (t.set i v).get j = t.get j := by
  unfold TM.get
  rw [← TL_at, TL_set, List.getElem?_set_ne hi, TL_at]
theorem n_set {i : Nat} {v : AV} : (t.set i v).n = t.n := Tn_set t i v
theorem n_ofL {l : List AV} {m : Nat} : (TM.ofL l m).n = l.length + m := by rw [← TL_n, ofL_L]; simp
theorem ev_tmp {i : Nat} : evalA t (.tmp i) = some (t.get i) := rfl
theorem ev_int {k : IntKind} {n : Int} : evalA t (.const (.int k n)) = some (.lit (.int k n)) := rfl
theorem ev_bool {b : Bool} : evalA t (.const (.bool b)) = some (.lit (.bool b)) := rfl
theorem ev_str {s : ByteArray} : evalA t (.const (.string s)) = some (.lit (.string s)) := rfl
theorem ev_nilp : evalA t (.const (.pointer none)) = some (.lit (.pointer none)) := rfl
theorem ev_nils : evalA t (.const (.slice none 0 0)) = some (.lit (.slice none 0 0)) := rfl
theorem ev_nilm : evalA t (.const (.map none)) = some (.lit (.map none)) := rfl
theorem ev_nilf : evalA t (.const .nilFunc) = some (.lit .nilFunc) := rfl
theorem ev_nili : evalA t (.const .nilIface) = some (.lit .nilIface) := rfl
theorem ev_func {f : FuncId} : evalA t (.func f) = some (.fn (.func f) [] []) := rfl
theorem setTmp_some {i : Nat} {v : AV} : setTmp t (some i) v = t.set i v := rfl
theorem setTmp_none {v : AV} : setTmp t none v = t := rfl
/-! Operations. -/
theorem a_move {x : Operand} : aop P T ⟨d, .move x, ty, ps, af, g⟩ t h = val h (evalA t x) := rfl
theorem a_assign {x : Operand} : aop P T ⟨d, .assign x, ty, ps, af, g⟩ t h = val h (evalA t x) := rfl
theorem a_load {e : TypeId} {x : Operand} : aop P T ⟨d, .load e x, ty, ps, af, g⟩ t h = aLoad T t h e x := rfl
theorem a_store {e : TypeId} {x y : Operand} : aop P T ⟨d, .store e x y, ty, ps, af, g⟩ t h = aStore T t h e x y := rfl
theorem a_alloc {e : TypeId} : aop P T ⟨d, .alloc e, ty, ps, af, g⟩ t h = aAlloc T h e := rfl
theorem a_box {e : TypeId} {x : Operand} : aop P T ⟨d, .box e x, ty, ps, af, g⟩ t h = aBox t h e x := rfl
theorem a_build {e : TypeId} {p : Array (Nat × Operand)} : aop P T ⟨d, .build e p, ty, ps, af, g⟩ t h = aBuild T t h e p := rfl
theorem a_fieldAddr {e : TypeId} {x : Operand} {i : Nat} : aop P T ⟨d, .fieldAddr e x i, ty, ps, af, g⟩ t h = aFieldAddr T t h e x i := rfl
theorem a_field {e : TypeId} {x : Operand} {i : Nat} : aop P T ⟨d, .field e x i, ty, ps, af, g⟩ t h = aField T t h e x i := rfl
theorem a_indexAddr {e : TypeId} {x y : Operand} : aop P T ⟨d, .indexAddr e x y, ty, ps, af, g⟩ t h = aIndexAddr T t h e x y := rfl
theorem a_bin {op : BinOp} {e f : TypeId} {x y : Operand} : aop P T ⟨d, .binOp op e x y f, ty, ps, af, g⟩ t h = aBin P T ⟨d, .binOp op e x y f, ty, ps, af, g⟩ t h op e x y := rfl
theorem a_un {op : UnOp} {e : TypeId} {x : Operand} : aop P T ⟨d, .unOp op e x, ty, ps, af, g⟩ t h = aUn P t h op x := rfl
theorem a_call {c : Call} : aop P T ⟨d, .call c, ty, ps, af, g⟩ t h = aCall P T ⟨d, .call c, ty, ps, af, g⟩ t h c := rfl
theorem a_pick {c x y : Operand} : aop P T ⟨d, .pick c x y, ty, ps, af, g⟩ t h = aPick t h c x y := rfl
theorem val_ok {v : AV} : val h (some v) = some (.val v, h) := rfl
theorem bin_ints {o : Oper} {op : BinOp} {e : TypeId} {x y : Operand} {k k' : IntKind} {a b : Int} (hx : evalA t x = some (.lit (.int k a))) (hy : evalA t y = some (.lit (.int k' b))) :
    aBin P T o t h op e x y = ofPV h (pur P (binOp op e (.int k a) (.int k' b))) := by
  unfold aBin
  rw [hx, hy]
variable {k : IntKind} {a b : Int} {e : TypeId}
theorem pb_lss : pur P (binOp .lss e (.int k a) (.int k b)) = some (.ok (.bool (decide (a < b)))) := by simp [binOp, Op.intCmp]; rfl
theorem pb_leq : pur P (binOp .leq e (.int k a) (.int k b)) = some (.ok (.bool (decide (a ≤ b)))) := by simp [binOp, Op.intCmp]; rfl
theorem pb_gtr : pur P (binOp .gtr e (.int k a) (.int k b)) = some (.ok (.bool (decide (b < a)))) := by simp [binOp, Op.intCmp]; rfl
theorem pb_geq : pur P (binOp .geq e (.int k a) (.int k b)) = some (.ok (.bool (decide (b ≤ a)))) := by simp [binOp, Op.intCmp]; rfl
theorem pb_eql : pur P (binOp .eql e (.int k a) (.int k b)) = some (.ok (.bool (a == b))) := by simp [binOp, Op.intCmp]; rfl
theorem pb_neq : pur P (binOp .neq e (.int k a) (.int k b)) = some (.ok (.bool (a != b))) := by simp [binOp, Op.intCmp]; rfl
theorem pb_add : pur P (binOp .add e (.int k a) (.int k b)) = some (.ok (.int k (k.wrap (a + b)))) := by simp [binOp, Op.intArith]; rfl
theorem pb_sub : pur P (binOp .sub e (.int k a) (.int k b)) = some (.ok (.int k (k.wrap (a - b)))) := by simp [binOp, Op.intArith]; rfl
theorem pb_mul : pur P (binOp .mul e (.int k a) (.int k b)) = some (.ok (.int k (k.wrap (a * b)))) := by simp [binOp, Op.intArith]; rfl
theorem ofPV_int {n : Int} : ofPV h (some (.ok (.int k n))) = some (.val (.lit (.int k n)), h) := rfl
theorem ofPV_bool {x : Bool} : ofPV h (some (.ok (.bool x))) = some (.val (.lit (.bool x)), h) := rfl
theorem WOp_val {E : FE} {o : Oper} {l : List AI} {K : KK} {v : AV} {h1 : AH} : WOp P T S E t o l K (some (.val v, h1)) = WB P T S E (setTmp t o.dst v) l h1 K := rfl
/-- What stands behind a call. -/
def KC (P : Program) (T : TT) (S : Sums) (E : FE) (t : TM) (d : Option Tmp) (l : List AI) (K : KK) : AV → AH → Prop := fun v h2 => WB P T S E (setTmp t d v) l h2 K
theorem KC_eq {E : FE} {l : List AI} {K : KK} {v : AV} {h2 : AH} : KC P T S E t d l K v h2 = WB P T S E (setTmp t d v) l h2 K := rfl
theorem WOp_enter {E : FE} {o : Oper} {l : List AI} {K : KK} {f : FuncId} {xs : List AV} {h1 : AH} : WOp P T S E t o l K (some (.enter f xs, h1)) = WC P T S f xs h1 (KC P T S E t o.dst l K) := rfl
theorem get_ofL' {l : List AV} {m i : Nat} : (TM.ofL l m).get i = l.getD i aundef := by
  unfold TM.get
  rw [← TL_at, ofL_L]
  by_cases hi : i < l.length
  · rw [List.getElem?_append_left hi, List.getD_eq_getElem?_getD]
  · rw [List.getElem?_append_right (by omega), List.getElem?_replicate, List.getD_eq_getElem?_getD, List.getElem?_eq_none (by omega)]
    split <;> rfl
theorem natA_int {k : IntKind} {n : Int} : natA (.lit (.int k n)) = if 0 ≤ n then some n.toNat else none := rfl
theorem rng0 (n : Nat) : List.range n = List.range' 0 n := List.range_eq_range'
theorem WIf_some {A B : Prop} {b : Bool} : WIf A B (some (.lit (.bool b))) = ((b = true → A) ∧ (b = false → B)) := rfl
theorem exA_blk {id id' : Nat} {k : List AI} : exitA id (.blk id' :: k) = if id' = id then some k else exitA id k := rfl
theorem exA_code {id : Nat} {c : Code} {k : List AI} : exitA id (.code c :: k) = exitA id k := rfl
theorem exA_lp {id : Nat} {c : Code} {k : List AI} : exitA id (.lp c :: k) = exitA id k := rfl
theorem exA_sc {id : Nat} {c : Code} {k : List AI} : exitA id (.sc c :: k) = exitA id k := rfl
theorem WExit_some {E : FE} {id : Nat} {K : KK} {k : List AI} : WExit P T S E t id h K (some k) = WB P T S E t k h K := rfl
/-- The same, of operands that are not known yet. -/
def aBinR (P : Program) (T : TT) (o : Oper) (t : TM) (h : AH) (op : BinOp) (e : TypeId) (x y : Operand) : AR := aBin P T o t h op e x y
theorem res_nil : resultsA T h t [] = some [] := rfl
theorem res_tmp {i : Nat} {r : List ResultVar} : resultsA T h t (.tmp i :: r) = (resultsA T h t r).map (t.get i :: ·) := rfl
theorem a_extract {x : Operand} {i : Nat} : aop P T ⟨d, .extract x i, ty, ps, af, g⟩ t h = aExtract t h x i := rfl
theorem ats_same {i : Nat} {v : AV} (hi : i < t.n) : (t.set i v).at i = some v := by rw [← TL_at, TL_set, List.getElem?_set_self (by rw [TL_n]; exact hi)]
theorem ats_ne {i j : Nat} {v : AV} (hi : i ≠ j) : (t.set i v).at j = t.at j := by rw [← TL_at, TL_set, List.getElem?_set_ne hi, TL_at]
theorem b_tt : (true == true) = true := rfl
theorem b_ft : (false == true) = false := rfl
theorem b_tf : (true == false) = false := rfl
theorem b_ff : (false == false) = true := rfl
/-! Values of one cell. -/
theorem one_lit {v : Value} : (AV.lit v).one = true := rfl
theorem one_ptr {b off : Nat} : (AV.ptr b off).one = true := rfl
theorem one_sl {b off n : Nat} {c : Cap} : (AV.sl b off n c).one = true := rfl
theorem one_mp {b : Nat} : (AV.mp b).one = true := rfl
theorem one_fn {f : Fn} {a b : List AV} : (AV.fn f a b).one = true := rfl
theorem one_ifc {t : TypeId} {a : AV} : (AV.ifc t a).one = true := rfl
theorem one_any : AV.any.one = true := rfl
theorem cells_lit {v : Value} : (AV.lit v).cells = [.lit v] := rfl
theorem cells_sl {b off n : Nat} {c : Cap} : (AV.sl b off n c).cells = [.sl b off n c] := rfl
theorem cells_ptr {b off : Nat} : (AV.ptr b off).cells = [.ptr b off] := rfl
theorem cells_agg {l : List AV} : (AV.agg l).cells = l := rfl
theorem cells_one {v : AV} (hv : v.one = true) : v.cells = [v] := by cases v <;> first | rfl | cases hv
/-! Blocks. -/
/-- (Not by rfl: a rule by rfl cannot serve in a side condition.) -/
theorem n_push2 (x : AB) : (h.push x).n = h.n + 1 := by rw [n_push]
theorem at_new {b : Nat} {x : AB} (hb : b = h.n) : (h.push x).at b = some x := by subst hb; exact at_push_n h x
theorem at_old {b : Nat} {x : AB} (hb : b < h.n) : (h.push x).at b = h.at b := at_push_lt x hb
theorem at_put {b : Nat} {x : AB} (hb : b < h.n) : (h.put b x).at b = some x := at_put_same x hb
theorem at_else {b c : Nat} {x : AB} (hb : c ≠ b) : (h.put c x).at b = h.at b := at_put_ne x hb
def ldL (T : TT) (t : TypeId) (l : List AV) (off : Nat) : Option AV := match isAggT T t, sizeT T t with
  | some true, some n => (cut l off n).map .agg
  | some false, some _ => l[off]?
  | _, _ => none
theorem ld_own {b off : Nat} {l : List AV} {e' : TypeId} (hb : h.at b = some (.cells l e')) : loadA T h e b off = ldL T e l off := by
  simp only [loadA, getR, hb, ldL]
  cases isAggT T e with
  | none => rfl
  | some a => cases a <;> cases sizeT T e <;> rfl
theorem ld_new {b off : Nat} {l : List AV} {e' : TypeId} (hb : b = h.n) : loadA T (h.push (.cells l e')) e b off = ldL T e l off := ld_own (at_new hb)
theorem ld_old {b off : Nat} {x : AB} (hb : b < h.n) : loadA T (h.push x) e b off = loadA T h e b off := by simp only [loadA, getR, at_old hb]
theorem ld_put {b off : Nat} {l : List AV} {e' : TypeId} (hb : b < h.n) : loadA T (h.put b (.cells l e')) e b off = ldL T e l off := ld_own (at_put hb)
theorem ld_else {b c off : Nat} {x : AB} (hb : c ≠ b) : loadA T (h.put c x) e b off = loadA T h e b off := by simp only [loadA, getR, at_else hb]
def stL (T : TT) (h : AH) (t : TypeId) (b off : Nat) (v : AV) : Option AB → Option AH
  | some (.cells l e) => match sizeT T t with
    | some n => if v.cells.length = n && v.cells.all AV.one then (put l off v.cells).map fun l' => h.put b (.cells l' e) else none
    | none => none
  | _ => none
theorem st_eq {b off : Nat} {v : AV} : storeA T h e b off v = stL T h e b off v (h.at b) := by
  unfold storeA stL getB
  cases h.at b with
  | none => rfl
  | some ab => cases ab <;> first | rfl | (cases sizeT T e <;> rfl)
/-- A slice held against nil. -/
def aBinS (P : Program) (T : TT) (o : Oper) (t : TM) (h : AH) (op : BinOp) (e : TypeId) (x y : Operand) : AR := aBin P T o t h op e x y
def slNil (h : AH) (b : Bool) (r : AR) : Option TypeDesc → AV → AR
  | some (.slice _), .sl _ _ _ _ => some (.val (.lit (.bool b)), h)
  | _, _ => r
theorem binR_nil_eql {f : TypeId} {i : Nat} :
    aBinR P T ⟨d, .binOp .eql e (.tmp i) (.const (.slice none 0 0)) f, ty, ps, af, g⟩ t h .eql e (.tmp i) (.const (.slice none 0 0)) =
      slNil h false (aBinS P T ⟨d, .binOp .eql e (.tmp i) (.const (.slice none 0 0)) f, ty, ps, af, g⟩ t h .eql e (.tmp i) (.const (.slice none 0 0))) (und T e) (t.get i) := by
  unfold slNil
  split
  · rename_i e' b off len cap hu hv
    unfold aBinR aBin
    rw [show evalA t (.tmp i) = some (.sl b off len cap) by rw [ev_tmp, hv], ev_nils]
    simp only [orLit, litOp, notSelect, Op.operands, litAll, ev_tmp, hv, toVal, Option.isSome_none, Bool.false_and, Bool.and_false, Bool.true_and, aSame, hu, ev_nils, sameA]
    rfl
  · rfl
theorem binR_nil_neq {f : TypeId} {i : Nat} :
    aBinR P T ⟨d, .binOp .neq e (.tmp i) (.const (.slice none 0 0)) f, ty, ps, af, g⟩ t h .neq e (.tmp i) (.const (.slice none 0 0)) =
      slNil h true (aBinS P T ⟨d, .binOp .neq e (.tmp i) (.const (.slice none 0 0)) f, ty, ps, af, g⟩ t h .neq e (.tmp i) (.const (.slice none 0 0))) (und T e) (t.get i) := by
  unfold slNil
  split
  · rename_i e' b off len cap hu hv
    unfold aBinR aBin
    rw [show evalA t (.tmp i) = some (.sl b off len cap) by rw [ev_tmp, hv], ev_nils]
    simp only [orLit, litOp, notSelect, Op.operands, litAll, ev_tmp, hv, toVal, Option.isSome_none, Bool.false_and, Bool.and_false, Bool.true_and, aSame, hu, ev_nils, sameA]
    rfl
  · rfl
theorem a_buildSlice {n : Nat} {p : Array (Nat × Operand)} : aop P T ⟨d, .buildSlice e n p, ty, ps, af, g⟩ t h = aBuildSlice T t h e n p := rfl
def bsM (T : TT) (h : AH) (n : Nat) (ps : Option (List (Nat × AV))) : Option TypeDesc → AR
  | some (.slice e) => match zeroT T e, sizeT T e, ps with
    | some zv, some z, some ps => if zv.cells.length = z && n ≤ 65536 && n * z ≤ 65536 then (fillA (fun k => some (k * z, z)) (rep zv.cells n) ps).map fun l => (.val (.sl h.n 0 n (.kn n)), h.push (.cells l e)) else none
    | _, _, _ => none
  | _ => none
theorem bs_eq {n : Nat} {p : Array (Nat × Operand)} : aBuildSlice T t h e n p = bsM T h n (evalParts t p.toList) (und T e) := by
  unfold aBuildSlice bsM
  cases hu : und T e with
  | none => simp
  | some dd =>
    cases dd <;> try (simp; done)
    rename_i e'
    cases hp : evalParts t p.toList with
    | none =>
      simp only
      cases zeroT T e' <;> cases sizeT T e' <;> rfl
    | some l =>
      simp only [zeroT, sizeT]
      cases T e' with
      | none => rfl
      | some i => rfl
def faM (h : AH) : Option (Nat × Nat × Bool) → Option AV → AR
  | some (o, _ + 1, _), some (.ptr b off) => some (.val (.ptr b (off + o)), h)
  | _, _ => none
theorem fa_eq {x : Operand} {i : Nat} : aFieldAddr T t h e x i = faM h (fieldOff T e i) (evalA t x) := by
  unfold aFieldAddr fieldOff faM
  cases hu : und T e with
  | none => simp
  | some dd =>
    cases dd <;> try (simp; done)
    rename_i fs
    cases hx : evalA t x with
    | none => simp
    | some v =>
      cases v <;> try (simp; done)
      simp only
      cases hf : fs[i]? with
      | none => simp
      | some f =>
        simp only [sizeT, isAggT]
        cases hT : T f.type with
        | none => simp
        | some ti =>
          simp only [Option.map_some]
          cases ti.size <;> rfl
def fdM (h : AH) : Option (Nat × Nat × Bool) → Option AV → AR
  | some (o, z, true), some (.agg l) => val h ((cut l o z).map .agg)
  | some (o, _, false), some (.agg l) => val h l[o]?
  | _, _ => none
theorem fd_eq {x : Operand} {i : Nat} : aField T t h e x i = fdM h (fieldOff T e i) (evalA t x) := by
  unfold aField fieldOff fdM
  cases hu : und T e with
  | none => simp
  | some dd =>
    cases dd <;> try (simp; done)
    rename_i fs
    cases hx : evalA t x with
    | none => simp
    | some v =>
      cases v <;> try (simp; done)
      simp only
      cases hf : fs[i]? with
      | none => simp
      | some f =>
        simp only [sizeT, isAggT, partA]
        cases hT : T f.type with
        | none => simp [val]
        | some ti =>
          simp only [Option.map_some]
          cases isAggD ti.desc <;> rfl
end
end Go.Proofs.YtpfibijbieblnaaGreatDoor.Ex
end

section

set_option linter.unusedSimpArgs false
set_option linter.unusedVariables false
namespace Go.Proofs.YtpfibijbieblnaaGreatDoor.Ex
open Go
/-- The heap has grown, and below n0 it is as it was. -/
def Ext (n0 : Nat) (h h' : AH) : Prop := h.n ≤ h'.n ∧ ∀ b, b < n0 → h'.at b = h.at b
theorem Ext.refl (n0 : Nat) (h : AH) : Ext n0 h h := ⟨Nat.le_refl _, fun _ _ => rfl⟩
theorem Ext.trans {n0 : Nat} {a b c : AH} (h : Ext n0 a b) (k : Ext n0 b c) : Ext n0 a c := ⟨Nat.le_trans h.1 k.1, fun x hx => (k.2 x hx).trans (h.2 x hx)⟩
theorem Ext.mono {n0 n1 : Nat} {a b : AH} (h : Ext n1 a b) (hn : n0 ≤ n1) : Ext n0 a b := ⟨h.1, fun x hx => h.2 x (by omega)⟩
theorem Ext.push {n0 : Nat} {h h' : AH} (x : AB) (he : Ext n0 h h') (hn : n0 ≤ h'.n) : Ext n0 h (h'.push x) :=
  ⟨by rw [n_push]; have := he.1; omega, fun b hb => (at_push_lt x (by omega)).trans (he.2 b hb)⟩
theorem Ext.put {n0 : Nat} {h h' : AH} {p : Nat} (x : AB) (he : Ext n0 h h') (hn : n0 ≤ p) : Ext n0 h (h'.put p x) :=
  ⟨by rw [n_put]; exact he.1, fun b hb => (at_put_ne x (by omega)).trans (he.2 b hb)⟩
theorem Ext.at {n0 : Nat} {h h' : AH} {b : Nat} {x : AB} (he : Ext n0 h h') (hb : b < n0) (hx : h.at b = some x) : h'.at b = some x := (he.2 b hb).trans hx
/-- A slice of the run's own: nothing yet, or it holds a block from n0 on. -/
def Own (n0 : Nat) (h : AH) (v : AV) (z : Nat) (e : TypeId) (L : List (List AV)) : Prop :=
  (∀ x ∈ L, x.length = z) ∧ ((v = .lit (.slice none 0 0) ∧ L = []) ∨ ∃ p, v = .sl p 0 L.length (.un z) ∧ n0 ≤ p ∧ h.at p = some (.cells L.flatten e))
theorem flat_len {z : Nat} {L : List (List AV)} (h : ∀ x ∈ L, x.length = z) : L.flatten.length = L.length * z := by
  induction L with
  | nil => simp
  | cons a r ih =>
    rw [List.flatten_cons, List.length_append, ih (fun x hx => h x (by simp [hx])), h a (by simp), List.length_cons, Nat.succ_mul]
    omega
/-- What of a heap an own slice does not touch. -/
def Apart (v : AV) (b : Nat) : Prop := ∀ off len cap, v ≠ .sl b off len cap
theorem append_own {T : TT} {h : AH} {t tx e : TypeId} {n0 z by' : Nat} {zv s x : AV} {L M : List (List AV)} (hu : und T t = some (.slice e)) (htx : und T tx = some (.slice e)) (hz : sizeT T e = some z) (hzv : zeroT T e = some zv) (hb : bytesT T e = some by')
    (hzl : zv.cells.length = z) (h0 : 0 < z) (h200 : z ≤ 200) (ho : Own n0 h s z e L) (hx : srcA h z x = some M.flatten) (hxl : lenA x = some M.length) (hM : ∀ c ∈ M, c.length = z) (h1 : M.flatten.all AV.one = true) (hn : L.length + M.length ≤ 4611686018427387904) (hby : (L.length + M.length) * by' ≤ 140737488355328) (hn0 : n0 ≤ h.n) :
    ∃ s' h', appendA T h t tx s x = some (s', h') ∧ Own n0 h' s' z e (L ++ M) ∧ Ext n0 h h' ∧ ∀ b, b < h.n → Apart s b → h'.at b = h.at b ∧ Apart s' b := by
  simp only [sizeT, zeroT, bytesT, Option.map_eq_some_iff] at hz hzv hb
  obtain ⟨i, hi, rfl⟩ := hz
  obtain ⟨i2, hi2, rfl⟩ := hzv
  obtain ⟨i3, hi3, rfl⟩ := hb
  rw [hi] at hi2 hi3
  obtain rfl := Option.some.inj hi2
  obtain rfl := Option.some.inj hi3
  have hml := flat_len hM
  have hlm : ∀ c ∈ L ++ M, c.length = i.size := fun c hc => (List.mem_append.1 hc).elim (ho.1 c) (hM c)
  have hs : lenA s = some L.length := by
    rcases ho.2 with ⟨rfl, rfl⟩ | ⟨p, rfl, _⟩ <;> rfl
  have hA : appendA T h t tx s x = appendB h e i.size M.length M.flatten s := by
    unfold appendA
    rw [hu, htx]
    simp only [hi, hxl, hs]
    rw [show (isSrcD i.size (.slice e) && Nat.blt 0 i.size && Nat.ble i.size 200 && Nat.beq i.zero.cells.length i.size && Nat.ble (L.length + M.length) 4611686018427387904 && Nat.ble ((L.length + M.length) * i.bytes) 140737488355328) = true by
      simp only [Bool.and_eq_true, Nat.ble_eq, Nat.blt_eq]
      exact ⟨⟨⟨⟨⟨rfl, h0⟩, h200⟩, by rw [hzl]; exact Nat.beq_refl _⟩, hn⟩, hby⟩]
    simp only [cond_true, hx]
    rw [show (Nat.beq M.flatten.length (M.length * i.size) && M.flatten.all AV.one) = true by
      rw [hml, h1, Nat.beq_refl]; rfl]
    rfl
  rw [hA]
  rcases ho.2 with ⟨rfl, rfl⟩ | ⟨p, rfl, hp, hat⟩
  · unfold appendB
    cases hm : Nat.beq M.length 0 with
    | true =>
      have : M = [] := List.eq_nil_of_length_eq_zero (Nat.eq_of_beq_eq_true hm)
      subst this
      exact ⟨_, _, rfl, ⟨hlm, .inl ⟨rfl, rfl⟩⟩, Ext.refl _ _, fun _ _ ha => ⟨rfl, ha⟩⟩
    | false =>
      refine ⟨_, _, rfl, ⟨hlm, .inr ⟨h.n, by simp, hn0, ?_⟩⟩, (Ext.refl _ _).push _ hn0, fun b hb _ => ⟨at_push_lt _ hb, fun off len cap e => by cases e; omega⟩⟩
      rw [at_push_n]
      simp
  · have hlt := at_lt hat
    unfold appendB
    cases hm : Nat.beq M.length 0 with
    | true =>
      have : M = [] := List.eq_nil_of_length_eq_zero (Nat.eq_of_beq_eq_true hm)
      subst this
      exact ⟨_, _, rfl, ⟨hlm, .inr ⟨p, by simp, hp, by simpa using hat⟩⟩, Ext.refl _ _, fun _ _ ha => ⟨rfl, ha⟩⟩
    | false =>
      have hg : getB h p = some (L.flatten, e) := by unfold getB; rw [hat]
      have hc : cut L.flatten 0 (L.length * i.size) = some L.flatten := by
        unfold cut
        rw [if_pos (by rw [Nat.zero_add, flat_len ho.1]; exact Nat.le_refl _), List.drop_zero, ← flat_len ho.1, List.take_length]
      simp only [cond_false, hg, hc, Nat.beq_refl, Bool.and_self, cond_true]
      refine ⟨_, _, rfl, ⟨hlm, .inr ⟨h.n, by simp, hn0, ?_⟩⟩, ((Ext.refl n0 h).put .gone hp).push _ (by rw [n_put]; exact hn0), fun b hb ha => ?_⟩
      · have := at_push_n (h.put p .gone) (.cells (L.flatten ++ M.flatten) e)
        rw [n_put] at this
        rw [this]
        simp
      · refine ⟨?_, fun off len cap e => by cases e; omega⟩
        rw [at_push_lt _ (by rw [n_put]; exact hb), at_put_ne]
        intro hpb
        subst hpb
        exact ha _ _ _ rfl
/-- What is appended to a new, empty slice. -/
theorem append_fresh {T : TT} {h : AH} {t tx e : TypeId} {z by' p : Nat} {zv x : AV} {M : List (List AV)} (hu : und T t = some (.slice e)) (htx : und T tx = some (.slice e)) (hz : sizeT T e = some z) (hzv : zeroT T e = some zv) (hb : bytesT T e = some by')
    (hzl : zv.cells.length = z) (h0 : 0 < z) (h200 : z ≤ 200) (hp : h.at p = some (.cells [] e)) (hx : srcA h z x = some M.flatten) (hxl : lenA x = some M.length) (hM : ∀ c ∈ M, c.length = z) (h1 : M.flatten.all AV.one = true) (hn : M.length ≤ 4611686018427387904) (hby : M.length * by' ≤ 140737488355328) :
    (M = [] ∧ appendA T h t tx (.sl p 0 0 (.kn 0)) x = some (.sl p 0 0 (.kn 0), h)) ∨ (M ≠ [] ∧ appendA T h t tx (.sl p 0 0 (.kn 0)) x = some (.sl h.n 0 M.length (.un z), h.push (.cells M.flatten e))) := by
  simp only [sizeT, zeroT, bytesT, Option.map_eq_some_iff] at hz hzv hb
  obtain ⟨i, hi, rfl⟩ := hz
  obtain ⟨i2, hi2, rfl⟩ := hzv
  obtain ⟨i3, hi3, rfl⟩ := hb
  rw [hi] at hi2 hi3
  obtain rfl := Option.some.inj hi2
  obtain rfl := Option.some.inj hi3
  have hml := flat_len hM
  have hA : appendA T h t tx (.sl p 0 0 (.kn 0)) x = appendB h e i.size M.length M.flatten (.sl p 0 0 (.kn 0)) := by
    unfold appendA
    rw [hu, htx]
    have hl0 : lenA (.sl p 0 0 (.kn 0)) = some 0 := rfl
    simp only [hi, hxl, hl0]
    rw [show (isSrcD i.size (.slice e) && Nat.blt 0 i.size && Nat.ble i.size 200 && Nat.beq i.zero.cells.length i.size && Nat.ble (0 + M.length) 4611686018427387904 && Nat.ble ((0 + M.length) * i.bytes) 140737488355328) = true by
      simp only [Bool.and_eq_true, Nat.ble_eq, Nat.blt_eq]
      exact ⟨⟨⟨⟨⟨rfl, h0⟩, h200⟩, by rw [hzl]; exact Nat.beq_refl _⟩, by omega⟩, by rw [Nat.zero_add]; exact hby⟩]
    simp only [cond_true, hx]
    rw [show (Nat.beq M.flatten.length (M.length * i.size) && M.flatten.all AV.one) = true by
      rw [hml, h1, Nat.beq_refl]; rfl]
    rfl
  rw [hA]
  unfold appendB
  cases hm : Nat.beq M.length 0 with
  | true => exact .inl ⟨List.eq_nil_of_length_eq_zero (Nat.eq_of_beq_eq_true hm), rfl⟩
  | false =>
    have hne : M ≠ [] := fun hh => by subst hh; simp at hm
    have hb : Nat.ble (0 + M.length) 0 = false := by
      rw [Bool.eq_false_iff]
      intro hh
      have := Nat.ble_eq.mp hh
      exact hne (List.eq_nil_of_length_eq_zero (by omega))
    refine .inr ⟨hne, ?_⟩
    have hg : getR h p = some [] := by unfold getR; rw [hp]
    have hc : cut ([] : List AV) 0 (0 * i.size) = some [] := by simp [cut]
    simp only [hb, hg, hc, cond_false]
    simp
end Go.Proofs.YtpfibijbieblnaaGreatDoor.Ex
end

section

set_option linter.unusedSimpArgs false
set_option linter.unusedVariables false
namespace Go.Proofs.YtpfibijbieblnaaGreatDoor.Ex
open Go
/-- A slice that reads as a list of elements (their cells). -/
def Rd (h : AH) (v : AV) (z : Nat) (L : List (List AV)) : Prop :=
  (∀ x ∈ L, x.length = z) ∧ ((v = .lit (.slice none 0 0) ∧ L = []) ∨ ∃ b off cap row, v = .sl b off L.length cap ∧ getR h b = some row ∧ cut row off (L.length * z) = some L.flatten)
theorem Rd.len {h : AH} {v : AV} {z : Nat} {L : List (List AV)} (hr : Rd h v z L) : lenA v = some L.length := by
  rcases hr.2 with ⟨rfl, rfl⟩ | ⟨b, off, cap, row, rfl, _⟩ <;> rfl
theorem Rd.src {h : AH} {v : AV} {z : Nat} {L : List (List AV)} (hr : Rd h v z L) : srcA h z v = some L.flatten := by
  rcases hr.2 with ⟨rfl, rfl⟩ | ⟨b, off, cap, row, rfl, h1, h2⟩
  · rfl
  · simp only [srcA, h1]
    exact h2
theorem flat_get {z : Nat} : ∀ {L : List (List AV)}, (∀ x ∈ L, x.length = z) → ∀ (i : Nat) {c : List AV}, L[i]? = some c → (L.flatten.drop (i * z)).take z = c
  | [], _, i, c, hc => by simp at hc
  | a :: r, h, i, c, hc => by
    have ha := h a (by simp)
    cases i with
    | zero =>
      obtain rfl : a = c := by simpa using hc
      rw [Nat.zero_mul, List.drop_zero, List.flatten_cons, ← ha, List.take_left']
      rfl
    | succ i =>
      rw [List.flatten_cons, Nat.succ_mul, Nat.add_comm, List.drop_append, List.drop_of_length_le (by omega), List.nil_append, ha, Nat.add_sub_cancel_left]
      exact flat_get (fun x hx => h x (by simp [hx])) i (by simpa using hc)
/-- An element is loaded. -/
theorem Rd.get {h : AH} {b off len : Nat} {cap : Cap} {z : Nat} {L : List (List AV)} (hr : Rd h (.sl b off len cap) z L) {i : Nat} {c : List AV} (hi : L[i]? = some c) :
    ∃ row, getR h b = some row ∧ (row.drop (off + i * z)).take z = c ∧ off + i * z + z ≤ row.length ∧ c.length = z := by
  rcases hr.2 with ⟨hh, _⟩ | ⟨b2, off2, cap2, row, hh, h1, h2⟩
  · cases hh
  · cases hh
    have hlt := (List.getElem?_eq_some_iff.1 hi).1
    have hcz := hr.1 c (List.mem_of_getElem? hi)
    unfold cut at h2
    split at h2
    case isFalse => cases h2
    rename_i hfit
    have h2 := Option.some.inj h2
    have hz : i * z + z ≤ L.length * z := by rw [← Nat.succ_mul]; exact Nat.mul_le_mul_right _ hlt
    refine ⟨row, h1, ?_, by omega, hcz⟩
    have := flat_get hr.1 i hi
    rw [← h2, List.drop_take, List.take_take, Nat.min_eq_left (by omega), List.drop_drop] at this
    exact this
theorem Rd.ext {n0 : Nat} {h h' : AH} {v : AV} {z : Nat} {L : List (List AV)} (hr : Rd h v z L) (hv : ∀ b off len cap, v = .sl b off len cap → h'.at b = h.at b) : Rd h' v z L := by
  refine ⟨hr.1, ?_⟩
  rcases hr.2 with hh | ⟨b, off, cap, row, hh, h1, h2⟩
  · exact .inl hh
  · refine .inr ⟨b, off, cap, row, hh, ?_, h2⟩
    unfold getR at h1 ⊢
    rw [hv _ _ _ _ hh]
    exact h1
theorem Own.rd {n0 : Nat} {h : AH} {v : AV} {z : Nat} {e : TypeId} {L : List (List AV)} (ho : Own n0 h v z e L) : Rd h v z L := by
  refine ⟨ho.1, ?_⟩
  rcases ho.2 with hh | ⟨p, rfl, hp, hat⟩
  · exact .inl hh
  · refine .inr ⟨p, 0, _, L.flatten, rfl, by unfold getR; rw [hat], ?_⟩
    unfold cut
    rw [if_pos (by rw [Nat.zero_add, flat_len ho.1]; exact Nat.le_refl _), List.drop_zero, ← flat_len ho.1, List.take_length]
end Go.Proofs.YtpfibijbieblnaaGreatDoor.Ex
end

section

set_option linter.unusedSimpArgs false
set_option linter.unusedVariables false
namespace Go.Proofs.YtpfibijbieblnaaGreatDoor.Ex
open Go
/-- How values of a type lie in cells; F: the blocks that they reach. -/
structure Rep (α : Type) where
  z : Nat
  is : (Nat → Prop) → AH → List AV → α → Prop
  len : ∀ {F h c x}, is F h c x → c.length = z
  one : ∀ {F h c x}, is F h c x → ∀ v ∈ c, v.one = true
  lift : ∀ {F G : Nat → Prop} {h h' : AH} {c x}, is F h c x → (∀ b, F b → b < h.n → h'.at b = h.at b ∧ G b) → is G h' c x
def I64 (n : Int) : Prop := -9223372036854775808 ≤ n ∧ n < 9223372036854775808
def RInt : Rep Int where
  z := 1
  is _ _ c x := c = [.lit (.int .i64 x)] ∧ I64 x
  len := fun ⟨h, _⟩ => by subst h; rfl
  one := fun ⟨h, _⟩ v hv => by subst h; simp at hv; subst hv; rfl
  lift := fun h _ => h
def RByte : Rep UInt8 where
  z := 1
  is _ _ c x := c = [.lit (.int .u8 x.toNat)]
  len := fun h => by subst h; rfl
  one := fun h v hv => by subst h; simp at hv; subst hv; rfl
  lift := fun h _ => h
/-- A slice's length. -/
def SlN (v : AV) (n : Nat) : Prop := (v = .lit (.slice none 0 0) ∧ n = 0) ∨ ∃ b off cap, v = .sl b off n cap
def slB : AV → Nat
  | .sl b _ _ _ => b
  | _ => 0
def slO : AV → Nat
  | .sl _ o _ _ => o
  | _ => 0
/-- The blocks of a slice's cells. -/
def SlF (F : Nat → Prop) (v : AV) : Prop := ∀ b off n cap, v = .sl b off n cap → F b
theorem getR_lt {h : AH} {b : Nat} {row : List AV} (hr : getR h b = some row) : b < h.n := by
  unfold getR at hr
  cases hq : h.at b with
  | none => rw [hq] at hr; cases hr
  | some ab => exact at_lt hq
theorem Rd.slN {h : AH} {v : AV} {z : Nat} {L : List (List AV)} (hr : Rd h v z L) : SlN v L.length := by
  rcases hr.2 with ⟨rfl, rfl⟩ | ⟨b, off, cap, row, rfl, _⟩
  · exact .inl ⟨rfl, rfl⟩
  · exact .inr ⟨b, off, cap, rfl⟩
theorem SlN.one {v : AV} {n : Nat} (h : SlN v n) : v.one = true := by
  rcases h with ⟨rfl, _⟩ | ⟨b, off, cap, rfl⟩ <;> rfl
theorem SlN.lenA {v : AV} {n : Nat} (h : SlN v n) : lenA v = some n := by
  rcases h with ⟨rfl, rfl⟩ | ⟨b, off, cap, rfl⟩ <;> rfl
theorem Rd.lift {h h' : AH} {v : AV} {z : Nat} {L : List (List AV)} (hr : Rd h v z L) (hv : ∀ b off n cap, v = .sl b off n cap → b < h.n → h'.at b = h.at b) : Rd h' v z L :=
  hr.ext (n0 := 0) fun b off len cap e => by
    rcases hr.2 with ⟨rfl, _⟩ | ⟨b2, off2, cap2, row, rfl, h1, _⟩
    · cases e
    · cases e
      exact hv _ _ _ _ rfl (getR_lt h1)
/-- Elements and their cells. -/
def Els {α : Type} (R : Rep α) (F : Nat → Prop) (h : AH) (L : List (List AV)) (xs : List α) : Prop := L.length = xs.length ∧ ∀ (i : Nat) c x, L[i]? = some c → xs[i]? = some x → R.is F h c x
theorem Els.nil {α : Type} {R : Rep α} {F : Nat → Prop} {h : AH} : Els R F h [] [] := ⟨rfl, fun i c x hc => by simp at hc⟩
theorem Els.lens {α : Type} {R : Rep α} {F : Nat → Prop} {h : AH} {L : List (List AV)} {xs : List α} (he : Els R F h L xs) : ∀ c ∈ L, c.length = R.z := fun c hc => by
  obtain ⟨i, hi, rfl⟩ := List.mem_iff_getElem.1 hc
  have hx : i < xs.length := by rw [← he.1]; exact hi
  exact R.len (he.2 i _ xs[i] (List.getElem?_eq_getElem hi) (List.getElem?_eq_getElem hx))
theorem Els.ones {α : Type} {R : Rep α} {F : Nat → Prop} {h : AH} {L : List (List AV)} {xs : List α} (he : Els R F h L xs) : L.flatten.all AV.one = true := by
  simp only [List.all_eq_true, List.mem_flatten]
  rintro v ⟨c, hc, hv⟩
  obtain ⟨i, hi, rfl⟩ := List.mem_iff_getElem.1 hc
  have hx : i < xs.length := by rw [← he.1]; exact hi
  exact R.one (he.2 i _ xs[i] (List.getElem?_eq_getElem hi) (List.getElem?_eq_getElem hx)) v hv
theorem Els.lift {α : Type} {R : Rep α} {F G : Nat → Prop} {h h' : AH} {L : List (List AV)} {xs : List α} (he : Els R F h L xs) (hh : ∀ b, F b → b < h.n → h'.at b = h.at b ∧ G b) : Els R G h' L xs :=
  ⟨he.1, fun i c x hc hx => R.lift (he.2 i c x hc hx) hh⟩
theorem Els.snoc {α : Type} {R : Rep α} {F : Nat → Prop} {h : AH} {L : List (List AV)} {xs : List α} {c : List AV} {x : α} (he : Els R F h L xs) (hc : R.is F h c x) : Els R F h (L ++ [c]) (xs ++ [x]) := by
  refine ⟨by simp [he.1], fun i c' x' h1 h2 => ?_⟩
  by_cases hi : i < L.length
  · rw [List.getElem?_append_left hi] at h1
    rw [List.getElem?_append_left (by rw [← he.1]; exact hi)] at h2
    exact he.2 i _ _ h1 h2
  · rw [List.getElem?_append_right (by omega)] at h1
    rw [List.getElem?_append_right (by rw [← he.1]; omega), ← he.1] at h2
    have h0 : i - L.length = 0 := by
      cases hk : i - L.length with
      | zero => rfl
      | succ k => rw [hk] at h1; simp at h1
    rw [h0] at h1 h2
    simp at h1 h2
    subst h1 h2
    exact hc
theorem Els.append {α : Type} {R : Rep α} {F : Nat → Prop} {h : AH} {L M : List (List AV)} {xs ys : List α} (he : Els R F h L xs) (hm : Els R F h M ys) : Els R F h (L ++ M) (xs ++ ys) := by
  refine ⟨by simp [he.1, hm.1], fun i c x h1 h2 => ?_⟩
  by_cases hi : i < L.length
  · rw [List.getElem?_append_left hi] at h1
    rw [List.getElem?_append_left (by rw [← he.1]; exact hi)] at h2
    exact he.2 i _ _ h1 h2
  · rw [List.getElem?_append_right (by omega)] at h1
    rw [List.getElem?_append_right (by rw [← he.1]; omega), ← he.1] at h2
    exact hm.2 _ _ _ h1 h2
theorem Els.get {α : Type} {R : Rep α} {F : Nat → Prop} {h : AH} {L : List (List AV)} {xs : List α} (he : Els R F h L xs) {i : Nat} {x : α} (hx : xs[i]? = some x) : ∃ c, L[i]? = some c ∧ R.is F h c x := by
  have hi : i < L.length := by rw [he.1]; exact (List.getElem?_eq_some_iff.1 hx).1
  exact ⟨L[i], List.getElem?_eq_getElem hi, he.2 i _ x (List.getElem?_eq_getElem hi) hx⟩
/-- A slice's capacity is not less than its length. -/
def CapOk (z : Nat) (v : AV) : Prop := ∀ b off n cap, v = .sl b off n cap → match cap with
  | .kn k => n ≤ k
  | .un z' => z' = z
/-- A slice that is read. -/
def RSl {α : Type} (R : Rep α) : Rep (List α) where
  z := 1
  is F h c xs := ∃ v L, c = [v] ∧ Rd h v R.z L ∧ SlF F v ∧ CapOk R.z v ∧ Els R F h L xs
  len := fun ⟨v, L, e, _⟩ => by subst e; rfl
  one := fun ⟨v, L, e, h1, _⟩ u hu => by
    subst e
    simp at hu
    subst hu
    exact h1.slN.one
  lift := fun ⟨v, L, e, h1, h2, hc, h3⟩ hh => ⟨v, L, e, h1.lift fun b off n cap e' hb => (hh b (h2 b off n cap e') hb).1,
    fun b off n cap e' => by
      rcases h1.2 with ⟨hv, _⟩ | ⟨b2, off2, cap2, row, hv, h4, _⟩
      · rw [hv] at e'; cases e'
      · have e2 := e'
        rw [hv] at e'
        cases e'
        exact (hh _ (h2 _ _ _ _ e2) (getR_lt h4)).2, hc, h3.lift hh⟩
/-- Is it a slice? Its length. -/
def isSl : AV → Bool
  | .sl .. => true
  | .lit (.slice none 0 0) => true
  | _ => false
def lenD : AV → Nat
  | .sl _ _ n _ => n
  | _ => 0
section
variable {α : Type} {R : Rep α} {F : Nat → Prop} {h : AH} {v : AV} {xs : List α}
theorem SlN.isSl {n : Nat} (h : SlN v n) : isSl v = true := by rcases h with ⟨rfl, _⟩ | ⟨b, off, cap, rfl⟩ <;> rfl
theorem SlN.lenD {n : Nat} (h : SlN v n) : lenD v = n := by rcases h with ⟨rfl, rfl⟩ | ⟨b, off, cap, rfl⟩ <;> rfl
theorem SlN.of (h : Ex.isSl v = true) : ∃ n, SlN v n := by
  unfold Ex.isSl at h
  split at h
  · exact ⟨_, .inr ⟨_, _, _, rfl⟩⟩
  · exact ⟨0, .inl ⟨rfl, rfl⟩⟩
  · cases h
/-- A slice's value that reads as some list. -/
def IsSl (R : Rep α) (F : Nat → Prop) (h : AH) (v : AV) (xs : List α) : Prop := (RSl R).is F h [v] xs
theorem IsSl.mk {L : List (List AV)} (h1 : Rd h v R.z L) (h2 : SlF F v) (hc : CapOk R.z v) (h3 : Els R F h L xs) : IsSl R F h v xs := ⟨v, L, rfl, h1, h2, hc, h3⟩
theorem IsSl.out (hs : IsSl R F h v xs) : ∃ L, Rd h v R.z L ∧ SlF F v ∧ CapOk R.z v ∧ Els R F h L xs := by
  obtain ⟨v', L, e, h1, h2, hc, h3⟩ := hs
  cases e
  exact ⟨L, h1, h2, hc, h3⟩
theorem IsSl.slN (hs : IsSl R F h v xs) : SlN v xs.length := by
  obtain ⟨L, h1, _, _, h3⟩ := hs.out
  rw [← h3.1]
  exact h1.slN
theorem IsSl.one (hs : IsSl R F h v xs) : v.one = true := hs.slN.one
theorem IsSl.isSl (hs : IsSl R F h v xs) : Ex.isSl v = true := hs.slN.isSl
theorem IsSl.lenD (hs : IsSl R F h v xs) : Ex.lenD v = xs.length := hs.slN.lenD
theorem IsSl.cells (hs : IsSl R F h v xs) : v.cells = [v] := cells_one hs.one
theorem IsSl.lift {G : Nat → Prop} {h' : AH} (hs : IsSl R F h v xs) (hh : ∀ b, F b → b < h.n → h'.at b = h.at b ∧ G b) : IsSl R G h' v xs := (RSl R).lift hs hh
theorem IsSl.ext {h' : AH} {n0 : Nat} (hs : IsSl R F h v xs) (he : Ext n0 h h') (hn : h.n ≤ n0) : IsSl R F h' v xs := hs.lift fun b hb hlt => ⟨he.2 b (by omega), hb⟩
theorem IsSl.nil : IsSl R F h (.lit (.slice none 0 0)) [] := .mk (L := []) ⟨by simp, .inl ⟨rfl, rfl⟩⟩ (fun b off n cap e => by cases e) (fun b off n cap e => by cases e) .nil
/-- An element's cells, read. -/
theorem IsSl.get {T : TT} (hs : IsSl R F h v xs) {i : Nat} {x : α} (hx : xs[i]? = some x) :
    ∃ c, R.is F h c x ∧ (∀ e n j, sizeT T e = some n → 0 < n → j + n ≤ R.z → loadA T h e (slB v) (slO v + i * R.z + j) = ldL T e c j) := by
  obtain ⟨L, h1, h2, _, h3⟩ := hs.out
  obtain ⟨c, hc, hi⟩ := h3.get hx
  refine ⟨c, hi, fun e n j hn h0 hj => ?_⟩
  rcases h1.2 with ⟨_, rfl⟩ | ⟨b, off, cap, row, rfl, h4, h5⟩
  · simp at hc
  · obtain ⟨row', e1, e2, e3, e4⟩ := h1.get hc
    rw [h4] at e1
    obtain rfl := Option.some.inj e1
    have key : ∀ k, k < R.z → row[off + i * R.z + k]? = c[k]? := fun k hk => by
      rw [← e2, List.getElem?_take, if_pos hk, List.getElem?_drop]
    simp only [loadA, slB, slO, h4, ldL, hn]
    cases ha : isAggT T e with
    | none => rfl
    | some a =>
      cases a with
      | false => exact key j (by omega)
      | true =>
        simp only [cut]
        rw [if_pos (by omega), if_pos (by omega)]
        simp only [Option.map_some, Option.some.injEq, AV.agg.injEq]
        apply List.ext_getElem?
        intro k
        by_cases hk : k < n
        · rw [List.getElem?_take, if_pos hk, List.getElem?_take, if_pos hk, List.getElem?_drop, List.getElem?_drop]
          rw [Nat.add_assoc]
          exact key (j + k) (by omega)
        · rw [List.getElem?_take, if_neg hk, List.getElem?_take, if_neg hk]
/-- Part of a slice. -/
def subCap (l : Nat) : Cap → Cap
  | .kn k => .kn (k - l)
  | .un z' => .un z'
def subSl (z l r : Nat) : AV → AV
  | .sl b off _ cap => .sl b (off + l * z) (r - l) (subCap l cap)
  | v => v
theorem IsSl.sub {l r : Nat} (hs : IsSl R F h v xs) (hlr : l ≤ r) (hr : r ≤ xs.length) : IsSl R F h (subSl R.z l r v) ((xs.take r).drop l) := by
  obtain ⟨L, h1, h2, hc, h3⟩ := hs.out
  have hL : L.length = xs.length := h3.1
  have hE : Els R F h ((L.take r).drop l) ((xs.take r).drop l) := by
    refine ⟨by simp [hL], fun i c x e1 e2 => ?_⟩
    rw [List.getElem?_drop, List.getElem?_take] at e1 e2
    split at e1
    · rename_i hi
      rw [if_pos hi] at e2
      exact h3.2 _ _ _ e1 e2
    · cases e1
  rcases h1.2 with ⟨rfl, rfl⟩ | ⟨b, off, cap, row, rfl, h4, h5⟩
  · refine .mk (L := []) ⟨by simp, .inl ⟨rfl, rfl⟩⟩ (fun b off n cap e => by cases e) (fun b off n cap e => by cases e) ?_
    have : xs = [] := List.eq_nil_of_length_eq_zero (by rw [← hL]; rfl)
    subst this
    simpa using Els.nil
  · refine .mk (L := (L.take r).drop l) ⟨fun c hc => h1.1 c (List.mem_of_mem_take (List.mem_of_mem_drop hc)), .inr ⟨b, off + l * R.z, subCap l cap, row, ?_, h4, ?_⟩⟩ (fun b' off' n' cap' e => ?_) (fun b' off' n' cap' e => ?_) hE
    · show AV.sl b (off + l * R.z) (r - l) (subCap l cap) = _
      rw [show ((L.take r).drop l).length = r - l by rw [List.length_drop, List.length_take]; omega]
    · have hlen : ((L.take r).drop l).length = r - l := by rw [List.length_drop, List.length_take]; omega
      rw [hlen]
      unfold cut at h5 ⊢
      split at h5
      case isFalse => cases h5
      rename_i hfit
      have h5 := Option.some.inj h5
      have m1 : l * R.z + (r - l) * R.z = r * R.z := by rw [← Nat.add_mul]; congr 1; omega
      have m2 : r * R.z ≤ L.length * R.z := Nat.mul_le_mul_right _ (by omega)
      have hp := Nat.mul_le_mul_right R.z (show l ≤ r by omega)
      rw [if_pos (by omega)]
      congr 1
      have hflat : ∀ (M : List (List AV)) (k : Nat), (∀ c ∈ M, c.length = R.z) → (M.drop k).flatten = M.flatten.drop (k * R.z) := by
        intro M
        induction M with
        | nil => intro k _; simp
        | cons a M ih =>
          intro k hM
          cases k with
          | zero => simp
          | succ k =>
            rw [List.drop_succ_cons, ih k (fun c hc => hM c (by simp [hc])), List.flatten_cons, Nat.succ_mul, Nat.add_comm, ← List.drop_drop, List.drop_left' (hM a (by simp))]
      have hflat2 : ∀ (M : List (List AV)) (k : Nat), (∀ c ∈ M, c.length = R.z) → (M.take k).flatten = M.flatten.take (k * R.z) := by
        intro M
        induction M with
        | nil => intro k _; simp
        | cons a M ih =>
          intro k hM
          cases k with
          | zero => simp
          | succ k =>
            have ha := hM a (by simp)
            rw [List.take_succ_cons, List.flatten_cons, List.flatten_cons, ih k (fun c hc => hM c (by simp [hc])), Nat.succ_mul, List.take_append, List.take_of_length_le (l := a) (by omega), ha]
            congr 2
            omega
      rw [hflat _ _ (fun c hc => h1.1 c (List.mem_of_mem_take hc)), hflat2 _ _ h1.1, ← h5, List.take_take, List.drop_take, List.drop_drop]
      congr 1
      omega
    · show F b'
      have e' : AV.sl b (off + l * R.z) (r - l) (subCap l cap) = .sl b' off' n' cap' := e
      cases e'
      exact h2 b off _ cap rfl
    · have e' : AV.sl b (off + l * R.z) (r - l) (subCap l cap) = .sl b' off' n' cap' := e
      cases e'
      have := hc b off _ cap rfl
      cases cap with
      | kn k => show _ ≤ _; simp only at this; omega
      | un z' => exact this
/-! Slices of the run's own, that grow. -/
def OwnL (R : Rep α) (G : Nat → Prop) (n0 : Nat) (h : AH) (v : AV) (e : TypeId) (xs : List α) : Prop := ∃ L, Own n0 h v R.z e L ∧ Els R (fun b => G b ∧ Apart v b) h L xs
variable {G : Nat → Prop} {n0 : Nat} {e : TypeId}
theorem Own.slN {z : Nat} {L : List (List AV)} (h : Own n0 h v z e L) : SlN v L.length := by
  rcases h.2 with ⟨rfl, rfl⟩ | ⟨p, rfl, _⟩
  · exact .inl ⟨rfl, rfl⟩
  · exact .inr ⟨_, _, _, rfl⟩
theorem OwnL.nil : OwnL R G n0 h (.lit (.slice none 0 0)) e [] := ⟨[], ⟨by simp, .inl ⟨rfl, rfl⟩⟩, .nil⟩
theorem OwnL.slN (ho : OwnL R G n0 h v e xs) : SlN v xs.length := by
  obtain ⟨L, h1, h2⟩ := ho
  rw [← h2.1]
  exact h1.slN
theorem OwnL.one (ho : OwnL R G n0 h v e xs) : v.one = true := ho.slN.one
theorem OwnL.isSl (ho : OwnL R G n0 h v e xs) : Ex.isSl v = true := ho.slN.isSl
theorem OwnL.lenD (ho : OwnL R G n0 h v e xs) : Ex.lenD v = xs.length := ho.slN.lenD
theorem OwnL.cells (ho : OwnL R G n0 h v e xs) : v.cells = [v] := cells_one ho.one
theorem OwnL.lift {h' : AH} (ho : OwnL R G n0 h v e xs) (hv : ∀ b off n cap, v = .sl b off n cap → h'.at b = h.at b) (hh : ∀ b, G b → b < h.n → Apart v b → h'.at b = h.at b) : OwnL R G n0 h' v e xs := by
  obtain ⟨L, h1, h2⟩ := ho
  refine ⟨L, ⟨h1.1, ?_⟩, h2.lift fun b hb hlt => ⟨hh b hb.1 hlt hb.2, hb⟩⟩
  rcases h1.2 with hh | ⟨p, rfl, hp, hat⟩
  · exact .inl hh
  · exact .inr ⟨p, rfl, hp, (hv _ _ _ _ rfl).trans hat⟩
theorem OwnL.ext {h' : AH} {m : Nat} (ho : OwnL R G n0 h v e xs) (he : Ext m h h') (hm : h.n ≤ m) : OwnL R G n0 h' v e xs :=
  ho.lift (fun b off n cap ev => by
    obtain ⟨L, h1, h2⟩ := ho
    rcases h1.2 with ⟨hh, _⟩ | ⟨p, hh, hp, hat⟩
    · rw [hh] at ev; cases ev
    · rw [hh] at ev
      cases ev
      exact he.2 _ (by have := at_lt hat; omega)) (fun b _ hlt _ => he.2 b (by omega))
/-- It is read, and goes back. -/
theorem OwnL.toSl (ho : OwnL R G n0 h v e xs) (hG : ∀ b, G b → F b) (hn : ∀ b, n0 ≤ b → F b) : IsSl R F h v xs := by
  obtain ⟨L, h1, h2⟩ := ho
  refine .mk h1.rd (fun b off n cap ev => ?_) (fun b off n cap ev => ?_) (h2.lift fun b hb _ => ⟨rfl, hG b hb.1⟩)
  · rcases h1.2 with ⟨hh, _⟩ | ⟨p, hh, hp, hat⟩
    · rw [hh] at ev; cases ev
    · rw [hh] at ev; cases ev; exact hn _ hp
  · rcases h1.2 with ⟨hh, _⟩ | ⟨p, hh, hp, hat⟩
    · rw [hh] at ev; cases ev
    · rw [hh] at ev; cases ev; rfl
/-- Something is appended to it. -/
theorem OwnL.append {T : TT} {t tx : TypeId} {by' : Nat} {zv x : AV} {M : List (List AV)} {ys : List α} (ho : OwnL R G n0 h v e xs)
    (hu : und T t = some (.slice e)) (htx : und T tx = some (.slice e)) (hz : sizeT T e = some R.z) (hzv : zeroT T e = some zv) (hb : bytesT T e = some by')
    (hzl : zv.cells.length = R.z) (h0 : 0 < R.z) (h200 : R.z ≤ 200) (hx : srcA h R.z x = some M.flatten) (hxl : lenA x = some M.length) (hM : Els R (fun b => G b ∧ Apart v b) h M ys)
    (hn : xs.length + ys.length ≤ 4611686018427387904) (hby : (xs.length + ys.length) * by' ≤ 140737488355328) (hn0 : n0 ≤ h.n) :
    ∃ s' h', appendA T h t tx v x = some (s', h') ∧ OwnL R G n0 h' s' e (xs ++ ys) ∧ Ext n0 h h' ∧ ∀ b, b < h.n → Apart v b → h'.at b = h.at b ∧ Apart s' b := by
  obtain ⟨L, h1, h2⟩ := ho
  obtain ⟨s', h', a1, a2, a3, a4⟩ := append_own hu htx hz hzv hb hzl h0 h200 h1 hx hxl hM.lens hM.ones (by rw [h2.1, hM.1]; exact hn) (by rw [h2.1, hM.1]; exact hby) hn0
  exact ⟨s', h', a1, ⟨_, a2, (h2.append hM).lift fun b hb hlt => ⟨(a4 b hlt hb.2).1, hb.1, (a4 b hlt hb.2).2⟩⟩, a3, a4⟩
/-- One element, laid in a new block ahead. -/
theorem OwnL.snoc {T : TT} {t tx : TypeId} {by' p : Nat} {zv : AV} {c : List AV} {y : α} {cap : Cap} {e' : TypeId} (ho : OwnL R G n0 h v e xs)
    (hu : und T t = some (.slice e)) (htx : und T tx = some (.slice e)) (hz : sizeT T e = some R.z) (hzv : zeroT T e = some zv) (hb : bytesT T e = some by')
    (hzl : zv.cells.length = R.z) (h0 : 0 < R.z) (h200 : R.z ≤ 200) (hp : h.at p = some (.cells c e')) (hc : R.is (fun b => G b ∧ Apart v b) h c y)
    (hn : xs.length + 1 ≤ 4611686018427387904) (hby : (xs.length + 1) * by' ≤ 140737488355328) (hn0 : n0 ≤ h.n) :
    ∃ s' h', appendA T h t tx v (.sl p 0 1 cap) = some (s', h') ∧ OwnL R G n0 h' s' e (xs ++ [y]) ∧ Ext n0 h h' ∧ ∀ b, b < h.n → Apart v b → h'.at b = h.at b ∧ Apart s' b := by
  refine ho.append hu htx hz hzv hb hzl h0 h200 (M := [c]) (ys := [y]) ?_ rfl (Els.nil.snoc hc) hn hby hn0
  have hg : getR h p = some c := by unfold getR; rw [hp]
  simp only [srcA, hg, cut]
  rw [if_pos (by rw [R.len hc]; omega)]
  simp [R.len hc ▸ List.take_length]
end
end Go.Proofs.YtpfibijbieblnaaGreatDoor.Ex
end

section

set_option linter.unusedSimpArgs false
set_option linter.unusedVariables false
namespace Go.Proofs.YtpfibijbieblnaaGreatDoor.Ex
open Go
section
variable {P : Program} {T : TT} {S : Sums} {t : TM} {h : AH} {d : Option Tmp} {ty : TypeId} {ps : String} {af : Array Edge} {g : Option (Nat × Bool)} {N : NT}
def isSlT (T : TT) (t : TypeId) : Bool := match und T t with
  | some (.slice _) => true
  | _ => false
/-- A slice's element: its cells. -/
def szE (T : TT) (t : TypeId) : Nat := match und T t with
  | some (.slice e) => (sizeT T e).getD 0
  | _ => 0
def isPtr : AV → Bool
  | .ptr _ _ => true
  | _ => false
theorem und_tab {t : TypeId} {dd : TypeDesc} (hu : und (tabOf P N) t = some dd) : (P.underlying t).getD .invalid = dd := by
  unfold und tabOf at hu
  cases hq : N.has t with
  | false => rw [hq] at hu; cases hu
  | true => rw [hq] at hu; simpa [tiOf] using hu
theorem und_tab_sl {t e : TypeId} (hu : und (tabOf P N) t = some (.slice e)) : P.underlying t = some (.slice e) := by
  have := und_tab hu
  cases hq : P.underlying t with
  | none => rw [hq] at this; cases this
  | some x => rw [hq] at this; exact congrArg some this
theorem isSlT_out {t : TypeId} (hT : isSlT T t = true) : ∃ e, und T t = some (.slice e) := by
  unfold isSlT at hT
  split at hT
  · rename_i e hu; exact ⟨e, hu⟩
  · cases hT
theorem pur_prog {α : Type} {f : Program → Sem α} : pur P (program >>= f) = pur P (f P) := rfl
theorem a_len {i ty' : Nat} (hs : isSl (t.get i) = true) (hT : isSlT (tabOf P N) ty' = true) :
    aop P (tabOf P N) ⟨d, .call ⟨.builtin .len, #[.tmp i], #[ty']⟩, ty, ps, af, g⟩ t h = some (.val (.lit (.int .i64 (lenD (t.get i)))), h) := by
  obtain ⟨e, hu⟩ := isSlT_out hT
  have hP := und_tab_sl hu
  rw [a_call]
  obtain ⟨n, ⟨hv, _⟩ | ⟨b, off, cap, hv⟩⟩ := SlN.of hs
  · have he : litEnv t (.tmp i) = .slice none 0 0 := by simp [litEnv, ev_tmp, hv, toVal]
    have hl : litOp P ⟨d, .call ⟨.builtin .len, #[.tmp i], #[ty']⟩, ty, ps, af, g⟩ t = some (.val (.lit (.int .i64 0))) := by
      simp only [litOp, notSelect, Op.operands, Call.operands, execOp, resolve]
      simp [litAll, ev_tmp, hv, toVal, invoke, builtin, Builtin.len_, he, underlying]
      rw [pur_prog, hP]
      rfl
    simp only [aCall, aBuiltin, evals, ev_tmp, hv, orLit, hl, lenD]
    rfl
  · simp only [aCall, aBuiltin, evals, ev_tmp, hv, hu, lenD]
/-- An element's place. -/
def iaM (h : AH) (v : AV) (z : Nat) : Option Nat → AR
  | some k => if k < lenD v then some (.val (.ptr (slB v) (slO v + k * z)), h) else none
  | none => none
theorem iaM_some {v : AV} {z k : Nat} : iaM h v z (some k) = if k < lenD v then some (.val (.ptr (slB v) (slO v + k * z)), h) else none := rfl
theorem szE_eq {e el z : Nat} (hu : und T e = some (.slice el)) (hz : sizeT T el = some z) : szE T e = z := by unfold szE; rw [hu]; simp [hz]
def szOk (T : TT) (t : TypeId) : Bool := match und T t with
  | some (.slice e) => (sizeT T e).isSome && Nat.blt 0 ((sizeT T e).getD 0)
  | _ => false
theorem szOk_out {e : TypeId} (hT : szOk T e = true) : ∃ el z, und T e = some (.slice el) ∧ sizeT T el = some z ∧ szE T e = z ∧ 0 < z := by
  unfold szOk at hT
  split at hT
  case h_2 => cases hT
  rename_i el hu
  simp only [Bool.and_eq_true] at hT
  obtain ⟨z, hz⟩ := Option.isSome_iff_exists.1 hT.1
  refine ⟨el, z, hu, hz, szE_eq hu hz, ?_⟩
  have := Nat.blt_eq.mp hT.2
  rw [hz] at this
  exact this
theorem a_ia {e i : Nat} {y : Operand} (hs : isSl (t.get i) = true) (hT : szOk T e = true) : aop P T ⟨d, .indexAddr e (.tmp i) y, ty, ps, af, g⟩ t h = iaM h (t.get i) (szE T e) ((evalA t y).bind natA) := by
  rw [a_indexAddr]
  obtain ⟨el, z, hu, hz, hzz, _⟩ := szOk_out hT
  rw [hzz]
  unfold aIndexAddr
  obtain ⟨n, ⟨hv, _⟩ | ⟨b, off, cap, hv⟩⟩ := SlN.of hs
  · rw [hu, ev_tmp, hv]
    cases (evalA t y).bind natA <;> simp [iaM, lenD]
  · rw [hu, ev_tmp, hv]
    cases (evalA t y).bind natA with
    | none => simp [iaM]
    | some k =>
      by_cases hk : k < n
      · simp [iaM, lenD, slB, slO, hz, hk]
      · simp [iaM, lenD, slB, slO, hz, hk]
theorem a_iap {e i : Nat} {y : Operand} (hs : isPtr (t.get i) = true) : aop P T ⟨d, .indexAddr e (.tmp i) y, ty, ps, af, g⟩ t h = aIndexAddr T t h e (.tmp i) y := rfl
/-- Part of a slice. -/
def aSlR (P : Program) (T : TT) (o : Oper) (t : TM) (h : AH) (e : TypeId) (x : Operand) (lo hi mx : Option Operand) : AR := aSlice P T o t h e x lo hi mx
def slM (h : AH) (v : AV) (z : Nat) (lo hi : Int) (r : AR) : AR := if 0 ≤ lo ∧ lo ≤ hi ∧ hi ≤ (lenD v : Int) then some (.val (subSl z lo.toNat hi.toNat v), h) else r
theorem sl_none {o : Oper} {i : Nat} (hx : .tmp i ∈ o.op.operands) {b off n : Nat} {cap : Cap} (hv : t.get i = .sl b off n cap) : litOp P o t = none := by
  have key : ∀ l : List Operand, Operand.tmp i ∈ l → litAll t l = false := by
    intro l
    induction l with
    | nil => intro h; cases h
    | cons a r ih =>
      intro h
      cases h with
      | head => simp [litAll, ev_tmp, hv, toVal]
      | tail _ h =>
        have := ih h
        simp only [litAll]
        split
        · rw [this]; simp
        · rfl
  have := key o.op.operands.toList (by simpa using hx)
  unfold litOp
  rw [this]
  simp
theorem capGe_ok {z n k : Nat} {cap : Cap} (hk : k ≤ n) (hc : match cap with | .kn k => n ≤ k | .un z' => z' = z) : capGe cap n k = some true := by
  cases cap with
  | kn m => simp only at hc; simp [capGe]; omega
  | un z' => simp [capGe, hk]
theorem sl1_ok {e : TypeId} {v : AV} {l r : Nat} {lo hi : Option Nat} (hT : szOk T e = true) (hc : CapOk (szE T e) v) {b off n : Nat} {cap : Cap} (hv : v = .sl b off n cap) (hl : lo.getD 0 = l) (hr : hi.getD n = r) (hlr : l ≤ r) (hrn : r ≤ n) :
    aSlice1 T h e v lo hi none = some (.val (subSl (szE T e) l r v), h) := by
  obtain ⟨el, z, hu, hz, hzz, _⟩ := szOk_out hT
  subst hv
  have hcap := hc b off n cap rfl
  rw [hzz] at hcap ⊢
  unfold aSlice1
  rw [hu]
  simp only [hz]
  have hb : boundsA n cap lo hi none = some (l, r, subCap l cap) := by
    unfold boundsA
    simp only [hl, hr, capGe_ok hrn hcap]
    rw [if_pos (by simp [hlr])]
    cases cap <;> rfl
  rw [hb]
  simp only
  have hf : capFits z (subCap l cap) = true := by
    cases cap with
    | kn k => rfl
    | un z' => simp only at hcap; subst hcap; simp [capFits, subCap]
  rw [hf]
  rfl
theorem nil_slice {e : TypeId} {lo hi : Option Value} (hP : P.underlying e = some (.slice ty)) (hl : lo = none ∨ lo = some (.int .i64 0)) (hh : hi = none ∨ hi = some (.int .i64 0)) (hi' : (P.info? ty).isSome = true) :
    pur P (do let x ← Instr.sliceAt e (.slice none 0 0) lo hi none; pure (Next.value x)) = some (.ok (.value (.slice none 0 0))) := by
  obtain ⟨ii, hii⟩ := Option.isSome_iff_exists.1 hi'
  have u1 : ∀ {α β : Type} (f : TypeDesc → Sem α) (g : α → Sem β), pur P ((underlying e >>= f) >>= g) = pur P (f (.slice ty) >>= g) := fun f g => by
    show pur P (((match P.underlying e with | some d => pure d | none => stuck "no such type") >>= f) >>= g) = _
    rw [hP]
    rfl
  have u2 : ∀ {α β : Type} (f : Nat → Sem α) (g : α → Sem β), pur P ((sizeOf ty >>= f) >>= g) = pur P (f ii.size >>= g) := fun f g => by
    show pur P (((((match P.info? ty with | some i => pure i | none => stuck "no such type") >>= fun i => pure i.size)) >>= f) >>= g) = _
    rw [hii]
    rfl
  unfold Instr.sliceAt
  rw [u1]
  show pur P (Instr.slice e (.slice none 0 0) lo hi none >>= _) = _
  unfold Instr.slice
  rw [u1]
  rcases hl with rfl | rfl <;> rcases hh with rfl | rfl <;> exact u2 _ _
theorem nilSl_lit {o : Oper} {e el i : Nat} {lo hi : Option Operand} (hu : und (tabOf P N) e = some (.slice el)) {z : Nat} (hel : sizeT (tabOf P N) el = some z) (h0 : 0 < z) (hv : t.get i = .lit (.slice none 0 0))
    (hl : lo = none ∨ ∃ x, lo = some x ∧ evalA t x = some (.lit (.int .i64 0))) (hh : hi = none ∨ ∃ x, hi = some x ∧ evalA t x = some (.lit (.int .i64 0))) (ho : o.op = .slice e (.tmp i) lo hi none) :
    litOp P o t = some (.val (.lit (.slice none 0 0))) := by
  obtain ⟨d, op, ty, ps, af, g⟩ := o
  simp only at ho
  subst ho
  have hinfo : (P.info? el).isSome = true := by
    cases hq : P.info? el with
    | some ii => rfl
    | none =>
      simp only [sizeT, Option.map_eq_some_iff, tabOf] at hel
      obtain ⟨ti, h1, h2⟩ := hel
      cases hN : N.has el with
      | false => rw [hN] at h1; cases h1
      | true =>
        rw [hN] at h1
        simp only [cond_true, Option.some.injEq] at h1
        rw [← h1] at h2
        simp only [tiOf, hq] at h2
        simp at h2
        omega
  have e0 : litEnv t (.tmp i) = .slice none 0 0 := by simp [litEnv, ev_tmp, hv, toVal]
  have key := nil_slice (P := P) (lo := lo.map (litEnv t)) (hi := hi.map (litEnv t)) (und_tab_sl hu) (by
    rcases hl with rfl | ⟨x, rfl, hx⟩
    · exact .inl rfl
    · exact .inr (by simp [litEnv, hx, toVal])) (by
    rcases hh with rfl | ⟨x, rfl, hx⟩
    · exact .inl rfl
    · exact .inr (by simp [litEnv, hx, toVal])) hinfo
  unfold litOp
  rw [if_pos]
  · show ofPR (pur P (do let x ← Instr.sliceAt e (litEnv t (.tmp i)) (lo.map (litEnv t)) (hi.map (litEnv t)) none; pure (Next.value x))) = _
    rw [e0, key]
    rfl
  · rcases hl with rfl | ⟨x, rfl, hx⟩ <;> rcases hh with rfl | ⟨y, rfl, hy⟩ <;> simp [notSelect, Op.operands, litAll, ev_tmp, hv, toVal, *]
theorem a_sl_hi {e i : Nat} {hi : Operand} (hs : isSl (t.get i) = true) (hT : szOk (tabOf P N) e = true) (hc : CapOk (szE (tabOf P N) e) (t.get i)) :
    aop P (tabOf P N) ⟨d, .slice e (.tmp i) none (some hi) none, ty, ps, af, g⟩ t h = (match evalA t hi with
      | some (.lit (.int .i64 n)) => slM h (t.get i) (szE (tabOf P N) e) 0 n (aSlR P (tabOf P N) ⟨d, .slice e (.tmp i) none (some hi) none, ty, ps, af, g⟩ t h e (.tmp i) none (some hi) none)
      | _ => aSlR P (tabOf P N) ⟨d, .slice e (.tmp i) none (some hi) none, ty, ps, af, g⟩ t h e (.tmp i) none (some hi) none) := by
  have h0 : aop P (tabOf P N) ⟨d, .slice e (.tmp i) none (some hi) none, ty, ps, af, g⟩ t h = aSlice P (tabOf P N) ⟨d, .slice e (.tmp i) none (some hi) none, ty, ps, af, g⟩ t h e (.tmp i) none (some hi) none := rfl
  rw [h0]
  split
  · rename_i n hn
    unfold slM
    split
    · rename_i hb
      obtain ⟨m, ⟨hv, hm⟩ | ⟨b, off, cap, hv⟩⟩ := SlN.of hs
      · obtain ⟨el, z, hu, hz, hzz, h0⟩ := szOk_out hT
        have hl : (lenD (t.get i)) = 0 := by rw [hv]; rfl
        obtain rfl : n = 0 := by omega
        unfold aSlice orLit
        rw [nilSl_lit hu hz h0 hv (.inl rfl) (.inr ⟨_, rfl, hn⟩) rfl, hv]
        rfl
      · unfold aSlice orLit
        rw [sl_none (i := i) (by simp [Op.operands]) hv]
        simp only [ev_tmp, optNat, hn, natA_int, if_pos hb.2.1, Option.map_some]
        have hl : (lenD (t.get i)) = m := by rw [hv]; rfl
        exact sl1_ok hT hc hv rfl rfl (by simp) (by simp; omega)
    · rfl
  · rfl
theorem a_sl_lo {e i : Nat} {lo : Operand} (hs : isSl (t.get i) = true) (hT : szOk (tabOf P N) e = true) (hc : CapOk (szE (tabOf P N) e) (t.get i)) :
    aop P (tabOf P N) ⟨d, .slice e (.tmp i) (some lo) none none, ty, ps, af, g⟩ t h = (match evalA t lo with
      | some (.lit (.int .i64 n)) => slM h (t.get i) (szE (tabOf P N) e) n (lenD (t.get i)) (aSlR P (tabOf P N) ⟨d, .slice e (.tmp i) (some lo) none none, ty, ps, af, g⟩ t h e (.tmp i) (some lo) none none)
      | _ => aSlR P (tabOf P N) ⟨d, .slice e (.tmp i) (some lo) none none, ty, ps, af, g⟩ t h e (.tmp i) (some lo) none none) := by
  have h0 : aop P (tabOf P N) ⟨d, .slice e (.tmp i) (some lo) none none, ty, ps, af, g⟩ t h = aSlice P (tabOf P N) ⟨d, .slice e (.tmp i) (some lo) none none, ty, ps, af, g⟩ t h e (.tmp i) (some lo) none none := rfl
  rw [h0]
  split
  · rename_i n hn
    unfold slM
    split
    · rename_i hb
      obtain ⟨m, ⟨hv, hm⟩ | ⟨b, off, cap, hv⟩⟩ := SlN.of hs
      · obtain ⟨el, z, hu, hz, hzz, h0⟩ := szOk_out hT
        have hl : (lenD (t.get i)) = 0 := by rw [hv]; rfl
        obtain rfl : n = 0 := by omega
        unfold aSlice orLit
        rw [nilSl_lit hu hz h0 hv (.inr ⟨_, rfl, hn⟩) (.inl rfl) rfl, hv]
        rfl
      · unfold aSlice orLit
        rw [sl_none (i := i) (by simp [Op.operands]) hv]
        simp only [ev_tmp, optNat, hn, natA_int, if_pos hb.1, Option.map_some]
        have hl : (lenD (t.get i)) = m := by rw [hv]; rfl
        rw [Int.toNat_natCast]
        exact sl1_ok hT hc hv rfl (by rw [hl]; rfl) (by simp; omega) (by omega)
    · rfl
  · rfl
theorem a_sl_lohi {e i : Nat} {lo hi : Operand} (hs : isSl (t.get i) = true) (hT : szOk (tabOf P N) e = true) (hc : CapOk (szE (tabOf P N) e) (t.get i)) :
    aop P (tabOf P N) ⟨d, .slice e (.tmp i) (some lo) (some hi) none, ty, ps, af, g⟩ t h = (match evalA t lo, evalA t hi with
      | some (.lit (.int .i64 n)), some (.lit (.int .i64 m)) => slM h (t.get i) (szE (tabOf P N) e) n m (aSlR P (tabOf P N) ⟨d, .slice e (.tmp i) (some lo) (some hi) none, ty, ps, af, g⟩ t h e (.tmp i) (some lo) (some hi) none)
      | _, _ => aSlR P (tabOf P N) ⟨d, .slice e (.tmp i) (some lo) (some hi) none, ty, ps, af, g⟩ t h e (.tmp i) (some lo) (some hi) none) := by
  have h0 : aop P (tabOf P N) ⟨d, .slice e (.tmp i) (some lo) (some hi) none, ty, ps, af, g⟩ t h = aSlice P (tabOf P N) ⟨d, .slice e (.tmp i) (some lo) (some hi) none, ty, ps, af, g⟩ t h e (.tmp i) (some lo) (some hi) none := rfl
  rw [h0]
  split
  · rename_i n k hn hk
    unfold slM
    split
    · rename_i hb
      obtain ⟨m, ⟨hv, hm⟩ | ⟨b, off, cap, hv⟩⟩ := SlN.of hs
      · obtain ⟨el, z, hu, hz, hzz, h0⟩ := szOk_out hT
        have hl : (lenD (t.get i)) = 0 := by rw [hv]; rfl
        obtain rfl : n = 0 := by omega
        obtain rfl : k = 0 := by omega
        unfold aSlice orLit
        rw [nilSl_lit hu hz h0 hv (.inr ⟨_, rfl, hn⟩) (.inr ⟨_, rfl, hk⟩) rfl, hv]
        rfl
      · unfold aSlice orLit
        rw [sl_none (i := i) (by simp [Op.operands]) hv]
        have hk0 : 0 ≤ k := by omega
        simp only [ev_tmp, optNat, hn, hk, natA_int, if_pos hb.1, if_pos hk0, Option.map_some]
        have hl : (lenD (t.get i)) = m := by rw [hv]; rfl
        exact sl1_ok hT hc hv rfl rfl (by simp; omega) (by simp; omega)
    · rfl
  · rfl
/-- Held against nil. -/
def isNil : AV → Bool
  | .lit (.slice none 0 0) => true
  | _ => false
/-- A slice held against nil. -/
theorem a_eqnil {e f : TypeId} {i : Nat} (hs : isSl (t.get i) = true) (hT : isSlT T e = true) (hN : pur P (binOp .eql e (.slice none 0 0) (.slice none 0 0)) = some (.ok (.bool true))) :
    aop P T ⟨d, .binOp .eql e (.tmp i) (.const (.slice none 0 0)) f, ty, ps, af, g⟩ t h = some (.val (.lit (.bool (isNil (t.get i)))), h) := by
  obtain ⟨el, hu⟩ := isSlT_out hT
  rw [a_bin]
  obtain ⟨n, ⟨hv, _⟩ | ⟨b, off, cap, hv⟩⟩ := SlN.of hs
  · unfold aBin
    rw [ev_tmp, hv, ev_nils]
    simp only [hN]
    rfl
  · have := binR_nil_eql (P := P) (T := T) (t := t) (h := h) (d := d) (ty := ty) (ps := ps) (af := af) (g := g) (e := e) (f := f) (i := i)
    rw [hu, hv] at this
    unfold aBinR at this
    rw [this, hv]
    rfl
theorem a_nenil {e f : TypeId} {i : Nat} (hs : isSl (t.get i) = true) (hT : isSlT T e = true) (hN : pur P (binOp .neq e (.slice none 0 0) (.slice none 0 0)) = some (.ok (.bool false))) :
    aop P T ⟨d, .binOp .neq e (.tmp i) (.const (.slice none 0 0)) f, ty, ps, af, g⟩ t h = some (.val (.lit (.bool (!isNil (t.get i)))), h) := by
  obtain ⟨el, hu⟩ := isSlT_out hT
  rw [a_bin]
  obtain ⟨n, ⟨hv, _⟩ | ⟨b, off, cap, hv⟩⟩ := SlN.of hs
  · unfold aBin
    rw [ev_tmp, hv, ev_nils]
    simp only [hN]
    rfl
  · have := binR_nil_neq (P := P) (T := T) (t := t) (h := h) (d := d) (ty := ty) (ps := ps) (af := af) (g := g) (e := e) (f := f) (i := i)
    rw [hu, hv] at this
    unfold aBinR at this
    rw [this, hv]
    rfl
theorem oneOf_0 : oneOf [] = .tup [] := rfl
theorem oneOf_1 {a : AV} : oneOf [a] = a := rfl
theorem oneOf_2 {a b : AV} : oneOf [a, b] = .tup [a, b] := rfl
theorem oneOf_3 {a b c : AV} : oneOf [a, b, c] = .tup [a, b, c] := rfl
/-! Numbers. -/
theorem nn0 (n : Nat) : ((0 : Int) ≤ (n : Int)) = True := by simp
theorem und_out {t : TypeId} {dd : TypeDesc} (hu : und (tabOf P N) t = some dd) (hne : dd ≠ .invalid) : P.underlying t = some dd := by
  have := und_tab hu
  cases hq : P.underlying t with
  | none => rw [hq] at this; exact absurd this.symm hne
  | some x => rw [hq] at this; exact congrArg some this
def boolM (h : AH) (a b : Bool) (r : AR) : BinOp → Option TypeDesc → AR
  | .eql, some .bool => some (.val (.lit (.bool (a == b))), h)
  | .neq, some .bool => some (.val (.lit (.bool (!(a == b)))), h)
  | _, _ => r
theorem boolM_eql {a b : Bool} {r : AR} : boolM h a b r .eql (some .bool) = some (.val (.lit (.bool (a == b))), h) := rfl
theorem boolM_neq {a b : Bool} {r : AR} : boolM h a b r .neq (some .bool) = some (.val (.lit (.bool (!(a == b)))), h) := rfl
theorem pur_beq {e : TypeId} {a b : Bool} (hP : P.underlying e = some .bool) : pur P (binOp .eql e (.bool a) (.bool b)) = some (.ok (.bool (a == b))) := by
  show pur P (((match P.underlying e with | some d => pure d | none => stuck "no such type") >>= _) >>= _) = _
  rw [hP]
  rfl
theorem pur_bne {e : TypeId} {a b : Bool} (hP : P.underlying e = some .bool) : pur P (binOp .neq e (.bool a) (.bool b)) = some (.ok (.bool (!(a == b)))) := by
  show pur P (((match P.underlying e with | some d => pure d | none => stuck "no such type") >>= _) >>= _) = _
  rw [hP]
  rfl
/-- What two plain values come to. -/
theorem a_bin2 {op : BinOp} {e f : TypeId} {i : Nat} {y : Operand} : aBin P (tabOf P N) ⟨d, .binOp op e (.tmp i) y f, ty, ps, af, g⟩ t h op e (.tmp i) y = (match t.get i, evalA t y with
   | .lit (.int k a), some (.lit (.int k' b)) => ofPV h (pur P (binOp op e (.int k a) (.int k' b)))
   | .lit (.bool a), some (.lit (.bool b)) => boolM h a b (aBinR P (tabOf P N) ⟨d, .binOp op e (.tmp i) y f, ty, ps, af, g⟩ t h op e (.tmp i) y) op (und (tabOf P N) e)
   | .lit (.string a), some (.lit (.string b)) => ofPV h (pur P (binOp op e (.string a) (.string b)))
   | _, _ => aBinR P (tabOf P N) ⟨d, .binOp op e (.tmp i) y f, ty, ps, af, g⟩ t h op e (.tmp i) y) := by
  split
  · rename_i k a k' b h1 h2
    exact bin_ints (by rw [ev_tmp, h1]) h2
  · rename_i a b h1 h2
    unfold boolM
    split
    · rename_i hu
      unfold aBin
      rw [ev_tmp, h1, h2]
      simp only [pur_beq (und_out hu (by simp))]
      rfl
    · rename_i hu
      unfold aBin
      rw [ev_tmp, h1, h2]
      simp only [pur_bne (und_out hu (by simp))]
      rfl
    · rfl
  · rename_i a b h1 h2
    unfold aBin
    rw [ev_tmp, h1, h2]
  · rfl
theorem a_bin_tt {op : BinOp} {e f : TypeId} {i j : Nat} : aop P T ⟨d, .binOp op e (.tmp i) (.tmp j) f, ty, ps, af, g⟩ t h = aBin P T ⟨d, .binOp op e (.tmp i) (.tmp j) f, ty, ps, af, g⟩ t h op e (.tmp i) (.tmp j) := rfl
theorem a_bin_ti {op : BinOp} {e f : TypeId} {i : Nat} {k : IntKind} {n : Int} : aop P T ⟨d, .binOp op e (.tmp i) (.const (.int k n)) f, ty, ps, af, g⟩ t h = aBin P T ⟨d, .binOp op e (.tmp i) (.const (.int k n)) f, ty, ps, af, g⟩ t h op e (.tmp i) (.const (.int k n)) := rfl
theorem a_bin_ts {op : BinOp} {e f : TypeId} {i : Nat} {n : ByteArray} : aop P T ⟨d, .binOp op e (.tmp i) (.const (.string n)) f, ty, ps, af, g⟩ t h = aBin P T ⟨d, .binOp op e (.tmp i) (.const (.string n)) f, ty, ps, af, g⟩ t h op e (.tmp i) (.const (.string n)) := rfl
theorem a_bin_it {op : BinOp} {e f : TypeId} {j : Nat} {k : IntKind} {n : Int} : aop P T ⟨d, .binOp op e (.const (.int k n)) (.tmp j) f, ty, ps, af, g⟩ t h = (match t.get j with
   | .lit (.int k' b) => ofPV h (pur P (binOp op e (.int k n) (.int k' b)))
   | _ => aBin P T ⟨d, .binOp op e (.const (.int k n)) (.tmp j) f, ty, ps, af, g⟩ t h op e (.const (.int k n)) (.tmp j)) := by
  rw [a_bin]
  split
  · rename_i k' b hb
    exact bin_ints rfl (by rw [ev_tmp, hb])
  · rfl
theorem un_not {b : Bool} : pur P (Op.unary .not (.bool b)) = some (.ok (.bool !b)) := rfl
theorem un_neg {k : IntKind} {a : Int} : pur P (Op.unary .neg (.int k a)) = some (.ok (.int k (k.wrap (0 - a)))) := rfl
theorem lit2 {o : Oper} {x y : Operand} {a b c : Value} (hx : evalA t x = some (.lit a)) (hy : evalA t y = some (.lit b)) (hops : o.op.operands = #[x, y]) (hn : notSelect o.op = true)
    (he : pur P (execOp (litEnv t) o) = some (.ok (.value c))) (hc : ofVal c = some (.lit c)) : litOp P o t = some (.val (.lit c)) := by
  unfold litOp
  rw [if_pos (by rw [hops, hn]; simp [litAll, hx, hy, toVal]), he]
  simp [ofPR, hc]
theorem a_min {x y : Operand} {t1 t2 : Nat} : aop P T ⟨d, .call ⟨.builtin .min, #[x, y], #[t1, t2]⟩, ty, ps, af, g⟩ t h = (match evalA t x, evalA t y with
    | some (.lit (.int .i64 a)), some (.lit (.int .i64 b)) => some (.val (.lit (.int .i64 (if b < a then b else a))), h)
    | _, _ => aCall P T ⟨d, .call ⟨.builtin .min, #[x, y], #[t1, t2]⟩, ty, ps, af, g⟩ t h ⟨.builtin .min, #[x, y], #[t1, t2]⟩) := by
  split
  · rename_i a b hx hy
    rw [a_call]
    have ex : litEnv t x = .int .i64 a := by simp [litEnv, hx, toVal]
    have ey : litEnv t y = .int .i64 b := by simp [litEnv, hy, toVal]
    have hl := lit2 (P := P) (o := ⟨d, .call ⟨.builtin .min, #[x, y], #[t1, t2]⟩, ty, ps, af, g⟩) (c := .int .i64 (if b < a then b else a)) hx hy (by simp [Op.operands, Call.operands]) rfl (by
      simp only [execOp, resolve]
      simp [invoke, builtin, Builtin.min_, ex, ey]
      rfl) rfl
    simp only [aCall, aBuiltin, orLit, hl]
  · rfl
theorem a_max {x y : Operand} {t1 t2 : Nat} : aop P T ⟨d, .call ⟨.builtin .max, #[x, y], #[t1, t2]⟩, ty, ps, af, g⟩ t h = (match evalA t x, evalA t y with
    | some (.lit (.int .i64 a)), some (.lit (.int .i64 b)) => some (.val (.lit (.int .i64 (if a < b then b else a))), h)
    | _, _ => aCall P T ⟨d, .call ⟨.builtin .max, #[x, y], #[t1, t2]⟩, ty, ps, af, g⟩ t h ⟨.builtin .max, #[x, y], #[t1, t2]⟩) := by
  split
  · rename_i a b hx hy
    rw [a_call]
    have ex : litEnv t x = .int .i64 a := by simp [litEnv, hx, toVal]
    have ey : litEnv t y = .int .i64 b := by simp [litEnv, hy, toVal]
    have hl := lit2 (P := P) (o := ⟨d, .call ⟨.builtin .max, #[x, y], #[t1, t2]⟩, ty, ps, af, g⟩) (c := .int .i64 (if a < b then b else a)) hx hy (by simp [Op.operands, Call.operands]) rfl (by
      simp only [execOp, resolve]
      simp [invoke, builtin, Builtin.max_, ex, ey]
      rfl) rfl
    simp only [aCall, aBuiltin, orLit, hl]
  · rfl
/-! Calls. -/
theorem a_callv {f : Operand} {xs : Array Operand} {ts : Array TypeId} : aop P T ⟨d, .call ⟨.value f, xs, ts⟩, ty, ps, af, g⟩ t h = (match evalA t f, evals t xs.toList with
    | some f, some args => (callA P f args).map (·, h)
    | _, _ => none) := rfl
theorem a_append {x y : Operand} {t1 t2 : TypeId} : aop P T ⟨d, .call ⟨.builtin .append, #[x, y], #[t1, t2]⟩, ty, ps, af, g⟩ t h = (match evalA t x, evalA t y with
    | some s, some x => (appendA T h t1 t2 s x).map fun r => (.val r.1, r.2)
    | _, _ => aCall P T ⟨d, .call ⟨.builtin .append, #[x, y], #[t1, t2]⟩, ty, ps, af, g⟩ t h ⟨.builtin .append, #[x, y], #[t1, t2]⟩) := by
  split
  · rename_i s x hs hx
    rw [a_call]
    simp only [aCall, aBuiltin, evals, hs, hx]
  · rfl
/-- What is appended, the heap behind it by name. -/
theorem WOp_app {E : FE} {o : Oper} {l : List AI} {K : KK} {t1 t2 : TypeId} {s x : AV} {Q : AV → AH → Prop} (hq : ∃ s' h', appendA T h t1 t2 s x = some (s', h') ∧ Q s' h') (hk : ∀ s' h', Q s' h' → WB P T S E (setTmp t o.dst s') l h' K) :
    WOp P T S E t o l K ((appendA T h t1 t2 s x).map fun r => (.val r.1, r.2)) := by
  obtain ⟨s', h', ha, hQ⟩ := hq
  rw [ha]
  exact hk s' h' hQ
theorem WOpD_app {E : FE} {ops : Array Oper} {M : MO ops} {i : Nat} {o : Oper} {l : List Nat} {rs : List (Nat × RD × AV)} {k : List AI} {K : KK} {t1 t2 : TypeId} {s x : AV} {Q : AV → AH → Prop} (hq : ∃ s' h', appendA T h t1 t2 s x = some (s', h') ∧ Q s' h') (hk : ∀ s' h', Q s' h' → WDM P T S E (setTmp t o.dst s') M l rs k h' K) :
    WOpD P T S E t M i o l rs k K .acts ((appendA T h t1 t2 s x).map fun r => (.val r.1, r.2)) := by
  obtain ⟨s', h', ha, hQ⟩ := hq
  rw [ha]
  exact hk s' h' hQ
theorem tri_put {α : Type} (d : α) : ∀ (f : Nat) (t : Tri α) (k : Nat) (x y : α), Tri.put d f (Tri.put d f t k x) k y = Tri.put d f t k y
  | 0, _, _, _, _ => rfl
  | f + 1, t, k, x, y => by
    simp only [Tri.put]
    cases Nat.ble k 1 with
    | true => simp only [cond_true, Tri.lt, Tri.rt]
    | false =>
      cases Nat.beq (k % 2) 0 with
      | true => simp only [cond_true, cond_false, Tri.lt, Tri.rt, Tri.top, tri_put d f]
      | false => simp only [cond_false, Tri.lt, Tri.rt, Tri.top, tri_put d f]
theorem put_push {h : AH} {x y : AB} : (h.push x).put h.n y = h.push y := by
  unfold AH.put AH.push vPut vPush
  simp only
  rw [show Nat.blt h.n (h.n + 1) = true from Nat.blt_eq.mpr (Nat.lt_succ_self _), cond_true, tri_put]
section
variable {E : FE} {ops : Array Oper} {M : MO ops} {i : Nat} {l : List Nat} {rs : List (Nat × RD × AV)} {k : List AI} {K : KK} {o : Oper} {v : AV} {h1 : AH} {f : FuncId} {a : List AV}
theorem WOpD_av : WOpD P T S E t M i o l rs k K .acts (some (.val v, h1)) = WDM P T S E (setTmp t o.dst v) M l rs k h1 K := rfl
theorem WOpD_ae : WOpD P T S E t M i o l rs k K .acts (some (.enter f a, h1)) = WC P T S f a h1 fun v h2 => WDM P T S E (setTmp t o.dst v) M l rs k h2 K := rfl
theorem WOpD_s : WOpD P T S E t M i o l rs k K .still (some (.val v, h1)) = WDM P T S E (setTmp t o.dst v) M l rs k h1 K := rfl
theorem WOpD_l : WOpD P T S E t M i o l rs k K .alloc (some (.val v, h1)) = WDM P T S E (setTmp t o.dst v) M l rs k h1 K := rfl
theorem WOpD_r : WOpD P T S E t M i o l rs k K .reads (some (.val v, h1)) = (match rdOf o t with
    | some rd => WDM P T S E (setTmp t o.dst v) M l ((i, rd, v) :: rs) k h1 K
    | none => (litOp P o t).isSome = true ∧ WDM P T S E (setTmp t o.dst v) M l rs k h1 K) := rfl
end
theorem WRegD_t {E : FE} {ops : Array Oper} {M : MO ops} {i : Nat} {l : List Nat} {rs : List (Nat × RD × AV)} {k : List AI} {K : KK} {o : Oper} : WRegD P T S E t M i l rs k h K o (some true) = WOpD P T S E t M i o l rs k K (kindOf T o) (aop P T o t h) := rfl
theorem WRegD_f {E : FE} {ops : Array Oper} {M : MO ops} {i : Nat} {l : List Nat} {rs : List (Nat × RD × AV)} {k : List AI} {K : KK} {o : Oper} : WRegD P T S E t M i l rs k h K o (some false) = WDM P T S E (setTmp t o.dst aundef) M l rs k h K := rfl
theorem waits_eq {n M i k : Nat} : waits n M i k = decide ((M >>> (n * i + k)) % 2 = 1) := by
  unfold waits
  by_cases h : (M >>> (n * i + k)) % 2 = 1
  · rw [h]; rfl
  · rw [decide_eq_false h]
    exact Bool.eq_false_iff.mpr fun hh => h (Nat.eq_of_beq_eq_true hh)
theorem dropR_nil {n m i : Nat} : dropR n m i [] = [] := rfl
theorem dropR_cons {n m i k : Nat} {r : RD} {v : AV} {rs : List (Nat × RD × AV)} : dropR n m i ((k, r, v) :: rs) = bif waits n m i k then dropR n m i rs else (k, r, v) :: dropR n m i rs := by
  unfold dropR
  rw [List.filter_cons]
  cases waits n m i k <;> rfl
theorem ld_at {h : AH} {b : Nat} {l : List AV} {e' : TypeId} (hb : h.at b = some (.cells l e')) (e : TypeId) (off : Nat) : loadA T h e b off = ldL T e l off := ld_own hb
/-! Structs and arrays that are built. -/
def placesOf (T : TT) (t : TypeId) : Option (List (Nat × Nat)) := match und T t with
  | some (.struct fs) => places T fs.toList
  | _ => none
def bdM (h : AH) : Option AV → Option (List (Nat × Nat)) → Option (List (Nat × AV)) → AR
  | some (.agg z), some pl, some ps => val h ((fillA (fun i => pl[i]?) z ps).map .agg)
  | _, _, _ => none
theorem bd_eq {e : TypeId} {p : Array (Nat × Operand)} (hp : (placesOf T e).isSome = true) : aop P T ⟨d, .build e p, ty, ps, af, g⟩ t h = bdM h (zeroT T e) (placesOf T e) (evalParts t p.toList) := by
  obtain ⟨pl, hp⟩ := Option.isSome_iff_exists.1 hp
  rw [hp]
  rw [a_build]
  unfold aBuild bdM
  unfold placesOf at hp
  split at hp
  · rename_i fs hu
    cases evalParts t p.toList with
    | none => cases zeroT T e with
      | none => rfl
      | some z => cases z <;> rfl
    | some l =>
      simp only
      unfold buildA
      rw [hu]
      cases zeroT T e with
      | none => rfl
      | some z => cases z <;> first | rfl | (simp only [hp])
  · cases hp
def arrOf (T : TT) (t : TypeId) : Option Nat := match und T t with
  | some (.array _ e) => sizeT T e
  | _ => none
theorem bda_eq {e : TypeId} {p : Array (Nat × Operand)} (hp : (arrOf T e).isSome = true) : aop P T ⟨d, .build e p, ty, ps, af, g⟩ t h = (match zeroT T e, evalParts t p.toList with
    | some (.agg z), some l => val h ((fillA (fun i => some (i * (arrOf T e).getD 0, (arrOf T e).getD 0)) z l).map .agg)
    | _, _ => none) := by
  obtain ⟨n, hp⟩ := Option.isSome_iff_exists.1 hp
  rw [hp]
  simp only [Option.getD_some]
  rw [a_build]
  unfold aBuild
  unfold arrOf at hp
  split at hp
  · rename_i m el hu
    cases evalParts t p.toList with
    | none => cases zeroT T e with
      | none => rfl
      | some z => cases z <;> rfl
    | some l =>
      simp only
      unfold buildA
      rw [hu]
      cases zeroT T e with
      | none => rfl
      | some z => cases z <;> first | rfl | (simp only [hp])
  · cases hp
/-! Reads that are held. -/
theorem hold_nil : hold T h [] = true := rfl
theorem hold_cons {i : Nat} {r : RD} {v : AV} {rs : List (Nat × RD × AV)} : hold T h ((i, r, v) :: rs) = ((match rdA T h r with | some u => AV.same 8 u v | none => false) && hold T h rs) := rfl
theorem same_int {n : Nat} {k : IntKind} {a : Int} : AV.same n (.lit (.int k a)) (.lit (.int k a)) = true := by cases n <;> cases k <;> simp [AV.same, scalEq]
theorem same_bool {n : Nat} {a : Bool} : AV.same n (.lit (.bool a)) (.lit (.bool a)) = true := by cases n <;> simp [AV.same, scalEq]
theorem same_str {n : Nat} {a : ByteArray} : AV.same n (.lit (.string a)) (.lit (.string a)) = true := by cases n <;> simp [AV.same, scalEq]
theorem same_sl {n : Nat} {v : AV} (hv : isSl v = true) : AV.same n v v = true := by
  obtain ⟨m, ⟨rfl, _⟩ | ⟨b, off, cap, rfl⟩⟩ := SlN.of hv
  · cases n <;> simp [AV.same, scalEq]
  · cases n <;> cases cap <;> simp [AV.same, capEq]
theorem same_agg {n : Nat} {l m : List AV} : AV.same (n + 1) (.agg l) (.agg m) = (l.length == m.length && (l.zip m).all fun (x, y) => AV.same n x y) := by simp [AV.same]
theorem same_one {n b i : Nat} : AV.same n (.ptr b i) (.ptr b i) = true := by cases n <;> simp [AV.same]
/-- A loop that counts. -/
theorem WB_for {E : FE} {k : List AI} {K : KK} {c : Code} (n : Nat) (Inv : Nat → TM → AH → Prop)
    (step : ∀ i t h, i < n → ((i : Int) < (n : Int)) = True → Inv i t h → (∀ t' h', Inv (i + 1) t' h' → WB P T S E t' (.lp c :: k) h' K) → WB P T S E t (.code c :: .lp c :: k) h K)
    (leave : ∀ t h, ((n : Int) < (n : Int)) = False → Inv n t h → WB P T S E t (.code c :: .lp c :: k) h K) : ∀ t h, Inv 0 t h → WB P T S E t (.lp c :: k) h K := by
  intro t h h0
  refine WB_ind (fun (i : Nat) t h => i ≤ n ∧ Inv i t h) (fun i => n - i) ?_ 0 t h ⟨Nat.zero_le _, h0⟩
  rintro i t h ⟨hi, hI⟩ ih
  by_cases hlt : i < n
  · exact step i t h hlt (by simp; omega) hI fun t' h' hI' => ih (i + 1) t' h' ⟨hlt, hI'⟩ (by omega)
  · obtain rfl : i = n := by omega
    exact leave t h (by simp) hI
end
end Go.Proofs.YtpfibijbieblnaaGreatDoor.Ex
end

section

namespace Go.Proofs.YtpfibijbieblnaaGreatDoor.Ex
open Go
set_option maxRecDepth 100000 in
theorem tabA : (fun (f : Nat → Option Bool) => f 1 = some false ∧ f 2 = some false ∧ f 3 = some false ∧ f 4 = some false ∧ f 5 = some false ∧ f 6 = some false ∧ f 7 = some true ∧ f 8 = some true ∧ f 9 = some false ∧ f 10 = some false ∧ f 11 = some false ∧ f 12 = some false ∧ f 13 = some true ∧ f 14 = some true ∧ f 15 = some false ∧ f 16 = some false ∧ f 17 = some false ∧ f 18 = some true ∧ f 19 = some true ∧ f 20 = some false ∧ f 21 = some false ∧ f 22 = some false ∧ f 23 = some false ∧ f 24 = some false ∧ f 25 = some false ∧ f 26 = some true ∧ f 27 = some true ∧ f 28 = some false ∧ f 29 = some false ∧ f 30 = some true ∧ f 31 = some true ∧ f 32 = some false ∧ f 33 = some false ∧ f 34 = some false ∧ f 35 = some false ∧ f 36 = some false ∧ f 37 = some false ∧ f 38 = some false ∧ f 39 = some false ∧ f 40 = some true ∧ f 41 = some true ∧ f 42 = some false ∧ f 44 = some false ∧ f 45 = some false ∧ f 46 = some true ∧ f 47 = some true ∧ f 48 = some true ∧ f 50 = some false ∧ f 51 = some false ∧ f 52 = some false ∧ f 53 = some false ∧ f 54 = some false ∧ f 55 = some false ∧ f 56 = some true ∧ f 57 = some true ∧ f 58 = some true ∧ f 59 = some false ∧ f 60 = some false ∧ f 61 = some false ∧ f 62 = some false ∧ f 64 = some false ∧ f 65 = some false ∧ f 67 = some false ∧ f 68 = some false ∧ f 69 = some false ∧ f 70 = some false ∧ f 72 = some false ∧ f 74 = some false ∧ f 75 = some true ∧ f 76 = some false ∧ f 77 = some false ∧ f 78 = some false ∧ f 79 = some true ∧ f 80 = some true ∧ f 81 = some true ∧ f 82 = some false ∧ f 83 = some true ∧ f 84 = some true ∧ f 85 = some true ∧ f 86 = some true ∧ f 87 = some true ∧ f 88 = some true ∧ f 89 = some true ∧ f 90 = some true ∧ f 91 = some true ∧ f 92 = some true ∧ f 93 = some true ∧ f 94 = some true ∧ f 95 = some true ∧ f 96 = some true ∧ f 97 = some false ∧ f 98 = some false ∧ f 99 = some false ∧ f 100 = some true ∧ f 101 = some false ∧ f 102 = some false ∧ f 103 = some true ∧ f 104 = some false ∧ f 105 = some false ∧ f 106 = some false ∧ f 107 = some false ∧ f 108 = some false ∧ f 109 = some false ∧ f 110 = some false ∧ f 111 = some false ∧ f 112 = some false ∧ f 113 = some false ∧ f 114 = some false ∧ f 115 = some false ∧ f 116 = some false ∧ f 117 = some false ∧ f 118 = some false ∧ f 119 = some false ∧ f 121 = some false ∧ f 122 = some false ∧ f 123 = some true ∧ f 124 = some true ∧ f 125 = some false ∧ f 126 = some false ∧ f 127 = some false ∧ f 128 = some false ∧ f 129 = some false ∧ f 130 = some false ∧ f 131 = some false ∧ f 132 = some false ∧ f 133 = some false ∧ f 134 = some false ∧ f 135 = some true ∧ f 136 = some true ∧ f 137 = some false ∧ f 138 = some false ∧ f 139 = some false ∧ f 140 = some false ∧ f 141 = some false ∧ f 142 = some false ∧ f 144 = some false ∧ f 145 = some false ∧ f 146 = some false ∧ f 147 = some false ∧ f 148 = some false ∧ f 149 = some false ∧ f 150 = some false ∧ f 151 = some false ∧ f 152 = some false ∧ f 153 = some false ∧ f 154 = some false ∧ f 155 = some false ∧ f 156 = some false ∧ f 157 = some false ∧ f 158 = some true ∧ f 159 = some true ∧ f 161 = some false ∧ f 162 = some false ∧ f 163 = some false ∧ f 164 = some false ∧ f 165 = some false ∧ f 166 = some false ∧ f 167 = some false ∧ f 168 = some false ∧ f 169 = some false ∧ f 170 = some false ∧ f 171 = some false ∧ f 172 = some false ∧ f 173 = some false ∧ f 174 = some false ∧ f 175 = some false ∧ f 176 = some false ∧ f 177 = some false ∧ f 178 = some false ∧ f 179 = some false ∧ f 181 = some false ∧ f 182 = some false ∧ f 183 = some false ∧ f 185 = some false ∧ f 186 = some false ∧ f 187 = some false ∧ f 188 = some false ∧ f 189 = some true ∧ f 190 = some false ∧ f 192 = some false ∧ f 193 = some false ∧ f 194 = some false ∧ f 195 = some false ∧ f 196 = some false ∧ f 197 = some false ∧ f 199 = some false ∧ f 200 = some false ∧ f 202 = some false ∧ f 203 = some false ∧ f 205 = some false ∧ f 206 = some false ∧ f 207 = some true ∧ f 208 = some true ∧ f 209 = some false ∧ f 210 = some false ∧ f 211 = some true ∧ f 212 = some true ∧ f 213 = some false ∧ f 214 = some true ∧ f 215 = some true ∧ f 216 = some true ∧ f 217 = some true ∧ f 218 = some false ∧ f 219 = some false ∧ f 220 = some false ∧ f 221 = some true ∧ f 222 = some true ∧ f 223 = some true ∧ f 224 = some true ∧ f 225 = some true ∧ f 226 = some true ∧ f 227 = some true ∧ f 228 = some true ∧ f 229 = some false ∧ f 230 = some false ∧ f 231 = some false ∧ f 232 = some false ∧ f 233 = some false ∧ f 234 = some false ∧ f 235 = some true ∧ f 236 = some true ∧ f 237 = some false) (isAggT (tabOf Tryz.prog NT0)) := by (repeat' apply And.intro) <;> kernel_rfl
set_option maxRecDepth 100000 in
theorem tabS : (fun (f : Nat → Option Nat) => f 1 = some 1 ∧ f 2 = some 1 ∧ f 3 = some 1 ∧ f 4 = some 1 ∧ f 5 = some 1 ∧ f 6 = some 1 ∧ f 7 = some 4 ∧ f 8 = some 4 ∧ f 9 = some 1 ∧ f 10 = some 1 ∧ f 11 = some 1 ∧ f 12 = some 1 ∧ f 13 = some 2 ∧ f 14 = some 2 ∧ f 15 = some 1 ∧ f 16 = some 1 ∧ f 17 = some 1 ∧ f 18 = some 1 ∧ f 19 = some 1 ∧ f 20 = some 1 ∧ f 21 = some 1 ∧ f 22 = some 1 ∧ f 23 = some 1 ∧ f 24 = some 1 ∧ f 25 = some 1 ∧ f 26 = some 2 ∧ f 27 = some 2 ∧ f 28 = some 1 ∧ f 29 = some 1 ∧ f 30 = some 2 ∧ f 31 = some 2 ∧ f 32 = some 1 ∧ f 33 = some 1 ∧ f 34 = some 1 ∧ f 35 = some 1 ∧ f 36 = some 1 ∧ f 37 = some 1 ∧ f 38 = some 1 ∧ f 39 = some 1 ∧ f 40 = some 2 ∧ f 41 = some 2 ∧ f 42 = some 1 ∧ f 44 = some 1 ∧ f 45 = some 1 ∧ f 46 = some 32 ∧ f 47 = some 35 ∧ f 48 = some 35 ∧ f 50 = some 1 ∧ f 51 = some 1 ∧ f 52 = some 1 ∧ f 53 = some 1 ∧ f 54 = some 1 ∧ f 55 = some 1 ∧ f 56 = some 33 ∧ f 57 = some 33 ∧ f 58 = some 33 ∧ f 59 = some 1 ∧ f 60 = some 1 ∧ f 61 = some 1 ∧ f 62 = some 1 ∧ f 64 = some 1 ∧ f 65 = some 1 ∧ f 67 = some 1 ∧ f 68 = some 1 ∧ f 69 = some 1 ∧ f 70 = some 1 ∧ f 72 = some 1 ∧ f 74 = some 1 ∧ f 75 = some 3 ∧ f 76 = some 1 ∧ f 77 = some 1 ∧ f 78 = some 1 ∧ f 79 = some 0 ∧ f 80 = some 0 ∧ f 81 = some 0 ∧ f 82 = some 1 ∧ f 83 = some 1 ∧ f 84 = some 1 ∧ f 85 = some 2 ∧ f 86 = some 2 ∧ f 87 = some 2 ∧ f 88 = some 2 ∧ f 89 = some 3 ∧ f 90 = some 3 ∧ f 91 = some 256 ∧ f 92 = some 0 ∧ f 93 = some 1 ∧ f 94 = some 1 ∧ f 95 = some 260 ∧ f 96 = some 260 ∧ f 97 = some 1 ∧ f 98 = some 1 ∧ f 99 = some 1 ∧ f 100 = some 8 ∧ f 101 = some 1 ∧ f 102 = some 1 ∧ f 103 = some 64 ∧ f 104 = some 1 ∧ f 105 = some 1 ∧ f 106 = some 1 ∧ f 107 = some 1 ∧ f 108 = some 1 ∧ f 109 = some 1 ∧ f 110 = some 1 ∧ f 111 = some 1 ∧ f 112 = some 1 ∧ f 113 = some 1 ∧ f 114 = some 1 ∧ f 115 = some 1 ∧ f 116 = some 1 ∧ f 117 = some 1 ∧ f 118 = some 1 ∧ f 119 = some 1 ∧ f 121 = some 1 ∧ f 122 = some 1 ∧ f 123 = some 2 ∧ f 124 = some 2 ∧ f 125 = some 1 ∧ f 126 = some 1 ∧ f 127 = some 1 ∧ f 128 = some 1 ∧ f 129 = some 1 ∧ f 130 = some 1 ∧ f 131 = some 1 ∧ f 132 = some 1 ∧ f 133 = some 1 ∧ f 134 = some 1 ∧ f 135 = some 2 ∧ f 136 = some 2 ∧ f 137 = some 1 ∧ f 138 = some 1 ∧ f 139 = some 1 ∧ f 140 = some 1 ∧ f 141 = some 1 ∧ f 142 = some 1 ∧ f 144 = some 1 ∧ f 145 = some 1 ∧ f 146 = some 1 ∧ f 147 = some 1 ∧ f 148 = some 1 ∧ f 149 = some 1 ∧ f 150 = some 1 ∧ f 151 = some 1 ∧ f 152 = some 1 ∧ f 153 = some 1 ∧ f 154 = some 1 ∧ f 155 = some 1 ∧ f 156 = some 1 ∧ f 157 = some 1 ∧ f 158 = some 256 ∧ f 159 = some 256 ∧ f 161 = some 1 ∧ f 162 = some 1 ∧ f 163 = some 1 ∧ f 164 = some 1 ∧ f 165 = some 1 ∧ f 166 = some 1 ∧ f 167 = some 1 ∧ f 168 = some 1 ∧ f 169 = some 1 ∧ f 170 = some 1 ∧ f 171 = some 1 ∧ f 172 = some 1 ∧ f 173 = some 1 ∧ f 174 = some 1 ∧ f 175 = some 1 ∧ f 176 = some 1 ∧ f 177 = some 1 ∧ f 178 = some 1 ∧ f 179 = some 1 ∧ f 181 = some 1 ∧ f 182 = some 1 ∧ f 183 = some 1 ∧ f 185 = some 1 ∧ f 186 = some 1 ∧ f 187 = some 1 ∧ f 188 = some 1 ∧ f 189 = some 24 ∧ f 190 = some 1 ∧ f 192 = some 1 ∧ f 193 = some 1 ∧ f 194 = some 1 ∧ f 195 = some 1 ∧ f 196 = some 1 ∧ f 197 = some 1 ∧ f 199 = some 1 ∧ f 200 = some 1 ∧ f 202 = some 1 ∧ f 203 = some 1 ∧ f 205 = some 1 ∧ f 206 = some 1 ∧ f 207 = some 3 ∧ f 208 = some 3 ∧ f 209 = some 1 ∧ f 210 = some 1 ∧ f 211 = some 20 ∧ f 212 = some 65 ∧ f 213 = some 1 ∧ f 214 = some 256 ∧ f 215 = some 2 ∧ f 216 = some 2 ∧ f 217 = some 32 ∧ f 218 = some 1 ∧ f 219 = some 1 ∧ f 220 = some 1 ∧ f 221 = some 1 ∧ f 222 = some 1 ∧ f 223 = some 64 ∧ f 224 = some 4 ∧ f 225 = some 4 ∧ f 226 = some 0 ∧ f 227 = some 0 ∧ f 228 = some 0 ∧ f 229 = some 1 ∧ f 230 = some 1 ∧ f 231 = some 1 ∧ f 232 = some 1 ∧ f 233 = some 1 ∧ f 234 = some 1 ∧ f 235 = some 11 ∧ f 236 = some 11 ∧ f 237 = some 1) (sizeT (tabOf Tryz.prog NT0)) := by (repeat' apply And.intro) <;> kernel_rfl
set_option maxRecDepth 100000 in
theorem tabB : (fun (f : Nat → Option Nat) => f 1 = some 8 ∧ f 2 = some 8 ∧ f 3 = some 8 ∧ f 4 = some 1 ∧ f 5 = some 1 ∧ f 6 = some 1 ∧ f 7 = some 24 ∧ f 8 = some 24 ∧ f 9 = some 16 ∧ f 10 = some 16 ∧ f 11 = some 16 ∧ f 12 = some 8 ∧ f 13 = some 24 ∧ f 14 = some 24 ∧ f 15 = some 8 ∧ f 16 = some 8 ∧ f 17 = some 8 ∧ f 18 = some 8 ∧ f 19 = some 8 ∧ f 20 = some 16 ∧ f 21 = some 4 ∧ f 22 = some 24 ∧ f 23 = some 24 ∧ f 24 = some 8 ∧ f 25 = some 24 ∧ f 26 = some 40 ∧ f 27 = some 40 ∧ f 28 = some 8 ∧ f 29 = some 24 ∧ f 30 = some 40 ∧ f 31 = some 40 ∧ f 32 = some 8 ∧ f 33 = some 8 ∧ f 34 = some 8 ∧ f 35 = some 8 ∧ f 36 = some 8 ∧ f 37 = some 8 ∧ f 38 = some 24 ∧ f 39 = some 24 ∧ f 40 = some 48 ∧ f 41 = some 48 ∧ f 42 = some 8 ∧ f 44 = some 8 ∧ f 45 = some 8 ∧ f 46 = some 32 ∧ f 47 = some 72 ∧ f 48 = some 72 ∧ f 50 = some 8 ∧ f 51 = some 8 ∧ f 52 = some 8 ∧ f 53 = some 8 ∧ f 54 = some 8 ∧ f 55 = some 8 ∧ f 56 = some 40 ∧ f 57 = some 40 ∧ f 58 = some 40 ∧ f 59 = some 8 ∧ f 60 = some 8 ∧ f 61 = some 8 ∧ f 62 = some 8 ∧ f 64 = some 8 ∧ f 65 = some 8 ∧ f 67 = some 8 ∧ f 68 = some 8 ∧ f 69 = some 8 ∧ f 70 = some 8 ∧ f 72 = some 8 ∧ f 74 = some 8 ∧ f 75 = some 24 ∧ f 76 = some 8 ∧ f 77 = some 8 ∧ f 78 = some 8 ∧ f 79 = some 0 ∧ f 80 = some 0 ∧ f 81 = some 0 ∧ f 82 = some 4 ∧ f 83 = some 4 ∧ f 84 = some 4 ∧ f 85 = some 8 ∧ f 86 = some 8 ∧ f 87 = some 8 ∧ f 88 = some 8 ∧ f 89 = some 12 ∧ f 90 = some 12 ∧ f 91 = some 1024 ∧ f 92 = some 0 ∧ f 93 = some 8 ∧ f 94 = some 8 ∧ f 95 = some 1048 ∧ f 96 = some 1048 ∧ f 97 = some 8 ∧ f 98 = some 24 ∧ f 99 = some 8 ∧ f 100 = some 32 ∧ f 101 = some 8 ∧ f 102 = some 8 ∧ f 103 = some 256 ∧ f 104 = some 8 ∧ f 105 = some 8 ∧ f 106 = some 8 ∧ f 107 = some 8 ∧ f 108 = some 8 ∧ f 109 = some 8 ∧ f 110 = some 8 ∧ f 111 = some 8 ∧ f 112 = some 8 ∧ f 113 = some 8 ∧ f 114 = some 8 ∧ f 115 = some 8 ∧ f 116 = some 8 ∧ f 117 = some 8 ∧ f 118 = some 16 ∧ f 119 = some 16 ∧ f 121 = some 8 ∧ f 122 = some 8 ∧ f 123 = some 281474976710689 ∧ f 124 = some 281474976710689 ∧ f 125 = some 8 ∧ f 126 = some 8 ∧ f 127 = some 8 ∧ f 128 = some 8 ∧ f 129 = some 8 ∧ f 130 = some 8 ∧ f 131 = some 8 ∧ f 132 = some 8 ∧ f 133 = some 8 ∧ f 134 = some 8 ∧ f 135 = some 16 ∧ f 136 = some 16 ∧ f 137 = some 8 ∧ f 138 = some 8 ∧ f 139 = some 8 ∧ f 140 = some 8 ∧ f 141 = some 8 ∧ f 142 = some 8 ∧ f 144 = some 8 ∧ f 145 = some 8 ∧ f 146 = some 8 ∧ f 147 = some 8 ∧ f 148 = some 8 ∧ f 149 = some 8 ∧ f 150 = some 8 ∧ f 151 = some 8 ∧ f 152 = some 8 ∧ f 153 = some 8 ∧ f 154 = some 8 ∧ f 155 = some 8 ∧ f 156 = some 8 ∧ f 157 = some 8 ∧ f 158 = some 256 ∧ f 159 = some 256 ∧ f 161 = some 8 ∧ f 162 = some 8 ∧ f 163 = some 8 ∧ f 164 = some 8 ∧ f 165 = some 8 ∧ f 166 = some 8 ∧ f 167 = some 8 ∧ f 168 = some 8 ∧ f 169 = some 8 ∧ f 170 = some 8 ∧ f 171 = some 8 ∧ f 172 = some 8 ∧ f 173 = some 8 ∧ f 174 = some 8 ∧ f 175 = some 8 ∧ f 176 = some 8 ∧ f 177 = some 8 ∧ f 178 = some 8 ∧ f 179 = some 8 ∧ f 181 = some 8 ∧ f 182 = some 8 ∧ f 183 = some 8 ∧ f 185 = some 8 ∧ f 186 = some 8 ∧ f 187 = some 8 ∧ f 188 = some 8 ∧ f 189 = some 24 ∧ f 190 = some 8 ∧ f 192 = some 8 ∧ f 193 = some 8 ∧ f 194 = some 8 ∧ f 195 = some 8 ∧ f 196 = some 8 ∧ f 197 = some 8 ∧ f 199 = some 8 ∧ f 200 = some 8 ∧ f 202 = some 8 ∧ f 203 = some 8 ∧ f 205 = some 8 ∧ f 206 = some 8 ∧ f 207 = some 48 ∧ f 208 = some 48 ∧ f 209 = some 8 ∧ f 210 = some 8 ∧ f 211 = some 160 ∧ f 212 = some 65 ∧ f 213 = some 8 ∧ f 214 = some 256 ∧ f 215 = some 2 ∧ f 216 = some 2 ∧ f 217 = some 32 ∧ f 218 = some 8 ∧ f 219 = some 8 ∧ f 220 = some 8 ∧ f 221 = some 16 ∧ f 222 = some 16 ∧ f 223 = some 64 ∧ f 224 = some 40 ∧ f 225 = some 40 ∧ f 226 = some 0 ∧ f 227 = some 0 ∧ f 228 = some 0 ∧ f 229 = some 8 ∧ f 230 = some 1 ∧ f 231 = some 1 ∧ f 232 = some 8 ∧ f 233 = some 4 ∧ f 234 = some 4 ∧ f 235 = some 48 ∧ f 236 = some 48 ∧ f 237 = some 8) (bytesT (tabOf Tryz.prog NT0)) := by (repeat' apply And.intro) <;> kernel_rfl
set_option maxRecDepth 100000 in
theorem tabZ : (fun (f : Nat → Option AV) (sl iz pz tz bz fz : AV) => f 1 = some fz ∧ f 2 = some iz ∧ f 3 = some iz ∧ f 4 = some bz ∧ f 5 = some (.lit (.int .u8 0)) ∧ f 6 = some (.lit (.int .u8 0)) ∧ f 7 = some (.agg [iz, iz, bz, (.lit (.int .u8 0))]) ∧ f 8 = some (.agg [iz, iz, bz, (.lit (.int .u8 0))]) ∧ f 9 = some tz ∧ f 10 = some tz ∧ f 11 = some tz ∧ f 12 = some (.lit (.int .u64 0)) ∧ f 13 = some (.agg [tz, (.lit (.int .u64 0))]) ∧ f 14 = some (.agg [tz, (.lit (.int .u64 0))]) ∧ f 15 = some pz ∧ f 16 = some pz ∧ f 17 = some pz ∧ f 18 = some (.agg [pz]) ∧ f 19 = some (.agg [pz]) ∧ f 20 = some (.lit .nilIface) ∧ f 21 = some (.lit (.int .i32 0)) ∧ f 22 = some sl ∧ f 23 = some sl ∧ f 24 = some fz ∧ f 25 = some sl ∧ f 26 = some (.agg [tz, sl]) ∧ f 27 = some (.agg [tz, sl]) ∧ f 28 = some fz ∧ f 29 = some sl ∧ f 30 = some (.agg [tz, sl]) ∧ f 31 = some (.agg [tz, sl]) ∧ f 32 = some fz ∧ f 33 = some fz ∧ f 34 = some fz ∧ f 35 = some fz ∧ f 36 = some fz ∧ f 37 = some fz ∧ f 38 = some sl ∧ f 39 = some sl ∧ f 40 = some (.agg [sl, sl]) ∧ f 41 = some (.agg [sl, sl]) ∧ f 42 = some iz ∧ f 44 = some fz ∧ f 45 = some fz ∧ f 46 = some (.agg [(.lit (.int .u8 0)), (.lit (.int .u8 0)), (.lit (.int .u8 0)), (.lit (.int .u8 0)), (.lit (.int .u8 0)), (.lit (.int .u8 0)), (.lit (.int .u8 0)), (.lit (.int .u8 0)), (.lit (.int .u8 0)), (.lit (.int .u8 0)), (.lit (.int .u8 0)), (.lit (.int .u8 0)), (.lit (.int .u8 0)), (.lit (.int .u8 0)), (.lit (.int .u8 0)), (.lit (.int .u8 0)), (.lit (.int .u8 0)), (.lit (.int .u8 0)), (.lit (.int .u8 0)), (.lit (.int .u8 0)), (.lit (.int .u8 0)), (.lit (.int .u8 0)), (.lit (.int .u8 0)), (.lit (.int .u8 0)), (.lit (.int .u8 0)), (.lit (.int .u8 0)), (.lit (.int .u8 0)), (.lit (.int .u8 0)), (.lit (.int .u8 0)), (.lit (.int .u8 0)), (.lit (.int .u8 0)), (.lit (.int .u8 0))]) ∧ f 47 = some (.agg [tz, tz, iz, (.lit (.int .u8 0)), (.lit (.int .u8 0)), (.lit (.int .u8 0)), (.lit (.int .u8 0)), (.lit (.int .u8 0)), (.lit (.int .u8 0)), (.lit (.int .u8 0)), (.lit (.int .u8 0)), (.lit (.int .u8 0)), (.lit (.int .u8 0)), (.lit (.int .u8 0)), (.lit (.int .u8 0)), (.lit (.int .u8 0)), (.lit (.int .u8 0)), (.lit (.int .u8 0)), (.lit (.int .u8 0)), (.lit (.int .u8 0)), (.lit (.int .u8 0)), (.lit (.int .u8 0)), (.lit (.int .u8 0)), (.lit (.int .u8 0)), (.lit (.int .u8 0)), (.lit (.int .u8 0)), (.lit (.int .u8 0)), (.lit (.int .u8 0)), (.lit (.int .u8 0)), (.lit (.int .u8 0)), (.lit (.int .u8 0)), (.lit (.int .u8 0)), (.lit (.int .u8 0)), (.lit (.int .u8 0)), (.lit (.int .u8 0))]) ∧ f 48 = some (.agg [tz, tz, iz, (.lit (.int .u8 0)), (.lit (.int .u8 0)), (.lit (.int .u8 0)), (.lit (.int .u8 0)), (.lit (.int .u8 0)), (.lit (.int .u8 0)), (.lit (.int .u8 0)), (.lit (.int .u8 0)), (.lit (.int .u8 0)), (.lit (.int .u8 0)), (.lit (.int .u8 0)), (.lit (.int .u8 0)), (.lit (.int .u8 0)), (.lit (.int .u8 0)), (.lit (.int .u8 0)), (.lit (.int .u8 0)), (.lit (.int .u8 0)), (.lit (.int .u8 0)), (.lit (.int .u8 0)), (.lit (.int .u8 0)), (.lit (.int .u8 0)), (.lit (.int .u8 0)), (.lit (.int .u8 0)), (.lit (.int .u8 0)), (.lit (.int .u8 0)), (.lit (.int .u8 0)), (.lit (.int .u8 0)), (.lit (.int .u8 0)), (.lit (.int .u8 0)), (.lit (.int .u8 0)), (.lit (.int .u8 0)), (.lit (.int .u8 0))]) ∧ f 50 = some fz ∧ f 51 = some fz ∧ f 52 = some fz ∧ f 53 = some pz ∧ f 54 = some fz ∧ f 55 = some fz ∧ f 56 = some (.agg [iz, (.lit (.int .u8 0)), (.lit (.int .u8 0)), (.lit (.int .u8 0)), (.lit (.int .u8 0)), (.lit (.int .u8 0)), (.lit (.int .u8 0)), (.lit (.int .u8 0)), (.lit (.int .u8 0)), (.lit (.int .u8 0)), (.lit (.int .u8 0)), (.lit (.int .u8 0)), (.lit (.int .u8 0)), (.lit (.int .u8 0)), (.lit (.int .u8 0)), (.lit (.int .u8 0)), (.lit (.int .u8 0)), (.lit (.int .u8 0)), (.lit (.int .u8 0)), (.lit (.int .u8 0)), (.lit (.int .u8 0)), (.lit (.int .u8 0)), (.lit (.int .u8 0)), (.lit (.int .u8 0)), (.lit (.int .u8 0)), (.lit (.int .u8 0)), (.lit (.int .u8 0)), (.lit (.int .u8 0)), (.lit (.int .u8 0)), (.lit (.int .u8 0)), (.lit (.int .u8 0)), (.lit (.int .u8 0)), (.lit (.int .u8 0))]) ∧ f 57 = some (.agg [iz, (.lit (.int .u8 0)), (.lit (.int .u8 0)), (.lit (.int .u8 0)), (.lit (.int .u8 0)), (.lit (.int .u8 0)), (.lit (.int .u8 0)), (.lit (.int .u8 0)), (.lit (.int .u8 0)), (.lit (.int .u8 0)), (.lit (.int .u8 0)), (.lit (.int .u8 0)), (.lit (.int .u8 0)), (.lit (.int .u8 0)), (.lit (.int .u8 0)), (.lit (.int .u8 0)), (.lit (.int .u8 0)), (.lit (.int .u8 0)), (.lit (.int .u8 0)), (.lit (.int .u8 0)), (.lit (.int .u8 0)), (.lit (.int .u8 0)), (.lit (.int .u8 0)), (.lit (.int .u8 0)), (.lit (.int .u8 0)), (.lit (.int .u8 0)), (.lit (.int .u8 0)), (.lit (.int .u8 0)), (.lit (.int .u8 0)), (.lit (.int .u8 0)), (.lit (.int .u8 0)), (.lit (.int .u8 0)), (.lit (.int .u8 0))]) ∧ f 58 = some (.agg [iz, (.lit (.int .u8 0)), (.lit (.int .u8 0)), (.lit (.int .u8 0)), (.lit (.int .u8 0)), (.lit (.int .u8 0)), (.lit (.int .u8 0)), (.lit (.int .u8 0)), (.lit (.int .u8 0)), (.lit (.int .u8 0)), (.lit (.int .u8 0)), (.lit (.int .u8 0)), (.lit (.int .u8 0)), (.lit (.int .u8 0)), (.lit (.int .u8 0)), (.lit (.int .u8 0)), (.lit (.int .u8 0)), (.lit (.int .u8 0)), (.lit (.int .u8 0)), (.lit (.int .u8 0)), (.lit (.int .u8 0)), (.lit (.int .u8 0)), (.lit (.int .u8 0)), (.lit (.int .u8 0)), (.lit (.int .u8 0)), (.lit (.int .u8 0)), (.lit (.int .u8 0)), (.lit (.int .u8 0)), (.lit (.int .u8 0)), (.lit (.int .u8 0)), (.lit (.int .u8 0)), (.lit (.int .u8 0)), (.lit (.int .u8 0))]) ∧ f 59 = some fz ∧ f 60 = some fz ∧ f 61 = some fz ∧ f 62 = some fz ∧ f 64 = some fz ∧ f 65 = some fz ∧ f 67 = some fz ∧ f 68 = some fz ∧ f 69 = some fz ∧ f 70 = some fz ∧ f 72 = some fz ∧ f 74 = some fz ∧ f 75 = some (.agg [iz, iz, iz]) ∧ f 76 = some fz ∧ f 77 = some fz ∧ f 78 = some fz ∧ f 79 = some (.agg []) ∧ f 80 = some (.agg []) ∧ f 81 = some (.agg []) ∧ f 82 = some (.lit (.int .u32 0)) ∧ f 83 = some (.agg [(.lit (.int .u32 0))]) ∧ f 84 = some (.agg [(.lit (.int .u32 0))]) ∧ f 85 = some (.agg [(.lit (.int .i32 0)), (.lit (.int .u32 0))]) ∧ f 86 = some (.agg [(.lit (.int .i32 0)), (.lit (.int .u32 0))]) ∧ f 87 = some (.agg [(.lit (.int .i32 0)), (.lit (.int .u32 0))]) ∧ f 88 = some (.agg [(.lit (.int .i32 0)), (.lit (.int .u32 0))]) ∧ f 89 = some (.agg [(.lit (.int .u32 0)), (.lit (.int .i32 0)), (.lit (.int .u32 0))]) ∧ f 90 = some (.agg [(.lit (.int .u32 0)), (.lit (.int .i32 0)), (.lit (.int .u32 0))]) ∧ f 92 = some (.agg []) ∧ f 93 = some (.agg [iz]) ∧ f 94 = some (.agg [iz]) ∧ f 97 = some fz ∧ f 98 = some sl ∧ f 99 = some fz ∧ f 100 = some (.agg [(.lit (.int .u32 0)), (.lit (.int .u32 0)), (.lit (.int .u32 0)), (.lit (.int .u32 0)), (.lit (.int .u32 0)), (.lit (.int .u32 0)), (.lit (.int .u32 0)), (.lit (.int .u32 0))]) ∧ f 101 = some fz ∧ f 102 = some (.lit (.int .u64 0)) ∧ f 103 = some (.agg [(.lit (.int .u32 0)), (.lit (.int .u32 0)), (.lit (.int .u32 0)), (.lit (.int .u32 0)), (.lit (.int .u32 0)), (.lit (.int .u32 0)), (.lit (.int .u32 0)), (.lit (.int .u32 0)), (.lit (.int .u32 0)), (.lit (.int .u32 0)), (.lit (.int .u32 0)), (.lit (.int .u32 0)), (.lit (.int .u32 0)), (.lit (.int .u32 0)), (.lit (.int .u32 0)), (.lit (.int .u32 0)), (.lit (.int .u32 0)), (.lit (.int .u32 0)), (.lit (.int .u32 0)), (.lit (.int .u32 0)), (.lit (.int .u32 0)), (.lit (.int .u32 0)), (.lit (.int .u32 0)), (.lit (.int .u32 0)), (.lit (.int .u32 0)), (.lit (.int .u32 0)), (.lit (.int .u32 0)), (.lit (.int .u32 0)), (.lit (.int .u32 0)), (.lit (.int .u32 0)), (.lit (.int .u32 0)), (.lit (.int .u32 0)), (.lit (.int .u32 0)), (.lit (.int .u32 0)), (.lit (.int .u32 0)), (.lit (.int .u32 0)), (.lit (.int .u32 0)), (.lit (.int .u32 0)), (.lit (.int .u32 0)), (.lit (.int .u32 0)), (.lit (.int .u32 0)), (.lit (.int .u32 0)), (.lit (.int .u32 0)), (.lit (.int .u32 0)), (.lit (.int .u32 0)), (.lit (.int .u32 0)), (.lit (.int .u32 0)), (.lit (.int .u32 0)), (.lit (.int .u32 0)), (.lit (.int .u32 0)), (.lit (.int .u32 0)), (.lit (.int .u32 0)), (.lit (.int .u32 0)), (.lit (.int .u32 0)), (.lit (.int .u32 0)), (.lit (.int .u32 0)), (.lit (.int .u32 0)), (.lit (.int .u32 0)), (.lit (.int .u32 0)), (.lit (.int .u32 0)), (.lit (.int .u32 0)), (.lit (.int .u32 0)), (.lit (.int .u32 0)), (.lit (.int .u32 0))]) ∧ f 104 = some (.lit (.int .u64 0)) ∧ f 105 = some fz ∧ f 106 = some (.lit (.map none)) ∧ f 107 = some fz ∧ f 108 = some fz ∧ f 109 = some fz ∧ f 110 = some fz ∧ f 111 = some fz ∧ f 112 = some fz ∧ f 113 = some fz ∧ f 114 = some fz ∧ f 115 = some fz ∧ f 116 = some fz ∧ f 117 = some fz ∧ f 118 = some (.lit .nilIface) ∧ f 119 = some (.lit .nilIface) ∧ f 121 = some fz ∧ f 122 = some pz ∧ f 123 = some (.agg [pz, sl]) ∧ f 124 = some (.agg [pz, sl]) ∧ f 125 = some fz ∧ f 126 = some fz ∧ f 127 = some fz ∧ f 128 = some pz ∧ f 129 = some fz ∧ f 130 = some pz ∧ f 131 = some fz ∧ f 132 = some fz ∧ f 133 = some pz ∧ f 134 = some pz ∧ f 135 = some (.agg [(.lit (.int .u64 0)), (.lit (.int .u64 0))]) ∧ f 136 = some (.agg [(.lit (.int .u64 0)), (.lit (.int .u64 0))]) ∧ f 137 = some fz ∧ f 138 = some fz ∧ f 139 = some fz ∧ f 140 = some fz ∧ f 141 = some fz ∧ f 142 = some iz ∧ f 144 = some fz ∧ f 145 = some fz ∧ f 146 = some fz ∧ f 147 = some fz ∧ f 148 = some fz ∧ f 149 = some fz ∧ f 150 = some fz ∧ f 151 = some fz ∧ f 152 = some fz ∧ f 153 = some fz ∧ f 154 = some fz ∧ f 155 = some fz ∧ f 156 = some fz ∧ f 157 = some fz ∧ f 161 = some fz ∧ f 162 = some fz ∧ f 163 = some pz ∧ f 164 = some fz ∧ f 165 = some fz ∧ f 166 = some pz ∧ f 167 = some fz ∧ f 168 = some fz ∧ f 169 = some (.lit (.int .u64 0)) ∧ f 170 = some fz ∧ f 171 = some fz ∧ f 172 = some fz ∧ f 173 = some pz ∧ f 174 = some fz ∧ f 175 = some fz ∧ f 176 = some fz ∧ f 177 = some fz ∧ f 178 = some fz ∧ f 179 = some fz ∧ f 181 = some fz ∧ f 182 = some fz ∧ f 183 = some iz ∧ f 185 = some fz ∧ f 186 = some pz ∧ f 187 = some fz ∧ f 188 = some fz ∧ f 189 = some (.agg [(.lit (.int .u8 0)), (.lit (.int .u8 0)), (.lit (.int .u8 0)), (.lit (.int .u8 0)), (.lit (.int .u8 0)), (.lit (.int .u8 0)), (.lit (.int .u8 0)), (.lit (.int .u8 0)), (.lit (.int .u8 0)), (.lit (.int .u8 0)), (.lit (.int .u8 0)), (.lit (.int .u8 0)), (.lit (.int .u8 0)), (.lit (.int .u8 0)), (.lit (.int .u8 0)), (.lit (.int .u8 0)), (.lit (.int .u8 0)), (.lit (.int .u8 0)), (.lit (.int .u8 0)), (.lit (.int .u8 0)), (.lit (.int .u8 0)), (.lit (.int .u8 0)), (.lit (.int .u8 0)), (.lit (.int .u8 0))]) ∧ f 190 = some fz ∧ f 192 = some fz ∧ f 193 = some pz ∧ f 194 = some fz ∧ f 195 = some fz ∧ f 196 = some fz ∧ f 197 = some pz ∧ f 199 = some fz ∧ f 200 = some fz ∧ f 202 = some fz ∧ f 203 = some fz ∧ f 205 = some fz ∧ f 206 = some fz ∧ f 207 = some (.agg [tz, tz, (.lit .nilIface)]) ∧ f 208 = some (.agg [tz, tz, (.lit .nilIface)]) ∧ f 209 = some fz ∧ f 210 = some fz ∧ f 211 = some (.agg [(.lit (.int .u64 0)), (.lit (.int .u64 0)), (.lit (.int .u64 0)), (.lit (.int .u64 0)), (.lit (.int .u64 0)), (.lit (.int .u64 0)), (.lit (.int .u64 0)), (.lit (.int .u64 0)), (.lit (.int .u64 0)), (.lit (.int .u64 0)), (.lit (.int .u64 0)), (.lit (.int .u64 0)), (.lit (.int .u64 0)), (.lit (.int .u64 0)), (.lit (.int .u64 0)), (.lit (.int .u64 0)), (.lit (.int .u64 0)), (.lit (.int .u64 0)), (.lit (.int .u64 0)), (.lit (.int .u64 0))]) ∧ f 213 = some fz ∧ f 215 = some (.agg [(.lit (.int .u8 0)), (.lit (.int .u8 0))]) ∧ f 216 = some (.agg [(.lit (.int .u8 0)), (.lit (.int .u8 0))]) ∧ f 217 = some (.agg [(.lit (.int .u8 0)), (.lit (.int .u8 0)), (.lit (.int .u8 0)), (.lit (.int .u8 0)), (.lit (.int .u8 0)), (.lit (.int .u8 0)), (.lit (.int .u8 0)), (.lit (.int .u8 0)), (.lit (.int .u8 0)), (.lit (.int .u8 0)), (.lit (.int .u8 0)), (.lit (.int .u8 0)), (.lit (.int .u8 0)), (.lit (.int .u8 0)), (.lit (.int .u8 0)), (.lit (.int .u8 0)), (.lit (.int .u8 0)), (.lit (.int .u8 0)), (.lit (.int .u8 0)), (.lit (.int .u8 0)), (.lit (.int .u8 0)), (.lit (.int .u8 0)), (.lit (.int .u8 0)), (.lit (.int .u8 0)), (.lit (.int .u8 0)), (.lit (.int .u8 0)), (.lit (.int .u8 0)), (.lit (.int .u8 0)), (.lit (.int .u8 0)), (.lit (.int .u8 0)), (.lit (.int .u8 0)), (.lit (.int .u8 0))]) ∧ f 218 = some fz ∧ f 219 = some fz ∧ f 220 = some pz ∧ f 221 = some (.agg [tz]) ∧ f 222 = some (.agg [tz]) ∧ f 223 = some (.agg [(.lit (.int .u8 0)), (.lit (.int .u8 0)), (.lit (.int .u8 0)), (.lit (.int .u8 0)), (.lit (.int .u8 0)), (.lit (.int .u8 0)), (.lit (.int .u8 0)), (.lit (.int .u8 0)), (.lit (.int .u8 0)), (.lit (.int .u8 0)), (.lit (.int .u8 0)), (.lit (.int .u8 0)), (.lit (.int .u8 0)), (.lit (.int .u8 0)), (.lit (.int .u8 0)), (.lit (.int .u8 0)), (.lit (.int .u8 0)), (.lit (.int .u8 0)), (.lit (.int .u8 0)), (.lit (.int .u8 0)), (.lit (.int .u8 0)), (.lit (.int .u8 0)), (.lit (.int .u8 0)), (.lit (.int .u8 0)), (.lit (.int .u8 0)), (.lit (.int .u8 0)), (.lit (.int .u8 0)), (.lit (.int .u8 0)), (.lit (.int .u8 0)), (.lit (.int .u8 0)), (.lit (.int .u8 0)), (.lit (.int .u8 0)), (.lit (.int .u8 0)), (.lit (.int .u8 0)), (.lit (.int .u8 0)), (.lit (.int .u8 0)), (.lit (.int .u8 0)), (.lit (.int .u8 0)), (.lit (.int .u8 0)), (.lit (.int .u8 0)), (.lit (.int .u8 0)), (.lit (.int .u8 0)), (.lit (.int .u8 0)), (.lit (.int .u8 0)), (.lit (.int .u8 0)), (.lit (.int .u8 0)), (.lit (.int .u8 0)), (.lit (.int .u8 0)), (.lit (.int .u8 0)), (.lit (.int .u8 0)), (.lit (.int .u8 0)), (.lit (.int .u8 0)), (.lit (.int .u8 0)), (.lit (.int .u8 0)), (.lit (.int .u8 0)), (.lit (.int .u8 0)), (.lit (.int .u8 0)), (.lit (.int .u8 0)), (.lit (.int .u8 0)), (.lit (.int .u8 0)), (.lit (.int .u8 0)), (.lit (.int .u8 0)), (.lit (.int .u8 0)), (.lit (.int .u8 0))]) ∧ f 224 = some (.agg [pz, pz, pz, tz]) ∧ f 225 = some (.agg [pz, pz, pz, tz]) ∧ f 226 = some (.agg []) ∧ f 227 = some (.agg []) ∧ f 228 = some (.agg []) ∧ f 229 = some fz ∧ f 230 = some (.lit (.int .u8 0)) ∧ f 231 = some (.lit (.int .u8 0)) ∧ f 232 = some fz ∧ f 233 = some (.lit (.int .i32 0)) ∧ f 234 = some (.lit (.int .i32 0)) ∧ f 235 = some (.agg [(.lit (.int .u64 0)), (.lit (.int .u64 0)), (.lit (.int .u32 0)), (.lit (.int .u8 0)), (.lit (.int .u8 0)), (.lit (.int .u8 0)), (.lit (.int .u8 0)), fz, pz, (.lit (.int .i32 0)), (.lit (.int .i32 0))]) ∧ f 236 = some (.agg [(.lit (.int .u64 0)), (.lit (.int .u64 0)), (.lit (.int .u32 0)), (.lit (.int .u8 0)), (.lit (.int .u8 0)), (.lit (.int .u8 0)), (.lit (.int .u8 0)), fz, pz, (.lit (.int .i32 0)), (.lit (.int .i32 0))]) ∧ f 237 = some fz)
  (zeroT (tabOf Tryz.prog NT0)) (.lit (.slice none 0 0)) (.lit (.int .i64 0)) (.lit (.pointer none)) (.lit (.string ⟨#[]⟩)) (.lit (.bool false)) (.lit .nilFunc) := by (repeat' apply And.intro) <;> kernel_rfl
set_option maxRecDepth 100000 in
theorem tabU : (fun (f : Nat → Option TypeDesc) => f 2 = some (.int .i64) ∧ f 3 = some (.int .i64) ∧ f 4 = some (.bool) ∧ f 5 = some (.int .u8) ∧ f 6 = some (.int .u8) ∧ f 9 = some (.string) ∧ f 10 = some (.string) ∧ f 11 = some (.string) ∧ f 12 = some (.int .u64) ∧ f 15 = some (.pointer 225) ∧ f 16 = some (.pointer 228) ∧ f 17 = some (.pointer 236) ∧ f 21 = some (.int .i32) ∧ f 22 = some (.slice 23) ∧ f 23 = some (.slice 5) ∧ f 25 = some (.slice 57) ∧ f 29 = some (.slice 58) ∧ f 38 = some (.slice 48) ∧ f 39 = some (.slice 9) ∧ f 42 = some (.int .i64) ∧ f 46 = some (.array 32 5) ∧ f 53 = some (.pointer 96) ∧ f 75 = some (.array 3 3) ∧ f 82 = some (.int .u32) ∧ f 91 = some (.array 256 82) ∧ f 98 = some (.slice 102) ∧ f 100 = some (.array 8 82) ∧ f 102 = some (.int .u64) ∧ f 103 = some (.array 64 82) ∧ f 104 = some (.int .u64) ∧ f 106 = some (.map 9 3) ∧ f 122 = some (.pointer 124) ∧ f 128 = some (.pointer 94) ∧ f 130 = some (.pointer 2) ∧ f 133 = some (.pointer 100) ∧ f 134 = some (.pointer 103) ∧ f 142 = some (.int .i64) ∧ f 158 = some (.array 256 4) ∧ f 159 = some (.array 256 4) ∧ f 163 = some (.pointer 159) ∧ f 166 = some (.pointer 5) ∧ f 169 = some (.int .u64) ∧ f 173 = some (.pointer 3) ∧ f 183 = some (.int .i64) ∧ f 186 = some (.pointer 208) ∧ f 189 = some (.array 24 5) ∧ f 197 = some (.pointer 169) ∧ f 211 = some (.array 20 102) ∧ f 212 = some (.array 65 5) ∧ f 214 = some (.array 256 5) ∧ f 217 = some (.array 16 216) ∧ f 220 = some (.pointer 222) ∧ f 223 = some (.array 64 5) ∧ f 226 = some (.array 0 16) ∧ f 230 = some (.int .u8) ∧ f 231 = some (.int .u8) ∧ f 233 = some (.int .i32) ∧ f 234 = some (.int .i32)) (und (tabOf Tryz.prog NT0)) := by (repeat' apply And.intro) <;> kernel_rfl
set_option maxRecDepth 100000 in
theorem tabF : (fun (f : Nat → Nat → Option (Nat × Nat × Bool)) => f 7 0 = some (0, 1, false) ∧ f 7 1 = some (1, 1, false) ∧ f 7 2 = some (2, 1, false) ∧ f 7 3 = some (3, 1, false) ∧ f 8 0 = some (0, 1, false) ∧ f 8 1 = some (1, 1, false) ∧ f 8 2 = some (2, 1, false) ∧ f 8 3 = some (3, 1, false) ∧ f 13 0 = some (0, 1, false) ∧ f 13 1 = some (1, 1, false) ∧ f 14 0 = some (0, 1, false) ∧ f 14 1 = some (1, 1, false) ∧ f 18 0 = some (0, 1, false) ∧ f 19 0 = some (0, 1, false) ∧ f 26 0 = some (0, 1, false) ∧ f 26 1 = some (1, 1, false) ∧ f 27 0 = some (0, 1, false) ∧ f 27 1 = some (1, 1, false) ∧ f 30 0 = some (0, 1, false) ∧ f 30 1 = some (1, 1, false) ∧ f 31 0 = some (0, 1, false) ∧ f 31 1 = some (1, 1, false) ∧ f 40 0 = some (0, 1, false) ∧ f 40 1 = some (1, 1, false) ∧ f 41 0 = some (0, 1, false) ∧ f 41 1 = some (1, 1, false) ∧ f 47 0 = some (0, 1, false) ∧ f 47 1 = some (1, 1, false) ∧ f 47 2 = some (2, 1, false) ∧ f 47 3 = some (3, 32, true) ∧ f 48 0 = some (0, 1, false) ∧ f 48 1 = some (1, 1, false) ∧ f 48 2 = some (2, 1, false) ∧ f 48 3 = some (3, 32, true) ∧ f 56 0 = some (0, 1, false) ∧ f 56 1 = some (1, 32, true) ∧ f 57 0 = some (0, 1, false) ∧ f 57 1 = some (1, 32, true) ∧ f 58 0 = some (0, 1, false) ∧ f 58 1 = some (1, 32, true) ∧ f 83 0 = some (0, 0, true) ∧ f 83 1 = some (0, 1, false) ∧ f 84 0 = some (0, 0, true) ∧ f 84 1 = some (0, 1, false) ∧ f 85 0 = some (0, 1, false) ∧ f 85 1 = some (1, 1, false) ∧ f 86 0 = some (0, 1, false) ∧ f 86 1 = some (1, 1, false) ∧ f 87 0 = some (0, 0, true) ∧ f 87 1 = some (0, 2, true) ∧ f 88 0 = some (0, 0, true) ∧ f 88 1 = some (0, 2, true) ∧ f 89 0 = some (0, 0, true) ∧ f 89 1 = some (0, 1, true) ∧ f 89 2 = some (1, 2, true) ∧ f 90 0 = some (0, 0, true) ∧ f 90 1 = some (0, 1, true) ∧ f 90 2 = some (1, 2, true) ∧ f 93 0 = some (0, 0, true) ∧ f 93 1 = some (0, 0, true) ∧ f 93 2 = some (0, 1, false) ∧ f 94 0 = some (0, 0, true) ∧ f 94 1 = some (0, 0, true) ∧ f 94 2 = some (0, 1, false) ∧ f 95 0 = some (0, 3, true) ∧ f 95 1 = some (3, 256, true) ∧ f 95 2 = some (259, 1, true) ∧ f 96 0 = some (0, 3, true) ∧ f 96 1 = some (3, 256, true) ∧ f 96 2 = some (259, 1, true) ∧ f 123 0 = some (0, 1, false) ∧ f 123 1 = some (1, 1, false) ∧ f 124 0 = some (0, 1, false) ∧ f 124 1 = some (1, 1, false) ∧ f 135 0 = some (0, 1, false) ∧ f 135 1 = some (1, 1, false) ∧ f 136 0 = some (0, 1, false) ∧ f 136 1 = some (1, 1, false) ∧ f 207 0 = some (0, 1, false) ∧ f 207 1 = some (1, 1, false) ∧ f 207 2 = some (2, 1, false) ∧ f 208 0 = some (0, 1, false) ∧ f 208 1 = some (1, 1, false) ∧ f 208 2 = some (2, 1, false) ∧ f 215 0 = some (0, 1, false) ∧ f 215 1 = some (1, 1, false) ∧ f 216 0 = some (0, 1, false) ∧ f 216 1 = some (1, 1, false) ∧ f 221 0 = some (0, 1, false) ∧ f 222 0 = some (0, 1, false) ∧ f 224 0 = some (0, 1, false) ∧ f 224 1 = some (1, 1, false) ∧ f 224 2 = some (2, 1, false) ∧ f 224 3 = some (3, 1, false) ∧ f 225 0 = some (0, 1, false) ∧ f 225 1 = some (1, 1, false) ∧ f 225 2 = some (2, 1, false) ∧ f 225 3 = some (3, 1, false) ∧ f 227 0 = some (0, 0, true) ∧ f 228 0 = some (0, 0, true) ∧ f 235 0 = some (0, 1, false) ∧ f 235 1 = some (1, 1, false) ∧ f 235 2 = some (2, 1, false) ∧ f 235 3 = some (3, 1, false) ∧ f 235 4 = some (4, 1, false) ∧ f 235 5 = some (5, 1, false) ∧ f 235 6 = some (6, 1, false) ∧ f 235 7 = some (7, 1, false) ∧ f 235 8 = some (8, 1, false) ∧ f 235 9 = some (9, 1, false) ∧ f 235 10 = some (10, 1, false) ∧ f 236 0 = some (0, 1, false) ∧ f 236 1 = some (1, 1, false) ∧ f 236 2 = some (2, 1, false) ∧ f 236 3 = some (3, 1, false) ∧ f 236 4 = some (4, 1, false) ∧ f 236 5 = some (5, 1, false) ∧ f 236 6 = some (6, 1, false) ∧ f 236 7 = some (7, 1, false) ∧ f 236 8 = some (8, 1, false) ∧ f 236 9 = some (9, 1, false) ∧ f 236 10 = some (10, 1, false)) (fieldOff (tabOf Tryz.prog NT0)) := by (repeat' apply And.intro) <;> kernel_rfl
set_option maxRecDepth 100000 in
theorem tabN :
  pur Tryz.prog (binOp .eql 22 (.slice none 0 0) (.slice none 0 0)) = some (.ok (.bool true)) ∧ pur Tryz.prog (binOp .neq 22 (.slice none 0 0) (.slice none 0 0)) = some (.ok (.bool false)) ∧ pur Tryz.prog (binOp .eql 23 (.slice none 0 0) (.slice none 0 0)) = some (.ok (.bool true)) ∧ pur Tryz.prog (binOp .neq 23 (.slice none 0 0) (.slice none 0 0)) = some (.ok (.bool false)) ∧ pur Tryz.prog (binOp .eql 25 (.slice none 0 0) (.slice none 0 0)) = some (.ok (.bool true)) ∧ pur Tryz.prog (binOp .neq 25 (.slice none 0 0) (.slice none 0 0)) = some (.ok (.bool false)) ∧ pur Tryz.prog (binOp .eql 29 (.slice none 0 0) (.slice none 0 0)) = some (.ok (.bool true)) ∧ pur Tryz.prog (binOp .neq 29 (.slice none 0 0) (.slice none 0 0)) = some (.ok (.bool false)) ∧ pur Tryz.prog (binOp .eql 38 (.slice none 0 0) (.slice none 0 0)) = some (.ok (.bool true)) ∧ pur Tryz.prog (binOp .neq 38 (.slice none 0 0) (.slice none 0 0)) = some (.ok (.bool false)) ∧ pur Tryz.prog (binOp .eql 39 (.slice none 0 0) (.slice none 0 0)) = some (.ok (.bool true)) ∧ pur Tryz.prog (binOp .neq 39 (.slice none 0 0) (.slice none 0 0)) = some (.ok (.bool false)) ∧ pur Tryz.prog (binOp .eql 98 (.slice none 0 0) (.slice none 0 0)) = some (.ok (.bool true)) ∧ pur Tryz.prog (binOp .neq 98 (.slice none 0 0) (.slice none 0 0)) = some (.ok (.bool false)) := by (repeat' apply And.intro) <;> kernel_rfl
set_option maxRecDepth 100000 in
theorem tabR :
  Tryz.f2.results.toList = [] ∧ Tryz.f3.results.toList = [.tmp 6] ∧ Tryz.f4.results.toList = [.tmp 0] ∧ Tryz.f5.results.toList = [.cell 4 27] ∧ Tryz.f6.results.toList = [.cell 4 31] ∧ Tryz.f7.results.toList = [.tmp 2] ∧ Tryz.f8.results.toList = [.tmp 2] ∧ Tryz.f9.results.toList = [.tmp 6] ∧ Tryz.f10.results.toList = [.tmp 6] ∧ Tryz.f11.results.toList = [.cell 4 41, .tmp 5] ∧ Tryz.f12.results.toList = [.cell 4 41, .tmp 5] ∧ Tryz.f13.results.toList = [.tmp 2, .tmp 3] ∧ Tryz.f14.results.toList = [.tmp 6] ∧ Tryz.f15.results.toList = [.tmp 2] ∧ Tryz.f16.results.toList = [.tmp 2] ∧ Tryz.f17.results.toList = [.tmp 0] ∧ Tryz.f18.results.toList = [.cell 4 46] ∧ Tryz.f19.results.toList = [.cell 2 46] ∧ Tryz.f20.results.toList = [.tmp 2] ∧ Tryz.f21.results.toList = [.tmp 4] ∧ Tryz.f22.results.toList = [.cell 2 41] ∧ Tryz.f23.results.toList = [] ∧ Tryz.f24.results.toList = [.cell 4 48, .tmp 5] ∧ Tryz.f25.results.toList = [.tmp 4] ∧ Tryz.f26.results.toList = [.cell 4 41, .tmp 5] ∧ Tryz.f27.results.toList = [.cell 4 41, .tmp 5] ∧ Tryz.f28.results.toList = [] ∧ Tryz.f29.results.toList = [.tmp 4] ∧ Tryz.f30.results.toList = [.tmp 4] ∧ Tryz.f31.results.toList = [.tmp 4, .tmp 5, .tmp 6] ∧ Tryz.f32.results.toList = [.tmp 2, .tmp 3] ∧ Tryz.f33.results.toList = [.tmp 2] ∧ Tryz.f34.results.toList = [.tmp 4] ∧ Tryz.f35.results.toList = [.tmp 4] ∧ Tryz.f36.results.toList = [.tmp 4] ∧ Tryz.f37.results.toList = [.cell 2 46] ∧ Tryz.f38.results.toList = [.tmp 2] ∧ Tryz.f39.results.toList = [.tmp 2] ∧ Tryz.f40.results.toList = [.tmp 2] ∧ Tryz.f41.results.toList = [.cell 6 100] ∧ Tryz.f42.results.toList = [.tmp 4] ∧ Tryz.f43.results.toList = [.tmp 3] ∧ Tryz.f44.results.toList = [.tmp 2] ∧ Tryz.f45.results.toList = [.tmp 2] ∧ Tryz.f46.results.toList = [] ∧ Tryz.f47.results.toList = [.tmp 2] ∧ Tryz.f48.results.toList = [.tmp 4] ∧ Tryz.f49.results.toList = [.tmp 4] ∧ Tryz.f50.results.toList = [.tmp 3] ∧ Tryz.f51.results.toList = [.tmp 4] ∧ Tryz.f52.results.toList = [.tmp 3] ∧ Tryz.f53.results.toList = [] ∧ Tryz.f54.results.toList = [.tmp 4] ∧ Tryz.f55.results.toList = [.tmp 4, .tmp 5, .tmp 6] ∧ Tryz.f56.results.toList = [.tmp 4] ∧ Tryz.f57.results.toList = [.tmp 2, .tmp 3] ∧ Tryz.f58.results.toList = [.tmp 2] ∧ Tryz.f59.results.toList = [] ∧ Tryz.f60.results.toList = [.tmp 4, .tmp 5] ∧ Tryz.f61.results.toList = [.tmp 2] ∧ Tryz.f62.results.toList = [.tmp 8] ∧ Tryz.f64.results.toList = [.cell 0 103] ∧ Tryz.f65.results.toList = [] ∧ Tryz.f66.results.toList = [.cell 4 136] ∧ Tryz.f67.results.toList = [.tmp 4] ∧ Tryz.f68.results.toList = [.tmp 4] ∧ Tryz.f69.results.toList = [.tmp 4] ∧ Tryz.f70.results.toList = [] ∧ Tryz.f71.results.toList = [] ∧ Tryz.f72.results.toList = [] ∧ Tryz.f73.results.toList = [.tmp 6, .tmp 7] ∧ Tryz.f74.results.toList = [] ∧ Tryz.f75.results.toList = [.tmp 6] ∧ Tryz.f76.results.toList = [.tmp 4] ∧ Tryz.f77.results.toList = [.tmp 8] ∧ Tryz.f78.results.toList = [.tmp 8, .tmp 9] ∧ Tryz.f79.results.toList = [.tmp 2] ∧ Tryz.f80.results.toList = [.tmp 2] ∧ Tryz.f81.results.toList = [.tmp 4] ∧ Tryz.f82.results.toList = [] ∧ Tryz.f83.results.toList = [] ∧ Tryz.f84.results.toList = [] ∧ Tryz.f85.results.toList = [.tmp 8, .tmp 9] ∧ Tryz.f86.results.toList = [] ∧ Tryz.f87.results.toList = [.tmp 8] ∧ Tryz.f88.results.toList = [.tmp 10] ∧ Tryz.f89.results.toList = [.tmp 10, .tmp 11] ∧ Tryz.f91.results.toList = [.tmp 4] ∧ Tryz.f92.results.toList = [.tmp 4] ∧ Tryz.f93.results.toList = [.tmp 4] ∧ Tryz.f94.results.toList = [.cell 2 159, .tmp 3] ∧ Tryz.f95.results.toList = [.tmp 4] ∧ Tryz.f96.results.toList = [.tmp 4] ∧ Tryz.f97.results.toList = [.tmp 4] ∧ Tryz.f98.results.toList = [.tmp 4] ∧ Tryz.f99.results.toList = [.tmp 2, .tmp 3] ∧ Tryz.f100.results.toList = [.tmp 10] ∧ Tryz.f101.results.toList = [.tmp 4] ∧ Tryz.f102.results.toList = [] ∧ Tryz.f103.results.toList = [] ∧ Tryz.f104.results.toList = [.tmp 4] ∧ Tryz.f105.results.toList = [.tmp 4] ∧ Tryz.f106.results.toList = [.tmp 4] ∧ Tryz.f107.results.toList = [.tmp 4] ∧ Tryz.f108.results.toList = [] ∧ Tryz.f109.results.toList = [.tmp 2] ∧ Tryz.f110.results.toList = [.tmp 2] ∧ Tryz.f111.results.toList = [.tmp 6] ∧ Tryz.f112.results.toList = [.tmp 10] ∧ Tryz.f113.results.toList = [.tmp 2] ∧ Tryz.f114.results.toList = [] ∧ Tryz.f115.results.toList = [.tmp 8] ∧ Tryz.f116.results.toList = [.tmp 12] ∧ Tryz.f117.results.toList = [.tmp 4] ∧ Tryz.f119.results.toList = [.tmp 2] ∧ Tryz.f120.results.toList = [.tmp 4] ∧ Tryz.f121.results.toList = [.tmp 4] ∧ Tryz.f122.results.toList = [.tmp 2, .tmp 3] ∧ Tryz.f123.results.toList = [.tmp 4] ∧ Tryz.f124.results.toList = [.tmp 2, .tmp 3] ∧ Tryz.f125.results.toList = [.tmp 6, .tmp 7] ∧ Tryz.f126.results.toList = [.tmp 4] ∧ Tryz.f127.results.toList = [.tmp 4] ∧ Tryz.f128.results.toList = [.tmp 6] ∧ Tryz.f129.results.toList = [.tmp 6] ∧ Tryz.f130.results.toList = [.tmp 2] ∧ Tryz.f131.results.toList = [.tmp 2] ∧ Tryz.f132.results.toList = [] ∧ Tryz.f133.results.toList = [.tmp 10, .tmp 11] ∧ Tryz.f136.results.toList = [.tmp 2] ∧ Tryz.f138.results.toList = [.tmp 8, .tmp 9] ∧ Tryz.f139.results.toList = [.tmp 10, .tmp 11] ∧ Tryz.f141.results.toList = [.tmp 2, .tmp 3] ∧ Tryz.f142.results.toList = [.tmp 2, .tmp 3] ∧ Tryz.f143.results.toList = [.tmp 4] ∧ Tryz.f144.results.toList = [.tmp 2] ∧ Tryz.f145.results.toList = [.tmp 6, .tmp 7] ∧ Tryz.f146.results.toList = [.tmp 2] ∧ Tryz.f147.results.toList = [.tmp 2] ∧ Tryz.f148.results.toList = [.tmp 2] ∧ Tryz.f149.results.toList = [.tmp 2] ∧ Tryz.f150.results.toList = [.tmp 2] ∧ Tryz.f151.results.toList = [.tmp 2] ∧ Tryz.f152.results.toList = [.tmp 4] ∧ Tryz.f153.results.toList = [.tmp 2] ∧ Tryz.f154.results.toList = [.tmp 2] ∧ Tryz.f155.results.toList = [.tmp 2] ∧ Tryz.f156.results.toList = [.tmp 2] ∧ Tryz.f157.results.toList = [.tmp 2] ∧ Tryz.f190.results.toList = [] := by (repeat' apply And.intro) <;> kernel_rfl
set_option maxRecDepth 100000 in
theorem tabP : (fun (f : Nat → Option (List (Nat × Nat))) => f 7 = some [(0, 1), (1, 1), (2, 1), (3, 1)] ∧ f 8 = some [(0, 1), (1, 1), (2, 1), (3, 1)] ∧ f 13 = some [(0, 1), (1, 1)] ∧ f 14 = some [(0, 1), (1, 1)] ∧ f 18 = some [(0, 1)] ∧ f 19 = some [(0, 1)] ∧ f 26 = some [(0, 1), (1, 1)] ∧ f 27 = some [(0, 1), (1, 1)] ∧ f 30 = some [(0, 1), (1, 1)] ∧ f 31 = some [(0, 1), (1, 1)] ∧ f 40 = some [(0, 1), (1, 1)] ∧ f 41 = some [(0, 1), (1, 1)] ∧ f 47 = some [(0, 1), (1, 1), (2, 1), (3, 32)] ∧ f 48 = some [(0, 1), (1, 1), (2, 1), (3, 32)] ∧ f 56 = some [(0, 1), (1, 32)] ∧ f 57 = some [(0, 1), (1, 32)] ∧ f 58 = some [(0, 1), (1, 32)] ∧ f 79 = some [] ∧ f 80 = some [] ∧ f 81 = some [] ∧ f 83 = some [(0, 0), (0, 1)] ∧ f 84 = some [(0, 0), (0, 1)] ∧ f 85 = some [(0, 1), (1, 1)] ∧ f 86 = some [(0, 1), (1, 1)] ∧ f 87 = some [(0, 0), (0, 2)] ∧ f 88 = some [(0, 0), (0, 2)] ∧ f 89 = some [(0, 0), (0, 1), (1, 2)] ∧ f 90 = some [(0, 0), (0, 1), (1, 2)] ∧ f 92 = some [] ∧ f 93 = some [(0, 0), (0, 0), (0, 1)] ∧ f 94 = some [(0, 0), (0, 0), (0, 1)] ∧ f 95 = some [(0, 3), (3, 256), (259, 1)] ∧ f 96 = some [(0, 3), (3, 256), (259, 1)] ∧ f 123 = some [(0, 1), (1, 1)] ∧ f 124 = some [(0, 1), (1, 1)] ∧ f 135 = some [(0, 1), (1, 1)] ∧ f 136 = some [(0, 1), (1, 1)] ∧ f 207 = some [(0, 1), (1, 1), (2, 1)] ∧ f 208 = some [(0, 1), (1, 1), (2, 1)] ∧ f 215 = some [(0, 1), (1, 1)] ∧ f 216 = some [(0, 1), (1, 1)] ∧ f 221 = some [(0, 1)] ∧ f 222 = some [(0, 1)] ∧ f 224 = some [(0, 1), (1, 1), (2, 1), (3, 1)] ∧ f 225 = some [(0, 1), (1, 1), (2, 1), (3, 1)] ∧ f 227 = some [(0, 0)] ∧ f 228 = some [(0, 0)] ∧ f 235 = some [(0, 1), (1, 1), (2, 1), (3, 1), (4, 1), (5, 1), (6, 1), (7, 1), (8, 1), (9, 1), (10, 1)] ∧ f 236 = some [(0, 1), (1, 1), (2, 1), (3, 1), (4, 1), (5, 1), (6, 1), (7, 1), (8, 1), (9, 1), (10, 1)]) (placesOf (tabOf Tryz.prog NT0)) := by (repeat' apply And.intro) <;> kernel_rfl
end Go.Proofs.YtpfibijbieblnaaGreatDoor.Ex
end

section

set_option linter.unusedSimpArgs false
set_option linter.unusedVariables false
namespace Go.Proofs.YtpfibijbieblnaaGreatDoor.Ex
open Go
section
variable {P : Program} {T : TT} {S : Sums} {t : TM} {h : AH} {d : Option Tmp} {ty : TypeId} {ps : String} {af : Array Edge} {g : Option (Nat × Bool)} {k k' : IntKind} {a b : Int} {e : TypeId}
def xorI (k : IntKind) (a b : Int) : Int := k.wrap ((BitVec.ofInt k.bits a ^^^ BitVec.ofInt k.bits b).toNat : Int)
def andI (k : IntKind) (a b : Int) : Int := k.wrap ((BitVec.ofInt k.bits a &&& BitVec.ofInt k.bits b).toNat : Int)
def orI (k : IntKind) (a b : Int) : Int := k.wrap ((BitVec.ofInt k.bits a ||| BitVec.ofInt k.bits b).toNat : Int)
def shlI (k : IntKind) (a b : Int) : Int := k.wrap (a * 2 ^ min b.toNat k.bits)
def shrI (k : IntKind) (a b : Int) : Int := a.fdiv (2 ^ min b.toNat k.bits)
theorem pb_xor : pur P (binOp .xor e (.int k a) (.int k b)) = some (.ok (.int k (xorI k a b))) := by simp [binOp, Op.intBits, xorI]; rfl
theorem pb_and : pur P (binOp .and e (.int k a) (.int k b)) = some (.ok (.int k (andI k a b))) := by simp [binOp, Op.intBits, andI]; rfl
theorem pb_or : pur P (binOp .or e (.int k a) (.int k b)) = some (.ok (.int k (orI k a b))) := by simp [binOp, Op.intBits, orI]; rfl
theorem pb_shl (hb : 0 ≤ b) : pur P (binOp .shl e (.int k a) (.int k' b)) = some (.ok (.int k (shlI k a b))) := by
  have : ¬ b < 0 := by omega
  simp [binOp, Op.shift, shlI, this]; rfl
theorem pb_shr (hb : 0 ≤ b) : pur P (binOp .shr e (.int k a) (.int k' b)) = some (.ok (.int k (shrI k a b))) := by
  have : ¬ b < 0 := by omega
  simp [binOp, Op.shift, shrI, this]; rfl
theorem pb_quo (hb : ¬ b = 0) : pur P (binOp .quo e (.int k a) (.int k b)) = some (.ok (.int k (k.wrap (a.tdiv b)))) := by simp [binOp, Op.intDiv, hb]; rfl
theorem pb_rem (hb : ¬ b = 0) : pur P (binOp .rem e (.int k a) (.int k b)) = some (.ok (.int k (a.tmod b))) := by simp [binOp, Op.intDiv, hb]; rfl
def aNilR (P : Program) (o : Oper) (t : TM) (h : AH) (x : Operand) : AR := aNilCheck P o t h x
theorem a_nil {i : Nat} : aop P T ⟨d, .nilCheck (.tmp i), ty, ps, af, g⟩ t h = (match t.get i with
    | .ptr b off => some (.val (.ptr b off), h)
    | _ => aNilR P ⟨d, .nilCheck (.tmp i), ty, ps, af, g⟩ t h (.tmp i)) := by
  show aNilCheck _ _ _ _ _ = _
  split
  · rename_i b off hb
    unfold aNilCheck
    rw [ev_tmp, hb]
  · rfl
theorem tri_comm {α : Type} (dd : α) : ∀ (f f' : Nat) (t : Tri α) (k j : Nat) (x y : α), 1 ≤ k → 1 ≤ j → k ≠ j → k < 2 ^ f → j < 2 ^ f' → Tri.put dd f (Tri.put dd f' t j y) k x = Tri.put dd f' (Tri.put dd f t k x) j y
  | 0, _, _, _, _, _, _, h1, _, _, h2, _ => by simp at h2; omega
  | _ + 1, 0, _, _, _, _, _, _, h1, _, _, h2 => by simp at h2; omega
  | f + 1, f' + 1, t, k, j, x, y, hk, hj, hne, h1, h2 => by
    have e1 : k / 2 < 2 ^ f := by rw [Nat.pow_succ] at h1; omega
    have e2 : j / 2 < 2 ^ f' := by rw [Nat.pow_succ] at h2; omega
    have key := fun t => tri_comm dd f f' t (k / 2) (j / 2) x y
    simp only [Tri.put]
    cases hk1 : Nat.ble k 1 <;> cases hj1 : Nat.ble j 1 <;> cases hk2 : Nat.beq (k % 2) 0 <;> cases hj2 : Nat.beq (j % 2) 0 <;> simp only [cond_true, cond_false, Tri.lt, Tri.rt, Tri.top, Tri.n.injEq, true_and, and_true]
    all_goals first
      | (exfalso; have := Nat.ble_eq.mp hk1; have := Nat.ble_eq.mp hj1; omega)
      | skip
    all_goals
      have g1 : ¬ k ≤ 1 := fun h => by rw [Nat.ble_eq.mpr h] at hk1; cases hk1
      have g2 : ¬ j ≤ 1 := fun h => by rw [Nat.ble_eq.mpr h] at hj1; cases hj1
    · have p1 : ¬ k % 2 = 0 := fun h => by rw [h] at hk2; cases hk2
      have p2 : ¬ j % 2 = 0 := fun h => by rw [h] at hj2; cases hj2
      exact key _ (by omega) (by omega) (by omega) e1 e2
    · have p1 := Nat.eq_of_beq_eq_true hk2
      have p2 := Nat.eq_of_beq_eq_true hj2
      exact key _ (by omega) (by omega) (by omega) e1 e2
theorem put_push_eq {b : Nat} {x y : AB} (hb : b = h.n) : (h.push x).put b y = h.push y := by subst hb; exact put_push
theorem put_push_lt {b : Nat} {x y : AB} (hb : b < h.n) : (h.push x).put b y = (h.put b y).push x := by
  unfold AH.put AH.push vPut vPush
  simp only
  rw [show Nat.blt b (h.n + 1) = true from Nat.blt_eq.mpr (by omega), show Nat.blt b h.n = true from Nat.blt_eq.mpr hb]
  simp only [cond_true]
  rw [tri_comm _ _ _ _ _ _ _ _ (by omega) (by omega) (by omega) (log2_lt _ (by omega)) (log2_lt _ (by omega))]
theorem lt_a1 {n : Nat} : n < n + 1 := Nat.lt_succ_self n
theorem lt_a2 {n : Nat} : n < n + 1 + 1 := by omega
theorem lt_a3 {n : Nat} : n < n + 1 + 1 + 1 := by omega
theorem lt_a4 {n : Nat} : n < n + 1 + 1 + 1 + 1 := by omega
theorem lt_a5 {n : Nat} : n < n + 1 + 1 + 1 + 1 + 1 := by omega
theorem lt_a6 {n : Nat} : n < n + 1 + 1 + 1 + 1 + 1 + 1 := by omega
theorem lt_a7 {n : Nat} : n < n + 1 + 1 + 1 + 1 + 1 + 1 + 1 := by omega
theorem res_cell {i : Nat} {r : List ResultVar} : resultsA T h t (.cell i ty :: r) = (match t.get i, resultsA T h t r with
    | .ptr b off, some l => (loadA T h ty b off).map (· :: l)
    | _, _ => none) := rfl
/-- A pointer held against nil. -/
def isPtrT (T : TT) (t : TypeId) : Bool := match und T t with
  | some (.pointer _) => true
  | _ => false
theorem pn_none {o : Oper} {i : Nat} {b off : Nat} {op : BinOp} {f : TypeId} (ho : o.op = .binOp op e (.tmp i) (.const (.pointer none)) f) (hv : t.get i = .ptr b off) : litOp P o t = none := by
  unfold litOp
  rw [ho, if_neg]
  simp [Op.operands, litAll, ev_tmp, hv, toVal]
theorem a_eqnilp {i : Nat} {f : TypeId} (hT : isPtrT T e = true) : aop P T ⟨d, .binOp .eql e (.tmp i) (.const (.pointer none)) f, ty, ps, af, g⟩ t h = (match t.get i with
    | .ptr _ _ => some (.val (.lit (.bool false)), h)
    | _ => aBin P T ⟨d, .binOp .eql e (.tmp i) (.const (.pointer none)) f, ty, ps, af, g⟩ t h .eql e (.tmp i) (.const (.pointer none))) := by
  rw [a_bin]
  split
  · rename_i b off hv
    unfold isPtrT at hT
    split at hT
    case h_2 => cases hT
    rename_i el hu
    unfold aBin
    simp only [ev_tmp, hv, ev_nilp]
    simp only [orLit, pn_none (o := ⟨d, .binOp .eql e (.tmp i) (.const (.pointer none)) f, ty, ps, af, g⟩) rfl hv, aSame, hu, ev_tmp, hv, ev_nilp, sameA]
  · rfl
theorem a_nenilp {i : Nat} {f : TypeId} (hT : isPtrT T e = true) : aop P T ⟨d, .binOp .neq e (.tmp i) (.const (.pointer none)) f, ty, ps, af, g⟩ t h = (match t.get i with
    | .ptr _ _ => some (.val (.lit (.bool true)), h)
    | _ => aBin P T ⟨d, .binOp .neq e (.tmp i) (.const (.pointer none)) f, ty, ps, af, g⟩ t h .neq e (.tmp i) (.const (.pointer none))) := by
  rw [a_bin]
  split
  · rename_i b off hv
    unfold isPtrT at hT
    split at hT
    case h_2 => cases hT
    rename_i el hu
    unfold aBin
    simp only [ev_tmp, hv, ev_nilp]
    simp only [orLit, pn_none (o := ⟨d, .binOp .neq e (.tmp i) (.const (.pointer none)) f, ty, ps, af, g⟩) rfl hv, aSame, hu, ev_tmp, hv, ev_nilp, sameA]
    rfl
  · rfl
/-- An array's element, of values that are known. -/
theorem a_index_lit {i j : Nat} {vx vy vr : Value} {ar : AV} (hx : toVal (t.get i) = some vx) (hy : toVal (t.get j) = some vy)
    (he : pur P (Instr.index e vx vy) = some (.ok vr)) (hr : ofVal vr = some ar) : aop P T ⟨d, .index e (.tmp i) (.tmp j), ty, ps, af, g⟩ t h = some (.val ar, h) := by
  have key : ∀ (f : Value → Sem Next), pur P (Instr.index e vx vy >>= f) = pur P (f vr) := fun f => by
    generalize Instr.index e vx vy = s at he
    induction s with
    | pure x => simp [pur] at he; subst he; rfl
    | halt r => cases r <;> simp [pur] at he
    | program k ih => exact ih P he
    | mark e k ih => exact ih he
    | _ => simp [pur] at he
  have h0 : litOp P ⟨d, .index e (.tmp i) (.tmp j), ty, ps, af, g⟩ t = some (.val ar) := by
    unfold litOp
    rw [if_pos (by simp [notSelect, Op.operands, litAll, ev_tmp, hx, hy])]
    have e1 : litEnv t (.tmp i) = vx := by simp [litEnv, ev_tmp, hx]
    have e2 : litEnv t (.tmp j) = vy := by simp [litEnv, ev_tmp, hy]
    simp only [execOp, e1, e2, key]
    show ofPR (some (.ok (.value vr))) = _
    simp only [ofPR, hr, Option.map_some]
  show aIndex _ _ _ _ _ _ _ _ = _
  unfold aIndex orLit
  rw [h0]
def strAt (s : ByteArray) (n : Int) : Option Nat := if 0 ≤ n then (s[n.toNat]?).map (·.toNat) else none
def isStrT (T : TT) (t : TypeId) : Bool := match und T t with
  | some .string => true
  | _ => false
theorem index_str_run {N : NT} {s : ByteArray} {n : Int} {b : Nat} (hT : isStrT (tabOf P N) e = true) (hb : strAt s n = some b) : pur P (Instr.index e (.string s) (.int k n)) = some (.ok (.int .u8 b)) := by
  have hu : und (tabOf P N) e = some .string := by
    unfold isStrT at hT
    split at hT
    · assumption
    · cases hT
  have hP : P.underlying e = some .string := by
    have := und_tab hu
    cases hq : P.underlying e with
    | none => rw [hq] at this; cases this
    | some x => rw [hq] at this; exact congrArg some this
  have u1 : ∀ {α : Type} (f : TypeDesc → Sem α), pur P (underlying e >>= f) = pur P (f .string) := fun f => by
    show pur P ((match P.underlying e with | some d => pure d | none => stuck "no such type") >>= f) = _
    rw [hP]
    rfl
  unfold Instr.index
  show pur P (underlying e >>= _) = _
  rw [u1]
  unfold strAt at hb
  split at hb
  case isFalse => cases hb
  rename_i h0
  obtain ⟨c, hc, rfl⟩ := Option.map_eq_some_iff.1 hb
  simp only [if_pos h0, hc]
  rfl
/-- A text's byte. -/
def aIdxR (P : Program) (T : TT) (o : Oper) (t : TM) (h : AH) (e : TypeId) (x y : Operand) : AR := aIndex P T o t h e x y
theorem idx_str {N : NT} {x y : Operand} {s : ByteArray} {n : Int} {b : Nat} (hT : isStrT (tabOf P N) e = true) (hx : evalA t x = some (.lit (.string s))) (hy : evalA t y = some (.lit (.int k n))) (hb : strAt s n = some b) : aop P (tabOf P N) ⟨d, .index e x y, ty, ps, af, g⟩ t h = some (.val (.lit (.int .u8 b)), h) := by
  have he := index_str_run (P := P) (k := k) hT hb
  have key : ∀ (f : Value → Sem Next), pur P (Instr.index e (.string s) (.int k n) >>= f) = pur P (f (.int .u8 b)) := fun f => by
    generalize Instr.index e (.string s) (.int k n) = s at he
    induction s with
    | pure x => simp [pur] at he; subst he; rfl
    | halt r => cases r <;> simp [pur] at he
    | program k ih => exact ih P he
    | mark e k ih => exact ih he
    | _ => simp [pur] at he
  have h0 : litOp P ⟨d, .index e x y, ty, ps, af, g⟩ t = some (.val (.lit (.int .u8 b))) := by
    unfold litOp
    rw [if_pos (by simp [notSelect, Op.operands, litAll, hx, hy, toVal])]
    have e1 : litEnv t x = .string s := by simp [litEnv, hx, toVal]
    have e2 : litEnv t y = .int k n := by simp [litEnv, hy, toVal]
    simp only [execOp, e1, e2, key]
    rfl
  show aIndex _ _ _ _ _ _ _ _ = _
  unfold aIndex orLit
  rw [h0]
theorem a_idx_cs {N : NT} {s : ByteArray} {j : Nat} (hT : isStrT (tabOf P N) e = true) : aop P (tabOf P N) ⟨d, .index e (.const (.string s)) (.tmp j), ty, ps, af, g⟩ t h = (match t.get j with
    | .lit (.int _ n) => (match strAt s n with
      | some b => some (.val (.lit (.int .u8 b)), h)
      | none => aIdxR P (tabOf P N) ⟨d, .index e (.const (.string s)) (.tmp j), ty, ps, af, g⟩ t h e (.const (.string s)) (.tmp j))
    | _ => aIdxR P (tabOf P N) ⟨d, .index e (.const (.string s)) (.tmp j), ty, ps, af, g⟩ t h e (.const (.string s)) (.tmp j)) := by
  split
  · rename_i k n hy
    split
    · rename_i b hb
      exact idx_str hT rfl (by rw [ev_tmp, hy]) hb
    · rfl
  · rfl
def aConR (P : Program) (T : TT) (o : Oper) (t : TM) (h : AH) (src dst : TypeId) (x : Operand) : AR := aConvert P T o t h src dst x
/-- A number of another kind. -/
theorem a_conv {src dst i : Nat} : aop P T ⟨d, .convert src dst (.tmp i), ty, ps, af, g⟩ t h = (match t.get i, und T src, und T dst with
    | .lit (.int _ n), some _, some (.int k') => some (.val (.lit (.int k' (k'.wrap n))), h)
    | _, _, _ => aConR P T ⟨d, .convert src dst (.tmp i), ty, ps, af, g⟩ t h src dst (.tmp i)) := by
  show aConvert _ _ _ _ _ _ _ _ = _
  split
  · rename_i k n d' k' h1 h2 h3
    unfold aConvert
    rw [ev_tmp, h1, h2, h3]
  · rfl
theorem a_mkf {f : Fn} {xs ys : Array Operand} : aop P T ⟨d, .makeFunc f xs ys, ty, ps, af, g⟩ t h = aMakeFunc t h f xs ys := rfl
theorem WC_sum {f : FuncId} {args : List AV} {fn : Func} {c : Code} {v : AV} {h' : AH} {Q : AV → AH → Prop} {g : List AV → AH → Option (AV × AH)} (hf : P.funcs[f]? = some fn) (hb : fn.body = some c) (hS : S f = some g) (hg : g args h = some (v, h')) (hq : Q v h') : WC P T S f args h Q := by
  refine ⟨1, .ended (.ret v) none, h', ?_, v, none, rfl, hq⟩
  show xCall P S (ex P T S 0) f args none h = _
  unfold xCall
  rw [hf]
  simp only [hb, hS, hg]
  rfl
end
theorem wrap_in {n : Int} (h1 : -9223372036854775808 ≤ n) (h2 : n < 9223372036854775808) : IntKind.i64.wrap n = n := IntWalk.i64_in _ ⟨h1, by omega⟩
theorem wrap_u64 {n : Int} (h1 : 0 ≤ n) (h2 : n < 18446744073709551616) : IntKind.u64.wrap n = n := by
  unfold IntKind.wrap
  simp [IntKind.bits, IntKind.signed]
  omega
theorem wrap_succ {i n : Nat} (h : i < n) (hn : n < 9223372036854775808) : IntKind.i64.wrap ((i : Int) + 1) = ((i + 1 : Nat) : Int) := (wrap_in (by omega) (by omega)).trans (by omega)
end Go.Proofs.YtpfibijbieblnaaGreatDoor.Ex
end

section

set_option linter.unusedSimpArgs false
set_option linter.defProp false
set_option maxRecDepth 100000
namespace Go.Proofs.YtpfibijbieblnaaGreatDoor.Ex
open Go
def corem0 := And.intro @plainO.eq_1 (And.intro @plainO.eq_2 (And.intro @plainOp.eq_1 (And.intro @plainOp.eq_2 (And.intro @plainOp.eq_3 (And.intro @natA_int (And.intro @Int.toNat_natCast (And.intro @WB_seq (And.intro @WB_region (And.intro @WB_reg_nil (And.intro @WB_reg_s (And.intro @WRegO_some (And.intro @WRegO_guard (And.intro @WReg_true (And.intro @WReg_false (And.intro @WB_block (And.intro @WB_blk (And.intro @WB_loop (And.intro @WB_skip (And.intro @WB_scope (And.intro @WB_sc (And.intro @WB_ret (And.intro @WB_nil (And.intro @List.size_toArray.{0} (And.intro @List.size_toArray.{1} (And.intro @List.length_cons.{0} (And.intro @List.length_cons.{1} (And.intro @List.length_nil.{0} (And.intro @List.length_nil.{1} (And.intro @Nat.zero_add (And.intro @Nat.add_zero (And.intro @Nat.mul_one (And.intro @rng0 (And.intro @List.range'_succ (And.intro @List.range'_zero (And.intro @List.getElem?_toArray.{0} (And.intro @List.getElem?_toArray.{1} (And.intro @List.getElem?_cons_zero.{0} (And.intro @List.getElem?_cons_zero.{1} (And.intro @List.getElem?_cons_succ.{0} (And.intro @List.getElem?_cons_succ.{1} (And.intro @a_move (And.intro @a_assign (And.intro @a_load (And.intro @aLoad.eq_1 (And.intro @a_store (And.intro @aStore.eq_1 (And.intro @aIndexAddr.eq_1 (And.intro @a_fieldAddr (And.intro @fa_eq (And.intro @faM.eq_1 (And.intro @faM.eq_2 (And.intro @a_field (And.intro @fd_eq (And.intro @fdM.eq_1 (And.intro @fdM.eq_2 (And.intro @fdM.eq_3 (And.intro @a_buildSlice (And.intro @bs_eq (And.intro @bsM.eq_1 (And.intro @bsM.eq_2 (And.intro @bsM.eq_3 (And.intro @rep.eq_1 (And.intro @rep.eq_2 (And.intro @fillA.eq_1 (And.intro @fillA.eq_2 (And.intro @evalParts.eq_1 (And.intro @evalParts.eq_2 (And.intro @List.map_cons.{0,0} (And.intro @List.map_cons.{0,1} (And.intro @List.map_cons.{1,0} (And.intro @List.map_cons.{1,1} (And.intro @List.map_nil.{0,0} (And.intro @List.map_nil.{0,1} (And.intro @List.map_nil.{1,0} (And.intro @List.map_nil.{1,1} (And.intro @a_un (And.intro @a_extract (And.intro @aExtract.eq_1 (And.intro @a_alloc (And.intro @aAlloc.eq_1 (And.intro @a_box (And.intro @aBox.eq_1 (And.intro @pb_lss (And.intro @pb_leq (And.intro @pb_gtr (And.intro @pb_geq (And.intro @pb_eql (And.intro @pb_neq (And.intro @pb_add (And.intro @pb_sub (And.intro @pb_mul (And.intro @ofPV_int (And.intro @ofPV_bool (And.intro @val.eq_1 (And.intro @Option.map_some.{0,0} (And.intro @Option.map_some.{0,1} (And.intro @Option.map_some.{1,0} (And.intro @Option.map_some.{1,1} (And.intro @Option.map_none.{0,0} (And.intro @Option.map_none.{0,1} (And.intro @Option.map_none.{1,0} (And.intro @Option.map_none.{1,1} (And.intro @ev_tmp (And.intro @ev_int (And.intro @ev_bool (And.intro @ev_str (And.intro @ev_nilp (And.intro @ev_nils (And.intro @ev_nilm (And.intro @ev_nilf (And.intro @ev_nili (And.intro @ev_func (And.intro @val_ok (And.intro @WOp_val (And.intro @WOp_enter (And.intro @KC_eq (And.intro @List.append_nil.{0} (And.intro @List.append_nil.{1} (And.intro @List.cons_append.{0} (And.intro @List.cons_append.{1} (And.intro @setTmp_some (And.intro @setTmp_none (And.intro @callA.eq_1 (And.intro @callA.eq_2 (And.intro @callA.eq_3 (And.intro @callA.eq_4 (And.intro @evals.eq_1 (And.intro @evals.eq_2 (And.intro @get_set_ne (And.intro @get_set_same (And.intro @get_ofL' (And.intro @tabA (And.intro @tabS (And.intro @tabB (And.intro @tabZ (And.intro @tabU (And.intro @tabF (And.intro @ne_eq.{0} (And.intro @ne_eq.{1} (And.intro @not_false_eq_true (And.intro @not_true_eq_false (And.intro @n_set (And.intro @n_ofL (And.intro @WIf_some (And.intro @WB_exit (And.intro @exA_blk (And.intro @exA_code (And.intro @exA_lp (And.intro @exA_sc (And.intro @WExit_some (And.intro @List.getD_cons_zero.{0} (And.intro @List.getD_cons_zero.{1} (And.intro @List.getD_cons_succ.{0} (And.intro @List.getD_cons_succ.{1} (And.intro @if_true.{0} (And.intro @if_true.{1} (And.intro @if_false.{0} (And.intro @if_false.{1} (And.intro @Nat.zero_le (And.intro @Nat.zero_mul (And.intro @Bool.true_and (And.intro @Bool.and_true (And.intro @Bool.and_self (And.intro @Bool.false_and (And.intro @Bool.and_false (And.intro @cond_true.{0} (And.intro @cond_true.{1} (And.intro @cond_false.{0} (And.intro @cond_false.{1} (And.intro @Option.bind_some.{0,0} (And.intro @Option.bind_some.{0,1} (And.intro @Option.bind_some.{1,0} (And.intro @Option.bind_some.{1,1} (And.intro @decide_true (And.intro @decide_false (And.intro @true_implies (And.intro @false_implies (And.intro @forall_const.{0} (And.intro @forall_const.{1} (And.intro @and_true (And.intro @true_and (And.intro @or_true (And.intro @false_or (And.intro @res_nil (And.intro @res_tmp (And.intro @ats_same (And.intro @ats_ne (And.intro @one_lit (And.intro @one_ptr (And.intro @one_sl (And.intro @one_mp (And.intro @one_fn (And.intro @one_ifc (And.intro @one_any (And.intro @b_tt (And.intro @b_ft (And.intro @b_tf (And.intro @b_ff (And.intro @cells_lit (And.intro @cells_sl (And.intro @cells_ptr (And.intro @cells_agg (And.intro @cells_one (And.intro @ld_new (And.intro @ld_old (And.intro @ld_put (And.intro @ld_else (And.intro @st_eq (And.intro @stL.eq_1 (And.intro @stL.eq_2 (And.intro @at_new (And.intro @at_old (And.intro @at_put (And.intro @at_else (And.intro @n_put (And.intro @n_push2 (And.intro @cut.eq_1 (And.intro @List.take_succ_cons.{0} (And.intro @List.take_succ_cons.{1} (And.intro @List.drop_succ_cons.{0} (And.intro @List.drop_succ_cons.{1} (And.intro @List.all_cons.{0} (And.intro @List.all_cons.{1} (And.intro @List.all_nil.{0} (And.intro @List.all_nil.{1} (And.intro @Nat.lt_add_one (And.intro @a_pick (And.intro @aPick.eq_1 (And.intro @Bool.cond_false.{0} (And.intro @Bool.cond_false.{1} (And.intro @Bool.cond_true.{0} (And.intro @Bool.cond_true.{1} (And.intro @wantedA.eq_1 (And.intro @Option.bind_none.{0,0} (And.intro @Option.bind_none.{0,1} (And.intro @Option.bind_none.{1,0} (And.intro @Option.bind_none.{1,1} (And.intro @a_callv (And.intro @a_append (And.intro @a_len (And.intro @a_min (And.intro @a_max (And.intro @a_ia (And.intro @a_iap (And.intro @iaM_some (And.intro @isPtr.eq_1 (And.intro @isPtr.eq_2 (And.intro @szE.eq_1 (And.intro @szOk.eq_1 (And.intro @isSlT.eq_1 (And.intro @Option.getD_some.{0} (And.intro @Option.getD_some.{1} (And.intro @Option.isSome_some.{0} (And.intro @Option.isSome_some.{1} (And.intro @a_sl_hi (And.intro @a_sl_lo (And.intro @a_sl_lohi (And.intro @slM.eq_1 (And.intro @a_eqnil (And.intro @a_nenil (And.intro @a_bin2 (And.intro @a_bin_tt (And.intro @a_bin_ti (And.intro @a_bin_ts (And.intro @a_bin_it (And.intro @boolM_eql (And.intro @boolM_neq (And.intro @un_not (And.intro @un_neg (And.intro @tabN (And.intro @Nat.blt_eq (And.intro @nn0 (And.intro @Int.toNat_zero (And.intro @tabR (And.intro @Option.some.injEq.{0} (And.intro @Option.some.injEq.{1} (And.intro @exists_eq_left'.{0} (And.intro @exists_eq_left'.{1} (And.intro @exists_eq_left.{0} (And.intro @exists_eq_left.{1} (And.intro @oneOf_1 (And.intro @oneOf_2 (And.intro @oneOf_3 (And.intro @oneOf_0 (And.intro @put_push (And.intro @beq_true (And.intro @beq_false (And.intro @decide_not (And.intro @bd_eq (And.intro @bdM.eq_1 (And.intro @bdM.eq_2 (And.intro @bda_eq (And.intro @arrOf.eq_1 (And.intro @tabP (And.intro @aUn.eq_1 (And.intro @pb_xor (And.intro @pb_and (And.intro @pb_or (And.intro @pb_shl (And.intro @pb_shr (And.intro @pb_quo (And.intro @pb_rem (And.intro @a_nil (And.intro @a_eqnilp (And.intro @a_nenilp (And.intro @isPtrT.eq_1 (And.intro @put_push_eq (And.intro @put_push_lt (And.intro @lt_a1 (And.intro @lt_a2 (And.intro @lt_a3 (And.intro @lt_a4 (And.intro @lt_a5 (And.intro @lt_a6 (And.intro @lt_a7 (And.intro @res_cell (And.intro @a_conv (And.intro @a_idx_cs (And.intro @isStrT.eq_1 (And.intro @a_mkf (And.intro @aMakeFunc.eq_1 (And.intro @notYield.eq_1 (And.intro @notYield.eq_2 (And.intro @Bool.not_true (@Bool.not_false)))))))))))))))))))))))))))))))))))))))))))))))))))))))))))))))))))))))))))))))))))))))))))))))))))))))))))))))))))))))))))))))))))))))))))))))))))))))))))))))))))))))))))))))))))))))))))))))))))))))))))))))))))))))))))))))))))))))))))))))))))))))))))))))))))))))))))))))))))))))))))))))))))))))))))))))))))))))))))))))))))))
def cored0 := And.intro @kindOf.eq_1 (And.intro @WRegD_t (And.intro @WRegD_f (And.intro @WOpD_av (And.intro @WOpD_ae (And.intro @WOpD_s (And.intro @WOpD_l (And.intro @WOpD_r (And.intro @rdOf.eq_1 (And.intro @WDM_nil (And.intro @hold_nil (And.intro @hold_cons (And.intro @rdA.eq_1 (And.intro @rdA.eq_2 (And.intro @rdA.eq_3 (And.intro @rdA.eq_4 (And.intro @same_sl (And.intro @same_int (And.intro @same_bool (And.intro @same_str (And.intro @same_agg (And.intro @same_one (And.intro @List.zip_cons_cons.{0,0} (And.intro @List.zip_cons_cons.{0,1} (And.intro @List.zip_cons_cons.{1,0} (And.intro @List.zip_cons_cons.{1,1} (And.intro @List.zip_nil_left.{0,0} (And.intro @List.zip_nil_left.{0,1} (And.intro @List.zip_nil_left.{1,0} (And.intro @List.zip_nil_left.{1,1} (And.intro @beq_self_eq_true.{0} (@beq_self_eq_true.{1})))))))))))))))))))))))))))))))
theorem corem : type_of% corem0 := corem0
theorem cored : type_of% cored0 := cored0
def core0 := And.intro corem (And.intro @WB_cond_s (And.intro @put.eq_1 (And.intro @ldL.eq_1 (And.intro @WB_label (And.intro @List.nil_append.{0} (And.intro @List.nil_append.{1} (And.intro @List.drop_zero.{0} (And.intro @List.drop_zero.{1} (And.intro @List.take_zero.{0} (@List.take_zero.{1}))))))))))
theorem core : type_of% core0 := core0
def dw01 := And.intro @List.getElem?_toArray.{0} (And.intro @List.getElem?_cons_zero.{0} (And.intro @List.getElem?_cons_succ.{0} (And.intro @WRegDO.eq_1 (And.intro @WRegDO.eq_2 (@kindOf.eq_1)))))
theorem dw1 : type_of% dw01 := dw01
def dw02 := And.intro @dropR_nil (And.intro @dropR_cons (And.intro @List.size_toArray.{0} (And.intro @List.length_cons.{0} (And.intro @List.length_nil.{0} (And.intro @waits_eq (And.intro @Nat.zero_add (And.intro @Nat.zero_ne_one (And.intro @decide_true (And.intro @decide_false (And.intro @cond_true.{0} (And.intro @cond_true.{1} (And.intro @cond_false.{0} (@cond_false.{1})))))))))))))
theorem dw2 : type_of% dw02 := dw02
end Go.Proofs.YtpfibijbieblnaaGreatDoor.Ex
end

section

set_option linter.unusedSimpArgs false
set_option linter.unusedVariables false
namespace Go.Proofs.YtpfibijbieblnaaGreatDoor.Ex
open Go Go.RowKit
variable {P : Program} {ρ : Nat → Value} {fl : Nat}
mutual
theorem rel.back {μ μ1 : Mu} {w w1 : World} (hm : More μ μ1) : ∀ (a : AV) (v0 v : Value), rel ρ μ w a v0 → rel ρ μ1 w1 a v → rel ρ μ w1 a v
  | .lit _, _, _, _, h => by unfold rel at h ⊢; exact h
  | .ptr b off, _, _, h0, h => by
    unfold rel at h0 h ⊢
    obtain ⟨r, base, e0, _⟩ := h0
    obtain ⟨r', base', e1, e2⟩ := h
    rw [hm _ _ e0] at e1
    cases e1
    exact ⟨r, base, e0, e2⟩
  | .sl b off len cap, _, _, h0, h => by
    unfold rel at h0 h ⊢
    rcases h with ⟨r', base', o', c', e1, e2, e3, e4⟩ | h
    · rcases h0 with ⟨r, base, o, c, e0, _⟩ | ⟨rfl, rfl, _⟩
      · rw [hm _ _ e0] at e1
        cases e1
        exact .inl ⟨_, _, o', c', e0, e2, e3, e4⟩
      · obtain ⟨rfl, _, _⟩ := e4
        exact .inr ⟨rfl, rfl, _, e2⟩
    · exact .inr h
  | .mp b, _, _, h0, h => by
    unfold rel at h0 h ⊢
    obtain ⟨r, e0, _⟩ := h0
    obtain ⟨r', e1, e2⟩ := h
    rw [hm _ _ e0] at e1
    cases e1
    exact ⟨r, e0, e2⟩
  | .agg l, _, _, h0, h => by
    unfold rel at h0 h ⊢
    obtain ⟨l0, _, h0⟩ := h0
    obtain ⟨l', e, h⟩ := h
    exact ⟨l', e, rels.back hm l l0 l' h0 h⟩
  | .tup l, _, _, h0, h => by
    unfold rel at h0 h ⊢
    obtain ⟨l0, _, h0⟩ := h0
    obtain ⟨l', e, h⟩ := h
    exact ⟨l', e, rels.back hm l l0 l' h0 h⟩
  | .ifc t a, _, _, h0, h => by
    unfold rel at h0 h ⊢
    obtain ⟨u0, _, h0⟩ := h0
    obtain ⟨u, e, h⟩ := h
    exact ⟨u, e, rel.back hm a u0 u h0 h⟩
  | .fn f a b, _, _, h0, h => by
    unfold rel at h0 h ⊢
    obtain ⟨f0, a0, b0, _, g0, h1, h2⟩ := h0
    obtain ⟨f', a', b', e, g, h3, h4⟩ := h
    refine ⟨f', a', b', e, ?_, rels.back hm a a0 a' h1 h3, rels.back hm b b0 b' h2 h4⟩
    cases f <;> first
      | exact g
      | (obtain ⟨r, e0, _⟩ := g0
         obtain ⟨r', e1, e2⟩ := g
         rw [hm _ _ e0] at e1
         cases e1
         exact ⟨r, e0, e2⟩)
  | .ext _, _, _, _, h => by unfold rel at h ⊢; exact h
  | .any, _, _, _, h => by unfold rel at h ⊢; exact h
  | .rng _ _ _, _, _, _, h => by unfold rel at h ⊢; exact h
theorem rels.back {μ μ1 : Mu} {w w1 : World} (hm : More μ μ1) : ∀ (a : List AV) (v0 v : List Value), rels ρ μ w a v0 → rels ρ μ1 w1 a v → rels ρ μ w1 a v
  | [], _, _, _, h => by unfold rels at h ⊢; exact h
  | x :: xs, _, _, h0, h => by
    unfold rels at h0 h ⊢
    obtain ⟨a0, r0, _, p0, q0⟩ := h0
    obtain ⟨a, r1, e, p, q⟩ := h
    exact ⟨a, r1, e, rel.back hm x a0 a p0 p, rels.back hm xs r0 r1 q0 q⟩
end
theorem window.back {μ μ1 : Mu} {w w1 : World} (hm : More μ μ1) {base base1 : Nat} {l : List AV} {c0 c1 : Array Value} (h0 : window ρ μ w base l c0) (h1 : window ρ μ1 w1 base1 l c1) : window ρ μ w1 base1 l c1 :=
  ⟨h1.1, fun i x hx => by
    obtain ⟨v0, _, a⟩ := h0.2 i x hx
    obtain ⟨v, e, b⟩ := h1.2 i x hx
    exact ⟨v, e, rel.back hm x v0 v a b⟩⟩
theorem entsRel.back {μ μ1 : Mu} {w w1 : World} (hm : More μ μ1) : ∀ {l : List AE} {m0 m1 : List MapEntry}, entsRel ρ μ w l m0 → entsRel ρ μ1 w1 l m1 → entsRel ρ μ w1 l m1
  | [], _, _, _, h => h
  | a :: r, _, _, h0, h => by
    obtain ⟨e0, es0, _, ⟨_, _, p0, _⟩, q0⟩ := h0
    obtain ⟨e, es, rfl, ⟨g1, g2, p, g4⟩, q⟩ := h
    exact ⟨e, es, rfl, ⟨g1, g2, rel.back hm _ _ _ p0 p, g4⟩, entsRel.back hm q0 q⟩
theorem objRel.back {μ μ1 : Mu} {w w1 : World} (hm : More μ μ1) {base base1 : Nat} {ab : AB} {o0 o1 : Obj} (h0 : objRel P ρ μ w base ab o0) (h1 : objRel P ρ μ1 w1 base1 ab o1) : objRel P ρ μ w1 base1 ab o1 := by
  cases ab with
  | cells l e =>
    obtain ⟨c0, _, a, _⟩ := h0
    obtain ⟨c1, e1, b, c⟩ := h1
    exact ⟨c1, e1, a.back hm b, c⟩
  | frz l e =>
    obtain ⟨c0, _, _, a⟩ := h0
    obtain ⟨c1, fz, e1, b⟩ := h1
    exact ⟨c1, fz, e1, a.back hm b⟩
  | map es clock =>
    obtain ⟨m0, _, _, a⟩ := h0
    obtain ⟨m1, e1, e2, b⟩ := h1
    exact ⟨m1, e1, e2, a.back hm b⟩
  | loop a =>
    obtain ⟨l0, _, _, _, _, _, q0, _⟩ := h0
    obtain ⟨l1, e1, e2, p1, p2, p3, q1, p4, p5, p6⟩ := h1
    exact ⟨l1, e1, e2, p1, p2, p3, rels.back hm _ _ _ q0 q1, p4, p5, p6⟩
  | iter m since seen last =>
    obtain ⟨_, m0, _, q0⟩ := h0
    obtain ⟨e0, m1, e1, q1⟩ := h1
    refine ⟨e0, m1, e1, ?_⟩
    cases m with
    | none => exact q1
    | some b =>
      obtain ⟨r0, g0, _⟩ := q0
      obtain ⟨r1, g1, g2⟩ := q1
      rw [hm _ _ g0] at g1
      cases g1
      exact ⟨r0, g0, g2⟩
  | siter s pos => exact h1
  | defd => exact h1
  | gone => trivial
end Go.Proofs.YtpfibijbieblnaaGreatDoor.Ex
end

section

set_option linter.unusedSimpArgs false
set_option linter.unusedVariables false
namespace Go.Proofs.YtpfibijbieblnaaGreatDoor
open Go.RowKit
/-- '(*sync/atomic.Int64).Add'. -/
theorem add64_c (a : Addr) (x y s : Int) (w : World) (hc : w.cell? a = some (.int .i64 x)) (hz : w.frozen? a = false) (hs : (IntKind.i64.wrap (x + y)) = s) :
    Calls Tryz.prog 36 #[.pointer (some a), .int .i64 y] w fun e w' => e = .returned (.int .i64 s) ∧ w' = w.setCell a (.int .i64 s) := by
  have hadd := run_call_add (P := Tryz.prog) Tryz.func63 (by kernel_rfl) (by kernel_rfl) (by kernel_rfl) .i64 (by kernel_rfl) (y := y) (s := s) hc hz (by first | (simp [go_sem]; exact hs) | (simp [go_sem, hs]) | exact hs)
  go_enter Tryz.func36, Tryz.ntmps36
  go_wp2
  go_ret
  exact ⟨rfl, rfl⟩
end Go.Proofs.YtpfibijbieblnaaGreatDoor
end

section

set_option linter.unusedSimpArgs false
set_option linter.unusedVariables false
namespace Go.Proofs.YtpfibijbieblnaaGreatDoor.Ex
open Go Go.RowKit
def sAdd : List AV → AH → Option (AV × AH)
  | [.ptr b off, .lit (.int .i64 y)], h => match getB h b with
    | some (l, e) => match l[off]? with
      | some (.lit (.int .i64 x)) => (put l off [.lit (.int .i64 (IntKind.i64.wrap (x + y)))]).map fun l' => (.lit (.int .i64 (IntKind.i64.wrap (x + y))), h.put b (.cells l' e))
      | _ => none
    | none => none
  | _, _ => none
theorem sAdd_ok {ρ : Nat → Value} {fl : Nat} {μ : Mu} {h h' : AH} {w : World} {v : AV} {args : List AV} {args' : List Value} (hg : sAdd args h = some (v, h')) (hr : HR Tryz.prog ρ fl μ h w) (ha : rels ρ μ w args args') :
    Calls Tryz.prog 36 args'.toArray w fun e w' => ∃ μ' v', e = .returned v' ∧ Eff Tryz.prog ρ fl μ h w μ' h' w' ∧ rel ρ μ' w' v v' := by
  unfold sAdd at hg
  split at hg
  case h_2 => cases hg
  rename_i b off y
  split at hg
  case h_2 => cases hg
  rename_i l e hgb
  split at hg
  case h_2 => cases hg
  rename_i x hx
  simp only [Option.map_eq_some_iff, Prod.mk.injEq] at hg
  obtain ⟨l', hp, rfl, rfl⟩ := hg
  obtain ⟨vp, vs, rfl, r1, r2⟩ := rels_cons_inv ha
  obtain ⟨vy, vs2, rfl, r3, r4⟩ := rels_cons_inv r2
  obtain rfl := rels_nil_inv r4
  obtain rfl := rel_lit_inv r3
  obtain ⟨r, base, m1, rfl⟩ := rel_ptr_inv r1
  obtain ⟨cur, k1, k2, k3⟩ := getB_sound hr m1 hgb
  obtain ⟨v0, v1, v2⟩ := k2.2 off _ hx
  obtain rfl := rel_lit_inv v2
  have hcells : rels ρ μ w [AV.lit (.int .i64 (IntKind.i64.wrap (x + y)))] [.int .i64 (IntKind.i64.wrap (x + y))] := rels_cons (rel_lit rfl) rels_nil
  have hc : w.cell? ⟨r, base + off, none⟩ = some (.int .i64 x) := by rw [cell_in k1]; exact v1
  obtain ⟨ef, _, fz⟩ := setCells_eff hr m1 hgb hp hcells
  have hz : w.frozen? ⟨r, base + off, none⟩ = false := fz 0 (by simp)
  refine (add64_c ⟨r, base + off, none⟩ x y _ w hc hz rfl).mono fun e w' hy => ?_
  obtain ⟨rfl, rfl⟩ := hy
  exact ⟨μ, _, rfl, ef, rel_lit rfl⟩
end Go.Proofs.YtpfibijbieblnaaGreatDoor.Ex
end

section

set_option linter.unusedSimpArgs false
set_option linter.unusedVariables false
namespace Go.Proofs.YtpfibijbieblnaaGreatDoor.Ex
open Go Go.RowKit
variable {P : Program} {ρ : Nat → Value} {fl : Nat}
theorem eff_old {μ : Mu} {h : AH} {w w' : World} (hr : HR P ρ fl μ h w) (hs : w'.tape = w.tape ∧ w'.os = w.os ∧ w'.output = w.output) (hsz : w.heap.size ≤ w'.heap.size) (hx : ∀ r, r < w.heap.size → w'.heap[r]? = w.heap[r]?) : Eff P ρ fl μ h w μ h w' := by
  have hlt : ∀ r o, w.heap[r]? = some o → r < w.heap.size := fun r o h => (Array.getElem?_eq_some_iff.1 h).1
  have hg : Grows w w' := fun r cur e fz h => ⟨cur, e, fz, by rw [hx r (hlt r _ h)]; exact h, rfl⟩
  have hr' : HRL P ρ fl μ h.L w := hr
  show EffL P ρ fl μ h.L w μ h.L w'
  exact ⟨More.refl μ, Nat.le_refl _, fun b x h1 h2 => (by rw [h1] at h2; cases h2), fun _ _ _ => rfl, fun _ h => h, fun _ _ _ h => h, hg, hsz, fun b r base h1 h2 => (by rw [h1] at h2; cases h2), fun r h _ => hx r h, hs,
    ⟨Nat.le_trans hr'.floor hsz, hr'.dom, fun b r base ab h1 h2 => let ⟨h3, h4, o, h5, h6⟩ := hr'.obj b r base ab h1 h2; ⟨h3, Nat.lt_of_lt_of_le h4 hsz, o, by rw [hx r h4]; exact h5, h6.mono (More.refl μ) hg⟩, hr'.inj, hr'.pin.more (More.refl μ) hg⟩⟩
theorem eff_below {μ : Mu} {h : AH} {w w' : World} (hr : HR P ρ fl μ h w) (hk : Below w.heap.size w w') : Eff P ρ fl μ h w μ h w' :=
  eff_old hr ⟨hk.tape, hk.os, hk.output⟩ hk.size fun r hr => hk.block r hr
end Go.Proofs.YtpfibijbieblnaaGreatDoor.Ex
end

section

namespace Go.Proofs
open Go.Shelf
def Tryz.llays160_ren : Go.Shelf.Ren := ⟨fun | 160 => 56 | 232 => 93 | 231 => 92 | 227 => 94 | 234 => 96 | 233 => 95 | 236 => 98 | 235 => 97 | 228 => 121 | 271 => 124 | 151 => 123 | 197 => 122 | 120 => 144 | 152 => 143 | 260 => 142 | 137 => 152 | 119 => 153 | 224 => 119 | 225 => 118 | 217 => 117 | 266 => 140 | n => n, fun | 9 => 9 | 4 => 4 | 3 => 3 | 5 => 5 | 117 => 160 | 116 => 159 | 0 => 0 | 124 => 163 | 21 => 21 | 105 => 180 | 46 => 104 | 119 => 214 | 139 => 217 | 138 => 216 | n => n, fun | 3 => 4 | 4 => 5 | n => n⟩
theorem Tryz.llays160 : Go.Proofs.Lays.n160 Tryz.prog Tryz.llays160_ren := {
  mixed := by kernel_rfl,
  f119 := Tryz.func153.trans (congrArg some (by kernel_rfl)),
  f120 := Tryz.func144.trans (congrArg some (by kernel_rfl)),
  f137 := Tryz.func152.trans (congrArg some (by kernel_rfl)),
  f151 := Tryz.func123.trans (congrArg some (by kernel_rfl)),
  f152 := Tryz.func143.trans (congrArg some (by kernel_rfl)),
  f160 := Tryz.func56.trans (congrArg some (by kernel_rfl)),
  f197 := Tryz.func122.trans (congrArg some (by kernel_rfl)),
  f217 := Tryz.func117.trans (congrArg some (by kernel_rfl)),
  f224 := Tryz.func119.trans (congrArg some (by kernel_rfl)),
  f225 := Tryz.func118.trans (congrArg some (by kernel_rfl)),
  f227 := Tryz.func94.trans (congrArg some (by kernel_rfl)),
  f228 := Tryz.func121.trans (congrArg some (by kernel_rfl)),
  f231 := Tryz.func92.trans (congrArg some (by kernel_rfl)),
  f232 := Tryz.func93.trans (congrArg some (by kernel_rfl)),
  f233 := Tryz.func95.trans (congrArg some (by kernel_rfl)),
  f234 := Tryz.func96.trans (congrArg some (by kernel_rfl)),
  f235 := Tryz.func97.trans (congrArg some (by kernel_rfl)),
  f236 := Tryz.func98.trans (congrArg some (by kernel_rfl)),
  f260 := Tryz.func142.trans (congrArg some (by kernel_rfl)),
  f266 := Tryz.func140.trans (congrArg some (by kernel_rfl)),
  f271 := Tryz.func124.trans (congrArg some (by kernel_rfl)),
  t0 := Tryz.underlying0,
  a0 := Tryz.isAgg0,
  z0 := Tryz.sizeOf0,
  v0 := Tryz.zeroValue0,
  t3 := Tryz.underlying3,
  a3 := Tryz.isAgg3,
  z3 := Tryz.sizeOf3,
  v3 := Tryz.zeroValue3,
  t4 := Tryz.underlying4,
  a4 := Tryz.isAgg4,
  z4 := Tryz.sizeOf4,
  v4 := Tryz.zeroValue4,
  t5 := Tryz.underlying5,
  a5 := Tryz.isAgg5,
  z5 := Tryz.sizeOf5,
  v5 := Tryz.zeroValue5,
  t9 := Tryz.underlying9,
  a9 := Tryz.isAgg9,
  z9 := Tryz.sizeOf9,
  v9 := Tryz.zeroValue9,
  t21 := Tryz.underlying21,
  a21 := Tryz.isAgg21,
  z21 := Tryz.sizeOf21,
  v21 := Tryz.zeroValue21,
  t46 := Tryz.underlying104,
  a46 := Tryz.isAgg104,
  z46 := Tryz.sizeOf104,
  v46 := Tryz.zeroValue104,
  t105 := Tryz.underlying180,
  a105 := Tryz.isAgg180,
  z105 := Tryz.sizeOf180,
  v105 := Tryz.zeroValue180,
  t116 := Tryz.underlying159,
  a116 := Tryz.isAgg159,
  z116 := Tryz.sizeOf159,
  t117 := Tryz.underlying160,
  a117 := Tryz.isAgg160,
  z117 := Tryz.sizeOf160,
  v117 := Tryz.zeroValue160,
  t119 := Tryz.underlying214,
  a119 := Tryz.isAgg214,
  z119 := Tryz.sizeOf214,
  t124 := Tryz.underlying163,
  a124 := Tryz.isAgg163,
  z124 := Tryz.sizeOf163,
  v124 := Tryz.zeroValue163,
  t138 := Tryz.underlying216,
  a138 := Tryz.isAgg216,
  z138 := Tryz.sizeOf216,
  v138 := Tryz.zeroValue216,
  t139 := Tryz.underlying217,
  a139 := Tryz.isAgg217,
  z139 := Tryz.sizeOf217,
  v139 := Tryz.zeroValue217,
  g3 := by kernel_rfl,
  g4 := by kernel_rfl }
def Tryz.llays219_ren : Go.Shelf.Ren := ⟨fun | 219 => 91 | 217 => 117 | 225 => 118 | 224 => 119 | 267 => 120 | 266 => 140 | 314 => 141 | n => n, fun | 9 => 9 | 3 => 3 | 4 => 4 | 5 => 5 | 46 => 104 | 146 => 201 | 51 => 82 | n => n, fun | 1 => 0 | n => n⟩
theorem Tryz.llays219 : Go.Proofs.Lays.n219 Tryz.prog Tryz.llays219_ren := {
  mixed := by kernel_rfl,
  f217 := Tryz.func117.trans (congrArg some (by kernel_rfl)),
  f219 := Tryz.func91.trans (congrArg some (by kernel_rfl)),
  f224 := Tryz.func119.trans (congrArg some (by kernel_rfl)),
  f225 := Tryz.func118.trans (congrArg some (by kernel_rfl)),
  f266 := Tryz.func140.trans (congrArg some (by kernel_rfl)),
  f267 := Tryz.func120.trans (congrArg some (by kernel_rfl)),
  f314 := Tryz.func141.trans (congrArg some (by kernel_rfl)),
  t3 := Tryz.underlying3,
  a3 := Tryz.isAgg3,
  z3 := Tryz.sizeOf3,
  v3 := Tryz.zeroValue3,
  t4 := Tryz.underlying4,
  a4 := Tryz.isAgg4,
  z4 := Tryz.sizeOf4,
  v4 := Tryz.zeroValue4,
  t5 := Tryz.underlying5,
  a5 := Tryz.isAgg5,
  z5 := Tryz.sizeOf5,
  v5 := Tryz.zeroValue5,
  t9 := Tryz.underlying9,
  a9 := Tryz.isAgg9,
  z9 := Tryz.sizeOf9,
  v9 := Tryz.zeroValue9,
  t46 := Tryz.underlying104,
  a46 := Tryz.isAgg104,
  z46 := Tryz.sizeOf104,
  v46 := Tryz.zeroValue104,
  t51 := Tryz.underlying82,
  a51 := Tryz.isAgg82,
  z51 := Tryz.sizeOf82,
  v51 := Tryz.zeroValue82,
  t146 := Tryz.underlying201,
  a146 := Tryz.isAgg201,
  z146 := Tryz.sizeOf201,
  v146 := Tryz.zeroValue201,
  g1 := by kernel_rfl }
def Tryz.llays138_ren : Go.Shelf.Ren := ⟨fun | 138 => 105 | 195 => 136 | 218 => 137 | 143 => 106 | 219 => 91 | 217 => 117 | 225 => 118 | 224 => 119 | 267 => 120 | 266 => 140 | 314 => 141 | n => n, fun | 9 => 9 | 3 => 3 | 4 => 4 | 5 => 5 | 0 => 0 | 46 => 104 | 146 => 201 | 51 => 82 | n => n, fun | 1 => 0 | n => n⟩
theorem Tryz.llays138 : Go.Proofs.Lays.n138 Tryz.prog Tryz.llays138_ren := {
  mixed := by kernel_rfl,
  f138 := Tryz.func105.trans (congrArg some (by kernel_rfl)),
  f143 := Tryz.func106.trans (congrArg some (by kernel_rfl)),
  f195 := Tryz.func136.trans (congrArg some (by kernel_rfl)),
  f217 := Tryz.func117.trans (congrArg some (by kernel_rfl)),
  f218 := Tryz.func137.trans (congrArg some (by kernel_rfl)),
  f219 := Tryz.func91.trans (congrArg some (by kernel_rfl)),
  f224 := Tryz.func119.trans (congrArg some (by kernel_rfl)),
  f225 := Tryz.func118.trans (congrArg some (by kernel_rfl)),
  f266 := Tryz.func140.trans (congrArg some (by kernel_rfl)),
  f267 := Tryz.func120.trans (congrArg some (by kernel_rfl)),
  f314 := Tryz.func141.trans (congrArg some (by kernel_rfl)),
  t0 := Tryz.underlying0,
  a0 := Tryz.isAgg0,
  z0 := Tryz.sizeOf0,
  v0 := Tryz.zeroValue0,
  t3 := Tryz.underlying3,
  a3 := Tryz.isAgg3,
  z3 := Tryz.sizeOf3,
  v3 := Tryz.zeroValue3,
  t4 := Tryz.underlying4,
  a4 := Tryz.isAgg4,
  z4 := Tryz.sizeOf4,
  v4 := Tryz.zeroValue4,
  t5 := Tryz.underlying5,
  a5 := Tryz.isAgg5,
  z5 := Tryz.sizeOf5,
  v5 := Tryz.zeroValue5,
  t9 := Tryz.underlying9,
  a9 := Tryz.isAgg9,
  z9 := Tryz.sizeOf9,
  v9 := Tryz.zeroValue9,
  t46 := Tryz.underlying104,
  a46 := Tryz.isAgg104,
  z46 := Tryz.sizeOf104,
  v46 := Tryz.zeroValue104,
  t51 := Tryz.underlying82,
  a51 := Tryz.isAgg82,
  z51 := Tryz.sizeOf82,
  v51 := Tryz.zeroValue82,
  t146 := Tryz.underlying201,
  a146 := Tryz.isAgg201,
  z146 := Tryz.sizeOf201,
  v146 := Tryz.zeroValue201,
  g1 := by kernel_rfl }
def Tryz.llays172_ren : Go.Shelf.Ren := ⟨fun | 172 => 57 | 244 => 99 | 245 => 100 | 247 => 125 | 279 => 126 | 280 => 127 | 281 => 128 | 282 => 129 | 287 => 145 | 316 => 146 | 171 => 33 | 205 => 147 | 321 => 154 | 322 => 155 | 243 => 58 | 246 => 101 | 283 => 130 | 284 => 131 | 285 => 132 | 286 => 133 | 129 => 80 | 317 => 148 | 318 => 149 | 319 => 150 | 320 => 151 | 337 => 156 | 338 => 157 | n => n, fun | 9 => 9 | 3 => 3 | 75 => 119 | 76 => 120 | 4 => 4 | 5 => 5 | 167 => 183 | 37 => 23 | 0 => 0 | 85 => 184 | 2 => 2 | 168 => 186 | 53 => 102 | 175 => 204 | 46 => 104 | 210 => 208 | 127 => 166 | 145 => 222 | 143 => 220 | 21 => 21 | 171 => 189 | 173 => 191 | 212 => 211 | 51 => 82 | 20 => 20 | 213 => 212 | 232 => 46 | 233 => 223 | 80 => 126 | n => n, fun | 15 => 1 | 16 => 2 | 17 => 3 | 18 => 6 | 19 => 7 | n => n⟩
theorem Tryz.llays172 : Go.Proofs.Lays.n172 Tryz.prog Tryz.llays172_ren := {
  mixed := by kernel_rfl,
  f129 := Tryz.func80.trans (congrArg some (by kernel_rfl)),
  f171 := Tryz.func33.trans (congrArg some (by kernel_rfl)),
  f172 := Tryz.func57.trans (congrArg some (by kernel_rfl)),
  f205 := Tryz.func147.trans (congrArg some (by kernel_rfl)),
  f243 := Tryz.func58.trans (congrArg some (by kernel_rfl)),
  f244 := Tryz.func99.trans (congrArg some (by kernel_rfl)),
  f245 := Tryz.func100.trans (congrArg some (by kernel_rfl)),
  f246 := Tryz.func101.trans (congrArg some (by kernel_rfl)),
  f247 := Tryz.func125.trans (congrArg some (by kernel_rfl)),
  f279 := Tryz.func126.trans (congrArg some (by kernel_rfl)),
  f280 := Tryz.func127.trans (congrArg some (by kernel_rfl)),
  f281 := Tryz.func128.trans (congrArg some (by kernel_rfl)),
  f282 := Tryz.func129.trans (congrArg some (by kernel_rfl)),
  f283 := Tryz.func130.trans (congrArg some (by kernel_rfl)),
  f284 := Tryz.func131.trans (congrArg some (by kernel_rfl)),
  f285 := Tryz.func132.trans (congrArg some (by kernel_rfl)),
  f286 := Tryz.func133.trans (congrArg some (by kernel_rfl)),
  f287 := Tryz.func145.trans (congrArg some (by kernel_rfl)),
  f316 := Tryz.func146.trans (congrArg some (by kernel_rfl)),
  f317 := Tryz.func148.trans (congrArg some (by kernel_rfl)),
  f318 := Tryz.func149.trans (congrArg some (by kernel_rfl)),
  f319 := Tryz.func150.trans (congrArg some (by kernel_rfl)),
  f320 := Tryz.func151.trans (congrArg some (by kernel_rfl)),
  f321 := Tryz.func154.trans (congrArg some (by kernel_rfl)),
  f322 := Tryz.func155.trans (congrArg some (by kernel_rfl)),
  f337 := Tryz.func156.trans (congrArg some (by kernel_rfl)),
  f338 := Tryz.func157.trans (congrArg some (by kernel_rfl)),
  t0 := Tryz.underlying0,
  a0 := Tryz.isAgg0,
  z0 := Tryz.sizeOf0,
  v0 := Tryz.zeroValue0,
  t2 := Tryz.underlying2,
  a2 := Tryz.isAgg2,
  z2 := Tryz.sizeOf2,
  v2 := Tryz.zeroValue2,
  t3 := Tryz.underlying3,
  a3 := Tryz.isAgg3,
  z3 := Tryz.sizeOf3,
  v3 := Tryz.zeroValue3,
  t4 := Tryz.underlying4,
  a4 := Tryz.isAgg4,
  z4 := Tryz.sizeOf4,
  v4 := Tryz.zeroValue4,
  t5 := Tryz.underlying5,
  a5 := Tryz.isAgg5,
  z5 := Tryz.sizeOf5,
  v5 := Tryz.zeroValue5,
  t9 := Tryz.underlying9,
  a9 := Tryz.isAgg9,
  z9 := Tryz.sizeOf9,
  v9 := Tryz.zeroValue9,
  t20 := Tryz.underlying20,
  a20 := Tryz.isAgg20,
  z20 := Tryz.sizeOf20,
  v20 := Tryz.zeroValue20,
  t21 := Tryz.underlying21,
  a21 := Tryz.isAgg21,
  z21 := Tryz.sizeOf21,
  v21 := Tryz.zeroValue21,
  t37 := Tryz.underlying23,
  a37 := Tryz.isAgg23,
  z37 := Tryz.sizeOf23,
  v37 := Tryz.zeroValue23,
  t46 := Tryz.underlying104,
  a46 := Tryz.isAgg104,
  z46 := Tryz.sizeOf104,
  v46 := Tryz.zeroValue104,
  t51 := Tryz.underlying82,
  a51 := Tryz.isAgg82,
  z51 := Tryz.sizeOf82,
  v51 := Tryz.zeroValue82,
  t53 := Tryz.underlying102,
  a53 := Tryz.isAgg102,
  z53 := Tryz.sizeOf102,
  v53 := Tryz.zeroValue102,
  t75 := Tryz.underlying119,
  a75 := Tryz.isAgg119,
  z75 := Tryz.sizeOf119,
  v75 := Tryz.zeroValue119,
  t76 := Tryz.underlying120,
  a76 := Tryz.isAgg120,
  z76 := Tryz.sizeOf120,
  v76 := Tryz.zeroValue120,
  t85 := Tryz.underlying184,
  a85 := Tryz.isAgg184,
  z85 := Tryz.sizeOf184,
  v85 := Tryz.zeroValue184,
  t127 := Tryz.underlying166,
  a127 := Tryz.isAgg166,
  z127 := Tryz.sizeOf166,
  v127 := Tryz.zeroValue166,
  t143 := Tryz.underlying220,
  a143 := Tryz.isAgg220,
  z143 := Tryz.sizeOf220,
  v143 := Tryz.zeroValue220,
  t145 := Tryz.underlying222,
  a145 := Tryz.isAgg222,
  z145 := Tryz.sizeOf222,
  v145 := Tryz.zeroValue222,
  t167 := Tryz.underlying183,
  a167 := Tryz.isAgg183,
  z167 := Tryz.sizeOf183,
  v167 := Tryz.zeroValue183,
  t168 := Tryz.underlying186,
  a168 := Tryz.isAgg186,
  z168 := Tryz.sizeOf186,
  v168 := Tryz.zeroValue186,
  t171 := Tryz.underlying189,
  a171 := Tryz.isAgg189,
  z171 := Tryz.sizeOf189,
  v171 := Tryz.zeroValue189,
  t173 := Tryz.underlying191,
  a173 := Tryz.isAgg191,
  z173 := Tryz.sizeOf191,
  v173 := Tryz.zeroValue191,
  t175 := Tryz.underlying204,
  a175 := Tryz.isAgg204,
  z175 := Tryz.sizeOf204,
  v175 := Tryz.zeroValue204,
  t210 := Tryz.underlying208,
  a210 := Tryz.isAgg208,
  z210 := Tryz.sizeOf208,
  v210 := Tryz.zeroValue208,
  t212 := Tryz.underlying211,
  a212 := Tryz.isAgg211,
  z212 := Tryz.sizeOf211,
  v212 := Tryz.zeroValue211,
  t213 := Tryz.underlying212,
  a213 := Tryz.isAgg212,
  z213 := Tryz.sizeOf212,
  t232 := Tryz.underlying46,
  a232 := Tryz.isAgg46,
  z232 := Tryz.sizeOf46,
  v232 := Tryz.zeroValue46,
  t233 := Tryz.underlying223,
  a233 := Tryz.isAgg223,
  z233 := Tryz.sizeOf223,
  v233 := Tryz.zeroValue223,
  g15 := by kernel_rfl,
  g16 := by kernel_rfl,
  g17 := by kernel_rfl,
  g18 := by kernel_rfl,
  g19 := by kernel_rfl }
def Tryz.llaysm171_ren : Go.Shelf.Ren := ⟨fun | 171 => 33 | 243 => 58 | 246 => 101 | 283 => 130 | 284 => 131 | 285 => 132 | 286 => 133 | 129 => 80 | 317 => 148 | 318 => 149 | 319 => 150 | 320 => 151 | 337 => 156 | 338 => 157 | n => n, fun | 3 => 3 | 9 => 9 | 2 => 2 | 4 => 4 | 171 => 189 | 0 => 0 | 53 => 102 | 37 => 23 | 5 => 5 | 173 => 191 | 212 => 211 | 51 => 82 | 20 => 20 | 213 => 212 | 46 => 104 | 232 => 46 | 233 => 223 | n => n, fun | 17 => 3 | 18 => 6 | 19 => 7 | n => n⟩
theorem Tryz.llaysm171 : Go.Proofs.LaysM.n171 Tryz.prog Tryz.llaysm171_ren := {
  mixed := by kernel_rfl,
  f129 := Tryz.func80.trans (congrArg some (by kernel_rfl)),
  f171 := Tryz.func33.trans (congrArg some (by kernel_rfl)),
  f243 := Tryz.func58.trans (congrArg some (by kernel_rfl)),
  f246 := Tryz.func101.trans (congrArg some (by kernel_rfl)),
  f283 := Tryz.func130.trans (congrArg some (by kernel_rfl)),
  f284 := Tryz.func131.trans (congrArg some (by kernel_rfl)),
  f285 := Tryz.func132.trans (congrArg some (by kernel_rfl)),
  f286 := Tryz.func133.trans (congrArg some (by kernel_rfl)),
  f317 := Tryz.func148.trans (congrArg some (by kernel_rfl)),
  f318 := Tryz.func149.trans (congrArg some (by kernel_rfl)),
  f319 := Tryz.func150.trans (congrArg some (by kernel_rfl)),
  f320 := Tryz.func151.trans (congrArg some (by kernel_rfl)),
  f337 := Tryz.func156.trans (congrArg some (by kernel_rfl)),
  f338 := Tryz.func157.trans (congrArg some (by kernel_rfl)),
  t0 := Tryz.underlying0,
  a0 := Tryz.isAgg0,
  z0 := Tryz.sizeOf0,
  v0 := Tryz.zeroValue0,
  t2 := Tryz.underlying2,
  a2 := Tryz.isAgg2,
  z2 := Tryz.sizeOf2,
  v2 := Tryz.zeroValue2,
  t3 := Tryz.underlying3,
  a3 := Tryz.isAgg3,
  z3 := Tryz.sizeOf3,
  v3 := Tryz.zeroValue3,
  t4 := Tryz.underlying4,
  a4 := Tryz.isAgg4,
  z4 := Tryz.sizeOf4,
  v4 := Tryz.zeroValue4,
  t5 := Tryz.underlying5,
  a5 := Tryz.isAgg5,
  z5 := Tryz.sizeOf5,
  v5 := Tryz.zeroValue5,
  t9 := Tryz.underlying9,
  a9 := Tryz.isAgg9,
  z9 := Tryz.sizeOf9,
  v9 := Tryz.zeroValue9,
  t20 := Tryz.underlying20,
  a20 := Tryz.isAgg20,
  z20 := Tryz.sizeOf20,
  v20 := Tryz.zeroValue20,
  t37 := Tryz.underlying23,
  a37 := Tryz.isAgg23,
  z37 := Tryz.sizeOf23,
  v37 := Tryz.zeroValue23,
  t46 := Tryz.underlying104,
  a46 := Tryz.isAgg104,
  z46 := Tryz.sizeOf104,
  v46 := Tryz.zeroValue104,
  t51 := Tryz.underlying82,
  a51 := Tryz.isAgg82,
  z51 := Tryz.sizeOf82,
  v51 := Tryz.zeroValue82,
  t53 := Tryz.underlying102,
  a53 := Tryz.isAgg102,
  z53 := Tryz.sizeOf102,
  v53 := Tryz.zeroValue102,
  t171 := Tryz.underlying189,
  a171 := Tryz.isAgg189,
  z171 := Tryz.sizeOf189,
  v171 := Tryz.zeroValue189,
  t173 := Tryz.underlying191,
  a173 := Tryz.isAgg191,
  z173 := Tryz.sizeOf191,
  v173 := Tryz.zeroValue191,
  t212 := Tryz.underlying211,
  a212 := Tryz.isAgg211,
  z212 := Tryz.sizeOf211,
  v212 := Tryz.zeroValue211,
  t213 := Tryz.underlying212,
  a213 := Tryz.isAgg212,
  z213 := Tryz.sizeOf212,
  t232 := Tryz.underlying46,
  a232 := Tryz.isAgg46,
  z232 := Tryz.sizeOf46,
  v232 := Tryz.zeroValue46,
  t233 := Tryz.underlying223,
  a233 := Tryz.isAgg223,
  z233 := Tryz.sizeOf223,
  v233 := Tryz.zeroValue223,
  g17 := by kernel_rfl,
  g18 := by kernel_rfl,
  g19 := by kernel_rfl,
  i0 := by kernel_rfl,
  i2 := by kernel_rfl,
  i3 := by kernel_rfl,
  i4 := by kernel_rfl,
  i5 := by kernel_rfl,
  i9 := by kernel_rfl,
  i20 := by kernel_rfl,
  i37 := by kernel_rfl,
  i46 := by kernel_rfl,
  i51 := by kernel_rfl,
  i53 := by kernel_rfl,
  i171 := by kernel_rfl,
  i173 := by kernel_rfl,
  i212 := by kernel_rfl,
  i232 := by kernel_rfl,
  i233 := by kernel_rfl,
  m17 := by kernel_rfl,
  m18 := by kernel_rfl,
  m19 := by kernel_rfl }
def Tryz.llays171_ren : Go.Shelf.Ren := ⟨fun | 171 => 33 | 243 => 58 | 246 => 101 | 283 => 130 | 284 => 131 | 285 => 132 | 286 => 133 | 129 => 80 | 317 => 148 | 318 => 149 | 319 => 150 | 320 => 151 | 337 => 156 | 338 => 157 | n => n, fun | 3 => 3 | 9 => 9 | 2 => 2 | 4 => 4 | 171 => 189 | 0 => 0 | 53 => 102 | 37 => 23 | 5 => 5 | 173 => 191 | 212 => 211 | 51 => 82 | 20 => 20 | 213 => 212 | 46 => 104 | 232 => 46 | 233 => 223 | n => n, fun | 17 => 3 | 18 => 6 | 19 => 7 | n => n⟩
theorem Tryz.llays171 : Go.Proofs.Lays.n171 Tryz.prog Tryz.llays171_ren := {
  mixed := by kernel_rfl,
  f129 := Tryz.func80.trans (congrArg some (by kernel_rfl)),
  f171 := Tryz.func33.trans (congrArg some (by kernel_rfl)),
  f243 := Tryz.func58.trans (congrArg some (by kernel_rfl)),
  f246 := Tryz.func101.trans (congrArg some (by kernel_rfl)),
  f283 := Tryz.func130.trans (congrArg some (by kernel_rfl)),
  f284 := Tryz.func131.trans (congrArg some (by kernel_rfl)),
  f285 := Tryz.func132.trans (congrArg some (by kernel_rfl)),
  f286 := Tryz.func133.trans (congrArg some (by kernel_rfl)),
  f317 := Tryz.func148.trans (congrArg some (by kernel_rfl)),
  f318 := Tryz.func149.trans (congrArg some (by kernel_rfl)),
  f319 := Tryz.func150.trans (congrArg some (by kernel_rfl)),
  f320 := Tryz.func151.trans (congrArg some (by kernel_rfl)),
  f337 := Tryz.func156.trans (congrArg some (by kernel_rfl)),
  f338 := Tryz.func157.trans (congrArg some (by kernel_rfl)),
  t0 := Tryz.underlying0,
  a0 := Tryz.isAgg0,
  z0 := Tryz.sizeOf0,
  v0 := Tryz.zeroValue0,
  t2 := Tryz.underlying2,
  a2 := Tryz.isAgg2,
  z2 := Tryz.sizeOf2,
  v2 := Tryz.zeroValue2,
  t3 := Tryz.underlying3,
  a3 := Tryz.isAgg3,
  z3 := Tryz.sizeOf3,
  v3 := Tryz.zeroValue3,
  t4 := Tryz.underlying4,
  a4 := Tryz.isAgg4,
  z4 := Tryz.sizeOf4,
  v4 := Tryz.zeroValue4,
  t5 := Tryz.underlying5,
  a5 := Tryz.isAgg5,
  z5 := Tryz.sizeOf5,
  v5 := Tryz.zeroValue5,
  t9 := Tryz.underlying9,
  a9 := Tryz.isAgg9,
  z9 := Tryz.sizeOf9,
  v9 := Tryz.zeroValue9,
  t20 := Tryz.underlying20,
  a20 := Tryz.isAgg20,
  z20 := Tryz.sizeOf20,
  v20 := Tryz.zeroValue20,
  t37 := Tryz.underlying23,
  a37 := Tryz.isAgg23,
  z37 := Tryz.sizeOf23,
  v37 := Tryz.zeroValue23,
  t46 := Tryz.underlying104,
  a46 := Tryz.isAgg104,
  z46 := Tryz.sizeOf104,
  v46 := Tryz.zeroValue104,
  t51 := Tryz.underlying82,
  a51 := Tryz.isAgg82,
  z51 := Tryz.sizeOf82,
  v51 := Tryz.zeroValue82,
  t53 := Tryz.underlying102,
  a53 := Tryz.isAgg102,
  z53 := Tryz.sizeOf102,
  v53 := Tryz.zeroValue102,
  t171 := Tryz.underlying189,
  a171 := Tryz.isAgg189,
  z171 := Tryz.sizeOf189,
  v171 := Tryz.zeroValue189,
  t173 := Tryz.underlying191,
  a173 := Tryz.isAgg191,
  z173 := Tryz.sizeOf191,
  v173 := Tryz.zeroValue191,
  t212 := Tryz.underlying211,
  a212 := Tryz.isAgg211,
  z212 := Tryz.sizeOf211,
  v212 := Tryz.zeroValue211,
  t213 := Tryz.underlying212,
  a213 := Tryz.isAgg212,
  z213 := Tryz.sizeOf212,
  t232 := Tryz.underlying46,
  a232 := Tryz.isAgg46,
  z232 := Tryz.sizeOf46,
  v232 := Tryz.zeroValue46,
  t233 := Tryz.underlying223,
  a233 := Tryz.isAgg223,
  z233 := Tryz.sizeOf223,
  v233 := Tryz.zeroValue223,
  g17 := by kernel_rfl,
  g18 := by kernel_rfl,
  g19 := by kernel_rfl }
def Tryz.llays156_ren : Go.Shelf.Ren := ⟨fun | 156 => 34 | 165 => 59 | 166 => 60 | 169 => 61 | 240 => 102 | 241 => 103 | 276 => 134 | 277 => 135 | n => n, fun | 31 => 39 | 9 => 9 | 3 => 3 | 4 => 4 | 0 => 0 | 20 => 20 | 72 => 124 | 76 => 120 | 70 => 122 | 37 => 23 | 75 => 119 | 127 => 166 | 164 => 193 | 5 => 5 | 80 => 126 | n => n, fun | n => n⟩
theorem Tryz.llays156 : Go.Proofs.Lays.n156 Tryz.prog Tryz.llays156_ren := {
  mixed := by kernel_rfl,
  f156 := Tryz.func34.trans (congrArg some (by kernel_rfl)),
  f165 := Tryz.func59.trans (congrArg some (by kernel_rfl)),
  f166 := Tryz.func60.trans (congrArg some (by kernel_rfl)),
  f169 := Tryz.func61.trans (congrArg some (by kernel_rfl)),
  f240 := Tryz.func102.trans (congrArg some (by kernel_rfl)),
  f241 := Tryz.func103.trans (congrArg some (by kernel_rfl)),
  f276 := Tryz.func134.trans (congrArg some (by kernel_rfl)),
  f277 := Tryz.func135.trans (congrArg some (by kernel_rfl)),
  t0 := Tryz.underlying0,
  a0 := Tryz.isAgg0,
  z0 := Tryz.sizeOf0,
  v0 := Tryz.zeroValue0,
  t3 := Tryz.underlying3,
  a3 := Tryz.isAgg3,
  z3 := Tryz.sizeOf3,
  v3 := Tryz.zeroValue3,
  t4 := Tryz.underlying4,
  a4 := Tryz.isAgg4,
  z4 := Tryz.sizeOf4,
  v4 := Tryz.zeroValue4,
  t9 := Tryz.underlying9,
  a9 := Tryz.isAgg9,
  z9 := Tryz.sizeOf9,
  v9 := Tryz.zeroValue9,
  t20 := Tryz.underlying20,
  a20 := Tryz.isAgg20,
  z20 := Tryz.sizeOf20,
  v20 := Tryz.zeroValue20,
  t31 := Tryz.underlying39,
  a31 := Tryz.isAgg39,
  z31 := Tryz.sizeOf39,
  v31 := Tryz.zeroValue39,
  t37 := Tryz.underlying23,
  a37 := Tryz.isAgg23,
  z37 := Tryz.sizeOf23,
  v37 := Tryz.zeroValue23,
  t70 := Tryz.underlying122,
  a70 := Tryz.isAgg122,
  z70 := Tryz.sizeOf122,
  v70 := Tryz.zeroValue122,
  t72 := Tryz.underlying124,
  a72 := Tryz.isAgg124,
  z72 := Tryz.sizeOf124,
  v72 := Tryz.zeroValue124,
  t75 := Tryz.underlying119,
  a75 := Tryz.isAgg119,
  z75 := Tryz.sizeOf119,
  v75 := Tryz.zeroValue119,
  t76 := Tryz.underlying120,
  a76 := Tryz.isAgg120,
  z76 := Tryz.sizeOf120,
  v76 := Tryz.zeroValue120,
  t127 := Tryz.underlying166,
  a127 := Tryz.isAgg166,
  z127 := Tryz.sizeOf166,
  v127 := Tryz.zeroValue166,
  t164 := Tryz.underlying193,
  a164 := Tryz.isAgg193,
  z164 := Tryz.sizeOf193,
  v164 := Tryz.zeroValue193 }
end Go.Proofs
end

section

set_option linter.unusedSimpArgs false
set_option linter.unusedVariables false
namespace Go.Proofs.YtpfibijbieblnaaGreatDoor.Ex
open Go Go.Lib
/-- Digits. -/
theorem decDigits_eq (u : Nat) : decDigits u = if u < 10 then [UInt8.ofNat (48 + u)] else decDigits (u / 10) ++ [UInt8.ofNat (48 + u % 10)] := by
  rw [decDigits]
  split <;> rfl
end Go.Proofs.YtpfibijbieblnaaGreatDoor.Ex
end

section

set_option linter.unusedSimpArgs false
set_option linter.unusedVariables false
namespace Go.Proofs.YtpfibijbieblnaaGreatDoor.Ex
open Go Go.RowKit
def sTrim : List AV → AH → Option (AV × AH)
  | [.lit (.string s), .lit (.string cs)], h => bif decide (s.size ≤ 9223372036854775807) && (decide (cs.size < 4294967281) && cs.data.toList.all fun b => decide (b.toNat < 128)) then some (.lit (.string ⟨(Lib.trimS s.data.toList cs.data.toList).toArray⟩), h) else none
  | _, _ => none
def sIndex : List AV → AH → Option (AV × AH)
  | [.lit (.string s), .lit (.string ⟨⟨[c]⟩⟩)], h => some (.lit (.int .i64 (Lib.indexByte s.data.toList c)), h)
  | _, _ => none
def sCount : List AV → AH → Option (AV × AH)
  | [.lit (.string s), .lit (.string ⟨⟨[c]⟩⟩)], h => some (.lit (.int .i64 (s.data.toList.count c : Nat)), h)
  | _, _ => none
def sAtoi : List AV → AH → Option (AV × AH)
  | [.lit (.string s)], h => bif decide (s.size ≤ 18) then (Lib.atoi s.data.toList).map fun n => (.tup [.lit (.int .i64 n), .lit .nilIface], h) else none
  | _, _ => none
def dig2 (n : Nat) : List UInt8 := if n < 10 then [UInt8.ofNat (48 + n)] else [UInt8.ofNat (48 + n / 10), UInt8.ofNat (48 + n % 10)]
theorem dig2_eq {n : Nat} (h : n < 100) : dig2 n = Lib.decDigits n := by
  rw [decDigits_eq]
  unfold dig2
  split
  · rfl
  · rw [decDigits_eq, if_pos (by omega)]
    rfl
def uintsL : List AV → Option (List Int)
  | [] => some []
  | .lit (.int .u64 x) :: r => (uintsL r).map (x :: ·)
  | _ :: _ => none
def tabL : List AV := Lib.pow10Tab.map fun z => .lit (.int .u64 z)
def sItoa : List AV → AH → Option (AV × AH)
  | [.lit (.int .i64 n)], h => bif decide (0 ≤ n) && decide (n < 100) then some (.lit (.string ⟨(dig2 n.toNat).toArray⟩), h) else match h.at 1 with
    | some (.frz l _) => bif decide (uintsL l = some Lib.pow10Tab) && (decide (-9223372036854775808 ≤ n) && decide (n ≤ 9223372036854775807)) then some (.lit (.string ⟨(Lib.itoa n).toArray⟩), h) else none
    | _ => none
  | _, _ => none
def strsL : List AV → Option (List ByteArray)
  | [] => some []
  | .lit (.string x) :: r => (strsL r).map (x :: ·)
  | _ :: _ => none
def sJoin : List AV → AH → Option (AV × AH)
  | [.sl b off n _, .lit (.string sep)], h => match getB h b with
    | some (l, _) => match strsL ((l.drop off).take n) with
      | some xs => bif Nat.beq n xs.length && (decide (xs.length ≤ 140737488355328) && decide ((Lib.join (xs.map (·.data.toList)) sep.data.toList).length ≤ 140737488355328)) then some (.lit (.string ⟨(Lib.join (xs.map (·.data.toList)) sep.data.toList).toArray⟩), h) else none
      | none => none
    | none => none
  | _, _ => none
variable {ρ : Nat → Value} {fl : Nat} {μ : Mu} {h h' : AH} {w : World} {v : AV} {args : List AV} {args' : List Value}
theorem sTrim_ok (hg : sTrim args h = some (v, h')) (hr : HR Tryz.prog ρ fl μ h w) (ha : rels ρ μ w args args') :
    Calls Tryz.prog 56 args'.toArray w fun e w' => ∃ μ' v', e = .returned v' ∧ Eff Tryz.prog ρ fl μ h w μ' h' w' ∧ rel ρ μ' w' v v' := by
  unfold sTrim at hg
  split at hg
  case h_2 => cases hg
  rename_i s cs
  cases hc : (decide (s.size ≤ 9223372036854775807) && (decide (cs.size < 4294967281) && cs.data.toList.all fun b => decide (b.toNat < 128))) with
  | false => rw [hc] at hg; cases hg
  | true =>
  rw [hc] at hg
  cases hg
  simp only [Bool.and_eq_true, decide_eq_true_eq] at hc
  obtain ⟨h1, h2, h3⟩ := hc
  obtain ⟨v1, vs, rfl, r1, r2⟩ := rels_cons_inv ha
  obtain ⟨v2, vs, rfl, r3, r4⟩ := rels_cons_inv r2
  obtain rfl := rels_nil_inv r4
  obtain rfl : v1 = .string s := rel_lit_inv r1
  obtain rfl : v2 = .string cs := rel_lit_inv r3
  refine (Any.strings_Trim_laid Tryz.llays160 (by kernel_rfl) s cs w h1 h2 (fun j b hb => of_decide_eq_true (List.all_eq_true.1 h3 b (List.mem_of_getElem? hb)))).mono fun e w' hy => ?_
  obtain ⟨rfl, hk⟩ := hy
  exact ⟨μ, _, rfl, eff_below hr hk, rel_lit rfl⟩
theorem sIndex_ok (hg : sIndex args h = some (v, h')) (hr : HR Tryz.prog ρ fl μ h w) (ha : rels ρ μ w args args') :
    Calls Tryz.prog 91 args'.toArray w fun e w' => ∃ μ' v', e = .returned v' ∧ Eff Tryz.prog ρ fl μ h w μ' h' w' ∧ rel ρ μ' w' v v' := by
  unfold sIndex at hg
  split at hg
  case h_2 => cases hg
  rename_i s c
  cases hg
  obtain ⟨v1, vs, rfl, r1, r2⟩ := rels_cons_inv ha
  obtain ⟨v2, vs, rfl, r3, r4⟩ := rels_cons_inv r2
  obtain rfl := rels_nil_inv r4
  obtain rfl : v1 = .string s := rel_lit_inv r1
  obtain rfl : v2 = .string ⟨#[c]⟩ := rel_lit_inv r3
  refine (Any.stringslite_Index_one Tryz.llays219 s c w).mono fun e w' hy => ?_
  obtain ⟨rfl, rfl⟩ := hy
  exact ⟨μ, _, rfl, Eff.refl hr, rel_lit rfl⟩
theorem sCount_ok (hg : sCount args h = some (v, h')) (hr : HR Tryz.prog ρ fl μ h w) (ha : rels ρ μ w args args') :
    Calls Tryz.prog 105 args'.toArray w fun e w' => ∃ μ' v', e = .returned v' ∧ Eff Tryz.prog ρ fl μ h w μ' h' w' ∧ rel ρ μ' w' v v' := by
  unfold sCount at hg
  split at hg
  case h_2 => cases hg
  rename_i s c
  cases hg
  obtain ⟨v1, vs, rfl, r1, r2⟩ := rels_cons_inv ha
  obtain ⟨v2, vs, rfl, r3, r4⟩ := rels_cons_inv r2
  obtain rfl := rels_nil_inv r4
  obtain rfl : v1 = .string s := rel_lit_inv r1
  obtain rfl : v2 = .string ⟨#[c]⟩ := rel_lit_inv r3
  refine (Any.strings_Count_one Tryz.llays138 s c w).mono fun e w' hy => ?_
  obtain ⟨rfl, rfl⟩ := hy
  exact ⟨μ, _, rfl, Eff.refl hr, rel_lit rfl⟩
theorem sAtoi_ok (hg : sAtoi args h = some (v, h')) (hr : HR Tryz.prog ρ fl μ h w) (ha : rels ρ μ w args args') :
    Calls Tryz.prog 57 args'.toArray w fun e w' => ∃ μ' v', e = .returned v' ∧ Eff Tryz.prog ρ fl μ h w μ' h' w' ∧ rel ρ μ' w' v v' := by
  unfold sAtoi at hg
  split at hg
  case h_2 => cases hg
  rename_i s
  cases hc : decide (s.size ≤ 18) with
  | false => rw [hc] at hg; cases hg
  | true =>
  rw [hc] at hg
  cases hn : Lib.atoi s.data.toList with
  | none => rw [hn] at hg; cases hg
  | some n =>
  rw [hn] at hg
  cases hg
  obtain ⟨v1, vs, rfl, r1, r2⟩ := rels_cons_inv ha
  obtain rfl := rels_nil_inv r2
  obtain rfl : v1 = .string s := rel_lit_inv r1
  refine (Any.strconv_Atoi Tryz.llays172 s n (of_decide_eq_true hc) hn w).mono fun e w' hy => ?_
  obtain ⟨rfl, t, rfl⟩ := hy
  exact ⟨μ, _, rfl, eff_below hr (Lib.bytesWorld_below _ _ _), by unfold rel; exact ⟨_, rfl, rels_cons (rel_lit rfl) (rels_cons (rel_lit rfl) rels_nil)⟩⟩
theorem uintsL_eq : ∀ {l : List AV} {xs : List Int}, uintsL l = some xs → l = xs.map fun z => AV.lit (.int .u64 z)
  | [], xs, h => by cases h; rfl
  | a :: r, xs, h => by
    unfold uintsL at h
    split at h
    · rename_i h0; cases h0
    · rename_i x r' h0
      cases h0
      cases hr : uintsL r with
      | none => rw [hr] at h; cases h
      | some ys =>
        rw [hr] at h
        cases h
        rw [uintsL_eq hr]
        rfl
    · cases h
theorem strsL_eq : ∀ {l : List AV} {xs : List ByteArray}, strsL l = some xs → l = xs.map fun z => AV.lit (.string z)
  | [], xs, h => by cases h; rfl
  | a :: r, xs, h => by
    unfold strsL at h
    split at h
    · rename_i h0; cases h0
    · rename_i x r' h0
      cases h0
      cases hr : strsL r with
      | none => rw [hr] at h; cases h
      | some ys =>
        rw [hr] at h
        cases h
        rw [strsL_eq hr]
        rfl
    · cases h
/-- Small numbers alone. -/
def sItoaS : List AV → AH → Option (AV × AH)
  | [.lit (.int .i64 n)], h => bif decide (0 ≤ n) && decide (n < 100) then some (.lit (.string ⟨(dig2 n.toNat).toArray⟩), h) else none
  | _, _ => none
theorem sItoaS_ok (hg : sItoaS args h = some (v, h')) (hr : HR Tryz.prog ρ fl μ h w) (ha : rels ρ μ w args args') :
    Calls Tryz.prog 33 args'.toArray w fun e w' => ∃ μ' v', e = .returned v' ∧ Eff Tryz.prog ρ fl μ h w μ' h' w' ∧ rel ρ μ' w' v v' := by
  unfold sItoaS at hg
  split at hg
  case h_2 => cases hg
  rename_i n
  cases hs : (decide (0 ≤ n) && decide (n < 100)) with
  | false => rw [hs] at hg; cases hg
  | true =>
  rw [hs] at hg
  cases hg
  simp only [Bool.and_eq_true, decide_eq_true_eq] at hs
  obtain ⟨v1, vs, rfl, r1, r2⟩ := rels_cons_inv ha
  obtain rfl := rels_nil_inv r2
  obtain rfl : v1 = .int .i64 n := rel_lit_inv r1
  obtain ⟨k, rfl⟩ := Int.eq_ofNat_of_zero_le hs.1
  refine (Any.strconv_Itoa_small Tryz.llays171 k (by omega) w).mono fun e w' hy => ?_
  obtain ⟨rfl, rfl⟩ := hy
  refine ⟨μ, _, rfl, Eff.refl hr, ?_⟩
  rw [show ((k : Int)).toNat = k from rfl, dig2_eq (by omega)]
  exact rel_lit rfl
theorem sItoa_ok (hρ : ρ 1000000 = .int .i64 3) (hρ1 : ρ 1000001 = .int .i64 20) (hg : sItoa args h = some (v, h')) (hr : HR Tryz.prog ρ fl μ h w) (ha : rels ρ μ w args args') :
    Calls Tryz.prog 33 args'.toArray w fun e w' => ∃ μ' v', e = .returned v' ∧ Eff Tryz.prog ρ fl μ h w μ' h' w' ∧ rel ρ μ' w' v v' := by
  unfold sItoa at hg
  split at hg
  case h_2 => cases hg
  rename_i n
  cases hs : (decide (0 ≤ n) && decide (n < 100)) with
  | true =>
    rw [hs] at hg
    exact sItoaS_ok (by show (bif decide (0 ≤ n) && decide (n < 100) then _ else _) = _; rw [hs]; exact hg) hr ha
  | false =>
  rw [hs] at hg
  simp only [cond_false] at hg
  split at hg
  case h_2 => cases hg
  rename_i l e hb
  cases hc : (decide (uintsL l = some Lib.pow10Tab) && (decide (-9223372036854775808 ≤ n) && decide (n ≤ 9223372036854775807))) with
  | false => rw [hc] at hg; cases hg
  | true =>
  rw [hc] at hg
  cases hg
  simp only [Bool.and_eq_true, decide_eq_true_eq] at hc
  obtain ⟨hl, h0, h1⟩ := hc
  obtain ⟨v1, vs, rfl, r1, r2⟩ := rels_cons_inv ha
  obtain rfl := rels_nil_inv r2
  obtain rfl : v1 = .int .i64 n := rel_lit_inv r1
  have hr' : HRL Tryz.prog ρ fl μ h.L w := hr
  obtain ⟨hμ, cur, e', fz, hw, hsz⟩ := hr'.pin 3 hρ
  rw [hρ1] at hsz
  have hsz : cur.size = 20 := by injection hsz with _ h; omega
  obtain ⟨-, -, o, hw2, hrel⟩ := hr'.obj 1 _ 0 (.frz l e) hμ (by rw [L_at]; exact hb)
  obtain rfl : Obj.cells cur e' fz = o := Option.some.inj (hw.symm.trans hw2)
  have hlq := uintsL_eq hl
  have htab : Lib.TabIs Tryz.prog w "internal/strconv.uint64pow10" .u64 Lib.pow10Tab := by
    unfold Lib.TabIs World.var?
    rw [show Tryz.prog.globalNamed "internal/strconv.uint64pow10" = some 3 by kernel_rfl]
    show (match w.heap[3]? with | some (.cells cs _ _) => some cs | _ => none) = _
    have hw0 : w.heap[3]? = some (.cells cur e' fz) := hw
    rw [hw0]
    show some cur = _
    congr 1
    obtain ⟨cur2, fz2, he, hle, hcell⟩ := hrel
    obtain ⟨rfl, -, -⟩ := Obj.cells.inj he
    apply Array.ext'
    apply List.ext_getElem?
    intro i
    by_cases hi : i < 20
    · have hz : l[i]? = some (.lit (.int .u64 (Lib.pow10Tab.getD i 0))) := by
        rw [hlq, List.getElem?_map, List.getD_eq_getElem?_getD, List.getElem?_eq_getElem (show i < Lib.pow10Tab.length from hi)]
        rfl
      obtain ⟨v, hv, hvr⟩ := hcell i _ hz
      rw [rel_lit_inv hvr, Nat.zero_add] at hv
      rw [Array.getElem?_toList, hv, List.getElem?_map, List.getD_eq_getElem?_getD, List.getElem?_eq_getElem (show i < Lib.pow10Tab.length from hi)]
      rfl
    · rw [List.getElem?_eq_none (by rw [Array.length_toList]; omega), List.getElem?_eq_none (by rw [List.length_map]; show 20 ≤ i; omega)]
  refine (Any.strconv_Itoa Tryz.llaysm171 n h0 h1 w htab).mono fun e w' hy => ?_
  obtain ⟨rfl, k, os, rfl⟩ := hy
  refine ⟨μ, _, rfl, eff_old hr ⟨rfl, rfl, rfl⟩ (by show w.heap.size ≤ (w.heap ++ os).size; simp) (fun r hr => ?_), rel_lit rfl⟩
  show (w.heap ++ os)[r]? = _
  rw [Array.getElem?_append_left hr]
theorem joinX : Builder.Extra Tryz.prog Tryz.llays156_ren where
  sizeBuilder := by kernel_rfl
  liesBuilder := by kernel_rfl
  t5 := Tryz.llays172.t5
  a5 := Tryz.llays172.a5
  z5 := Tryz.llays172.z5
  v5 := Tryz.llays172.v5
  infoByte := by kernel_rfl
  cellsByte := by kernel_rfl
  sizeByte := by kernel_rfl
  neB5 := by decide
theorem sJoin_ok (hg : sJoin args h = some (v, h')) (hr : HR Tryz.prog ρ fl μ h w) (ha : rels ρ μ w args args') :
    Calls Tryz.prog 34 args'.toArray w fun e w' => ∃ μ' v', e = .returned v' ∧ Eff Tryz.prog ρ fl μ h w μ' h' w' ∧ rel ρ μ' w' v v' := by
  unfold sJoin at hg
  split at hg
  case h_2 => cases hg
  rename_i b off n cap sep
  split at hg
  case h_2 => cases hg
  rename_i l e hb
  split at hg
  case h_2 => cases hg
  rename_i xs hxs
  cases hc : (Nat.beq n xs.length && (decide (xs.length ≤ 140737488355328) && decide ((Lib.join (xs.map (·.data.toList)) sep.data.toList).length ≤ 140737488355328))) with
  | false => rw [hc] at hg; cases hg
  | true =>
  rw [hc] at hg
  cases hg
  simp only [Bool.and_eq_true, decide_eq_true_eq] at hc
  obtain ⟨hn, hN, hlen⟩ := hc
  obtain rfl := Nat.eq_of_beq_eq_true hn
  obtain ⟨v1, vs, rfl, r1, r2⟩ := rels_cons_inv ha
  obtain ⟨v2, vs, rfl, r3, r4⟩ := rels_cons_inv r2
  obtain rfl := rels_nil_inv r4
  obtain rfl : v2 = .string sep := rel_lit_inv r3
  have hxs := strsL_eq hxs
  rcases rel_sl_inv r1 with ⟨r, base, o, c', m1, rfl, hco, hcap⟩ | ⟨h0, -, a, rfl⟩
  · have hc0 := (capRel_le hcap).1
    obtain ⟨cur, k1, k2, k3⟩ := getB_sound hr m1 hb
    refine (Any.strings_Join Tryz.llays156 joinX r o c' xs sep w (fun j x hj => ?_) (Array.getElem?_eq_some_iff.1 k1).1 hN hc0 hlen).mono fun e' w' hy => ?_
    · have hjl : j < xs.length := (List.getElem?_eq_some_iff.1 hj).1
      obtain rfl : o = base + off := by rcases hco with h | h <;> omega
      have hl : l[off + j]? = some (.lit (.string x)) := by
        have : ((l.drop off).take xs.length)[j]? = some (.lit (.string x)) := by rw [hxs, List.getElem?_map, hj]; rfl
        rw [List.getElem?_take_of_lt hjl, List.getElem?_drop] at this
        exact this
      obtain ⟨v0, q1, q2⟩ := k2.2 (off + j) _ hl
      rw [cell_in k1, Nat.add_assoc, q1, rel_lit_inv q2]
    · obtain ⟨rfl, hk⟩ := hy
      exact ⟨μ, _, rfl, eff_below hr hk, rel_lit rfl⟩
  · have h0 : xs.length = 0 := h0
    obtain rfl := List.length_eq_zero_iff.1 h0
    refine (Any.strings_Join_none Tryz.llays156 joinX _ _ sep w).mono fun e' w' hy => ?_
    obtain ⟨rfl, rfl⟩ := hy
    exact ⟨μ, _, rfl, Eff.refl hr, rel_lit rfl⟩
end Go.Proofs.YtpfibijbieblnaaGreatDoor.Ex
end

section

set_option linter.unusedSimpArgs false
set_option linter.unusedVariables false
namespace Go.Proofs.YtpfibijbieblnaaGreatDoor.Ex
open Go Go.RowKit
theorem follows_mixed : Tryz.prog.follows .mixedOrders = true := by kernel_rfl
theorem bif_some {α : Type} {b : Bool} {x : α} {y : Option α} {z : α} (h : (bif b then some x else y) = some z) : (b = true ∧ x = z) ∨ y = some z := by
  cases b
  · exact .inr h
  · exact .inl ⟨rfl, Option.some.inj h⟩
/-- What the sums of the first kind know: the library's texts. -/
def S01 : Sums := fun f =>
  bif Nat.beq f 56 then some sTrim else
  bif Nat.beq f 91 then some sIndex else
  bif Nat.beq f 105 then some sCount else
  bif Nat.beq f 57 then some sAtoi else
  bif Nat.beq f 34 then some sJoin else
  bif Nat.beq f 33 then some sItoaS else bif Nat.beq f 36 then some sAdd else none
theorem sums_ok01 (ρ : Nat → Value) (fl : Nat) : SumsOK Tryz.prog ρ fl S01 := by
  intro f g args h v h' hs hg μ w args' hr ha
  unfold S01 at hs
  rcases bif_some hs with ⟨h1, rfl⟩ | hs
  · obtain rfl := Nat.eq_of_beq_eq_true h1
    exact sTrim_ok hg hr ha
  rcases bif_some hs with ⟨h1, rfl⟩ | hs
  · obtain rfl := Nat.eq_of_beq_eq_true h1
    exact sIndex_ok hg hr ha
  rcases bif_some hs with ⟨h1, rfl⟩ | hs
  · obtain rfl := Nat.eq_of_beq_eq_true h1
    exact sCount_ok hg hr ha
  rcases bif_some hs with ⟨h1, rfl⟩ | hs
  · obtain rfl := Nat.eq_of_beq_eq_true h1
    exact sAtoi_ok hg hr ha
  rcases bif_some hs with ⟨h1, rfl⟩ | hs
  · obtain rfl := Nat.eq_of_beq_eq_true h1
    exact sJoin_ok hg hr ha
  rcases bif_some hs with ⟨h1, rfl⟩ | hs
  · obtain rfl := Nat.eq_of_beq_eq_true h1
    exact sItoaS_ok hg hr ha
  rcases bif_some hs with ⟨h1, rfl⟩ | hs
  · obtain rfl := Nat.eq_of_beq_eq_true h1
    exact sAdd_ok hg hr ha
  cases hs
theorem closed_c {f n : Nat} (hrun : isTrue (ex Tryz.prog (tabOf Tryz.prog NT0) S01 n (.call f [] none) .nil) = true) (w : World) : Calls Tryz.prog f #[] w fun e w' => e = .returned (.bool true) ∧ Below w.heap.size w w' := by
  obtain ⟨h', hx⟩ := isTrue_inv hrun
  refine (ex_calls (ρ := fun _ => default) (args' := []) tab_sound noNG follows_mixed (sums_ok01 _ _) hx rels_nil).mono fun e w' hy => ?_
  obtain ⟨v', μ', rfl, hb, hv⟩ := hy
  exact ⟨by rw [rel_bool_inv hv], hb⟩
set_option maxRecDepth 100000 in
theorem lives25_run : isTrue (ex Tryz.prog (tabOf Tryz.prog NT0) S01 100000 (.call 4 [] none) .nil) = true := by decide +kernel
def S0 : Sums := fun f => bif Nat.beq f 4 then some sTrue else bif Nat.beq f 33 then some sItoa else S01 f
/-- Values from outside: where the library's table lies, and how long it is. -/
def ρT : Nat → Value := fun i => bif Nat.beq i 1000000 then .int .i64 3 else bif Nat.beq i 1000001 then .int .i64 20 else default
theorem sums_ok (fl : Nat) : SumsOK Tryz.prog ρT fl S0 := by
  intro f g args h v h' hs hg μ w args' hr ha
  unfold S0 at hs
  rcases bif_some hs with ⟨h1, rfl⟩ | hs
  · obtain rfl := Nat.eq_of_beq_eq_true h1
    exact sTrue_ok (closed_c lives25_run) hg hr ha
  rcases bif_some hs with ⟨h1, rfl⟩ | hs
  · obtain rfl := Nat.eq_of_beq_eq_true h1
    exact sItoa_ok rfl rfl hg hr ha
  · exact sums_ok01 ρT fl f g args h v h' hs hg μ w args' hr ha
/-! Calls of what is summed up. -/
section
variable {H : AH} {Q : AV → AH → Prop}
end
end Go.Proofs.YtpfibijbieblnaaGreatDoor.Ex
end

section

set_option linter.unusedSimpArgs false
set_option linter.unusedVariables false
set_option maxRecDepth 10000
namespace Go.Proofs.YtpfibijbieblnaaGreatDoor.Ex
open Go
/-- A number in a list of numbers. -/
theorem IsSl.int {T : TT} {F : Nat → Prop} {h : AH} {v : AV} {xs : List Int} {e : TypeId} (hs : IsSl RInt F h v xs) (hA : isAggT T e = some false) (hS : sizeT T e = some 1) {i : Nat} (hi : i < xs.length) :
    loadA T h e (slB v) (slO v + i) = some (.lit (.int .i64 (xs.getD i 0))) := by
  obtain ⟨c, ⟨rfl, _⟩, h2⟩ := hs.get (T := T) (List.getElem?_eq_getElem hi)
  have := h2 e 1 0 hS (by omega) (by show 0 + 1 ≤ 1; omega)
  simp only [RInt, Nat.mul_one, Nat.add_zero] at this
  rw [this]
  simp [ldL, hA, hS, List.getD_eq_getElem?_getD, List.getElem?_eq_getElem hi]
theorem IsSl.empty {α : Type} {R : Rep α} {F : Nat → Prop} {H : AH} {v : AV} {xs : List α} (h : IsSl R F H v xs) (hn : isNil v = true) : xs = [] := by
  refine List.eq_nil_of_length_eq_zero ?_
  rw [← h.lenD]
  unfold isNil at hn
  split at hn
  · rfl
  · cases hn
end Go.Proofs.YtpfibijbieblnaaGreatDoor.Ex
end

section

set_option linter.unusedSimpArgs false
set_option linter.unusedVariables false
set_option maxRecDepth 10000
namespace Go.Proofs.YtpfibijbieblnaaGreatDoor.Ex
open Go
variable {P : Program}
theorem pur_bind {α β : Type} (s : Sem α) (f : α → Sem β) : pur P (s >>= f) = match pur P s with
    | some (.ok a) => pur P (f a)
    | some (.pan v) => some (.pan v)
    | none => none := by
  induction s with
  | pure a => rfl
  | program k ih => exact ih P
  | mark m k ih => exact ih
  | halt o => cases o <;> rfl
  | _ => rfl
theorem pur_program : pur P program = some (.ok P) := rfl
theorem pur_pure {α : Type} (a : α) : pur P (pure a) = some (.ok a) := rfl
theorem pur_ite {α : Type} {c : Prop} [Decidable c] (a b : Sem α) : pur P (if c then a else b) = if c then pur P a else pur P b := by split <;> rfl
theorem pur_und {t : TypeId} {d : TypeDesc} (h : P.underlying t = some d) : pur P (underlying t) = some (.ok d) := by
  show pur P (match P.underlying t with | some d => pure d | none => stuck "no such type") = _
  rw [h]
  rfl
theorem pur_equalIn_struct (d : Nat) (t : TypeId) (xs ys : Array Value) (ht : P.underlying t = some (.struct (P.fieldsOf t))) (hp : P.stoodInHeld t = false) : pur P (Op.equalIn (d + 1) t (.agg xs) (.agg ys)) = pur P (Op.eqFields d xs ys (P.fieldsOf t).toList) := by
  simp only [Op.equalIn, pur_bind, pur_und ht, pur_program, hp, Bool.false_eq_true, if_false]
  rw [← Array.forIn_toList]
  generalize (P.fieldsOf t).toList = fs
  clear ht
  induction fs with
  | nil => simp [Op.eqFields, pur_pure]
  | cons f fs ih =>
    simp only [List.forIn_cons, Op.eqFields, pur_bind, pur_ite]
    by_cases hn : f.name ≠ "_"
    · simp only [if_pos hn]
      cases pur P (part f.type xs f.offset) with
      | none => rfl
      | some r1 =>
        cases r1 with
        | pan v => rfl
        | ok a =>
          simp only
          cases pur P (part f.type ys f.offset) with
          | none => rfl
          | some r2 =>
            cases r2 with
            | pan v => rfl
            | ok b =>
              simp only
              cases pur P (Op.equalIn d f.type a b) with
              | none => rfl
              | some r3 =>
                cases r3 with
                | pan v => rfl
                | ok r =>
                  cases r
                  · simp [pur_pure]
                  · simp only [Bool.not_true, Bool.false_eq_true, if_false, pur_pure]
                    exact ih
    · simp only [if_neg hn, pur_pure]
      exact ih
theorem pur_equalIn_int (d : Nat) (t : TypeId) (k k' : IntKind) (a b : Int) (h : P.underlying t = some (.int k')) : pur P (Op.equalIn (d + 1) t (.int k a) (.int k b)) = some (.ok (a == b)) := by
  simp only [Op.equalIn, pur_bind, pur_und h]
  simp [pur_pure]
variable {d : Option Tmp} {ty : TypeId} {ps : String} {af : Array Edge} {g : Option (Nat × Bool)} {f : TypeId} {t : TM} {h : AH}
end Go.Proofs.YtpfibijbieblnaaGreatDoor.Ex
end

section

set_option linter.unusedSimpArgs false
set_option linter.unusedVariables false
set_option maxRecDepth 10000
namespace Go.Proofs.YtpfibijbieblnaaGreatDoor.Ex
open Go
theorem orI_comm (k : IntKind) (a b : Int) : orI k a b = orI k b a := by unfold orI; rw [BitVec.or_comm]
theorem w32 (n : Int) : IntKind.u32.wrap n = n % 4294967296 := rfl
theorem w32_add (a b : Int) : IntKind.u32.wrap (IntKind.u32.wrap a + b) = IntKind.u32.wrap (a + b) := by rw [w32, w32, w32, Int.emod_add_emod]
/-- To the right, around: by n; m is what is left of 32. -/
def rotI (x n m : Int) : Int := orI .u32 (shrI .u32 x n) (shlI .u32 x m)
def sg0 (x : Int) : Int := xorI .u32 (xorI .u32 (rotI x 7 25) (rotI x 18 14)) (shrI .u32 x 3)
def sg1 (x : Int) : Int := xorI .u32 (xorI .u32 (rotI x 17 15) (rotI x 19 13)) (shrI .u32 x 10)
def bs0 (x : Int) : Int := xorI .u32 (xorI .u32 (rotI x 2 30) (rotI x 13 19)) (rotI x 22 10)
def bs1 (x : Int) : Int := xorI .u32 (xorI .u32 (rotI x 6 26) (rotI x 11 21)) (rotI x 25 7)
def notW (x : Int) : Int := xorI .u32 x 4294967295
def chW (e f g : Int) : Int := xorI .u32 (andI .u32 e f) (andI .u32 (notW e) g)
def majW (a b c : Int) : Int := xorI .u32 (xorI .u32 (andI .u32 a b) (andI .u32 a c)) (andI .u32 b c)
/-- A word of the schedule from four earlier ones, as the document adds them. -/
def wS (a b c d : Int) : Int := IntKind.u32.wrap (IntKind.u32.wrap (IntKind.u32.wrap (a + sg0 b) + c) + sg1 d)
theorem wS_eq (a b c d : Int) : IntKind.u32.wrap (IntKind.u32.wrap (IntKind.u32.wrap (a + c) + sg0 b) + sg1 d) = wS a b c d := by
  unfold wS
  have h1 : IntKind.u32.wrap (a + c) + sg0 b + 0 = IntKind.u32.wrap (a + c) + sg0 b := Int.add_zero _
  rw [w32_add (a + c), w32_add (a + sg0 b), w32_add (a + c + sg0 b), w32_add (a + sg0 b + c)]
  congr 1
  omega
structure S8 where
  a : Int
  b : Int
  c : Int
  d : Int
  e : Int
  f : Int
  g : Int
  h : Int
def S8.cells (s : S8) : List AV := [.lit (.int .u32 s.a), .lit (.int .u32 s.b), .lit (.int .u32 s.c), .lit (.int .u32 s.d), .lit (.int .u32 s.e), .lit (.int .u32 s.f), .lit (.int .u32 s.g), .lit (.int .u32 s.h)]
def rndT (k x : Int) (s : S8) : Int := IntKind.u32.wrap (IntKind.u32.wrap (IntKind.u32.wrap (IntKind.u32.wrap (s.h + bs1 s.e) + chW s.e s.f s.g) + k) + x)
def rndU (s : S8) : Int := IntKind.u32.wrap (bs0 s.a + majW s.a s.b s.c)
def rnd (k x : Int) (s : S8) : S8 := ⟨IntKind.u32.wrap (rndT k x s + rndU s), s.a, s.b, s.c, IntKind.u32.wrap (s.d + rndT k x s), s.e, s.f, s.g⟩
def addS (s t : S8) : S8 := ⟨IntKind.u32.wrap (s.a + t.a), IntKind.u32.wrap (s.b + t.b), IntKind.u32.wrap (s.c + t.c), IntKind.u32.wrap (s.d + t.d), IntKind.u32.wrap (s.e + t.e), IntKind.u32.wrap (s.f + t.f), IntKind.u32.wrap (s.g + t.g), IntKind.u32.wrap (s.h + t.h)⟩
/-- A word of four bytes. -/
def be4 (a b c d : UInt8) : Int := (((a.toNat * 256 + b.toNat) * 256 + c.toNat) * 256 + d.toNat : Nat)
def wordN (m : List UInt8) (i : Nat) : Int := be4 (m.getD (4 * i) 0) (m.getD (4 * i + 1) 0) (m.getD (4 * i + 2) 0) (m.getD (4 * i + 3) 0)
/-- The schedule's first words. -/
def sched (m : List UInt8) : Nat → List Int
  | 0 => []
  | i + 1 => let l := sched m i
    l ++ [if i < 16 then wordN m i else wS (l.getD (i - 16) 0) (l.getD (i - 15) 0) (l.getD (i - 7) 0) (l.getD (i - 2) 0)]
theorem sched_lo (m : List UInt8) {i : Nat} (h : i < 16) : sched m (i + 1) = sched m i ++ [wordN m i] := by
  show sched m i ++ [_] = _
  rw [if_pos h]
theorem sched_hi (m : List UInt8) {i : Nat} (h : ¬ i < 16) : sched m (i + 1) = sched m i ++ [wS ((sched m i).getD (i - 16) 0) ((sched m i).getD (i - 15) 0) ((sched m i).getD (i - 7) 0) ((sched m i).getD (i - 2) 0)] := by
  show sched m i ++ [_] = _
  rw [if_neg h]
def rndsF (ks ws : List Int) (s : S8) : Nat → S8
  | 0 => s
  | i + 1 => rnd (ks.getD i 0) (ws.getD i 0) (rndsF ks ws s i)
/-- One of 64 bytes is taken in. -/
def blkF (ks : List Int) (s : S8) (m : List UInt8) : S8 := addS s (rndsF ks (sched m 64) s 64)
/-- What is hashed: the bytes, a one, noughts, how many bits there are. -/
def padN (n : Nat) : Nat := (119 - n % 64) % 64
def padF (b : List UInt8) : List UInt8 := b ++ [128] ++ List.replicate (padN b.length) 0 ++ (List.range 8).map fun i => UInt8.ofNat (b.length * 8 / 2 ^ (56 - 8 * i))
theorem pad_mod (b : List UInt8) : (padF b).length % 64 = 0 := by
  unfold padF padN
  simp only [List.length_append, List.length_replicate, List.length_map, List.length_range, List.length_cons, List.length_nil]
  omega
/-- So many blocks are taken in. -/
def blksF (ks : List Int) (m : List UInt8) (s : S8) : Nat → S8
  | 0 => s
  | i + 1 => blkF ks (blksF ks m s i) ((m.drop (64 * i)).take 64)
theorem sched_zero (m : List UInt8) : sched m 0 = [] := rfl
theorem rnds_zero (ks ws : List Int) (s : S8) : rndsF ks ws s 0 = s := rfl
theorem rnds_succ (ks ws : List Int) (s : S8) (i : Nat) : rndsF ks ws s (i + 1) = rnd (ks.getD i 0) (ws.getD i 0) (rndsF ks ws s i) := rfl
theorem blks_zero (ks : List Int) (m : List UInt8) (s : S8) : blksF ks m s 0 = s := rfl
theorem blks_succ (ks : List Int) (m : List UInt8) (s : S8) (i : Nat) : blksF ks m s (i + 1) = blkF ks (blksF ks m s i) ((m.drop (64 * i)).take 64) := rfl
attribute [irreducible] sched rndsF blksF
end Go.Proofs.YtpfibijbieblnaaGreatDoor.Ex
end

section

set_option linter.unusedSimpArgs false
set_option linter.unusedVariables false
set_option maxRecDepth 10000
namespace Go.Proofs.YtpfibijbieblnaaGreatDoor.Ex
open Go
theorem or32 {x b k : Nat} (hb : b < 2 ^ k) (hx : x * 2 ^ k + b < 4294967296) : orI .u32 ((x * 2 ^ k : Nat) : Int) (b : Int) = ((x * 2 ^ k + b : Nat) : Int) := by
  have e : x * 2 ^ k ||| b = x * 2 ^ k + b := by
    rw [← Nat.shiftLeft_eq, Nat.shiftLeft_add_eq_or_of_lt hb]
  unfold orI
  have e1 : (BitVec.ofInt (IntKind.bits .u32) ((x * 2 ^ k : Nat) : Int)).toNat = x * 2 ^ k := by
    show (BitVec.ofInt 32 ((x * 2 ^ k : Nat) : Int)).toNat = _
    rw [BitVec.ofInt_natCast, BitVec.toNat_ofNat, Nat.mod_eq_of_lt (by omega)]
  have e2 : (BitVec.ofInt (IntKind.bits .u32) (b : Int)).toNat = b := by
    show (BitVec.ofInt 32 (b : Int)).toNat = b
    rw [BitVec.ofInt_natCast, BitVec.toNat_ofNat, Nat.mod_eq_of_lt (by omega)]
  rw [BitVec.toNat_or, e1, e2, e]
  rw [w32]
  omega
theorem shl32' {a : Nat} (k : Nat) (hk : k ≤ 32) (ha : a * 2 ^ k < 4294967296) : shlI .u32 (a : Int) (k : Int) = ((a * 2 ^ k : Nat) : Int) := by
  unfold shlI
  have : min (Int.toNat (k : Int)) (IntKind.bits .u32) = k := by simp [IntKind.bits]; omega
  rw [this]
  have h2 : ((2 ^ k : Nat) : Int) = (2 : Int) ^ k := by exact Int.natCast_pow 2 k
  rw [← h2, ← Int.natCast_mul, w32]
  omega
/-- The program's way. -/
theorem be4_P (a b c d : UInt8) : orI .u32 (orI .u32 (orI .u32 (shlI .u32 (a.toNat : Int) 24) (shlI .u32 (b.toNat : Int) 16)) (shlI .u32 (c.toNat : Int) 8)) (d.toNat : Int) = be4 a b c d := by
  have ha := UInt8.toNat_lt a
  have hb := UInt8.toNat_lt b
  have hc := UInt8.toNat_lt c
  have hd := UInt8.toNat_lt d
  unfold be4
  generalize a.toNat = a at *
  generalize b.toNat = b at *
  generalize c.toNat = c at *
  generalize d.toNat = d at *
  have e1 : shlI .u32 (a : Int) 24 = ((a * 2 ^ 24 : Nat) : Int) := shl32' 24 (by decide) (by omega)
  have e2 : shlI .u32 (b : Int) 16 = ((b * 2 ^ 16 : Nat) : Int) := shl32' 16 (by decide) (by omega)
  have e3 : shlI .u32 (c : Int) 8 = ((c * 2 ^ 8 : Nat) : Int) := shl32' 8 (by decide) (by omega)
  rw [e1, e2, e3, or32 (k := 24) (by omega) (by omega)]
  rw [show a * 2 ^ 24 + b * 2 ^ 16 = (a * 256 + b) * 2 ^ 16 by omega, or32 (k := 16) (by omega) (by omega)]
  rw [show (a * 256 + b) * 2 ^ 16 + c * 2 ^ 8 = ((a * 256 + b) * 256 + c) * 2 ^ 8 by omega, or32 (k := 8) (by omega) (by omega)]
/-- The document's way. -/
theorem be1_R {x : Nat} {b : UInt8} (hx : x < 16777216) : orI .u32 (shlI .u32 (x : Int) 8) (b.toNat : Int) = ((x * 256 + b.toNat : Nat) : Int) := by
  have hb := UInt8.toNat_lt b
  have e1 : shlI .u32 (x : Int) 8 = ((x * 2 ^ 8 : Nat) : Int) := shl32' 8 (by decide) (by omega)
  rw [e1, or32 (k := 8) (by omega) (by omega)]
theorem w32_byte (b : UInt8) : IntKind.u32.wrap (b.toNat : Int) = (b.toNat : Int) := by
  have hb := UInt8.toNat_lt b
  rw [w32]
  omega
theorem notW_eq (x : Int) : xorI .u32 4294967295 x = notW x := by unfold notW xorI; rw [BitVec.xor_comm]
end Go.Proofs.YtpfibijbieblnaaGreatDoor.Ex
end
