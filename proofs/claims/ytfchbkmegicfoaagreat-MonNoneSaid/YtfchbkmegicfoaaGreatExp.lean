/- The abstract machine's operations, held against the model's: values, new blocks, literals. -/
import Derived.Test.YtfchbkmegicfoaaGreatExo
set_option linter.unusedSimpArgs false
set_option linter.unusedVariables false
namespace Go.Proofs.YtfchbkmegicfoaaGreat.Ex
open Go Go.RowKit

variable {P : Program} {T : TT} {ρ : Nat → Value} {fl : Nat} {μ : Mu} {h : AH} {w : World} {tmps : TM} {ev : Operand → Value} {o : Oper} {n : AN} {h' : AH}

theorem op_move {x : Operand} (hr : HR P ρ fl μ h w) (he : EnvR ρ μ w tmps ev) (ho : o.op = .move x ∨ o.op = .assign x) (ha : val h (evalA tmps x) = some (n, h')) :
    OpOK P ρ fl μ h w ((execOp ev o).run P w) n h' := by
  obtain ⟨a, h1, rfl, rfl⟩ := val_some ha
  rcases ho with ho | ho <;> exact valOK_here hr (by simp [execOp, ho]) (he x a h1)

theorem rel_bool_inv {b : Bool} {v : Value} (hh : rel ρ μ w (.lit (.bool b)) v) : v = .bool b := by unfold rel at hh; exact hh.1

theorem op_pick {c a b : Operand} (hr : HR P ρ fl μ h w) (he : EnvR ρ μ w tmps ev) (ho : o.op = .pick c a b) (ha : aPick tmps h c a b = some (n, h')) :
    OpOK P ρ fl μ h w ((execOp ev o).run P w) n h' := by
  unfold aPick at ha
  split at ha
  · rename_i t hc
    have h1 := rel_bool_inv (he c _ hc)
    obtain ⟨x, hx, rfl, rfl⟩ := val_some ha
    refine valOK_here hr (v' := if t then ev a else ev b) (by simp [execOp, ho, h1, asBool]) ?_
    cases t <;> exact he _ _ hx
  · cases ha

theorem window_of {l : List AV} {cur : Array Value} (hh : rels ρ μ w l cur.toList) : window ρ μ w 0 l cur :=
  ⟨by have := rels_length hh; rw [Array.length_toList] at this; omega, fun i x hx => by
    obtain ⟨v, h1, h2⟩ := rels_get hh hx
    exact ⟨v, by rw [Nat.zero_add, ← Array.getElem?_toList]; exact h1, h2⟩⟩

theorem whole_of {e : TypeId} {l : List AV} {cur : Array Value} (hh : rels ρ μ w l cur.toList) : window ρ μ w 0 l cur ∧ (bigT P e = true → 0 = 0 ∧ cur.size = l.length) :=
  ⟨window_of hh, fun _ => ⟨rfl, by have := rels_length hh; rwa [Array.length_toList] at this⟩⟩

theorem rel_new (x : Nat × Nat) : rel ρ (up μ h.n (x.1, 0)) w (.ptr h.n 0) (.pointer (some ⟨x.1, 0, none⟩)) := by
  unfold rel
  exact ⟨x.1, 0, up_same _ _ _, rfl⟩

theorem op_alloc {t : TypeId} (hT : TT.Sound P T) (hr : HR P ρ fl μ h w) (ho : o.op = .alloc t) (ha : aAlloc T h t = some (n, h')) :
    OpOK P ρ fl μ h w ((execOp ev o).run P w) n h' := by
  simp only [aAlloc, Option.map_eq_some_iff, Prod.mk.injEq] at ha
  obtain ⟨z, h1, rfl, rfl⟩ := ha
  obtain ⟨v, h2, h3⟩ := run_zero hT h1 w
  refine ⟨_, _, .pointer (some ⟨w.heap.size, 0, none⟩), .inl ?_, Eff.alloc hr (o := .cells v.cells t) ⟨v.cells, rfl, whole_of (rel_cells (ofVal1_rel h3))⟩, rel_new (w.heap.size, 0)⟩
  simp [execOp, ho, Instr.alloc, h2, newVar, newRow]

theorem op_box {t : TypeId} {x : Operand} (hr : HR P ρ fl μ h w) (he : EnvR ρ μ w tmps ev) (ho : o.op = .box t x) (ha : aBox tmps h t x = some (n, h')) :
    OpOK P ρ fl μ h w ((execOp ev o).run P w) n h' := by
  unfold aBox at ha
  split at ha
  · rename_i z hz
    split at ha
    · simp only [Option.some.injEq, Prod.mk.injEq] at ha
      obtain ⟨rfl, rfl⟩ := ha
      refine ⟨_, _, .pointer (some ⟨w.heap.size, 0, none⟩), .inl ?_, Eff.alloc hr (o := .cells (ev x).cells t) ⟨_, rfl, whole_of (rel_cells (he x z hz))⟩, rel_new (w.heap.size, 0)⟩
      simp [execOp, ho, Instr.box, newVar, newRow]
    · cases ha
  · cases ha

/-! Filling. -/

def partsRel (ρ : Nat → Value) (μ : Mu) (w : World) : List (Nat × AV) → List (Nat × Value) → Prop
  | [], l => l = []
  | (i, a) :: r, l => ∃ v l', l = (i, v) :: l' ∧ rel ρ μ w a v ∧ partsRel ρ μ w r l'

theorem evalParts_sound (he : EnvR ρ μ w tmps ev) : ∀ {l : List (Nat × Operand)} {ps : List (Nat × AV)}, evalParts tmps l = some ps → partsRel ρ μ w ps (l.map fun p => (p.1, ev p.2))
  | [], ps, hh => by simp only [evalParts, Option.some.injEq] at hh; subst hh; rfl
  | (i, x) :: r, ps, hh => by
    unfold evalParts at hh
    split at hh
    · rename_i v vs hv hvs
      obtain rfl := Option.some.inj hh
      exact ⟨ev x, _, rfl, he x v hv, evalParts_sound he hvs⟩
    · cases hh

theorem fold_cells (off : Nat) : ∀ (vs : List Value) (k : Nat) (cells : Array Value), off + k + vs.length ≤ cells.size →
    ((vs.zipIdx k).foldl (fun cs (x : Value × Nat) => cs.setIfInBounds (off + x.2) x.1) cells).size = cells.size ∧
    ∀ i, ((vs.zipIdx k).foldl (fun cs (x : Value × Nat) => cs.setIfInBounds (off + x.2) x.1) cells)[i]? = if off + k ≤ i ∧ i < off + k + vs.length then vs[i - (off + k)]? else cells[i]?
  | [], k, cells, _ => ⟨rfl, fun i => by simp only [List.zipIdx_nil, List.foldl_nil]; rw [if_neg (by simp)]⟩
  | v :: r, k, cells, hl => by
    simp only [List.length_cons] at hl
    obtain ⟨h1, h2⟩ := fold_cells off r (k + 1) (cells.setIfInBounds (off + k) v) (by simp; omega)
    simp only [List.zipIdx_cons, List.foldl_cons]
    refine ⟨by rw [h1]; simp, fun i => ?_⟩
    rw [h2 i]
    simp only [List.length_cons]
    by_cases hi : i = off + k
    · subst hi
      rw [if_neg (by omega), if_pos (by omega), Array.getElem?_setIfInBounds, if_pos rfl]
      simp
      omega
    · by_cases hk : off + (k + 1) ≤ i ∧ i < off + (k + 1) + r.length
      · rw [if_pos hk, if_pos (by omega), show i - (off + k) = (i - (off + (k + 1))) + 1 by omega, List.getElem?_cons_succ]
      · rw [if_neg hk, if_neg (by omega), Array.getElem?_setIfInBounds, if_neg (by omega)]

theorem fillA_sound {place : Nat → Option (Nat × Nat)} : ∀ {ps : List (Nat × AV)} {rps : List (Nat × Value)} {cells res : List AV} {rcells : Array Value}, partsRel ρ μ w ps rps → rels ρ μ w cells rcells.toList → fillA place cells ps = some res →
    ∃ rres, Instr.fill place rcells rps = some rres ∧ rels ρ μ w res rres.toList
  | [], rps, cells, res, rcells, hp, hc, hf => by
    obtain rfl := hp
    simp only [fillA, Option.some.injEq] at hf
    subst hf
    exact ⟨rcells, rfl, hc⟩
  | (i, a) :: r, rps, cells, res, rcells, hp, hc, hf => by
    obtain ⟨v, l', rfl, h1, h2⟩ := hp
    unfold fillA at hf
    split at hf
    · rename_i off size hpl
      split at hf
      · rename_i hsz
        split at hf
        · rename_i c hput
          have hcs := rel_cells h1
          have hlen := rels_length hcs
          rw [Array.length_toList] at hlen
          obtain ⟨p1, _⟩ := put_some hput
          have hclen := rels_length hc
          rw [Array.length_toList] at hclen
          obtain ⟨f1, f2⟩ := fold_cells off v.cells.toList 0 rcells (by rw [Array.length_toList]; omega)
          have hnew : rels ρ μ w c ((v.cells.toList.zipIdx 0).foldl (fun cs (x : Value × Nat) => cs.setIfInBounds (off + x.2) x.1) rcells).toList := by
            refine rels_of_get (by rw [Array.length_toList, f1, put_length hput, hclen]) (fun k x hk => ?_)
            rw [Array.getElem?_toList, f2, Array.length_toList]
            rw [put_get hput] at hk
            by_cases hin : off ≤ k ∧ k < off + a.cells.length
            · rw [if_pos hin] at hk
              rw [if_pos (by omega), Nat.add_zero]
              exact rels_get hcs hk
            · rw [if_neg hin] at hk
              rw [if_neg (by omega), ← Array.getElem?_toList]
              exact rels_get hc hk
          obtain ⟨rres, q1, q2⟩ := fillA_sound h2 hnew hf
          refine ⟨rres, ?_, q2⟩
          have e1 : ¬ (v.cells.size ≠ size || decide (off + v.cells.size > rcells.size)) = true := by
            simp
            omega
          have e2 : v.cells.zipIdx.foldl (fun cs (x : Value × Nat) => cs.setIfInBounds (off + x.2) x.1) rcells = (v.cells.toList.zipIdx 0).foldl (fun cs (x : Value × Nat) => cs.setIfInBounds (off + x.2) x.1) rcells := by
            rw [← Array.foldl_toList, Array.toList_zipIdx]
          simp only [Instr.fill, hpl, e1, if_false]
          rw [e2]
          exact q1
        · cases hf
      · cases hf
    · cases hf

theorem places_run (hT : TT.Sound P T) (w : World) : ∀ {fs : List Field} {pl : List (Nat × Nat)}, places T fs = some pl → (fs.mapM fun f => Prod.mk f.offset <$> sizeOf f.type).run P w = .ok pl w
  | [], pl, hh => by simp only [places, Option.some.injEq] at hh; subst hh; simp
  | f :: r, pl, hh => by
    unfold places at hh
    split at hh
    · rename_i n' l hn hl
      obtain rfl := Option.some.inj hh
      simp [List.mapM_cons, run_size hT hn, places_run hT w hl]
    · cases hh

theorem op_build {t : TypeId} {ps : Array (Nat × Operand)} (hT : TT.Sound P T) (hr : HR P ρ fl μ h w) (he : EnvR ρ μ w tmps ev) (ho : o.op = .build t ps) (ha : aBuild T tmps h t ps = some (n, h')) :
    OpOK P ρ fl μ h w ((execOp ev o).run P w) n h' := by
  unfold aBuild at ha
  split at ha
  case h_2 => cases ha
  rename_i ps' hps
  obtain ⟨a, h1, rfl, rfl⟩ := val_some ha
  have hpr := evalParts_sound he hps
  unfold buildA at h1
  split at h1
  · rename_i z fs hz hu
    split at h1
    · rename_i pl hpl
      simp only [Option.map_eq_some_iff] at h1
      obtain ⟨res, hf, rfl⟩ := h1
      obtain ⟨v, hv, hv2⟩ := run_zero hT hz w
      obtain ⟨rres, q1, q2⟩ := fillA_sound (ρ := ρ) hpr (rel_cells (ofVal1_rel hv2)) hf
      refine valOK_here hr (v' := .agg rres) ?_ (by unfold rel; exact ⟨rres.toList, by simp, q2⟩)
      have e1 : (fs.mapM fun f => Prod.mk f.offset <$> sizeOf f.type).run P w = .ok pl.toArray w := by
        rw [Array.mapM_eq_mapM_toList]
        simp [places_run hT w hpl]
      simp [execOp, ho, Instr.build, hv, run_und hT hu, e1, q1]
    · cases h1
  · rename_i z m e hz hu
    split at h1
    · rename_i sz hs
      simp only [Option.map_eq_some_iff] at h1
      obtain ⟨res, hf, rfl⟩ := h1
      obtain ⟨v, hv, hv2⟩ := run_zero hT hz w
      obtain ⟨rres, q1, q2⟩ := fillA_sound (ρ := ρ) hpr (rel_cells (ofVal1_rel hv2)) hf
      refine valOK_here hr (v' := .agg rres) ?_ (by unfold rel; exact ⟨rres.toList, by simp, q2⟩)
      simp [execOp, ho, Instr.build, hv, run_und hT hu, run_size hT hs, q1]
    · cases h1
  · cases h1

/-! Rows of zeros. -/

theorem rep_length (z : List AV) : ∀ m, (rep z m).length = m * z.length
  | 0 => by simp [rep]
  | m + 1 => by rw [rep, List.length_append, rep_length z m, Nat.add_mul, Nat.one_mul, Nat.add_comm]

theorem rep_get (z : List AV) : ∀ (m k : Nat), k < m * z.length → (rep z m)[k]? = z[k % z.length]?
  | 0, k, hk => by omega
  | m + 1, k, hk => by
    rw [rep]
    rw [Nat.add_mul, Nat.one_mul] at hk
    by_cases h1 : k < z.length
    · rw [List.getElem?_append_left h1, Nat.mod_eq_of_lt h1]
    · have h2 : k % z.length = (k - z.length) % z.length := Nat.mod_eq_sub_mod (by omega)
      rw [List.getElem?_append_right (by omega), rep_get z m _ (by omega), h2]

theorem rep_rels {z : List AV} {rz : Array Value} (hz : rels ρ μ w z rz.toList) (m : Nat) : rels ρ μ w (rep z m) ((Array.range (m * z.length)).map (fun i => rz[i % rz.size]!)).toList := by
  have hlen := rels_length hz
  rw [Array.length_toList] at hlen
  refine rels_of_get (by simp [rep_length]) (fun k x hx => ?_)
  have hk : k < m * z.length := by rw [← rep_length]; exact (List.getElem?_eq_some_iff.1 hx).1
  rw [rep_get z m k hk] at hx
  obtain ⟨v, h1, h2⟩ := rels_get hz hx
  refine ⟨v, ?_, h2⟩
  rw [Array.getElem?_toList] at h1
  simp only [Array.toList_map, List.getElem?_map, Array.toList_range, List.getElem?_range hk, Option.map_some, Option.some.injEq]
  have hi : k % rz.size = k % z.length := by rw [hlen]
  rw [hi, getElem!_def, h1]

theorem rel_sl_new {len k : Nat} (hk : len ≤ k) (hm : k ≤ maxLen) (w' : World) : rel ρ (up μ h.n (w.heap.size, 0)) w' (.sl h.n 0 len (.kn k)) (.slice (some ⟨w.heap.size, 0, none⟩) len k) := by
  unfold rel
  exact ⟨w.heap.size, 0, 0, k, up_same _ _ _, rfl, .inr rfl, rfl, hk, hm⟩

theorem op_buildSlice {t : TypeId} {m : Nat} {ps : Array (Nat × Operand)} (hT : TT.Sound P T) (hr : HR P ρ fl μ h w) (he : EnvR ρ μ w tmps ev) (ho : o.op = .buildSlice t m ps) (ha : aBuildSlice T tmps h t m ps = some (n, h')) :
    OpOK P ρ fl μ h w ((execOp ev o).run P w) n h' := by
  unfold aBuildSlice at ha
  split at ha
  case h_2 => cases ha
  rename_i e ps' hu hps
  split at ha
  case h_2 => cases ha
  rename_i i hi
  split at ha
  case isFalse => cases ha
  rename_i hc
  simp only [Bool.and_eq_true, decide_eq_true_eq] at hc
  simp only [Option.map_eq_some_iff, Prod.mk.injEq] at ha
  obtain ⟨l, hf, rfl, rfl⟩ := ha
  obtain ⟨z, hz, hz2⟩ := run_zero hT (show zeroT T e = some i.zero by simp [zeroT, hi]) w
  have hzr := rel_cells (ofVal1_rel (ρ := ρ) (μ := μ) (w := w) hz2)
  have hlen := rels_length hzr
  rw [Array.length_toList] at hlen
  have hs := run_size hT (show sizeT T e = some i.size by simp [sizeT, hi]) w
  have hrow : rels ρ μ w (rep i.zero.cells m) ((Array.range (m * i.size)).map (fun k => (if m * i.size = 0 then (#[] : Array Value) else z.cells)[k % (if m * i.size = 0 then (#[] : Array Value) else z.cells).size]!)).toList := by
    by_cases h0 : m * i.size = 0
    · have : rep i.zero.cells m = [] := List.eq_nil_of_length_eq_zero (by rw [rep_length, hc.1.1]; exact h0)
      rw [this, h0]
      simp [rels_nil]
    · simp only [h0, if_false]
      have := rep_rels hzr m
      rw [hc.1.1] at this
      exact this
  obtain ⟨rres, q1, q2⟩ := fillA_sound (evalParts_sound he hps) hrow hf
  have hmm : m ≤ maxLen := by
    simp only [maxLen]
    omega
  refine ⟨_, _, .slice (some ⟨w.heap.size, 0, none⟩) m m, .inl ?_, Eff.alloc hr (o := .cells rres e) ⟨rres, rfl, whole_of q2⟩, rel_sl_new (Nat.le_refl _) hmm _⟩
  have h24 : ¬ (m * i.size > 2 ^ 24) := by omega
  by_cases h0 : m * i.size = 0
  · simp only [h0, if_true] at q1
    have e0 : Array.range 0 = #[] := rfl
    simp only [e0, List.map_toArray, List.map_nil] at q1
    simp [execOp, ho, Instr.buildSlice, run_und hT hu, hs, h0, e0, q1, newRow]
  · simp only [h0, if_false] at q1
    simp [execOp, ho, Instr.buildSlice, run_und hT hu, hs, h0, h24, hz, q1, newRow]

end Go.Proofs.YtfchbkmegicfoaaGreat.Ex
