/- Part 5 of the proof: Opa, Opb, Psm, Om5, Om6, Om7, Om8, Om9, Oms, Psh, On1, On2, On3, On4, On5, On6, On7, On8, Cl1, On9, Clp, Eq, Eqn, Opc, Jn, Ivo, Plh, Cl2, Rt1, Rt2. -/
import Derived.Laws.StructEq
import Derived.Test.YtjkmmbfenhhjkaaM4
open Nat renaming reduceAdd → zrA, reduceSub → zrS, reduceMul → zrM, reduceLT → zrL, reduceEqDiff → zrE, reduceLeDiff → zrD, reduceShiftRight → zrR, reduceMod → zrO
open Int renaming reduceLE → ziE, reduceLT → ziL, reduceToNat → ziN
section

set_option linter.unusedSimpArgs false
set_option linter.unusedVariables false
namespace Go.Proofs.Ytjkmmbfenhhjkaa.Ex
open Go Go.RowKit Go.ChangeShapes Go.WideShapes Go.ChangeAt
section
variable {H : Type} (enc : TypeId × Value → H)
/-- The blocks of the abstract heap. -/
def InH (W : World) : Nat → Prop := fun b => b < (absH W).n
/-- A value of type t that is read is plain data; of what is not too great, B holds; μ is no greater than the reading's bulk. -/
def OpensM (P : Program) (W : World) (t : TypeId) {α : Type} (R : Rep α) (B : α → Prop) (μ : α → Nat) : Prop :=
  P.cellsOf t = R.z ∧ ∀ (fuel : Nat) (cs : List Value) (x : DataW H × List MemPlace), DataW.trod enc P W 0 (fun _ => true) true fuel t cs = some x → (x.1.weights P t).all (· ≤ reachBytes) = true →
    cs.length = R.z ∧ (∀ c ∈ cs, c.oneCell' = true) ∧ ∃ y, R.is (InH W) (absH W) (cs.map (absV W)) y ∧ B y ∧ μ y ≤ Rows.uptoBulk x.1
def OpensA (P : Program) (W : World) (t : TypeId) {α : Type} (R : Rep α) (B : α → Prop) : Prop := OpensM enc P W t R B (fun _ => 0)
variable {enc} {P : Program} {W : World}
theorem OpensM.to {t : TypeId} {α : Type} {R : Rep α} {B B' : α → Prop} {μ μ' : α → Nat} (h : OpensM enc P W t R B μ) (hB : ∀ y, B y → B' y) (hm : ∀ y, μ' y ≤ μ y) : OpensM enc P W t R B' μ' := by
  refine ⟨h.1, fun fuel cs x hf hw => ?_⟩
  obtain ⟨a, b, y, c, d, e⟩ := h.2 fuel cs x hf hw
  exact ⟨a, b, y, c, hB y d, Nat.le_trans (hm y) e⟩
theorem OpensM.toA {t : TypeId} {α : Type} {R : Rep α} {B : α → Prop} {μ : α → Nat} (h : OpensM enc P W t R B μ) : OpensA enc P W t R B := h.to (fun _ h => h) fun _ => Nat.zero_le _
theorem bulk_pos : ∀ d : DataW H, 1 ≤ Rows.uptoBulk d := by
  intro d
  unfold Rows.uptoBulk
  split <;> omega
theorem opensM_int {t : TypeId} (ht : P.underlying t = some (.int .i64)) (hc : P.cellsOf t = 1) : OpensM enc P W t RInt (fun _ => True) (fun _ => 1) := by
  refine ⟨hc, fun fuel cs x h _ => ?_⟩
  obtain ⟨n, rfl, rfl, hw⟩ := DataW.trod_int ht h
  refine ⟨rfl, by simp; rfl, n, ⟨rfl, ?_⟩, trivial, bulk_pos _⟩
  simp only [Lit.wf, IntKind.min, IntKind.max, IntKind.signed, IntKind.bits] at hw
  simp at hw
  exact ⟨hw.1, by omega⟩
theorem opensA_int {t : TypeId} (ht : P.underlying t = some (.int .i64)) (hc : P.cellsOf t = 1) : OpensA enc P W t RInt (fun _ => True) := (opensM_int ht hc).toA
theorem flat_getV {α : Type} {z : Nat} : ∀ {L : List (List α)}, (∀ x ∈ L, x.length = z) → ∀ (i : Nat) {c : List α}, L[i]? = some c → (L.flatten.drop (i * z)).take z = c
  | [], _, i, c, hc => by simp at hc
  | a :: r, h, i, c, hc => by
    have ha := h a (by simp)
    cases i with
    | zero =>
      obtain rfl : a = c := by simpa using hc
      rw [Nat.zero_mul, List.drop_zero, List.flatten_cons, ← ha, List.take_left']
      rfl
    | succ i =>
      rw [List.flatten_cons, Nat.succ_mul, Nat.add_comm, List.drop_append, List.drop_of_length_le (by omega), List.nil_append, ha, Nat.add_sub_cancel_left]
      exact flat_getV (fun x hx => h x (by simp [hx])) i (by simpa using hc)
theorem flat_lenV {α : Type} {z : Nat} {L : List (List α)} (h : ∀ x ∈ L, x.length = z) : L.flatten.length = L.length * z := by
  induction L with
  | nil => simp
  | cons a r ih =>
    rw [List.flatten_cons, List.length_append, ih (fun x hx => h x (by simp [hx])), h a (by simp), List.length_cons, Nat.succ_mul]
    omega
theorem weightsAll_mem {e : TypeId} : ∀ {l : List (DataW H)} {d : DataW H}, d ∈ l → ∀ n ∈ d.weights P e, n ∈ DataW.weightsAll P e l
  | a :: r, d, hd, n, hn => by
    simp only [DataW.weightsAll, List.mem_append]
    rcases List.mem_cons.1 hd with rfl | h
    · exact .inl hn
    · exact .inr (weightsAll_mem h n hn)
theorem bulkAll_le {f g : List (DataW H × List MemPlace)} : Rows.uptoBulkAll ((f ++ g).map (·.1)) = Rows.uptoBulkAll (f.map (·.1)) + Rows.uptoBulkAll (g.map (·.1)) := by
  induction f with
  | nil => simp [Rows.uptoBulkAll]
  | cons a r ih => simp only [List.cons_append, List.map_cons, Rows.uptoBulkAll, ih]; omega
theorem opensM_list {t e : TypeId} {α : Type} {R : Rep α} {B : α → Prop} {μ : α → Nat} {by' : Nat} (ht : P.underlying t = some (.slice e)) (hc : P.cellsOf t = 1) (hb : P.bytesOf e = by') (h0 : 0 < R.z) (ho : OpensM enc P W e R B μ) :
    OpensM enc P W t (RSl R) (fun ys => ys.length * by' ≤ 140737488351232 ∧ ∀ y ∈ ys, B y) (fun ys => (ys.map μ).sum) := by
  refine ⟨hc, fun fuel cs x hf hw => ?_⟩
  rcases DataW.trod_slice ht hf with ⟨rfl, rfl⟩ | ⟨a, len, cap, elems, rest, m, rfl, rfl, rfl, hba, hl, hm, hlen, hel, hsp, hns⟩
  · exact ⟨rfl, by simp; rfl, [], RSl_is.2 ⟨_, rfl, IsSl.nil⟩, ⟨by simp, by simp⟩, by simp⟩
  · rw [ho.1] at hel hsp
    simp only [DataW.weights, ht, List.all_cons, List.all_append, Bool.and_eq_true, decide_eq_true_eq, hb] at hw
    obtain ⟨hw1, hw2, hw3⟩ := hw
    have hrl := (hsp rfl).1
    have hbig : len * by' ≤ 140737488351232 := by
      have h1 : len * by' ≤ (elems.map (·.1)).length * by' + (rest.map (·.1)).length * by' := by rw [List.length_map, hlen]; omega
      rw [← Nat.add_mul] at h1
      exact Nat.le_trans h1 hw1
    have hone : ∀ c ∈ [Value.slice (some a) len cap], c.oneCell' = true := by simp; rfl
    refine ⟨rfl, hone, ?_⟩
    by_cases hz : len = 0 ∧ cap = 0
    · obtain ⟨rfl, rfl⟩ := hz
      refine ⟨[], RSl_is.2 ⟨.sl 0 0 0 (.kn 0), by simp [absV], .mk (L := []) ⟨by simp, .inr ⟨0, 0, _, [], rfl, by unfold getR; rw [absH_0], by simp [cut]⟩⟩ (fun b off n cap e => ?_) (fun b off n cap e => by cases e; exact Nat.le_refl 0) .nil⟩, ⟨by simp, by simp⟩, by simp⟩
      cases e
      exact at_lt (absH_0 W)
    · have hcap : 0 < cap := by omega
      have hsz0 : elems.length + rest.length = cap := by omega
      -- what is read
      have hrd : ∀ i, i < cap → ∃ l x, W.cells? 0 (a.add (i * R.z)) R.z = some l ∧ DataW.trod enc P W 0 (fun _ => true) true m e l = some x ∧ (i < len → elems[i]? = some x) := fun i hi => by
        by_cases hil : i < len
        · have h2 := hel i hil
          rw [List.getElem?_eq_getElem (by omega)] at h2
          obtain ⟨l, hl1, hl2⟩ := Option.bind_eq_some_iff.1 h2
          exact ⟨l, _, hl1, hl2, fun _ => List.getElem?_eq_getElem (by omega)⟩
        · have h2 := (hsp rfl).2 (i - len) (by omega)
          rw [List.getElem?_eq_getElem (by omega), show len + (i - len) = i by omega] at h2
          obtain ⟨l, hl1, hl2⟩ := Option.bind_eq_some_iff.1 h2
          exact ⟨l, _, hl1, hl2, fun h => absurd h hil⟩
      obtain ⟨r, o, spot⟩ := a
      obtain ⟨l0, x0, q1, q2, -⟩ := hrd 0 hcap
      have hspot : spot = none := by
        have h3 := World.cells?_some q1
        have h4 := h3.2.2 0 h0
        rw [List.getElem?_eq_getElem (by have := h3.2.1; omega)] at h4
        simpa [Addr.add] using World.cell?_spot h4
      subst hspot
      have hcell : ∀ (k : Nat) (v : Value), W.cell? (⟨r, o + k, none⟩ : Addr) = some v → ∃ cur e fz, W.heap[r]? = some (.cells cur e fz) ∧ cur[o + k]? = some v := fun k v hk => by
        unfold World.cell? at hk
        cases hh : W.heap[r]? with
        | none => simp [hh] at hk
        | some ob => cases ob <;> simp [hh] at hk <;> exact ⟨_, _, _, rfl, hk⟩
      -- the row
      obtain ⟨cur, te, fz, hrow⟩ : ∃ cur te fz, W.heap[r]? = some (.cells cur te fz) := by
        have h3 := World.cells?_some q1
        have h4 := h3.2.2 0 h0
        rw [List.getElem?_eq_getElem (by have := h3.2.1; omega)] at h4
        obtain ⟨cur, te, fz, h5, _⟩ := hcell 0 _ (by simpa [Addr.add] using h4)
        exact ⟨cur, te, fz, h5⟩
      have hcur : ∀ i l, W.cells? 0 ((⟨r, o, none⟩ : Addr).add (i * R.z)) R.z = some l → l.length = R.z ∧ ∀ f, f < R.z → cur[o + i * R.z + f]? = l[f]? := fun i l hil => by
        have h3 := World.cells?_some hil
        refine ⟨h3.2.1, fun f hf => ?_⟩
        have h4 := h3.2.2 f hf
        obtain ⟨u, hu⟩ : ∃ u, l[f]? = some u := ⟨_, List.getElem?_eq_getElem (by have := h3.2.1; omega)⟩
        rw [hu] at h4 ⊢
        rw [addr_add, addr_add] at h4
        obtain ⟨cur', te', fz', h5, h6⟩ := hcell (i * R.z + f) _ (by rw [← Nat.add_assoc]; exact h4)
        rw [hrow] at h5
        obtain ⟨rfl, _, _⟩ := Obj.cells.inj (Option.some.inj h5)
        rw [← h6, Nat.add_assoc]
      -- the elements, and the data
      have key : ∀ n, n ≤ len → ∃ (L : List (List Value)) (ys : List α), L.length = n ∧ ys.length = n ∧ (∀ c ∈ L, c.length = R.z ∧ ∀ u ∈ c, u.oneCell' = true) ∧ (∀ (i : Nat) c y, L[i]? = some c → ys[i]? = some y → R.is (InH W) (absH W) (c.map (absV W)) y) ∧ (∀ (i : Nat) c, L[i]? = some c → ∀ f, f < R.z → cur[o + i * R.z + f]? = c[f]?) ∧ (∀ y ∈ ys, B y) ∧ (ys.map μ).sum ≤ Rows.uptoBulkAll ((elems.take n).map (·.1)) := by
        intro n
        induction n with
        | zero => exact fun _ => ⟨[], [], rfl, rfl, by simp, by simp, by simp, by simp, by simp⟩
        | succ n ih =>
          intro hn
          obtain ⟨L, ys, h1, h2, h3, h4, h5, h6, h7⟩ := ih (by omega)
          obtain ⟨l, x, e1, e2, e3⟩ := hrd n (by omega)
          have e3 := e3 (by omega)
          have hwx : (x.1.weights P e).all (· ≤ reachBytes) = true := by
            rw [List.all_eq_true] at hw2 ⊢
            intro k hk
            exact hw2 k (weightsAll_mem (List.mem_map.2 ⟨x, List.mem_of_getElem? e3, rfl⟩) k hk)
          obtain ⟨g1, g2, y, g3, g4, g7⟩ := ho.2 _ _ _ e2 hwx
          obtain ⟨g5, g6⟩ := hcur n l e1
          refine ⟨L ++ [l], ys ++ [y], by simp [h1], by simp [h2], fun c hc => ?_, fun i c z hc hz => ?_, fun i c hc => ?_, fun z hz => ?_, ?_⟩
          · rcases List.mem_append.1 hc with hc | hc
            · exact h3 c hc
            · simp at hc; subst hc; exact ⟨g1, g2⟩
          · by_cases hi : i < n
            · rw [List.getElem?_append_left (by omega)] at hc hz
              exact h4 i c z hc hz
            · have := (List.getElem?_eq_some_iff.1 hc).1
              simp only [List.length_append, List.length_singleton] at this
              obtain rfl : i = n := by omega
              rw [List.getElem?_append_right (by omega), h1, Nat.sub_self] at hc
              rw [List.getElem?_append_right (by omega), h2, Nat.sub_self] at hz
              simp at hc hz
              subst hc hz
              exact g3
          · by_cases hi : i < n
            · rw [List.getElem?_append_left (by omega)] at hc
              exact h5 i c hc
            · have := (List.getElem?_eq_some_iff.1 hc).1
              simp only [List.length_append, List.length_singleton] at this
              obtain rfl : i = n := by omega
              rw [List.getElem?_append_right (by omega), h1, Nat.sub_self] at hc
              simp at hc
              subst hc
              exact g6
          · rcases List.mem_append.1 hz with hz | hz
            · exact h6 z hz
            · simp at hz; subst hz; exact g4
          · rw [List.take_add_one, e3, bulkAll_le, List.map_append, List.sum_append]
            simp only [List.map_cons, List.map_nil, List.sum_cons, List.sum_nil, Option.toList_some, Rows.uptoBulkAll]
            omega
      obtain ⟨L, ys, k1, k2, k3, k4, k5, k6, k7⟩ := key len (Nat.le_refl _)
      have hfl : L.flatten.length = len * R.z := by rw [flat_lenV (fun c hc => (k3 c hc).1), k1]
      have hpre : (cur.toList.drop o).take (len * R.z) = L.flatten := by
        apply List.ext_getElem?
        intro j
        by_cases hj : j < len * R.z
        · rw [List.getElem?_take, if_pos hj, List.getElem?_drop, Array.getElem?_toList]
          have hd : j / R.z < len := Nat.div_lt_of_lt_mul (by rw [Nat.mul_comm]; exact hj)
          have hm2 := Nat.mod_lt j h0
          have hdm := Nat.div_add_mod j R.z
          rw [Nat.mul_comm] at hdm
          have hLd : L[j / R.z]? = some L[j / R.z] := List.getElem?_eq_getElem (by omega)
          have h7 := k5 (j / R.z) _ hLd (j % R.z) hm2
          rw [Nat.add_assoc, hdm] at h7
          rw [h7]
          have h8 := flat_getV (fun c hc => (k3 c hc).1) (j / R.z) hLd
          rw [← h8, List.getElem?_take, if_pos hm2, List.getElem?_drop, hdm]
        · rw [List.getElem?_eq_none (by rw [List.length_take]; omega), List.getElem?_eq_none (by omega)]
      have hto : o ≤ cur.size := by
        obtain ⟨hll, hff⟩ := hcur 0 l0 q1
        have := hff 0 h0
        rw [List.getElem?_eq_getElem (by omega)] at this
        have := (Array.getElem?_eq_some_iff.1 this).1
        omega
      have hro : rowO W r = some (cur.toList, te) := by unfold rowO; rw [hrow]
      have hwin : (r, o) ∈ wins W := mem_wins.2 ⟨_, _, hro, by rw [Array.length_toList]; exact hto⟩
      refine ⟨ys, RSl_is.2 ⟨.sl (widx W (r, o)) 0 len (.kn cap), ?_, .mk (L := L.map (·.map (absV W))) ⟨?_, .inr ⟨widx W (r, o), 0, .kn cap, ((cur.toList.drop o).takeWhile (·.oneCell')).map (absV W), by rw [List.length_map, k1], ?_, ?_⟩⟩ (fun b off n cap e => ?_) (fun b off n cap e => ?_) ⟨by rw [List.length_map, k1, k2], fun i c y hc hy => ?_⟩⟩, ⟨by rw [k2]; exact hbig, k6⟩, by rw [List.take_of_length_le (by omega)] at k7; simp only [Rows.uptoBulk]; omega⟩
      · show [absV W (.slice (some ⟨r, o, none⟩) len cap)] = _
        simp only [absV, if_neg hz, if_pos (show (r, o) ∈ wins W ∧ len ≤ cap ∧ cap ≤ maxLen from ⟨hwin, hl, hm⟩)]
      · intro c hc
        obtain ⟨d, hd, rfl⟩ := List.mem_map.1 hc
        rw [List.length_map]
        exact (k3 d hd).1
      · unfold getR
        rw [absH_at hwin]
        simp only [absB, hro]
      · have htw : ((cur.toList.drop o).takeWhile (·.oneCell')).take (len * R.z) = L.flatten := by
          rw [takeWhile_take, hpre]
          intro u hu
          rw [hpre] at hu
          obtain ⟨c, hc, hu⟩ := List.mem_flatten.1 hu
          exact (k3 c hc).2 u hu
        have hlen2 : len * R.z ≤ ((cur.toList.drop o).takeWhile (·.oneCell')).length := by
          have := congrArg List.length htw
          rw [List.length_take, hfl] at this
          omega
        rw [List.length_map, k1]
        unfold cut
        rw [if_pos (by rw [List.length_map]; omega), List.drop_zero, ← List.map_take, htw, List.map_flatten]
      · cases e
        exact at_lt (absH_at hwin)
      · cases e
        exact hl
      · rw [List.getElem?_map] at hc
        obtain ⟨d, hd, rfl⟩ := Option.map_eq_some_iff.1 hc
        exact k4 i d y hd hy
theorem opensA_list {t e : TypeId} {α : Type} {R : Rep α} {B : α → Prop} {by' : Nat} (ht : P.underlying t = some (.slice e)) (hc : P.cellsOf t = 1) (hb : P.bytesOf e = by') (h0 : 0 < R.z) (ho : OpensA enc P W e R B) :
    OpensA enc P W t (RSl R) (fun ys => ys.length * by' ≤ 140737488351232 ∧ ∀ y ∈ ys, B y) := (opensM_list ht hc hb h0 ho).toA
/-! Structs. -/
/-- Values of several types, one behind another. -/
def OpensN (enc : TypeId × Value → H) (P : Program) (W : World) (ts : List TypeId) {α : Type} (R : Rep α) (B : α → Prop) (μ : α → Nat) : Prop :=
  (ts.map P.cellsOf).sum = R.z ∧ ∀ (fuel : Nat) (cs : List Value) (xs : List (DataW H × List MemPlace)), cs.length = R.z → xs.length = ts.length →
    (∀ (i : Nat) t, ts[i]? = some t → DataW.trod enc P W 0 (fun _ => true) true fuel t ((cs.drop ((ts.take i).map P.cellsOf).sum).take (P.cellsOf t)) = xs[i]?) →
    (DataW.weightsEach P ts (xs.map (·.1))).all (· ≤ reachBytes) = true →
    (∀ c ∈ cs, c.oneCell' = true) ∧ ∃ y, R.is (InH W) (absH W) (cs.map (absV W)) y ∧ B y ∧ μ y ≤ Rows.uptoBulkAll (xs.map (·.1))
abbrev OpensL (enc : TypeId × Value → H) (P : Program) (W : World) (ts : List TypeId) {α : Type} (R : Rep α) (B : α → Prop) : Prop := OpensN enc P W ts R B (fun _ => 0)
theorem opensN_one {t : TypeId} {α : Type} {R : Rep α} {B : α → Prop} {μ : α → Nat} (h : OpensM enc P W t R B μ) : OpensN enc P W [t] R B μ := by
  refine ⟨by simp [h.1], fun fuel cs xs hc hx hh hw => ?_⟩
  match xs, hx with
  | [x], _ =>
    have h1 := hh 0 t rfl
    simp only [List.take_zero, List.map_nil, List.sum_nil, List.drop_zero, List.getElem?_cons_zero] at h1
    rw [h.1, ← hc, List.take_length] at h1
    simp only [List.map_cons, List.map_nil, DataW.weightsEach, List.append_nil] at hw
    simp only [List.map_cons, List.map_nil, Rows.uptoBulkAll, Nat.add_zero]
    exact (h.2 _ _ _ h1 hw).2
theorem opensL_one {t : TypeId} {α : Type} {R : Rep α} {B : α → Prop} (h : OpensA enc P W t R B) : OpensL enc P W [t] R B := opensN_one h
theorem opensN_cons {t : TypeId} {ts : List TypeId} {α β : Type} {R : Rep α} {S : Rep β} {B : α → Prop} {C : β → Prop} {μ : α → Nat} {ν : β → Nat} (h : OpensM enc P W t R B μ) (k : OpensN enc P W ts S C ν) : OpensN enc P W (t :: ts) (RPair R S) (fun x => B x.1 ∧ C x.2) (fun x => μ x.1 + ν x.2) := by
  refine ⟨by simp [h.1, k.1, RPair], fun fuel cs xs hc hx hh hw => ?_⟩
  match xs, hx with
  | x :: xs, hx =>
    have hcz : cs.length = R.z + S.z := hc
    have h1 := hh 0 t rfl
    simp only [List.take_zero, List.map_nil, List.sum_nil, List.drop_zero, List.getElem?_cons_zero, h.1] at h1
    simp only [List.map_cons, DataW.weightsEach, List.all_append, Bool.and_eq_true] at hw
    obtain ⟨g1, g2, y, g3, g4, g5⟩ := h.2 _ _ _ h1 hw.1
    obtain ⟨q1, z, q2, q3, q4⟩ := k.2 fuel (cs.drop R.z) xs (by rw [List.length_drop]; omega) (by simpa using hx) (fun i t' ht' => by
      have h2 := hh (i + 1) t' (by simpa using ht')
      rw [List.take_succ_cons, List.map_cons, List.sum_cons, h.1, ← List.drop_drop, List.getElem?_cons_succ] at h2
      exact h2) hw.2
    refine ⟨fun c hc => ?_, (y, z), ⟨(cs.take R.z).map (absV W), (cs.drop R.z).map (absV W), ?_, g3, q2⟩, ⟨g4, q3⟩, by simp only [List.map_cons, Rows.uptoBulkAll]; omega⟩
    · rw [← List.take_append_drop R.z cs] at hc
      exact (List.mem_append.1 hc).elim (g2 c) (q1 c)
    · rw [← List.map_append, List.take_append_drop]
theorem opensL_cons {t : TypeId} {ts : List TypeId} {α β : Type} {R : Rep α} {S : Rep β} {B : α → Prop} {C : β → Prop} (h : OpensA enc P W t R B) (k : OpensL enc P W ts S C) : OpensL enc P W (t :: ts) (RPair R S) (fun x => B x.1 ∧ C x.2) := opensN_cons h k
/-- Do the fields follow one another? -/
def fieldsOk (P : Program) : List Field → Nat → Bool
  | [], _ => true
  | f :: r, k => Nat.beq f.offset k && fieldsOk P r (k + P.cellsOf f.type)
theorem fieldsOk_at : ∀ {fs : List Field} {k : Nat}, fieldsOk P fs k = true → ∀ (i : Nat) f, fs[i]? = some f → f.offset = k + (((fs.map (·.type)).take i).map P.cellsOf).sum
  | [], k, _, i, f, hf => by simp at hf
  | g :: r, k, h, i, f, hf => by
    simp only [fieldsOk, Bool.and_eq_true] at h
    cases i with
    | zero => simp at hf; subst hf; simpa using Nat.eq_of_beq_eq_true h.1
    | succ i =>
      have := fieldsOk_at h.2 i f (by simpa using hf)
      rw [this]
      simp only [List.map_cons, List.take_succ_cons, List.sum_cons]
      omega
theorem opensM_struct {t : TypeId} {fs : Array Field} {ts : List TypeId} {α β : Type} {R : Rep α} {B : α → Prop} {C : β → Prop} {μ : α → Nat} {ν : β → Nat} (f : β → α) (g : α → β) (hfg : ∀ y, f (g y) = y) (ht : P.underlying t = some (.struct fs)) (hts : fs.toList.map (·.type) = ts) (hok : fieldsOk P fs.toList 0 = true) (hc : P.cellsOf t = R.z)
    (h : OpensN enc P W ts R B μ) (hBC : ∀ y, B y → C (g y)) (hmn : ∀ y, ν (g y) ≤ μ y + 1) : OpensM enc P W t (RMap f R) C ν := by
  subst hts
  refine ⟨hc, fun fuel cs x hf hw => ?_⟩
  obtain ⟨xs, n, rfl, rfl, hcs, hxs, hel⟩ := DataW.trod_struct ht hf
  simp only [DataW.weights, ht] at hw
  rw [hc] at hcs
  obtain ⟨q1, y, q2, q3, q4⟩ := h.2 n cs xs hcs (by simpa using hxs) (fun i t' ht' => by
    rw [List.getElem?_map] at ht'
    obtain ⟨fd, hfd, rfl⟩ := Option.map_eq_some_iff.1 ht'
    have := hel i fd (by simpa using hfd)
    rw [fieldsOk_at hok i fd hfd, Nat.zero_add] at this
    exact this) hw
  exact ⟨hcs, q1, g y, by show R.is _ _ _ (f (g y)); rw [hfg]; exact q2, hBC y q3, Nat.le_trans (hmn y) (by simp only [Rows.uptoBulk]; omega)⟩
theorem opensA_struct {t : TypeId} {fs : Array Field} {ts : List TypeId} {α β : Type} {R : Rep α} {B : α → Prop} {C : β → Prop} (f : β → α) (g : α → β) (hfg : ∀ y, f (g y) = y) (ht : P.underlying t = some (.struct fs)) (hts : fs.toList.map (·.type) = ts) (hok : fieldsOk P fs.toList 0 = true) (hc : P.cellsOf t = R.z)
    (h : OpensL enc P W ts R B) (hBC : ∀ y, B y → C (g y)) : OpensA enc P W t (RMap f R) C := opensM_struct f g hfg ht hts hok hc h hBC (fun _ => Nat.zero_le _)
end
section
variable {H : Type} {enc : TypeId × Value → H} {W : World}
end
end Go.Proofs.Ytjkmmbfenhhjkaa.Ex
end

section

set_option linter.unusedSimpArgs false
set_option linter.unusedVariables false
namespace Go.Proofs.Ytjkmmbfenhhjkaa.Ex
open Go Go.RowKit Go.ChangeShapes Go.WideShapes Go.ChangeAt
def OkOsd (x : OsdD) : Prop := True
def OkPool (x : PoolD) : Prop := True
def OkBkt (x : BktD) : Prop := Sm 8 x.items ∧ Sm 8 x.weights
def OkMp (x : MapD) : Prop := (Sm 40 x.osds ∧ ∀ y ∈ x.osds, OkOsd y) ∧ (Sm 32 x.pools ∧ ∀ y ∈ x.pools, OkPool y) ∧ (Sm 64 x.buckets ∧ ∀ y ∈ x.buckets, OkBkt y)
section
variable {H : Type} {enc : TypeId × Value → H} {W : World}
end
end Go.Proofs.Ytjkmmbfenhhjkaa.Ex
end

section

set_option linter.unusedSimpArgs false
set_option linter.unusedVariables false
set_option maxRecDepth 10000
set_option maxHeartbeats 4000000
namespace Go.Proofs.Ytjkmmbfenhhjkaa.Ex
open Go
end Go.Proofs.Ytjkmmbfenhhjkaa.Ex
end

section

set_option linter.unusedSimpArgs false
set_option linter.unusedVariables false
set_option maxRecDepth 10000
set_option maxHeartbeats 4000000
namespace Go.Proofs.Ytjkmmbfenhhjkaa.Ex
open Go
end Go.Proofs.Ytjkmmbfenhhjkaa.Ex
end

section

set_option linter.unusedSimpArgs false
set_option linter.unusedVariables false
set_option maxRecDepth 10000
set_option maxHeartbeats 4000000
namespace Go.Proofs.Ytjkmmbfenhhjkaa.Ex
open Go
end Go.Proofs.Ytjkmmbfenhhjkaa.Ex
end

section

set_option linter.unusedSimpArgs false
set_option linter.unusedVariables false
set_option maxRecDepth 10000
set_option maxHeartbeats 4000000
namespace Go.Proofs.Ytjkmmbfenhhjkaa.Ex
open Go
def IdxP (ps : List PoolD) (id : Int) (n : Int) : Prop := (∃ (k : Nat) (q : PoolD), n = (k : Int) ∧ ps[k]? = some q ∧ ps.find? (fun q => q.id == id) = some q) ∨ (n = -1 ∧ ps.find? (fun q => q.id == id) = none)
theorem pick1_x {H : AH} {b : Nat} (q p : PoolD) (hb : H.at b = some (.cells [.lit (.int .i64 p.id), .lit (.int .i64 p.size), .lit (.int .i64 p.min), .lit (.int .i64 p.pgs)] 95)) :
    WC Try.prog (tabOf Try.prog NT0) S0 43 [poolV q, .ptr b 0] H fun r h' => Ext H.n H h' ∧ r = .lit (.bool (q.id == p.id)) := by
  refine WC_fn Try.func43 rfl rfl ?_
  have lb := at_lt hb
  obtain ⟨h0, hh0⟩ : ∃ h0, h0 = H.push (.cells [.lit (.int .i64 q.id), .lit (.int .i64 q.size), .lit (.int .i64 q.min), .lit (.int .i64 q.pgs)] 95) := ⟨_, rfl⟩
  have E0 : Ext H.n H h0 := hh0 ▸ (Ext.refl _ _).push _ (Nat.le_refl _)
  have A1 : h0.at H.n = some (.cells [.lit (.int .i64 q.id), .lit (.int .i64 q.size), .lit (.int .i64 q.min), .lit (.int .i64 q.pgs)] 95) := hh0 ▸ at_push_n _ _
  have A2 := (E0.2 _ lb).trans hb
  have L1 := ld_at (T := tabOf Try.prog NT0) A1
  have L2 := ld_at (T := tabOf Try.prog NT0) A2
  have l1 := at_lt A1
  have l2 := at_lt A2
  simp only [core, zrA, zrS, zrM, zrL, zrE, reduceCtorEq, zrD, ziE, ziL, ziN, Try.ntmps43, poolV, ← hh0, L1, L2, l1, l2]
  first | exact ⟨E0, rfl⟩ | exact E0
theorem idx1_x {F : Nat → Prop} {H : AH} {v : AV} {b : Nat} {ps : List PoolD} (p : PoolD) (hv : IsSl RPool F H v ps) (hl : Sm 32 ps) (hb : H.at b = some (.cells [.lit (.int .i64 p.id), .lit (.int .i64 p.size), .lit (.int .i64 p.min), .lit (.int .i64 p.pgs)] 95)) :
    WC Try.prog (tabOf Try.prog NT0) S0 42 [v, .fn (.func 43) [] [.ptr b 0]] H fun r h' => Ext H.n H h' ∧ ∃ n, r = .lit (.int .i64 n) ∧ IdxP ps p.id n := by
  refine WC_fn Try.func42 rfl rfl ?_
  unfold Sm at hl
  have s1 := hv.isSl
  have s2 := hv.lenD
  simp only [core, zrA, zrS, zrM, zrL, zrE, reduceCtorEq, zrD, ziE, ziL, ziN, Try.ntmps42, s1, s2]
  refine WB_for ps.length (fun i t h => Ext H.n H h ∧ ps.find? (fun q => q.id == p.id) = (ps.drop i).find? (fun q => q.id == p.id) ∧ t.n = 19 ∧ t.get 0 = v ∧ t.get 1 = .fn (.func 43) [] [.ptr b 0] ∧ t.get 7 = .lit (.int .i64 ps.length) ∧ t.get 8 = .lit (.int .i64 i)) ?_ ?_ _ _ ?_
  · rintro i t h hlt hc ⟨he, hf, hn, g0, g1, g7, g8⟩ ih
    obtain ⟨x, hx⟩ : ∃ x, ps[i]? = some x := ⟨_, List.getElem?_eq_getElem hlt⟩
    obtain ⟨c, hc1, hld, hld0⟩ := hv.atE (T := tabOf Try.prog NT0) he RPool_z hx
    obtain ⟨rfl, -⟩ := RPool_is.1 hc1
    have hws := wrap_succ hlt (by omega)
    rw [find_drop hx] at hf
    simp only [core, zrA, zrS, zrM, zrL, zrE, reduceCtorEq, zrD, ziE, ziL, ziN, s1, s2, hn, g0, g1, g7, g8, hlt, hc, hld, hld0, hws]
    refine (pick1_x x p ((he.2 _ (at_lt hb)).trans hb)).mono ?_
    rintro r h2 ⟨e2, rfl⟩
    have E2 := he.step e2
    cases hq : (x.id == p.id) with
    | true =>
      rw [if_pos hq] at hf
      simp only [core, zrA, zrS, zrM, zrL, zrE, reduceCtorEq, zrD, ziE, ziL, ziN, s1, s2, hn, g0, g1, g7, g8, hlt, hc, hld, hld0, hws, hq]
      first | exact ⟨E2, _, rfl, .inl ⟨i, x, rfl, hx, hf⟩⟩
    | false =>
      rw [if_neg (by rw [hq]; decide)] at hf
      simp only [core, zrA, zrS, zrM, zrL, zrE, reduceCtorEq, zrD, ziE, ziL, ziN, s1, s2, hn, g0, g1, g7, g8, hlt, hc, hld, hld0, hws, hq]
      refine ih _ _ ⟨E2, hf, ?_⟩
      simp only [core, zrA, zrS, zrM, zrL, zrE, reduceCtorEq, zrD, ziE, ziL, ziN, hn, g0, g1, g7, g8]
  · rintro t h hc ⟨he, hf, hn, g0, g1, g7, g8⟩
    simp only [core, zrA, zrS, zrM, zrL, zrE, reduceCtorEq, zrD, ziE, ziL, ziN, s1, s2, hn, g0, g1, g7, g8, hc]
    rw [List.drop_length] at hf
    first | exact ⟨he, _, rfl, .inr ⟨rfl, hf⟩⟩
  · refine ⟨Ext.refl _ _, rfl, ?_⟩
    simp only [core, zrA, zrS, zrM, zrL, zrE, reduceCtorEq, zrD, ziE, ziL, ziN]
    try ((repeat' apply And.intro) <;> first | rfl | trivial)
end Go.Proofs.Ytjkmmbfenhhjkaa.Ex
end

section

set_option linter.unusedSimpArgs false
set_option linter.unusedVariables false
set_option maxRecDepth 10000
set_option maxHeartbeats 4000000
namespace Go.Proofs.Ytjkmmbfenhhjkaa.Ex
open Go
def poolBad (p : PoolD) : Prop := p.id < 1 ∨ 4 < p.id ∨ p.size < 1 ∨ 8 < p.size ∨ p.min < 1 ∨ p.size < p.min ∨ p.pgs < 1 ∨ 8 < p.pgs
instance (p : PoolD) : Decidable (poolBad p) := by unfold poolBad; infer_instance
def mayPoolF (m : MapD) (p : PoolD) : Int := if poolBad p then 22 else match poolF m p.id with
  | some q => if q.pgs = p.pgs then 0 else 126
  | none => 0
theorem mayPool_x {F : Nat → Prop} {H : AH} {m : MapD} {vo vp vb : AV} (p : PoolD) (hm : MpAt F H m vo vp vb) (hl : Sm 32 m.pools) :
    WC Try.prog (tabOf Try.prog NT0) S0 33 [mpV m vo vp vb, poolV p] H fun r h' => Ext H.n H h' ∧ r = .lit (.int .i64 (mayPoolF m p)) := by
  refine WC_fn Try.func33 rfl rfl ?_
  have o1 := hm.o.one
  have o2 := hm.p.one
  have o3 := hm.b.one
  have s1 := hm.p.isSl
  have s2 := hm.p.lenD
  obtain ⟨h0, hh0⟩ : ∃ h0, h0 = (H.push (.cells [.lit (.int .i64 m.epoch), vo, vp, vb, .lit (.int .i64 m.leaf)] 72)).push (.cells [.lit (.int .i64 p.id), .lit (.int .i64 p.size), .lit (.int .i64 p.min), .lit (.int .i64 p.pgs)] 95) := ⟨_, rfl⟩
  have E0 : Ext H.n H h0 := hh0 ▸ ((Ext.refl _ _).push _ (Nat.le_refl _)).push _ (by rw [n_push]; omega)
  have A1 : h0.at H.n = some (.cells [.lit (.int .i64 m.epoch), vo, vp, vb, .lit (.int .i64 m.leaf)] 72) := hh0 ▸ (at_push_lt _ (by rw [n_push]; omega)).trans (at_push_n _ _)
  have A2 : h0.at (H.n + 1) = some (.cells [.lit (.int .i64 p.id), .lit (.int .i64 p.size), .lit (.int .i64 p.min), .lit (.int .i64 p.pgs)] 95) := hh0 ▸ at_push_n _ _
  have L1 := ld_at (T := tabOf Try.prog NT0) A1
  have L2 := ld_at (T := tabOf Try.prog NT0) A2
  have l1 := at_lt A1
  have l2 := at_lt A2
  by_cases c1 : p.id < 1
  · have hB : mayPoolF m p = 22 := by unfold mayPoolF; rw [if_pos (by unfold poolBad; omega)]
    rw [hB]
    simp only [core, zrA, zrS, zrM, zrL, zrE, reduceCtorEq, zrD, ziE, ziL, ziN, Try.ntmps33, mpV, poolV, o1, o2, o3, ← hh0, L1, L2, l1, l2, c1]
    first | exact ⟨E0, rfl⟩ | exact E0
  by_cases c2 : 4 < p.id
  · have hB : mayPoolF m p = 22 := by unfold mayPoolF; rw [if_pos (by unfold poolBad; omega)]
    rw [hB]
    simp only [core, zrA, zrS, zrM, zrL, zrE, reduceCtorEq, zrD, ziE, ziL, ziN, Try.ntmps33, mpV, poolV, o1, o2, o3, ← hh0, L1, L2, l1, l2, c1, c2]
    first | exact ⟨E0, rfl⟩ | exact E0
  by_cases c3 : p.size < 1
  · have hB : mayPoolF m p = 22 := by unfold mayPoolF; rw [if_pos (by unfold poolBad; omega)]
    rw [hB]
    simp only [core, zrA, zrS, zrM, zrL, zrE, reduceCtorEq, zrD, ziE, ziL, ziN, Try.ntmps33, mpV, poolV, o1, o2, o3, ← hh0, L1, L2, l1, l2, c1, c2, c3]
    first | exact ⟨E0, rfl⟩ | exact E0
  by_cases c4 : 8 < p.size
  · have hB : mayPoolF m p = 22 := by unfold mayPoolF; rw [if_pos (by unfold poolBad; omega)]
    rw [hB]
    simp only [core, zrA, zrS, zrM, zrL, zrE, reduceCtorEq, zrD, ziE, ziL, ziN, Try.ntmps33, mpV, poolV, o1, o2, o3, ← hh0, L1, L2, l1, l2, c1, c2, c3, c4]
    first | exact ⟨E0, rfl⟩ | exact E0
  by_cases c5 : p.min < 1
  · have hB : mayPoolF m p = 22 := by unfold mayPoolF; rw [if_pos (by unfold poolBad; omega)]
    rw [hB]
    simp only [core, zrA, zrS, zrM, zrL, zrE, reduceCtorEq, zrD, ziE, ziL, ziN, Try.ntmps33, mpV, poolV, o1, o2, o3, ← hh0, L1, L2, l1, l2, c1, c2, c3, c4, c5]
    first | exact ⟨E0, rfl⟩ | exact E0
  by_cases c6 : p.size < p.min
  · have hB : mayPoolF m p = 22 := by unfold mayPoolF; rw [if_pos (by unfold poolBad; omega)]
    rw [hB]
    simp only [core, zrA, zrS, zrM, zrL, zrE, reduceCtorEq, zrD, ziE, ziL, ziN, Try.ntmps33, mpV, poolV, o1, o2, o3, ← hh0, L1, L2, l1, l2, c1, c2, c3, c4, c5, c6]
    first | exact ⟨E0, rfl⟩ | exact E0
  by_cases c7 : p.pgs < 1
  · have hB : mayPoolF m p = 22 := by unfold mayPoolF; rw [if_pos (by unfold poolBad; omega)]
    rw [hB]
    simp only [core, zrA, zrS, zrM, zrL, zrE, reduceCtorEq, zrD, ziE, ziL, ziN, Try.ntmps33, mpV, poolV, o1, o2, o3, ← hh0, L1, L2, l1, l2, c1, c2, c3, c4, c5, c6, c7]
    first | exact ⟨E0, rfl⟩ | exact E0
  by_cases c8 : 8 < p.pgs
  · have hB : mayPoolF m p = 22 := by unfold mayPoolF; rw [if_pos (by unfold poolBad; omega)]
    rw [hB]
    simp only [core, zrA, zrS, zrM, zrL, zrE, reduceCtorEq, zrD, ziE, ziL, ziN, Try.ntmps33, mpV, poolV, o1, o2, o3, ← hh0, L1, L2, l1, l2, c1, c2, c3, c4, c5, c6, c7, c8]
    first | exact ⟨E0, rfl⟩ | exact E0
  have hB : mayPoolF m p = match poolF m p.id with
    | some q => if q.pgs = p.pgs then 0 else 126
    | none => 0 := by unfold mayPoolF; rw [if_neg (by unfold poolBad; omega)]
  rw [hB]
  simp only [core, zrA, zrS, zrM, zrL, zrE, reduceCtorEq, zrD, ziE, ziL, ziN, Try.ntmps33, mpV, poolV, o1, o2, o3, ← hh0, L1, L2, l1, l2, c1, c2, c3, c4, c5, c6, c7, c8]
  refine (idx1_x p (hm.p.ext E0 (Nat.le_refl _)) hl A2).mono ?_
  rintro r h2 ⟨e2, n, rfl, hI⟩
  have E2 := E0.step e2
  have B1 := (e2.2 _ l1).trans A1
  have B2 := (e2.2 _ l2).trans A2
  have LB1 := ld_at (T := tabOf Try.prog NT0) B1
  have LB2 := ld_at (T := tabOf Try.prog NT0) B2
  have lb1 := at_lt B1
  have lb2 := at_lt B2
  rcases hI with ⟨k, q, rfl, hk, hf⟩ | ⟨rfl, hf⟩
  · have hF : poolF m p.id = some q := hf
    rw [hF]
    obtain ⟨c, hc1, hld, hld0⟩ := hm.p.atE (T := tabOf Try.prog NT0) E2 RPool_z hk
    obtain ⟨rfl, -⟩ := RPool_is.1 hc1
    have hlt := (List.getElem?_eq_some_iff.1 hk).1
    have hk0 : (0 : Int) ≤ (k : Int) := by omega
    have hn0 : ¬ (k : Int) < 0 := by omega
    simp only [core, zrA, zrS, zrM, zrL, zrE, reduceCtorEq, zrD, ziE, ziL, ziN]
    rw [WB_regionD [0, 1, 2, 3, 4, 5, 6, 7, 8, 9, 10, 11, 12] 374075900823516023695234415374324642402377951879168 (by kernel_rfl)]
    by_cases cq : q.pgs = p.pgs
    · have cqn : (q.pgs != p.pgs) = false := by simp [cq]
      have cqe : (q.pgs == p.pgs) = true := by simp [cq]
      repeat ((with_reducible refine WDM_cons ?_; simp only [dw1]; try simp only [dw2, zrA, zrM, zrR, zrO, zrE]); simp only [core, zrA, zrS, zrM, zrL, zrE, reduceCtorEq, zrD, ziE, ziL, ziN, cored, s1, s2, LB1, LB2, lb1, lb2, hk0, hn0, hlt, hld, hld0, cqn, cqe])
      simp only [if_pos cq]
      first | exact ⟨E2, rfl⟩ | exact ⟨E2, trivial⟩ | exact E2
    · have cqn : (q.pgs != p.pgs) = true := by simp [cq]
      have cqe : (q.pgs == p.pgs) = false := by simp [cq]
      repeat ((with_reducible refine WDM_cons ?_; simp only [dw1]; try simp only [dw2, zrA, zrM, zrR, zrO, zrE]); simp only [core, zrA, zrS, zrM, zrL, zrE, reduceCtorEq, zrD, ziE, ziL, ziN, cored, s1, s2, LB1, LB2, lb1, lb2, hk0, hn0, hlt, hld, hld0, cqn, cqe])
      simp only [if_neg cq]
      first | exact ⟨E2, rfl⟩ | exact ⟨E2, trivial⟩ | exact E2
  · have hF : poolF m p.id = none := hf
    rw [hF]
    simp only [core, zrA, zrS, zrM, zrL, zrE, reduceCtorEq, zrD, ziE, ziL, ziN]
    rw [WB_regionD [0, 1, 2, 3, 4, 5, 6, 7, 8, 9, 10, 11, 12] 374075900823516023695234415374324642402377951879168 (by kernel_rfl)]
    repeat ((with_reducible refine WDM_cons ?_; simp only [dw1]; try simp only [dw2, zrA, zrM, zrR, zrO, zrE]); simp only [core, zrA, zrS, zrM, zrL, zrE, reduceCtorEq, zrD, ziE, ziL, ziN, cored, s1, s2, LB1, LB2, lb1, lb2])
    first | exact ⟨E2, rfl⟩ | exact ⟨E2, trivial⟩ | exact E2
end Go.Proofs.Ytjkmmbfenhhjkaa.Ex
end

section

set_option linter.unusedSimpArgs false
set_option linter.unusedVariables false
set_option maxRecDepth 10000
set_option maxHeartbeats 4000000
namespace Go.Proofs.Ytjkmmbfenhhjkaa.Ex
open Go
/-- A row of buckets of the run's own. -/
abbrev OwnK (n0 : Nat) (h : AH) (v : AV) (xs : List BktD) : Prop := OwnL RBkt (fun k => n0 ≤ k) n0 h v 93 xs
theorem push_bkt {n0 q : Nat} {h h3 : AH} {v ra rw1 : AV} {xs : List BktD} {x : BktD} {cap : Cap} {e' : TypeId} (ho : OwnK n0 h v xs) (hn0 : n0 ≤ h.n) (e : Ext h.n h h3) (A : h3.at q = some (.cells [.lit (.int .i64 x.id), .lit (.int .i64 x.kind), ra, rw1] e'))
    (r1 : OwnE RInt h.n h3 ra 3 x.items) (r2 : OwnE RInt h.n h3 rw1 3 x.weights) (hi : I64 x.id ∧ I64 x.kind) (hl : (xs.length + 1) * 64 ≤ 140737488355328) :
    ∃ s' h', appendA (tabOf Try.prog NT0) h3 70 70 v (.sl q 0 1 cap) = some (s', h') ∧ OwnK n0 h' s' (xs ++ [x]) ∧ Fr h v h' s' := by
  have e1 := e.1
  obtain ⟨s', h', a, b, c, d⟩ := (ho.ext e (Nat.le_refl _)).snoc (T := tabOf Try.prog NT0) (t := 70) (tx := 70) (y := x) (cap := cap) (by kernel_rfl) (by kernel_rfl) (by kernel_rfl) (zv := .agg [.lit (.int .i64 0), .lit (.int .i64 0), .lit (.slice none 0 0), .lit (.slice none 0 0)]) (by kernel_rfl) (by' := 64) (by kernel_rfl) rfl (by decide) (by decide) A
    (RBkt_is.2 ⟨ra, rw1, rfl, r1.toSl fun k hk => ⟨by omega, OwnL.apart ho hk⟩, r2.toSl fun k hk => ⟨by omega, OwnL.apart ho hk⟩, hi.1, hi.2⟩) (by omega) hl (by omega)
  exact ⟨s', h', a, b, (Fr.ext e).trans ⟨c.1, d⟩⟩
def wbStep (b : BktD) (s : List BktD × Bool) (c : BktD) : List BktD × Bool :=
  let s1 := if s.2 = false ∧ c.id ≤ b.id then (s.1 ++ [b], true) else s
  if c.id = b.id then s1 else (s1.1 ++ [c], s1.2)
def wbL (l : List BktD) (b : BktD) : List BktD :=
  let s := l.foldl (wbStep b) ([], decide (b.items.length = 0))
  if s.2 then s.1 else s.1 ++ [b]
theorem fold_succ {α β : Type} (f : β → α → β) (z : β) {l : List α} {i : Nat} {x : α} (hx : l[i]? = some x) : (l.take (i + 1)).foldl f z = f ((l.take i).foldl f z) x := by
  rw [List.take_add_one, hx, List.foldl_append]
  rfl
end Go.Proofs.Ytjkmmbfenhhjkaa.Ex
end

section

set_option linter.unusedSimpArgs false
set_option linter.unusedVariables false
set_option maxRecDepth 10000
set_option maxHeartbeats 4000000
namespace Go.Proofs.Ytjkmmbfenhhjkaa.Ex
open Go
def growO (l : List OsdD) (n : Nat) : List OsdD := l ++ List.replicate (n + 1 - l.length) osd0
def setO (m : MapD) (n : Nat) (o : OsdD) : MapD := { m with osds := (growO m.osds n).set n o }
def newOs (epoch : Int) (o : OsdD) (kind value : Int) : OsdD :=
  if kind = 1 then ⟨true, true, if o.ex then o.weight else 65536, value, IntKind.i64.wrap (epoch + 1), o.upThru⟩
  else if kind = 2 then ⟨o.ex, false, o.weight, o.boot, o.upFrom, o.upThru⟩
  else if kind = 3 then ⟨o.ex, o.up, value, o.boot, o.upFrom, o.upThru⟩
  else ⟨o.ex, o.up, o.weight, o.boot, o.upFrom, value⟩
def insP : List PoolD → PoolD → List PoolD
  | [], p => [p]
  | q :: r, p => if q.id < p.id then q :: insP r p else if q.id = p.id then p :: r else p :: q :: r
def withB (m : MapD) (b : BktD) : MapD := { m with buckets := wbL m.buckets b }
def mayBktF (m : MapD) (b : BktD) : Int :=
  if b.id < -32 ∨ -1 < b.id then 22 else if (bucketF m b.id).isNone = true ∧ b.items = [] then 2 else if goodF (withB m b) then 0 else 22
def isOs (kind : Int) : Prop := kind = 1 ∨ kind = 2 ∨ kind = 3 ∨ kind = 4
instance (k : Int) : Decidable (isOs k) := by unfold isOs; infer_instance
def chMay (m : MapD) (c : ChD) : Int :=
  if isOs c.kind then (if c.osd < 0 ∨ 8 ≤ c.osd then 22 else mayOsdF m c)
  else if c.kind = 5 then mayPoolF m c.pool
  else if c.kind = 6 then mayBktF m c.bucket
  else if c.kind = 7 then (if c.value < 0 ∨ 3 < c.value then 22 else 0)
  else 22
def chMade (m : MapD) (c : ChD) : MapD :=
  if c.kind = 5 then { m with pools := insP m.pools c.pool }
  else if c.kind = 6 then withB m c.bucket
  else if c.kind = 7 then { m with leaf := c.value }
  else setO m c.osd.toNat (newOs m.epoch (osdG m c.osd) c.kind c.value)
def map0 : MapD := ⟨0, [], [], [], 0⟩
def applyC : MapD → List ChD → MapD × Int
  | m, [] => (m, 0)
  | m, c :: r => if chMay m c = 0 then applyC (chMade m c) r else (map0, chMay m c)
def applyD (m : MapD) (x : IncD) : MapD × Int :=
  if m.epoch = 9223372036854775807 ∨ ¬ x.epoch = m.epoch + 1 then (map0, 126)
  else if (applyC m x.changes).2 = 0 then ({ (applyC m x.changes).1 with epoch := x.epoch }, 0) else (map0, (applyC m x.changes).2)
/-! What is kept along changes. -/
def OsOk (o : OsdD) : Prop := o.ex = true ∨ (o.boot = 0 ∧ o.upThru = 0)
def Rise (a b : List OsdD) : Prop := a.length ≤ b.length ∧ ∀ k, (a.getD k osd0).boot ≤ (b.getD k osd0).boot ∧ (a.getD k osd0).upThru ≤ (b.getD k osd0).upThru
theorem Rise.refl (a : List OsdD) : Rise a a := ⟨Nat.le_refl _, fun k => ⟨Int.le_refl _, Int.le_refl _⟩⟩
theorem Rise.trans {a b c : List OsdD} (h : Rise a b) (k : Rise b c) : Rise a c := ⟨Nat.le_trans h.1 k.1, fun i => ⟨Int.le_trans (h.2 i).1 (k.2 i).1, Int.le_trans (h.2 i).2 (k.2 i).2⟩⟩
theorem grow_len (l : List OsdD) (n : Nat) : (growO l n).length = max l.length (n + 1) := by
  unfold growO
  rw [List.length_append, List.length_replicate]
  omega
theorem grow_get (l : List OsdD) (n k : Nat) : (growO l n).getD k osd0 = l.getD k osd0 := by
  unfold growO
  rw [List.getD_eq_getElem?_getD, List.getD_eq_getElem?_getD]
  by_cases hk : k < l.length
  · rw [List.getElem?_append_left hk]
  · rw [List.getElem?_append_right (by omega), List.getElem?_eq_none (Nat.not_lt.1 hk)]
    by_cases h2 : k - l.length < n + 1 - l.length
    · rw [List.getElem?_replicate_of_lt h2]
      rfl
    · rw [List.getElem?_eq_none (by rw [List.length_replicate]; omega)]
theorem set_get (l : List OsdD) (n k : Nat) (o : OsdD) : ((growO l n).set n o).getD k osd0 = if k = n then o else l.getD k osd0 := by
  by_cases hk : k = n
  · subst hk
    rw [if_pos rfl, List.getD_eq_getElem?_getD, List.getElem?_set_self (by rw [grow_len]; omega)]
    rfl
  · rw [if_neg hk, ← grow_get l n k, List.getD_eq_getElem?_getD, List.getElem?_set_ne (by omega), ← List.getD_eq_getElem?_getD]
theorem set_len (l : List OsdD) (n : Nat) (o : OsdD) : ((growO l n).set n o).length = max l.length (n + 1) := by rw [List.length_set, grow_len]
def OsAll (l : List OsdD) : Prop := ∀ k, OsOk (l.getD k osd0)
theorem os_all0 : OsAll [] := fun k => .inr ⟨rfl, rfl⟩
theorem osdG_get {m : MapD} {n : Int} (h : 0 ≤ n) : osdG m n = m.osds.getD n.toNat osd0 := by unfold osdG; rw [if_pos h]
theorem newOs_ok {e : Int} {o : OsdD} {kind value : Int} (ki : isOs kind) (hk : OsOk o) (hm : mayOs e o kind value = 0) : OsOk (newOs e o kind value) ∧ o.boot ≤ (newOs e o kind value).boot ∧ o.upThru ≤ (newOs e o kind value).upThru := by
  obtain ⟨ex, up, w, b, uf, ut⟩ := o
  unfold OsOk at hk ⊢
  unfold mayOs at hm
  unfold newOs
  rcases ki with rfl | rfl | rfl | rfl <;> cases ex <;> simp at hm hk ⊢
  all_goals (try omega)
  all_goals (try (split at hm <;> (try cases hm)))
  all_goals (try omega)
  all_goals (try (split at hm <;> (try cases hm)))
  all_goals (try omega)
  all_goals (try (split at hm <;> (try cases hm)))
  all_goals (try omega)
theorem made_rise {m : MapD} {c : ChD} (h : OsAll m.osds) (hm : chMay m c = 0) : OsAll (chMade m c).osds ∧ Rise m.osds (chMade m c).osds := by
  unfold chMay at hm
  unfold chMade
  by_cases k5 : c.kind = 5
  · rw [if_pos k5]; exact ⟨h, Rise.refl _⟩
  by_cases k6 : c.kind = 6
  · rw [if_neg k5, if_pos k6]; exact ⟨h, Rise.refl _⟩
  by_cases k7 : c.kind = 7
  · rw [if_neg k5, if_neg k6, if_pos k7]; exact ⟨h, Rise.refl _⟩
  rw [if_neg k5, if_neg k6, if_neg k7] at hm ⊢
  by_cases ki : isOs c.kind
  · rw [if_pos ki] at hm
    by_cases ho : c.osd < 0 ∨ 8 ≤ c.osd
    · rw [if_pos ho] at hm; cases hm
    rw [if_neg ho] at hm
    have h0 : 0 ≤ c.osd := by omega
    unfold mayOsdF at hm
    rw [osdG_get h0] at hm ⊢
    have hk := h c.osd.toNat
    obtain ⟨o, ho'⟩ : ∃ o, o = m.osds.getD c.osd.toNat osd0 := ⟨_, rfl⟩
    rw [← ho'] at hm hk ⊢
    have key := newOs_ok (e := m.epoch) ki hk hm
    refine ⟨fun k => ?_, ?_, fun k => ?_⟩
    · show OsOk (((growO m.osds _).set _ _).getD k osd0)
      rw [set_get]
      split
      · exact key.1
      · exact h k
    · show _ ≤ ((growO m.osds _).set _ _).length
      rw [set_len]; omega
    · show _ ≤ (((growO m.osds _).set _ _).getD k osd0).boot ∧ _ ≤ (((growO m.osds _).set _ _).getD k osd0).upThru
      rw [set_get]
      split
      · rename_i hh; subst hh; rw [← ho']; exact key.2
      · exact ⟨Int.le_refl _, Int.le_refl _⟩
  · rw [if_neg ki] at hm
    cases hm
theorem kindF_congr {m n : MapD} (hb : m.buckets = n.buckets) : kindF m = kindF n := by
  funext i
  unfold kindF bucketG bucketF
  rw [hb]
theorem good_congr {m n : MapD} (hb : m.buckets = n.buckets) (hl : m.leaf = n.leaf) : goodF m = goodF n := by
  have h1 : itemOk m = itemOk n := by
    funext its b k
    unfold itemOk
    rw [kindF_congr hb]
  have h2 : bOk m = bOk n := by
    funext i b
    unfold bOk hdOk itsTo
    rw [h1, hb]
  unfold goodF
  rw [h2, hb, hl]
theorem good_leaf {m : MapD} {v : Int} (h : goodF m = true) (h0 : ¬ (v < 0 ∨ 3 < v)) : goodF { m with leaf := v } = true := by
  have h1 : goodF { m with leaf := v } = (decide (0 ≤ v) && decide (v ≤ 3) && (List.range m.buckets.length).all (fun i => bOk m i (m.buckets.getD i bkt0))) := by
    unfold goodF
    congr 1
  rw [h1]
  unfold goodF at h
  simp only [Bool.and_eq_true, decide_eq_true_eq] at h ⊢
  exact ⟨⟨by omega, by omega⟩, h.2⟩
theorem good_w {m : MapD} (h : goodF m = true) {b : BktD} (hb : b ∈ m.buckets) : b.items.length = b.weights.length := by
  unfold goodF at h
  simp only [Bool.and_eq_true, List.all_eq_true] at h
  obtain ⟨i, hi, rfl⟩ := List.mem_iff_getElem.1 hb
  have := h.2 i (List.mem_range.2 hi)
  rw [List.getD_eq_getElem?_getD, List.getElem?_eq_getElem hi] at this
  unfold bOk hdOk at this
  simp only [Bool.and_eq_true, Option.getD_some, beq_iff_eq] at this
  exact this.1.1.2
theorem wbStep_ok {b : BktD} {s : List BktD × Bool} {c : BktD} {P : BktD → Prop} (hb : P b) (hc : P c) (hs : ∀ x ∈ s.1, P x) : ∀ x ∈ (wbStep b s c).1, P x := by
  unfold wbStep
  intro x hx
  dsimp only at hx
  by_cases h1 : s.2 = false ∧ c.id ≤ b.id
  · rw [if_pos h1] at hx
    by_cases h2 : c.id = b.id
    · rw [if_pos h2] at hx
      simp only [List.mem_append, List.mem_singleton] at hx
      rcases hx with hx | rfl
      · exact hs x hx
      · exact hb
    · rw [if_neg h2] at hx
      simp only [List.mem_append, List.mem_singleton] at hx
      rcases hx with (hx | rfl) | rfl
      · exact hs x hx
      · exact hb
      · exact hc
  · rw [if_neg h1] at hx
    by_cases h2 : c.id = b.id
    · rw [if_pos h2] at hx
      exact hs x hx
    · rw [if_neg h2] at hx
      simp only [List.mem_append, List.mem_singleton] at hx
      rcases hx with hx | rfl
      · exact hs x hx
      · exact hc
theorem wbFold_ok {b : BktD} {P : BktD → Prop} (hb : P b) : ∀ (l : List BktD) (s : List BktD × Bool), (∀ x ∈ l, P x) → (∀ x ∈ s.1, P x) → ∀ x ∈ (l.foldl (wbStep b) s).1, P x
  | [], s, _, hs => hs
  | c :: r, s, hl, hs => wbFold_ok hb r _ (fun x hx => hl x (by simp [hx])) (wbStep_ok hb (hl c (by simp)) hs)
theorem wbL_ok {l : List BktD} {b : BktD} {P : BktD → Prop} (hb : P b) (hl : ∀ x ∈ l, P x) : ∀ x ∈ wbL l b, P x := by
  unfold wbL
  have h := wbFold_ok hb l ([], decide (b.items.length = 0)) hl (fun x hx => by cases hx)
  intro x hx
  dsimp only at hx
  split at hx
  · exact h x hx
  · rw [List.mem_append, List.mem_singleton] at hx
    rcases hx with hx | rfl
    · exact h x hx
    · exact hb
def nB : Bool → Nat
  | true => 0
  | false => 1
theorem nB_le (p : Bool) : nB p ≤ 1 := by cases p <;> simp [nB]
theorem wbStep_len {b : BktD} {s : List BktD × Bool} {c : BktD} : (wbStep b s c).1.length + nB (wbStep b s c).2 ≤ s.1.length + nB s.2 + 1 := by
  obtain ⟨l, p⟩ := s
  unfold wbStep
  dsimp only
  by_cases h1 : p = false ∧ c.id ≤ b.id
  · rw [if_pos h1, h1.1]
    by_cases h2 : c.id = b.id
    · rw [if_pos h2]; simp [nB]
    · rw [if_neg h2]; simp [nB]
  · rw [if_neg h1]
    by_cases h2 : c.id = b.id
    · rw [if_pos h2]; simp
    · rw [if_neg h2]; simp; omega
theorem wbFold_len {b : BktD} : ∀ (l : List BktD) (s : List BktD × Bool), (l.foldl (wbStep b) s).1.length + nB (l.foldl (wbStep b) s).2 ≤ s.1.length + nB s.2 + l.length
  | [], s => Nat.le_refl _
  | c :: r, s => by
    have h1 := wbFold_len (b := b) r (wbStep b s c)
    have h2 := wbStep_len (b := b) (s := s) (c := c)
    rw [List.foldl_cons, List.length_cons]
    omega
theorem wbL_len (l : List BktD) (b : BktD) : (wbL l b).length ≤ l.length + 1 := by
  unfold wbL
  have h := wbFold_len (b := b) l ([], decide (b.items.length = 0))
  have h0 := nB_le (decide (b.items.length = 0))
  simp only [List.length_nil] at h
  dsimp only
  split
  · omega
  · rename_i hh
    have hh : (l.foldl (wbStep b) ([], decide (b.items.length = 0))).2 = false := by simpa using hh
    rw [hh] at h
    rw [List.length_append, List.length_singleton]
    have h1 : nB false = 1 := rfl
    omega
theorem insP_len : ∀ (l : List PoolD) (p : PoolD), (insP l p).length ≤ l.length + 1
  | [], p => Nat.le_refl _
  | q :: r, p => by
    have := insP_len r p
    unfold insP
    split
    · simp only [List.length_cons]; omega
    · split <;> simp only [List.length_cons] <;> omega
structure StOk (m : MapD) (k : Nat) : Prop where
  os : OsAll m.osds
  good : goodF m = true
  no : m.osds.length ≤ 8
  np : m.pools.length ≤ k
  nb : m.buckets.length ≤ k
  ni : ∀ b ∈ m.buckets, b.items.length ≤ 1048576 ∧ b.weights.length ≤ 1048576
theorem made_st {m : MapD} {c : ChD} {k : Nat} (h : StOk m k) (hi : c.bucket.items.length ≤ 1048576) (hm : chMay m c = 0) : StOk (chMade m c) (k + 1) := by
  have hr := made_rise h.os hm
  have hg : goodF (chMade m c) = true := by
    unfold chMay at hm
    unfold chMade
    by_cases k5 : c.kind = 5
    · rw [if_pos k5]; exact (good_congr rfl rfl).trans h.good
    by_cases k6 : c.kind = 6
    · rw [if_neg k5, if_pos k6]
      rw [if_neg (by unfold isOs; omega), if_neg k5, if_pos k6] at hm
      unfold mayBktF at hm
      split at hm
      · cases hm
      · split at hm
        · cases hm
        · split at hm
          · rename_i hh; exact hh
          · cases hm
    by_cases k7 : c.kind = 7
    · rw [if_neg k5, if_neg k6, if_pos k7]
      rw [if_neg (by unfold isOs; omega), if_neg k5, if_neg k6, if_pos k7] at hm
      refine good_leaf h.good fun hh => ?_
      rw [if_pos hh] at hm
      cases hm
    rw [if_neg k5, if_neg k6, if_neg k7]
    exact (good_congr rfl rfl).trans h.good
  refine ⟨hr.1, hg, ?_, ?_, ?_, ?_⟩
  · unfold chMay at hm
    have := h.no
    unfold chMade
    split
    · exact h.no
    split
    · exact h.no
    split
    · exact h.no
    · show ((growO _ _).set _ _).length ≤ _
      rw [set_len]
      by_cases ki : isOs c.kind
      · rw [if_pos ki] at hm
        by_cases ho : c.osd < 0 ∨ 8 ≤ c.osd
        · rw [if_pos ho] at hm; cases hm
        · omega
      · rw [if_neg ki, if_neg ‹_›, if_neg ‹_›, if_neg ‹_›] at hm
        cases hm
  · unfold chMade
    have := insP_len m.pools c.pool
    have := h.np
    split
    · show (insP _ _).length ≤ _; omega
    split
    · show m.pools.length ≤ _; omega
    split
    · show m.pools.length ≤ _; omega
    · show m.pools.length ≤ _; omega
  · unfold chMade
    have := wbL_len m.buckets c.bucket
    have := h.nb
    split
    · show m.buckets.length ≤ _; omega
    split
    · show (wbL _ _).length ≤ _; omega
    split
    · show m.buckets.length ≤ _; omega
    · show m.buckets.length ≤ _; omega
  · have key : ∀ b ∈ (chMade m c).buckets, b.items.length ≤ 1048576 := by
      unfold chMade
      split
      · exact fun b hb => (h.ni b hb).1
      split
      · exact wbL_ok (P := fun b => b.items.length ≤ 1048576) hi fun b hb => (h.ni b hb).1
      split
      · exact fun b hb => (h.ni b hb).1
      · exact fun b hb => (h.ni b hb).1
    exact fun b hb => ⟨key b hb, by rw [← good_w hg hb]; exact key b hb⟩
theorem made_epoch (m : MapD) (c : ChD) : (chMade m c).epoch = m.epoch := by
  unfold chMade
  split
  · rfl
  split
  · rfl
  split <;> rfl
theorem applyC_st : ∀ {l : List ChD} {m : MapD} {k : Nat}, StOk m k → (∀ c ∈ l, c.bucket.items.length ≤ 1048576) → (applyC m l).2 = 0 → StOk (applyC m l).1 (k + l.length) ∧ Rise m.osds (applyC m l).1.osds ∧ (applyC m l).1.epoch = m.epoch
  | [], m, k, h, _, _ => ⟨h, Rise.refl _, rfl⟩
  | c :: r, m, k, h, hi, h0 => by
    unfold applyC at h0 ⊢
    by_cases hm : chMay m c = 0
    · rw [if_pos hm] at h0 ⊢
      have h1 := made_st h (hi c (by simp)) hm
      obtain ⟨a, b, d⟩ := applyC_st h1 (fun c hc => hi c (by simp [hc])) h0
      refine ⟨?_, (made_rise h.os hm).2.trans b, d.trans (made_epoch m c)⟩
      rw [List.length_cons, show k + (r.length + 1) = k + 1 + r.length by omega]
      exact a
    · rw [if_neg hm] at h0
      exact absurd h0 hm
theorem StOk.mono {m : MapD} {k k' : Nat} (h : StOk m k) (hk : k ≤ k') : StOk m k' := ⟨h.os, h.good, h.no, by have := h.np; omega, by have := h.nb; omega, h.ni⟩
theorem applyD_st {m : MapD} {x : IncD} {k : Nat} (h : StOk m k) (hi : ∀ c ∈ x.changes, c.bucket.items.length ≤ 1048576) (h0 : (applyD m x).2 = 0) :
    StOk (applyD m x).1 (k + x.changes.length) ∧ Rise m.osds (applyD m x).1.osds ∧ (applyD m x).1.epoch = m.epoch + 1 := by
  unfold applyD at h0 ⊢
  by_cases he : m.epoch = 9223372036854775807 ∨ ¬ x.epoch = m.epoch + 1
  · rw [if_pos he] at h0; cases h0
  rw [if_neg he] at h0 ⊢
  by_cases ha : (applyC m x.changes).2 = 0
  · rw [if_pos ha] at h0 ⊢
    obtain ⟨a, b, c⟩ := applyC_st h hi ha
    exact ⟨⟨a.os, (good_congr rfl rfl).trans a.good, a.no, a.np, a.nb, a.ni⟩, b, by show x.epoch = _; omega⟩
  · rw [if_neg ha] at h0
    exact absurd h0 ha
structure PlOk (l : List MapD) (k : Nat) : Prop where
  ne : l ≠ []
  st : ∀ (i : Nat) m, l[i]? = some m → m.epoch = (i : Int) ∧ StOk m k
  ri : ∀ (i : Nat) m m', l[i]? = some m → l[i + 1]? = some m' → Rise m.osds m'.osds
theorem last_get {l : List MapD} (h : l ≠ []) : l[l.length - 1]? = some (l.getLastD map0) := by
  rw [← List.getLast?_eq_getElem?, List.getLastD_eq_getLast?]
  cases hq : l.getLast? with
  | none => exact absurd (List.getLast?_eq_none_iff.1 hq) h
  | some x => rfl
theorem PlOk.snoc {l : List MapD} {k : Nat} (h : PlOk l k) {x : IncD} (hi : ∀ c ∈ x.changes, c.bucket.items.length ≤ 1048576) (h0 : (applyD (l.getLastD map0) x).2 = 0) : PlOk (l ++ [(applyD (l.getLastD map0) x).1]) (k + x.changes.length) := by
  have hl := last_get h.ne
  have hp : 0 < l.length := List.length_pos_iff.2 h.ne
  obtain ⟨he, hs⟩ := h.st _ _ hl
  obtain ⟨a, b, c⟩ := applyD_st hs hi h0
  refine ⟨by simp, fun i m hm => ?_, fun i m m' h1 h2 => ?_⟩
  · by_cases hi : i < l.length
    · rw [List.getElem?_append_left hi] at hm
      exact ⟨(h.st i m hm).1, (h.st i m hm).2.mono (by omega)⟩
    · by_cases hi2 : i = l.length
      · subst hi2
        rw [List.getElem?_append_right (Nat.le_refl _), Nat.sub_self] at hm
        cases hm
        exact ⟨by omega, a⟩
      · rw [List.getElem?_eq_none (by simp; omega)] at hm
        cases hm
  · by_cases hi : i + 1 < l.length
    · rw [List.getElem?_append_left (by omega)] at h1
      rw [List.getElem?_append_left hi] at h2
      exact h.ri i m m' h1 h2
    · by_cases hi2 : i + 1 = l.length
      · rw [List.getElem?_append_left (by omega)] at h1
        rw [List.getElem?_append_right (by omega), show i + 1 - l.length = 0 by omega] at h2
        cases h2
        rw [show l.length - 1 = i by omega, h1] at hl
        cases hl
        exact b
      · rw [List.getElem?_eq_none (by simp; omega)] at h2
        cases h2
theorem insP_lt {p : PoolD} : ∀ {l : List PoolD} {i : Nat}, i ≤ l.length → (∀ j, j < i → (l.getD j pool0).id < p.id) → insP l p = l.take i ++ insP (l.drop i) p
  | l, 0, _, _ => by simp
  | [], i + 1, h, _ => by simp at h
  | q :: r, i + 1, h, hj => by
    have h0 := hj 0 (by omega)
    rw [List.getD_cons_zero] at h0
    rw [List.take_succ_cons, List.drop_succ_cons]
    conv => lhs; unfold insP
    rw [if_pos h0, insP_lt (i := i) (by simp at h; omega) fun j hj' => by
      have := hj (j + 1) (by omega)
      rw [List.getD_cons_succ] at this
      exact this]
    rfl
theorem insP_end {p : PoolD} {l : List PoolD} (hj : ∀ j, j < l.length → (l.getD j pool0).id < p.id) : insP l p = l ++ [p] := by
  rw [insP_lt (Nat.le_refl _) hj, List.take_length, List.drop_length]
  rfl
theorem insP_eq {p q : PoolD} {l : List PoolD} {i : Nat} (hi : l[i]? = some q) (hj : ∀ j, j < i → (l.getD j pool0).id < p.id) (h : q.id = p.id) : insP l p = l.set i p := by
  have hlt := (List.getElem?_eq_some_iff.1 hi).1
  have he := (List.getElem?_eq_some_iff.1 hi).2
  rw [insP_lt (by omega) hj, List.drop_eq_getElem_cons hlt, he]
  unfold insP
  rw [if_neg (by omega), if_pos h, List.set_eq_take_append_cons_drop, if_pos hlt]
theorem insP_gt {p q : PoolD} {l : List PoolD} {i : Nat} (hi : l[i]? = some q) (hj : ∀ j, j < i → (l.getD j pool0).id < p.id) (h : p.id < q.id) : insP l p = l.take i ++ p :: l.drop i := by
  have hlt := (List.getElem?_eq_some_iff.1 hi).1
  have he := (List.getElem?_eq_some_iff.1 hi).2
  rw [insP_lt (by omega) hj]
  congr 1
  rw [List.drop_eq_getElem_cons hlt, he]
  unfold insP
  rw [if_neg (by omega), if_neg (by omega)]
end Go.Proofs.Ytjkmmbfenhhjkaa.Ex
end

section

set_option linter.unusedSimpArgs false
set_option linter.unusedVariables false
namespace Go.Proofs.Ytjkmmbfenhhjkaa.Ex
open Go
theorem IsSl.ofAt {α : Type} {R : Rep α} {F : Nat → Prop} {h : AH} {p : Nat} {e : TypeId} {L : List (List AV)} {xs : List α} {n : Nat} (hat : h.at p = some (.cells L.flatten e)) (hF : F p) (he : Els R F h L xs) (hn : xs.length = n) : IsSl R F h (.sl p 0 n (.kn n)) xs := by
  subst hn
  have hl := flat_len (z := R.z) he.lens
  refine .mk ⟨he.lens, .inr ⟨p, 0, .kn xs.length, L.flatten, by rw [he.1], by unfold getR; rw [hat], ?_⟩⟩ (fun b off n cap e => by cases e; exact hF) (fun b off n cap e => by cases e; exact Nat.le_refl _) he
  unfold cut
  rw [if_pos (by rw [hl]; omega), List.drop_zero, ← hl, List.take_length]
def pushL (h : AH) : List AB → AH
  | [] => h
  | x :: r => pushL (h.push x) r
theorem pushL_ext : ∀ {l : List AB} {h : AH} {n0 : Nat}, n0 ≤ h.n → Ext n0 h (pushL h l)
  | [], h, n0, _ => Ext.refl _ _
  | x :: r, h, n0, hn => ((Ext.refl _ _).push x hn).trans (pushL_ext (by rw [n_push]; omega))
theorem pushL_at : ∀ {l : List AB} {h : AH} {i : Nat} {x : AB}, l[i]? = some x → (pushL h l).at (h.n + i) = some x
  | y :: r, h, 0, x, e => by
    cases e
    exact ((pushL_ext (l := r) (Nat.le_refl (h.push y).n)).2 _ (by rw [n_push]; omega)).trans (at_push_n _ _)
  | y :: r, h, i + 1, x, e => by
    have := pushL_at (l := r) (h := h.push y) (i := i) (x := x) e
    rw [n_push] at this
    rw [show h.n + (i + 1) = h.n + 1 + i by omega]
    exact this
end Go.Proofs.Ytjkmmbfenhhjkaa.Ex
end

section

set_option linter.unusedSimpArgs false
set_option linter.unusedVariables false
set_option maxRecDepth 10000
set_option maxHeartbeats 4000000
namespace Go.Proofs.Ytjkmmbfenhhjkaa.Ex
open Go
def bz4 : List AV := [.lit (.int .i64 0), .lit (.int .i64 0), .lit (.slice none 0 0), .lit (.slice none 0 0)]
def zK (n : Nat) : List AV := rep bz4 n
section
variable {d : Option Nat} {ty ps af : _} {g : _} {t : TM} {h : AH}
theorem a_mkB {i : Nat} {n : Nat} (hi : t.get i = .lit (.int .i64 n)) (hn : n ≤ 1000000000) :
    aop Try.prog (tabOf Try.prog NT0) ⟨d, .makeSlice 70 (.tmp i) (.tmp i), ty, ps, af, g⟩ t h = some (.val (.sl h.n 0 n (.kn n)), h.push (.cells (zK n) 93)) := by
  have e1 : und (tabOf Try.prog NT0) 70 = some (.slice 93) := by kernel_rfl
  have h00 : (tabOf Try.prog NT0 93).map (fun i => (i.bytes, i.zero.cells, i.size)) = some (64, bz4, 4) := by kernel_rfl
  obtain ⟨i0, h0, he⟩ := Option.map_eq_some_iff.1 h00
  obtain ⟨hb, hz, hs⟩ : i0.bytes = 64 ∧ i0.zero.cells = bz4 ∧ i0.size = 4 := by
    simp only [Prod.mk.injEq] at he
    exact he
  show aMakeSlice _ t h _ _ _ = _
  unfold aMakeSlice
  rw [e1, show evalA t (.tmp i) = some (t.get i) from rfl, hi]
  simp only [Option.bind_some, natA_int]
  rw [if_pos (Int.natCast_nonneg n)]
  simp only [Int.toNat_natCast, h0, hb, hz, hs]
  rw [if_pos (by simp; refine ⟨⟨by omega, by omega⟩, rfl⟩)]
  rfl
end
theorem zK_succ (n : Nat) : zK (n + 1) = bz4 ++ zK n := rfl
theorem zK_len (n : Nat) : (zK n).length = n * 4 := by
  induction n with
  | zero => rfl
  | succ n ih => rw [zK_succ, List.length_append, ih]; show 4 + _ = _; omega
theorem put_row {K : List (List AV)} {i n : Nat} (hK : K.length = i) (hk4 : ∀ c ∈ K, c.length = 4) (hi : i < n) (a b c d : AV) :
    put (K.flatten ++ zK (n - i)) (i * 4) [a, b, c, d] = some ((K ++ [[a, b, c, d]]).flatten ++ zK (n - (i + 1))) := by
  have hl : K.flatten.length = i * 4 := by rw [flat_len hk4, hK]
  have hz : n - i = (n - (i + 1)) + 1 := by omega
  unfold put
  rw [if_pos (by rw [List.length_append, hl, zK_len]; show i * 4 + 4 ≤ _; omega)]
  congr 1
  rw [List.take_left' hl, hz, zK_succ, ← List.append_assoc, List.drop_left' (by rw [List.length_append, hl]; rfl)]
  simp
/-- A map of the run's own, with rows from n0 on, none of them p0. -/
structure OwnMp (n0 p0 : Nat) (h : AH) (m : MapD) (vo vp vb : AV) : Prop where
  o : OwnE ROsd n0 h vo 113 m.osds
  p : OwnE RPool n0 h vp 95 m.pools
  b : IsSl RBkt (fun k => n0 ≤ k ∧ Apart vo k ∧ Apart vp k ∧ k ≠ p0) h vb m.buckets
  ao : Apart vo p0
  ap : Apart vp p0
theorem OwnMp.mono {n0 n1 p0 : Nat} {h : AH} {m : MapD} {vo vp vb : AV} (hm : OwnMp n0 p0 h m vo vp vb) (hn : n1 ≤ n0) : OwnMp n1 p0 h m vo vp vb :=
  ⟨hm.o.mono hn, hm.p.mono hn, hm.b.lift fun b hb _ => ⟨rfl, by omega, hb.2⟩, hm.ao, hm.ap⟩
theorem OwnMp.at {n0 p0 : Nat} {F : Nat → Prop} {h : AH} {m : MapD} {vo vp vb : AV} (hm : OwnMp n0 p0 h m vo vp vb) (hF : ∀ k, n0 ≤ k → F k) : MpAt F h m vo vp vb :=
  ⟨hm.o.toSl hF, hm.p.toSl hF, hm.b.lift fun b hb _ => ⟨rfl, hF b hb.1⟩⟩
theorem OwnMp.ext {n0 n1 p0 : Nat} {h h' : AH} {m : MapD} {vo vp vb : AV} (hm : OwnMp n0 p0 h m vo vp vb) (he : Ext n1 h h') (hn : h.n ≤ n1) : OwnMp n0 p0 h' m vo vp vb :=
  ⟨hm.o.ext he hn, hm.p.ext he hn, hm.b.ext he hn, hm.ao, hm.ap⟩
/-- A block from outside. -/
theorem OwnMp.lt {n0 p0 p1 : Nat} {h : AH} {m : MapD} {vo vp vb : AV} (hm : OwnMp n0 p0 h m vo vp vb) (hn : h.n ≤ p1) : OwnMp n0 p1 h m vo vp vb :=
  ⟨hm.o, hm.p, hm.b.lift fun b hb hlt => ⟨rfl, hb.1, hb.2.1, hb.2.2.1, by omega⟩, hm.o.apart hn, hm.p.apart hn⟩
theorem OwnL.apartLt {α : Type} {R : Rep α} {G : Nat → Prop} {n0 : Nat} {h : AH} {v : AV} {e : TypeId} {xs : List α} (ho : OwnL R G n0 h v e xs) {b : Nat} (hb : b < n0) : Apart v b := fun off n cap hv => by
  obtain ⟨L, h1, h2⟩ := ho
  rcases h1.2 with ⟨hh, _⟩ | ⟨p, hh, hp, hat⟩
  · rw [hh] at hv; cases hv
  · rw [hh] at hv; cases hv; omega
theorem OwnE.apartLt {α : Type} {R : Rep α} {n0 b : Nat} {h : AH} {d : AV} {e : TypeId} {xs : List α} (hd : OwnE R n0 h d e xs) (hb : b < n0) : Apart d b := by
  rcases hd with ho | ⟨rfl, p, hp, rfl, hat⟩
  · exact OwnL.apartLt ho hb
  · exact fun off n cap e => by cases e; omega
theorem OwnE.put_ap {α : Type} {R : Rep α} {n0 p : Nat} {h : AH} {d : AV} {e : TypeId} {xs : List α} {x : AB} (hd : OwnE R n0 h d e xs) (hp : Apart d p) : OwnE R n0 (h.put p x) d e xs := by
  rcases hd with ho | ⟨rfl, q, hq, rfl, hat⟩
  · refine .inl (ho.lift (fun b off n cap ev => ?_) (fun b hb => hb.elim))
    exact at_put_ne _ (fun hh => hp off n cap (hh ▸ ev))
  · exact .inr ⟨rfl, q, hq, rfl, (at_put_ne _ (fun hh => hp 0 0 (.kn 0) (by rw [hh]))).trans hat⟩
theorem copyM_x {F : Nat → Prop} {H : AH} {m : MapD} {vo vp vb : AV} (hm : MpAt F H m vo vp vb) (hok : OkMp m) (hb : m.buckets.length ≤ 1000000000) :
    WC Try.prog (tabOf Try.prog NT0) S0 23 [mpV m vo vp vb] H fun r h' => Ext H.n H h' ∧ ∃ ro rp rb, r = mpV m ro rp rb ∧ ∀ p0, p0 < H.n → OwnMp H.n p0 h' m ro rp rb := by
  refine WC_fn Try.func23 rfl rfl ?_
  obtain ⟨⟨lo, -⟩, ⟨lp, -⟩, lb, hbk⟩ := hok
  have o1 := hm.o.one
  have o2 := hm.p.one
  have o3 := hm.b.one
  have s1 := hm.o.isSl
  have s2 := hm.p.isSl
  have s3 := hm.b.isSl
  simp only [core, zrA, zrS, zrM, zrL, zrE, reduceCtorEq, zrD, ziE, ziL, ziN, Try.ntmps23, mpV, o1, o2, o3]
  obtain ⟨hp, hhp⟩ : ∃ hp, hp = (H.push (.cells [.lit (.int .i64 m.epoch), vo, vp, vb, .lit (.int .i64 m.leaf)] 72)).push (.cells [.lit (.int .i64 0), .lit (.slice none 0 0), .lit (.slice none 0 0), .lit (.slice none 0 0), .lit (.int .i64 0)] 72) := ⟨_, rfl⟩
  have EP : Ext H.n H hp := hhp ▸ ((Ext.refl _ _).push _ (Nat.le_refl _)).push _ (by rw [n_push]; omega)
  have P0 : hp.at H.n = some (.cells [.lit (.int .i64 m.epoch), vo, vp, vb, .lit (.int .i64 m.leaf)] 72) := hhp ▸ (at_push_lt _ (by rw [n_push]; omega)).trans (at_push_n _ _)
  have Z0 : hp.at (H.n + 1) = some (.cells [.lit (.int .i64 0), .lit (.slice none 0 0), .lit (.slice none 0 0), .lit (.slice none 0 0), .lit (.int .i64 0)] 72) := hhp ▸ at_push_n _ _
  have nP : hp.n = H.n + 2 := by rw [hhp, n_push, n_push]
  have LP0 := ld_at (T := tabOf Try.prog NT0) P0
  rw [← hhp]
  clear hhp
  rw [WB_regionD [0, 1, 3, 4, 2, 6, 5, 7, 8, 9] 632895786129742360360258634752 (by kernel_rfl)]
  repeat ((with_reducible refine WDM_cons ?_; simp only [dw1]; try simp only [dw2, zrA, zrM, zrR, zrO, zrE]); simp only [core, zrA, zrS, zrM, zrL, zrE, reduceCtorEq, zrD, ziE, ziL, ziN, cored, LP0, s1, s2, s3])
  refine (cloneO_o (hm.o.ext EP (Nat.le_refl _)) lo).mono ?_
  rintro ro h3 ⟨e3, ro1⟩
  have P3 := (e3.2 _ (at_lt P0)).trans P0
  have Z3 := (e3.2 _ (at_lt Z0)).trans Z0
  have LP3 := ld_at (T := tabOf Try.prog NT0) P3
  have E3 := EP.step e3
  have r1 := (ro1.toSl (F := fun _ => True) (fun _ _ => trivial)).isSl
  have r2 := (ro1.toSl (F := fun _ => True) (fun _ _ => trivial)).one
  repeat ((with_reducible refine WDM_cons ?_; simp only [dw1]; try simp only [dw2, zrA, zrM, zrR, zrO, zrE]); simp only [core, zrA, zrS, zrM, zrL, zrE, reduceCtorEq, zrD, ziE, ziL, ziN, cored, LP3, s1, s2, s3, r1, r2])
  refine (cloneP_o (hm.p.ext E3 (Nat.le_refl _)) lp).mono ?_
  rintro rp h4 ⟨e4, rp1⟩
  have P4 := (e4.2 _ (at_lt P3)).trans P3
  have Z4 := (e4.2 _ (at_lt Z3)).trans Z3
  have LP4 := ld_at (T := tabOf Try.prog NT0) P4
  have E4 := E3.step e4
  have l4 := at_lt P4
  have l6 := at_lt Z4
  have l3 : hp.n ≤ h3.n := e3.1
  have l5 : h3.n ≤ h4.n := e4.1
  have q1 := (rp1.toSl (F := fun _ => True) (fun _ _ => trivial)).isSl
  have q2 := (rp1.toSl (F := fun _ => True) (fun _ _ => trivial)).one
  have d3 := hm.b.lenD
  repeat ((with_reducible refine WDM_cons ?_; simp only [dw1]; try simp only [dw2, zrA, zrM, zrR, zrO, zrE]); simp only [core, zrA, zrS, zrM, zrL, zrE, reduceCtorEq, zrD, ziE, ziL, ziN, cored, LP4, P4, l4, r1, r2, q1, q2, s1, s2, s3, Z4, l6, d3])
  rw [a_mkB (n := m.buckets.length) (by simp only [core, zrA, zrS, zrM, zrL, zrE, reduceCtorEq, zrD, ziE, ziL, ziN]) hb]
  obtain ⟨h5, hh5⟩ : ∃ h5, h5 = (h4.put H.n (.cells [.lit (.int .i64 m.epoch), ro, vp, vb, .lit (.int .i64 m.leaf)] 72)).put H.n (.cells [.lit (.int .i64 m.epoch), ro, rp, vb, .lit (.int .i64 m.leaf)] 72) := ⟨_, rfl⟩
  have n5 : h5.n = h4.n := by rw [hh5, n_put, n_put]
  have P5 : h5.at H.n = some (.cells [.lit (.int .i64 m.epoch), ro, rp, vb, .lit (.int .i64 m.leaf)] 72) := hh5 ▸ at_put_same _ (by rw [n_put]; exact l4)
  have k5 : ∀ b, b ≠ H.n → h5.at b = h4.at b := fun b hb => by rw [hh5, at_put_ne _ (Ne.symm hb), at_put_ne _ (Ne.symm hb)]
  have o5 : OwnE ROsd hp.n h5 ro 113 m.osds := hh5 ▸ ((ro1.ext e4 (Nat.le_refl _)).put (by omega)).put (by omega)
  have p5 : OwnE RPool h3.n h5 rp 95 m.pools := hh5 ▸ (rp1.put (by omega)).put (by omega)
  have E5 : Ext H.n H h5 := hh5 ▸ (E4.put _ (Nat.le_refl _)).put _ (Nat.le_refl _)
  rw [← hh5]
  clear hh5
  obtain ⟨h6, hh6⟩ : ∃ h6, h6 = h5.push (.cells (zK m.buckets.length) 93) := ⟨_, rfl⟩
  have e6 : Ext h5.n h5 h6 := hh6 ▸ (Ext.refl _ _).push _ (Nat.le_refl _)
  have Q6 : h6.at h5.n = some (.cells (zK m.buckets.length) 93) := hh6 ▸ at_push_n _ _
  have n6 : h6.n = h5.n + 1 := by rw [hh6, n_push]
  have P6 := (e6.2 _ (at_lt P5)).trans P5
  have E6 := E5.step e6
  have o6 := o5.ext e6 (Nat.le_refl _)
  have p6 := p5.ext e6 (Nat.le_refl _)
  have LP6 := ld_at (T := tabOf Try.prog NT0) P6
  have Z6 : h6.at (H.n + 1) = some (.cells [.lit (.int .i64 0), .lit (.slice none 0 0), .lit (.slice none 0 0), .lit (.slice none 0 0), .lit (.int .i64 0)] 72) := (e6.2 _ (by omega)).trans ((k5 _ (by omega)).trans Z4)
  rw [← hh6]
  clear hh6 e6
  simp only [core, zrA, zrS, zrM, zrL, zrE, reduceCtorEq, zrD, ziE, ziL, ziN, n5, s3, d3, LP6]
  rw [n5] at Q6
  obtain ⟨q, hq⟩ : ∃ q, q = h4.n := ⟨_, rfl⟩
  obtain ⟨n, hN⟩ : ∃ n, n = m.buckets.length := ⟨_, rfl⟩
  have aq1 : Apart ro q := (ro1.ext e4 (Nat.le_refl _)).apart (by omega)
  have aq2 : Apart rp q := rp1.apart (by omega)
  rw [← hq, ← hN]
  rw [← hq, ← hN] at Q6
  have qs1 : isSl (.sl q 0 n (.kn n)) = true := rfl
  have qs2 : lenD (.sl q 0 n (.kn n)) = n := rfl
  have qs3 : slB (.sl q 0 n (.kn n)) = q := rfl
  have qs4 : slO (.sl q 0 n (.kn n)) = 0 := rfl
  refine WB_for n (fun i t h => ∃ K, h.at q = some (.cells (K.flatten ++ zK (n - i)) 93) ∧ K.length = i ∧ Els RBkt (fun k => h6.n ≤ k ∧ Apart ro k ∧ Apart rp k ∧ k ≠ q) h K (m.buckets.take i) ∧ Ext q h6 h ∧ OwnE ROsd hp.n h ro 113 m.osds ∧ OwnE RPool h3.n h rp 95 m.pools ∧ t.n = 35 ∧ t.get 1 = .ptr H.n 0 ∧ t.get 2 = .ptr (H.n + 1) 0 ∧ t.get 3 = .sl q 0 n (.kn n) ∧ t.get 19 = vb ∧ t.get 20 = .lit (.int .i64 n) ∧ t.get 21 = .lit (.int .i64 i)) ?_ ?_ _ _ ?_
  · rintro i t h hlt hc ⟨K, hat, hK, hE, he, ho, hp', hn, g1, g2, g3, g19, g20, g21⟩ ih
    obtain ⟨x, hx⟩ : ∃ x, m.buckets[i]? = some x := ⟨_, List.getElem?_eq_getElem (by omega)⟩
    have E1 : Ext H.n H h := E6.trans (he.mono (by omega))
    obtain ⟨c, hc1, hld, hld0⟩ := hm.b.atE (T := tabOf Try.prog NT0) E1 RBkt_z hx
    obtain ⟨va, vw, rfl, ha, hw, hi⟩ := RBkt_is.1 hc1
    have a1 := ha.one
    have w1 := hw.one
    obtain ⟨la, lw⟩ := hbk x (List.mem_of_getElem? hx)
    have hws := wrap_succ (n := n) hlt (by unfold Sm at lb; omega)
    rw [← hN] at d3
    simp only [core, zrA, zrS, zrM, zrL, zrE, reduceCtorEq, zrD, ziE, ziL, ziN, s3, d3, hn, g1, g2, g3, g19, g20, g21, hlt, hc, hld, hld0, hws, a1, w1]
    obtain ⟨hA, hhA⟩ : ∃ hA, hA = h.push (.cells [.lit (.int .i64 x.id), .lit (.int .i64 x.kind), va, vw] 93) := ⟨_, rfl⟩
    have eA : Ext h.n h hA := hhA ▸ (Ext.refl _ _).push _ (Nat.le_refl _)
    rw [← hhA]
    clear hhA
    have EA := E1.step eA
    refine (bkt_x x (ha.ext EA (Nat.le_refl _)) (hw.ext EA (Nat.le_refl _)) la lw).mono ?_
    rintro _ hB ⟨eB, ra, rw1, rfl, b1, b2⟩
    have u1 := (b1.toSl (F := fun _ => True) (fun _ _ => trivial)).one
    have u2 := (b2.toSl (F := fun _ => True) (fun _ _ => trivial)).one
    have lq := at_lt hat
    have lA := eA.1
    have lBn := eB.1
    have hatB := (eB.2 _ (by omega)).trans ((eA.2 _ lq).trans hat)
    have lB := at_lt hatB
    have hput := put_row (n := n) hK (fun c hc => hE.lens c hc) hlt (.lit (.int .i64 x.id)) (.lit (.int .i64 x.kind)) ra rw1
    simp only [corem, WB_cond_s, put, ldL, WB_label, List.nil_append, List.drop_zero, List.take_zero, zrA, zrS, zrM, zrL, zrE, reduceCtorEq, zrD, ziE, ziL, ziN, -put, bktV, qs1, qs2, qs3, qs4, u1, u2, hlt, hatB, lB, hput, hws, hn, g1, g2, g3, g19, g20, g21]
    have lh6 := he.1
    have hn0 := E1.1
    have lEB := eB.1
    refine ih _ _ ⟨_, at_put_same _ lB, by simp [hK], ?_, ((he.trans (eA.mono (by omega))).trans (eB.mono (by omega))).put _ (Nat.le_refl _), ((ho.ext eA (Nat.le_refl _)).ext eB (Nat.le_refl _)).put_ap aq1, ((hp'.ext eA (Nat.le_refl _)).ext eB (Nat.le_refl _)).put_ap aq2, ?_⟩
    · rw [List.take_add_one, hx]
      refine (hE.lift fun b hb hlb => ⟨?_, hb⟩).snoc (RBkt_is.2 ⟨ra, rw1, rfl, (b1.put_ap ?_).toSl ?_, (b2.put_ap ?_).toSl ?_, hi.1, hi.2⟩)
      · rw [at_put_ne _ (Ne.symm hb.2.2.2), eB.2 _ (by omega), eA.2 _ hlb]
      · exact b1.apartLt (by omega)
      · exact fun b hb => ⟨by omega, ho.apart (by omega), hp'.apart (by omega), by omega⟩
      · exact b2.apartLt (by omega)
      · exact fun b hb => ⟨by omega, ho.apart (by omega), hp'.apart (by omega), by omega⟩
    · simp only [core, zrA, zrS, zrM, zrL, zrE, reduceCtorEq, zrD, ziE, ziL, ziN, hn, g1, g2, g3, g19, g20, g21]
  · rintro t h hc ⟨K, hat, hK, hE, he, ho, hp', hn, g1, g2, g3, g19, g20, g21⟩
    have lh6 := he.1
    have PH := (he.2 _ (by omega)).trans P6
    have ZH := (he.2 _ (by omega)).trans Z6
    have LPH := ld_at (T := tabOf Try.prog NT0) PH
    have lPH := at_lt PH
    have lZH := at_lt ZH
    have hne : ¬ H.n = H.n + 1 := by omega
    rw [← hN] at d3
    simp only [core, zrA, zrS, zrM, zrL, zrE, reduceCtorEq, zrD, ziE, ziL, ziN, s3, d3, hn, g1, g2, g3, g19, g20, g21, hc, PH, ZH, LPH, lPH, lZH, r1, r2, q1, q2, qs1, hne]
    rw [Nat.sub_self, show zK 0 = [] from rfl, List.append_nil] at hat
    rw [hN, List.take_length] at hE
    refine ⟨((E6.trans (he.mono (by omega))).put _ (Nat.le_refl _)).put _ (by omega), _, _, _, rfl, fun p0 hp0 => ⟨(((ho.put_ap ?_).put_ap ?_).mono (by omega)), (((hp'.put_ap ?_).put_ap ?_).mono (by omega)), ?_, ho.apartLt (by omega), hp'.apartLt (by omega)⟩⟩
    · exact ho.apartLt (by omega)
    · exact ho.apartLt (by omega)
    · exact hp'.apartLt (by omega)
    · exact hp'.apartLt (by omega)
    · refine IsSl.ofAt (e := 93) (L := K) ?_ ⟨by omega, aq1, aq2, by omega⟩ (hE.lift fun b hb hlb => ⟨?_, by have := hb.1; omega, hb.2.1, hb.2.2.1, by have := hb.1; omega⟩) hN.symm
      · rw [at_put_ne _ (by omega), at_put_ne _ (by omega), hat]
      · have := hb.1
        rw [at_put_ne _ (by omega), at_put_ne _ (by omega)]
  · refine ⟨[], ?_, rfl, Els.nil, Ext.refl _ _, o6, p6, ?_⟩
    · exact Q6
    · simp only [core, zrA, zrS, zrM, zrL, zrE, reduceCtorEq, zrD, ziE, ziL, ziN]
      simp
end Go.Proofs.Ytjkmmbfenhhjkaa.Ex
end

section

set_option linter.unusedSimpArgs false
set_option linter.unusedVariables false
set_option maxRecDepth 10000
set_option maxHeartbeats 4000000
namespace Go.Proofs.Ytjkmmbfenhhjkaa.Ex
open Go
/-- What a row that grows does to the rest. -/
theorem Fr.toExtL {α : Type} {R : Rep α} {G : Nat → Prop} {n0 : Nat} {h h1 : AH} {v v1 : AV} {e : TypeId} {xs : List α} (f : Fr h v h1 v1) (ho : OwnL R G n0 h v e xs) (hn0 : n0 ≤ h.n) : Ext n0 h h1 := ⟨f.1, fun b hb => (f.2 b (by omega) (ho.apartLt hb)).1⟩
theorem lenA1 {L : List BktD} {b : BktD} {i n k : Nat} (h1 : L.length ≤ i) (h2 : i < n) (h3 : n = k) (sb : (k + 1) * 64 ≤ 140737488355328) : ((L ++ [b]).length + 1) * 64 ≤ 140737488355328 := by
  have : (L ++ [b]).length = L.length + 1 := by simp
  omega
theorem lenA2 {L : List BktD} {i n k : Nat} (h1 : L.length ≤ i + 1) (h2 : i < n) (h3 : n = k) (sb : (k + 1) * 64 ≤ 140737488355328) : ((L).length + 1) * 64 ≤ 140737488355328 := by
  omega
theorem lenA3 {l k : Nat} (h1 : l ≤ k) (sb : (k + 1) * 64 ≤ 140737488355328) : (l + 1) * 64 ≤ 140737488355328 := by omega
/-- A row of buckets of which a block below is written. -/
theorem OwnL.putLt {α : Type} {R : Rep α} {n0 p : Nat} {h : AH} {d : AV} {e : TypeId} {xs : List α} {x : AB} (ho : OwnL R (fun k => n0 ≤ k) n0 h d e xs) (hp : p < n0) : OwnL R (fun k => n0 ≤ k) n0 (h.put p x) d e xs := by
  refine ho.lift (fun b off n cap ev => ?_) (fun b hb _ _ => at_put_ne _ (by omega))
  · obtain ⟨L, h1, h2⟩ := ho
    rcases h1.2 with ⟨hh, _⟩ | ⟨q, hh, hq, hat⟩
    · rw [hh] at ev; cases ev
    · rw [hh] at ev
      cases ev
      exact at_put_ne _ (by omega)
theorem wb_x {F : Nat → Prop} {H : AH} {m : MapD} {vo vp vb va vw : AV} (b : BktD) (hm : MpAt F H m vo vp vb) (sb : (m.buckets.length + 1) * 64 ≤ 140737488355328) (hbk : ∀ b ∈ m.buckets, Sm 8 b.items ∧ Sm 8 b.weights) (ha : IsSl RInt F H va b.items) (hw : IsSl RInt F H vw b.weights) (la : Sm 8 b.items) (lw : Sm 8 b.weights) (hi : I64 b.id ∧ I64 b.kind) :
    WC Try.prog (tabOf Try.prog NT0) S0 36 [mpV m vo vp vb, bktV b va vw] H fun r h' => Ext H.n H h' ∧ ∃ rb, r = mpV (withB m b) vo vp rb ∧ IsSl RBkt (fun k => H.n ≤ k) h' rb (wbL m.buckets b) := by
  refine WC_fn Try.func36 rfl rfl ?_
  have o1 := hm.o.one
  have o2 := hm.p.one
  have o3 := hm.b.one
  have s3 := hm.b.isSl
  have d3 := hm.b.lenD
  have a1 := ha.one
  have w1 := hw.one
  have a2 := ha.isSl
  have a3 := ha.lenD
  simp only [core, zrA, zrS, zrM, zrL, zrE, reduceCtorEq, zrD, ziE, ziL, ziN, Try.ntmps36, mpV, bktV, o1, o2, o3, a1, w1, a2, a3, s3, d3]
  obtain ⟨hp, hhp⟩ : ∃ hp, hp = ((H.push (.cells [.lit (.int .i64 m.epoch), vo, vp, vb, .lit (.int .i64 m.leaf)] 72)).push (.cells [.lit (.int .i64 b.id), .lit (.int .i64 b.kind), va, vw] 93)).push (.cells [.lit (.int .i64 0), .lit (.slice none 0 0), .lit (.slice none 0 0), .lit (.slice none 0 0), .lit (.int .i64 0)] 72) := ⟨_, rfl⟩
  have EP : Ext H.n H hp := hhp ▸ (((Ext.refl _ _).push _ (Nat.le_refl _)).push _ (by rw [n_push]; omega)).push _ (by rw [n_push, n_push]; omega)
  have P0 : hp.at H.n = some (.cells [.lit (.int .i64 m.epoch), vo, vp, vb, .lit (.int .i64 m.leaf)] 72) := hhp ▸ ((at_push_lt _ (by rw [n_push, n_push]; omega)).trans (at_push_lt _ (by rw [n_push]; omega))).trans (at_push_n _ _)
  have B0 : hp.at (H.n + 1) = some (.cells [.lit (.int .i64 b.id), .lit (.int .i64 b.kind), va, vw] 93) := hhp ▸ (at_push_lt _ (by rw [n_push, n_push]; omega)).trans (at_push_n _ _)
  have Z0 : hp.at (H.n + 2) = some (.cells [.lit (.int .i64 0), .lit (.slice none 0 0), .lit (.slice none 0 0), .lit (.slice none 0 0), .lit (.int .i64 0)] 72) := hhp ▸ at_push_n _ _
  have nP : hp.n = H.n + 3 := by rw [hhp, n_push, n_push, n_push]
  rw [← hhp]
  clear hhp
  obtain ⟨n, hN⟩ : ∃ n, n = m.buckets.length := ⟨_, rfl⟩
  rw [← hN] at d3
  have hd0 : decide (b.items.length = 0) = decide ((b.items.length : Int) = 0) := by
    by_cases h : b.items.length = 0
    · rw [decide_eq_true h, decide_eq_true (by omega)]
    · rw [decide_eq_false h, decide_eq_false (by omega)]
  rw [← hN]
  refine WB_for n (fun i t h => (∃ s, OwnK hp.n h s ((m.buckets.take i).foldl (wbStep b) ([], decide (b.items.length = 0))).1 ∧ Ext hp.n hp h ∧ t.get 5 = s) ∧ t.get 6 = .lit (.bool ((m.buckets.take i).foldl (wbStep b) ([], decide (b.items.length = 0))).2) ∧ t.n = 55 ∧ t.get 2 = .ptr H.n 0 ∧ t.get 3 = .ptr (H.n + 1) 0 ∧ t.get 4 = .ptr (H.n + 2) 0 ∧ t.get 14 = vb ∧ t.get 15 = .lit (.int .i64 n) ∧ t.get 16 = .lit (.int .i64 i)) ?_ ?_ _ _ ?_
  · rintro i t h hlt hc ⟨⟨s, ho, he, g5⟩, g6, hn, g2, g3, g4, g14, g15, g16⟩ ih
    obtain ⟨x, hx⟩ : ∃ x, m.buckets[i]? = some x := ⟨_, List.getElem?_eq_getElem (by omega)⟩
    have hlen : ((m.buckets.take i).foldl (wbStep b) ([], decide (b.items.length = 0))).1.length ≤ i + 1 := by
      have h1 := wbFold_len (b := b) (m.buckets.take i) ([], decide (b.items.length = 0))
      have h2 := nB_le (decide (b.items.length = 0))
      have h3 : (m.buckets.take i).length ≤ i := by rw [List.length_take]; omega
      simp only [List.length_nil] at h1
      omega
    have hnB : ((m.buckets.take i).foldl (wbStep b) ([], decide (b.items.length = 0))).2 = false → ((m.buckets.take i).foldl (wbStep b) ([], decide (b.items.length = 0))).1.length ≤ i := fun hf => by
      have h1 := wbFold_len (b := b) (m.buckets.take i) ([], decide (b.items.length = 0))
      have h2 := nB_le (decide (b.items.length = 0))
      have h3 : (m.buckets.take i).length ≤ i := by rw [List.length_take]; omega
      rw [hf] at h1
      have h4 : nB false = 1 := rfl
      simp only [List.length_nil] at h1
      omega
    have hsucc := fold_succ (wbStep b) ([], decide (b.items.length = 0)) hx
    obtain ⟨S, hS⟩ : ∃ S, S = (m.buckets.take i).foldl (wbStep b) ([], decide (b.items.length = 0)) := ⟨_, rfl⟩
    rw [← hS] at ho g6 hlen hnB hsucc
    rw [hsucc] at ih
    clear hS hsucc
    obtain ⟨L, put⟩ := S
    simp only at ho g6 hlen hnB
    have E1 : Ext H.n H h := EP.trans (he.mono (by omega))
    obtain ⟨c, hc1, hld, hld0⟩ := hm.b.atE (T := tabOf Try.prog NT0) E1 RBkt_z hx
    obtain ⟨va2, vw2, rfl, ha2, hw2, hi2⟩ := RBkt_is.1 hc1
    have x1 := ha2.one
    have x2 := hw2.one
    obtain ⟨la2, lw2⟩ := hbk x (List.mem_of_getElem? hx)
    have hws := wrap_succ (n := n) hlt (by omega)
    have BH := (he.2 _ (by omega)).trans B0
    have LB := ld_at (T := tabOf Try.prog NT0) BH
    have lBH := at_lt BH
    have lhn := he.1
    obtain ⟨hA, hhA⟩ : ∃ hA, hA = h.push (.cells [.lit (.int .i64 x.id), .lit (.int .i64 x.kind), va2, vw2] 93) := ⟨_, rfl⟩
    have eA : Ext h.n h hA := hhA ▸ (Ext.refl _ _).push _ (Nat.le_refl _)
    have XA : hA.at h.n = some (.cells [.lit (.int .i64 x.id), .lit (.int .i64 x.kind), va2, vw2] 93) := hhA ▸ at_push_n _ _
    have LXA := ld_at (T := tabOf Try.prog NT0) XA
    have lXA := at_lt XA
    have nA : hA.n = h.n + 1 := by rw [hhA, n_push]
    have BA := (eA.2 _ lBH).trans BH
    have LBA := ld_at (T := tabOf Try.prog NT0) BA
    have lBA := at_lt BA
    have EA := E1.step eA
    have oA := ho.ext eA (Nat.le_refl _)
    have s1 := (ho.toSl (F := fun _ => True) (fun _ _ => trivial) (fun _ _ => trivial)).isSl
    have s2 := (ho.toSl (F := fun _ => True) (fun _ _ => trivial) (fun _ _ => trivial)).one
    have heA : Ext hp.n hp hA := he.trans (eA.mono (by omega))
    cases put with
    | true =>
      by_cases ceq : x.id = b.id
      · have hst : wbStep b (L, true) x = (L, true) := by
          unfold wbStep
          simp [ceq]
        rw [hst] at ih
        have cqn : (x.id != b.id) = false := by simp [ceq]
        simp only [core, zrA, zrS, zrM, zrL, zrE, reduceCtorEq, zrD, ziE, ziL, ziN, ← hhA, cqn, LXA, LBA, lXA, lBA, hn, g2, g3, g4, g14, g15, g16, g5, g6, hlt, hc, hld, hld0, hws, x1, x2, a1, w1, a2, a3, s3, d3]
        refine ih _ _ ⟨⟨_, oA, heA, by simp only [core, zrA, zrS, zrM, zrL, zrE, reduceCtorEq, zrD, ziE, ziL, ziN, hn, g2, g3, g4, g14, g15, g16, g5, g6]⟩, by simp only [core, zrA, zrS, zrM, zrL, zrE, reduceCtorEq, zrD, ziE, ziL, ziN, hn, g2, g3, g4, g14, g15, g16, g5, g6], ?_⟩
        simp only [core, zrA, zrS, zrM, zrL, zrE, reduceCtorEq, zrD, ziE, ziL, ziN, hn, g2, g3, g4, g14, g15, g16, g5, g6]
      · have hst : wbStep b (L, true) x = (L ++ [x], true) := by
          unfold wbStep
          simp [ceq]
        rw [hst] at ih
        have cqn : (x.id != b.id) = true := by simp [ceq]
        simp only [core, zrA, zrS, zrM, zrL, zrE, reduceCtorEq, zrD, ziE, ziL, ziN, ← hhA, cqn, LXA, LBA, lXA, lBA, hn, g2, g3, g4, g14, g15, g16, g5, g6, hlt, hc, hld, hld0, hws, x1, x2, a1, w1, a2, a3, s3, d3]
        refine (bkt_x x (ha2.ext EA (Nat.le_refl _)) (hw2.ext EA (Nat.le_refl _)) la2 lw2).mono ?_
        rintro _ hB2 ⟨eB2, ra2, rw2, rfl, p2, q2⟩
        have t2 := (p2.toSl (F := fun _ => True) (fun _ _ => trivial)).one
        have u2 := (q2.toSl (F := fun _ => True) (fun _ _ => trivial)).one
        have lB2 := eB2.1
        have eC2 : Ext hA.n hA (hB2.push (.cells [.lit (.int .i64 x.id), .lit (.int .i64 x.kind), ra2, rw2] 93)) := eB2.push _ eB2.1
        simp only [core, zrA, zrS, zrM, zrL, zrE, reduceCtorEq, zrD, ziE, ziL, ziN, bktV, t2, u2, hn, g2, g3, g4, g14, g15, g16, g5, g6, hlt, hc, hld, hld0, hws, x1, x2, a1, w1, a2, a3, s3, d3]
        have hl2 : ((L).length + 1) * 64 ≤ 140737488355328 := lenA2 (by first | exact hlen | exact Nat.le_succ_of_le hlen) hlt hN sb
        have hn2 : hp.n ≤ hA.n := by omega
        refine WOp_app (push_bkt oA hn2 eC2 (at_push_n _ _) (p2.ext ((Ext.refl hB2.n hB2).push _ (Nat.le_refl _)) (Nat.le_refl _)) (q2.ext ((Ext.refl hB2.n hB2).push _ (Nat.le_refl _)) (Nat.le_refl _)) hi2 hl2) ?_
        rintro s2' hC2 ⟨oC2, fC2⟩
        have he2 : Ext hp.n hp hC2 := heA.trans (fC2.toExtL oA (by omega))
        have z2 := (oC2.toSl (F := fun _ => True) (fun _ _ => trivial) (fun _ _ => trivial)).isSl
        simp only [core, zrA, zrS, zrM, zrL, zrE, reduceCtorEq, zrD, ziE, ziL, ziN, z2, hn, g2, g3, g4, g14, g15, g16, g5, g6, hlt, hc, hld, hld0, hws, x1, x2, a1, w1, a2, a3, s3, d3]
        refine ih _ _ ⟨⟨_, oC2, he2, by simp only [core, zrA, zrS, zrM, zrL, zrE, reduceCtorEq, zrD, ziE, ziL, ziN, hn, g2, g3, g4, g14, g15, g16, g5, g6]⟩, by simp only [core, zrA, zrS, zrM, zrL, zrE, reduceCtorEq, zrD, ziE, ziL, ziN, hn, g2, g3, g4, g14, g15, g16, g5, g6], ?_⟩
        simp only [core, zrA, zrS, zrM, zrL, zrE, reduceCtorEq, zrD, ziE, ziL, ziN, hn, g2, g3, g4, g14, g15, g16, g5, g6]
    | false =>
      have hlen := hnB rfl
      by_cases cle : x.id ≤ b.id
      · simp only [core, zrA, zrS, zrM, zrL, zrE, reduceCtorEq, zrD, ziE, ziL, ziN, ← hhA, cle, LXA, LBA, lXA, lBA, hn, g2, g3, g4, g14, g15, g16, g5, g6, hlt, hc, hld, hld0, hws, x1, x2, a1, w1, a2, a3, s3, d3]
        refine (bkt_x b (ha.ext EA (Nat.le_refl _)) (hw.ext EA (Nat.le_refl _)) la lw).mono ?_
        rintro _ hB1 ⟨eB1, ra1, rw1, rfl, p1, q1⟩
        have t1 := (p1.toSl (F := fun _ => True) (fun _ _ => trivial)).one
        have u1 := (q1.toSl (F := fun _ => True) (fun _ _ => trivial)).one
        have lB1 := eB1.1
        have eC1 : Ext hA.n hA (hB1.push (.cells [.lit (.int .i64 b.id), .lit (.int .i64 b.kind), ra1, rw1] 93)) := eB1.push _ eB1.1
        simp only [core, zrA, zrS, zrM, zrL, zrE, reduceCtorEq, zrD, ziE, ziL, ziN, bktV, t1, u1, hn, g2, g3, g4, g14, g15, g16, g5, g6, hlt, hc, hld, hld0, hws, x1, x2, a1, w1, a2, a3, s3, d3]
        have hl1 : ((L).length + 1) * 64 ≤ 140737488355328 := lenA2 (by first | exact hlen | exact Nat.le_succ_of_le hlen) hlt hN sb
        have hn1 : hp.n ≤ hA.n := by omega
        refine WOp_app (push_bkt oA hn1 eC1 (at_push_n _ _) (p1.ext ((Ext.refl hB1.n hB1).push _ (Nat.le_refl _)) (Nat.le_refl _)) (q1.ext ((Ext.refl hB1.n hB1).push _ (Nat.le_refl _)) (Nat.le_refl _)) hi hl1) ?_
        rintro s1' hC1 ⟨oC1, fC1⟩
        have he1 : Ext hp.n hp hC1 := heA.trans (fC1.toExtL oA (by omega))
        have z1 := (oC1.toSl (F := fun _ => True) (fun _ _ => trivial) (fun _ _ => trivial)).isSl
        obtain ⟨X1, -⟩ := fC1.box XA (ho.apart (Nat.le_refl _))
        have LX1 := ld_at (T := tabOf Try.prog NT0) X1
        have lX1 := at_lt X1
        have B1' := (he1.2 _ (by omega)).trans B0
        have LB1' := ld_at (T := tabOf Try.prog NT0) B1'
        have lB1' := at_lt B1'
        have E1c : Ext H.n H hC1 := EP.trans (he1.mono (by omega))
        have ln1 := he1.1
        by_cases ceq : x.id = b.id
        · have hst : wbStep b (L, false) x = (L ++ [b], true) := by
            unfold wbStep
            simp [ceq]
          rw [hst] at ih
          have cqn : (x.id != b.id) = false := by simp [ceq]
          simp only [core, zrA, zrS, zrM, zrL, zrE, reduceCtorEq, zrD, ziE, ziL, ziN, cqn, LX1, LB1', lX1, lB1', z1, hn, g2, g3, g4, g14, g15, g16, g5, g6, hlt, hc, hld, hld0, hws, x1, x2, a1, w1, a2, a3, s3, d3]
          refine ih _ _ ⟨⟨_, oC1, he1, by simp only [core, zrA, zrS, zrM, zrL, zrE, reduceCtorEq, zrD, ziE, ziL, ziN, hn, g2, g3, g4, g14, g15, g16, g5, g6]⟩, by simp only [core, zrA, zrS, zrM, zrL, zrE, reduceCtorEq, zrD, ziE, ziL, ziN, hn, g2, g3, g4, g14, g15, g16, g5, g6], ?_⟩
          simp only [core, zrA, zrS, zrM, zrL, zrE, reduceCtorEq, zrD, ziE, ziL, ziN, hn, g2, g3, g4, g14, g15, g16, g5, g6]
        · have hst : wbStep b (L, false) x = (L ++ [b] ++ [x], true) := by
            unfold wbStep
            simp [ceq, cle]
          rw [hst] at ih
          have cqn : (x.id != b.id) = true := by simp [ceq]
          simp only [core, zrA, zrS, zrM, zrL, zrE, reduceCtorEq, zrD, ziE, ziL, ziN, cqn, LX1, LB1', lX1, lB1', z1, hn, g2, g3, g4, g14, g15, g16, g5, g6, hlt, hc, hld, hld0, hws, x1, x2, a1, w1, a2, a3, s3, d3]
          refine (bkt_x x (ha2.ext E1c (Nat.le_refl _)) (hw2.ext E1c (Nat.le_refl _)) la2 lw2).mono ?_
          rintro _ hB2 ⟨eB2, ra2, rw2, rfl, p2, q2⟩
          have t2 := (p2.toSl (F := fun _ => True) (fun _ _ => trivial)).one
          have u2 := (q2.toSl (F := fun _ => True) (fun _ _ => trivial)).one
          have lB2 := eB2.1
          have eC2 : Ext hC1.n hC1 (hB2.push (.cells [.lit (.int .i64 x.id), .lit (.int .i64 x.kind), ra2, rw2] 93)) := eB2.push _ eB2.1
          simp only [core, zrA, zrS, zrM, zrL, zrE, reduceCtorEq, zrD, ziE, ziL, ziN, bktV, t2, u2, hn, g2, g3, g4, g14, g15, g16, g5, g6, hlt, hc, hld, hld0, hws, x1, x2, a1, w1, a2, a3, s3, d3]
          have hl2 : ((L ++ [b]).length + 1) * 64 ≤ 140737488355328 := lenA1 hlen hlt hN sb
          have hn2 : hp.n ≤ hC1.n := by omega
          refine WOp_app (push_bkt oC1 hn2 eC2 (at_push_n _ _) (p2.ext ((Ext.refl hB2.n hB2).push _ (Nat.le_refl _)) (Nat.le_refl _)) (q2.ext ((Ext.refl hB2.n hB2).push _ (Nat.le_refl _)) (Nat.le_refl _)) hi2 hl2) ?_
          rintro s2' hC2 ⟨oC2, fC2⟩
          have he2 : Ext hp.n hp hC2 := he1.trans (fC2.toExtL oC1 (by omega))
          have z2 := (oC2.toSl (F := fun _ => True) (fun _ _ => trivial) (fun _ _ => trivial)).isSl
          simp only [core, zrA, zrS, zrM, zrL, zrE, reduceCtorEq, zrD, ziE, ziL, ziN, z2, hn, g2, g3, g4, g14, g15, g16, g5, g6, hlt, hc, hld, hld0, hws, x1, x2, a1, w1, a2, a3, s3, d3]
          refine ih _ _ ⟨⟨_, oC2, he2, by simp only [core, zrA, zrS, zrM, zrL, zrE, reduceCtorEq, zrD, ziE, ziL, ziN, hn, g2, g3, g4, g14, g15, g16, g5, g6]⟩, by simp only [core, zrA, zrS, zrM, zrL, zrE, reduceCtorEq, zrD, ziE, ziL, ziN, hn, g2, g3, g4, g14, g15, g16, g5, g6], ?_⟩
          simp only [core, zrA, zrS, zrM, zrL, zrE, reduceCtorEq, zrD, ziE, ziL, ziN, hn, g2, g3, g4, g14, g15, g16, g5, g6]
      · skip
        by_cases ceq : x.id = b.id
        · exact absurd (by omega) cle
        · have hst : wbStep b (L, false) x = (L ++ [x], false) := by
            unfold wbStep
            simp [ceq, cle]
          rw [hst] at ih
          have cqn : (x.id != b.id) = true := by simp [ceq]
          simp only [core, zrA, zrS, zrM, zrL, zrE, reduceCtorEq, zrD, ziE, ziL, ziN, ← hhA, cqn, cle, LXA, LBA, lXA, lBA, hn, g2, g3, g4, g14, g15, g16, g5, g6, hlt, hc, hld, hld0, hws, x1, x2, a1, w1, a2, a3, s3, d3]
          refine (bkt_x x (ha2.ext EA (Nat.le_refl _)) (hw2.ext EA (Nat.le_refl _)) la2 lw2).mono ?_
          rintro _ hB2 ⟨eB2, ra2, rw2, rfl, p2, q2⟩
          have t2 := (p2.toSl (F := fun _ => True) (fun _ _ => trivial)).one
          have u2 := (q2.toSl (F := fun _ => True) (fun _ _ => trivial)).one
          have lB2 := eB2.1
          have eC2 : Ext hA.n hA (hB2.push (.cells [.lit (.int .i64 x.id), .lit (.int .i64 x.kind), ra2, rw2] 93)) := eB2.push _ eB2.1
          simp only [core, zrA, zrS, zrM, zrL, zrE, reduceCtorEq, zrD, ziE, ziL, ziN, bktV, t2, u2, hn, g2, g3, g4, g14, g15, g16, g5, g6, hlt, hc, hld, hld0, hws, x1, x2, a1, w1, a2, a3, s3, d3]
          have hl2 : ((L).length + 1) * 64 ≤ 140737488355328 := lenA2 (by first | exact hlen | exact Nat.le_succ_of_le hlen) hlt hN sb
          have hn2 : hp.n ≤ hA.n := by omega
          refine WOp_app (push_bkt oA hn2 eC2 (at_push_n _ _) (p2.ext ((Ext.refl hB2.n hB2).push _ (Nat.le_refl _)) (Nat.le_refl _)) (q2.ext ((Ext.refl hB2.n hB2).push _ (Nat.le_refl _)) (Nat.le_refl _)) hi2 hl2) ?_
          rintro s2' hC2 ⟨oC2, fC2⟩
          have he2 : Ext hp.n hp hC2 := heA.trans (fC2.toExtL oA (by omega))
          have z2 := (oC2.toSl (F := fun _ => True) (fun _ _ => trivial) (fun _ _ => trivial)).isSl
          simp only [core, zrA, zrS, zrM, zrL, zrE, reduceCtorEq, zrD, ziE, ziL, ziN, z2, hn, g2, g3, g4, g14, g15, g16, g5, g6, hlt, hc, hld, hld0, hws, x1, x2, a1, w1, a2, a3, s3, d3]
          refine ih _ _ ⟨⟨_, oC2, he2, by simp only [core, zrA, zrS, zrM, zrL, zrE, reduceCtorEq, zrD, ziE, ziL, ziN, hn, g2, g3, g4, g14, g15, g16, g5, g6]⟩, by simp only [core, zrA, zrS, zrM, zrL, zrE, reduceCtorEq, zrD, ziE, ziL, ziN, hn, g2, g3, g4, g14, g15, g16, g5, g6], ?_⟩
          simp only [core, zrA, zrS, zrM, zrL, zrE, reduceCtorEq, zrD, ziE, ziL, ziN, hn, g2, g3, g4, g14, g15, g16, g5, g6]
  · rintro t h hc ⟨⟨s, ho, he, g5⟩, g6, hn, g2, g3, g4, g14, g15, g16⟩
    rw [hN, List.take_length] at ho g6
    have hlen : (m.buckets.foldl (wbStep b) ([], decide (b.items.length = 0))).2 = false → (m.buckets.foldl (wbStep b) ([], decide (b.items.length = 0))).1.length ≤ m.buckets.length := fun hf => by
      have h1 := wbFold_len (b := b) m.buckets ([], decide (b.items.length = 0))
      have h2 := nB_le (decide (b.items.length = 0))
      rw [hf] at h1
      have h4 : nB false = 1 := rfl
      simp only [List.length_nil] at h1
      omega
    have hwb : (withB m b).buckets = if (m.buckets.foldl (wbStep b) ([], decide (b.items.length = 0))).2 then (m.buckets.foldl (wbStep b) ([], decide (b.items.length = 0))).1 else (m.buckets.foldl (wbStep b) ([], decide (b.items.length = 0))).1 ++ [b] := rfl
    obtain ⟨S, hS⟩ : ∃ S, S = m.buckets.foldl (wbStep b) ([], decide (b.items.length = 0)) := ⟨_, rfl⟩
    rw [← hS] at ho g6 hlen hwb
    clear hS
    obtain ⟨L, put⟩ := S
    simp only at ho g6 hlen hwb
    have E1 : Ext H.n H h := EP.trans (he.mono (by omega))
    have s1 := (ho.toSl (F := fun _ => True) (fun _ _ => trivial) (fun _ _ => trivial)).isSl
    have s2 := (ho.toSl (F := fun _ => True) (fun _ _ => trivial) (fun _ _ => trivial)).one
    have BH := (he.2 _ (by omega)).trans B0
    have LB := ld_at (T := tabOf Try.prog NT0) BH
    have lBH := at_lt BH
    have PH := (he.2 _ (by omega)).trans P0
    have LP := ld_at (T := tabOf Try.prog NT0) PH
    have lPH := at_lt PH
    have ZH := (he.2 _ (by omega)).trans Z0
    have lZH := at_lt ZH
    have lhn := he.1
    have hne : ¬ H.n = H.n + 2 := by omega
    cases put with
    | true =>
      simp only [core, zrA, zrS, zrM, zrL, zrE, reduceCtorEq, zrD, ziE, ziL, ziN, hn, g2, g3, g4, g14, g15, g16, g5, g6, hc, a1, w1, a2, a3, s3, d3, o1, o2, o3, s1, s2, LB, lBH, LP, lPH, PH, ZH, lZH, hne]
      refine ⟨(E1.put _ (Nat.le_refl _)).put _ (by omega), s, rfl, ?_⟩
      show IsSl RBkt _ _ s (withB m b).buckets
      rw [hwb, if_pos rfl]
      exact ((ho.putLt (by omega)).putLt (by omega)).toSl (fun k hk => by omega) (fun k hk => by omega)
    | false =>
      simp only [core, zrA, zrS, zrM, zrL, zrE, reduceCtorEq, zrD, ziE, ziL, ziN, hn, g2, g3, g4, g14, g15, g16, g5, g6, hc, a1, w1, a2, a3, s3, d3, o1, o2, o3, s1, s2, LB, lBH, LP, lPH, PH, ZH, lZH, hne]
      refine (bkt_x b (ha.ext E1 (Nat.le_refl _)) (hw.ext E1 (Nat.le_refl _)) la lw).mono ?_
      rintro _ hB1 ⟨eB1, ra1, rw1, rfl, p1, q1⟩
      have t1 := (p1.toSl (F := fun _ => True) (fun _ _ => trivial)).one
      have u1 := (q1.toSl (F := fun _ => True) (fun _ _ => trivial)).one
      have eC1 : Ext h.n h (hB1.push (.cells [.lit (.int .i64 b.id), .lit (.int .i64 b.kind), ra1, rw1] 93)) := eB1.push _ eB1.1
      simp only [core, zrA, zrS, zrM, zrL, zrE, reduceCtorEq, zrD, ziE, ziL, ziN, bktV, t1, u1, hn, g2, g3, g4, g14, g15, g16, g5, g6, s1, s2]
      have hl1 : (L.length + 1) * 64 ≤ 140737488355328 := lenA3 (hlen rfl) sb
      refine WOp_app (push_bkt ho lhn eC1 (at_push_n _ _) (p1.ext ((Ext.refl hB1.n hB1).push _ (Nat.le_refl _)) (Nat.le_refl _)) (q1.ext ((Ext.refl hB1.n hB1).push _ (Nat.le_refl _)) (Nat.le_refl _)) hi hl1) ?_
      rintro s1' hC1 ⟨oC1, fC1⟩
      have he1 : Ext hp.n hp hC1 := he.trans (fC1.toExtL ho lhn)
      have z1 := (oC1.toSl (F := fun _ => True) (fun _ _ => trivial) (fun _ _ => trivial)).isSl
      have z2 := (oC1.toSl (F := fun _ => True) (fun _ _ => trivial) (fun _ _ => trivial)).one
      have PC := (he1.2 _ (by omega)).trans P0
      have LPC := ld_at (T := tabOf Try.prog NT0) PC
      have lPC := at_lt PC
      have ZC := (he1.2 _ (by omega)).trans Z0
      have lZC := at_lt ZC
      simp only [core, zrA, zrS, zrM, zrL, zrE, reduceCtorEq, zrD, ziE, ziL, ziN, z1, z2, hn, g2, g3, g4, g14, g15, g16, g5, g6, PC, LPC, lPC, ZC, lZC, o1, o2, o3, hne]
      refine ⟨((EP.trans (he1.mono (by omega))).put _ (Nat.le_refl _)).put _ (by omega), s1', rfl, ?_⟩
      show IsSl RBkt _ _ s1' (withB m b).buckets
      rw [hwb, if_neg (by simp)]
      exact ((oC1.putLt (by omega)).putLt (by omega)).toSl (fun k hk => by omega) (fun k hk => by omega)
  · refine ⟨⟨_, OwnL.nil, Ext.refl _ _, by simp only [core, zrA, zrS, zrM, zrL, zrE, reduceCtorEq, zrD, ziE, ziL, ziN]⟩, ?_, ?_⟩
    · have hd : ((b.items.length : Int) == 0) = decide (b.items.length = 0) := by
        by_cases h : b.items.length = 0
        · rw [h]; rfl
        · rw [decide_eq_false h]; simp; exact fun hh => h (by rw [hh]; rfl)
      simp only [core, zrA, zrS, zrM, zrL, zrE, reduceCtorEq, zrD, ziE, ziL, ziN, hd, List.take_zero, List.foldl_nil]
    · simp only [core, zrA, zrS, zrM, zrL, zrE, reduceCtorEq, zrD, ziE, ziL, ziN]
      simp
end Go.Proofs.Ytjkmmbfenhhjkaa.Ex
end

section

set_option linter.unusedSimpArgs false
set_option linter.unusedVariables false
set_option maxRecDepth 10000
set_option maxHeartbeats 4000000
namespace Go.Proofs.Ytjkmmbfenhhjkaa.Ex
open Go
theorem Sm_le {α : Type} {n : Nat} {l : List α} {k : Nat} (h : l.length ≤ k) (hk : k * n ≤ 140737488351232) : Sm n l := Nat.le_trans (Nat.mul_le_mul_right n h) hk
theorem withB_ok {m : MapD} {b : BktD} (sb : (m.buckets.length + 1) * 64 ≤ 140737488351232) (hbk : ∀ b ∈ m.buckets, Sm 8 b.items ∧ Sm 8 b.weights) (la : Sm 8 b.items) (lw : Sm 8 b.weights) : OkM (withB m b) :=
  ⟨Sm_le (wbL_len m.buckets b) sb, wbL_ok (P := fun b => Sm 8 b.items ∧ Sm 8 b.weights) ⟨la, lw⟩ hbk, trivial⟩
theorem up47 {k : Nat} (h : k ≤ 140737488351232) : k ≤ 140737488355328 := by omega
theorem mayBkt_x {F : Nat → Prop} {H : AH} {m : MapD} {vo vp vb va vw : AV} (b : BktD) (hm : MpAt F H m vo vp vb) (sb : (m.buckets.length + 1) * 64 ≤ 140737488351232) (hbk : ∀ b ∈ m.buckets, Sm 8 b.items ∧ Sm 8 b.weights) (ha : IsSl RInt F H va b.items) (hw : IsSl RInt F H vw b.weights) (la : Sm 8 b.items) (lw : Sm 8 b.weights) (hi : I64 b.id ∧ I64 b.kind) :
    WC Try.prog (tabOf Try.prog NT0) S0 34 [mpV m vo vp vb, bktV b va vw] H fun r h' => Ext H.n H h' ∧ r = .lit (.int .i64 (mayBktF m b)) := by
  refine WC_fn Try.func34 rfl rfl ?_
  have o1 := hm.o.one
  have o2 := hm.p.one
  have o3 := hm.b.one
  have a1 := ha.one
  have w1 := hw.one
  have a2 := ha.isSl
  have a3 := ha.lenD
  obtain ⟨hp, hhp⟩ : ∃ hp, hp = (H.push (.cells [.lit (.int .i64 m.epoch), vo, vp, vb, .lit (.int .i64 m.leaf)] 72)).push (.cells [.lit (.int .i64 b.id), .lit (.int .i64 b.kind), va, vw] 93) := ⟨_, rfl⟩
  have EP : Ext H.n H hp := hhp ▸ ((Ext.refl _ _).push _ (Nat.le_refl _)).push _ (by rw [n_push]; omega)
  have P0 : hp.at H.n = some (.cells [.lit (.int .i64 m.epoch), vo, vp, vb, .lit (.int .i64 m.leaf)] 72) := hhp ▸ (at_push_lt _ (by rw [n_push]; omega)).trans (at_push_n _ _)
  have B0 : hp.at (H.n + 1) = some (.cells [.lit (.int .i64 b.id), .lit (.int .i64 b.kind), va, vw] 93) := hhp ▸ at_push_n _ _
  have nP : hp.n = H.n + 2 := by rw [hhp, n_push, n_push]
  have LP0 := ld_at (T := tabOf Try.prog NT0) P0
  have LB0 := ld_at (T := tabOf Try.prog NT0) B0
  have lP0 := at_lt P0
  have lB0 := at_lt B0
  unfold mayBktF
  by_cases c1 : b.id < -32
  · rw [if_pos (.inl c1)]
    simp only [core, zrA, zrS, zrM, zrL, zrE, reduceCtorEq, zrD, ziE, ziL, ziN, Try.ntmps34, mpV, bktV, ← hhp, c1, o1, o2, o3, a1, w1, a2, a3, LP0, LB0, lP0, lB0]
    first | exact ⟨EP, trivial⟩ | exact EP
  by_cases c2 : -1 < b.id
  · rw [if_pos (.inr c2)]
    simp only [core, zrA, zrS, zrM, zrL, zrE, reduceCtorEq, zrD, ziE, ziL, ziN, Try.ntmps34, mpV, bktV, ← hhp, c1, c2, o1, o2, o3, a1, w1, a2, a3, LP0, LB0, lP0, lB0]
    first | exact ⟨EP, trivial⟩ | exact EP
  rw [if_neg (by omega)]
  simp only [core, zrA, zrS, zrM, zrL, zrE, reduceCtorEq, zrD, ziE, ziL, ziN, Try.ntmps34, mpV, bktV, ← hhp, c1, c2, o1, o2, o3, a1, w1, a2, a3, LP0, LB0, lP0, lB0]
  clear hhp
  refine (bucket_x b.id (hm.ext EP (Nat.le_refl _)) (Sm_le (Nat.le_succ _) sb) hbk).mono ?_
  rintro _ h2 ⟨e2, va2, vw2, rfl, b1, b2⟩
  have q1 := b1.one
  have q2 := b2.one
  have E2 := EP.step e2
  have P2 := (e2.2 _ lP0).trans P0
  have B2 := (e2.2 _ lB0).trans B0
  have ln2 := e2.1
  obtain ⟨h3, hh3⟩ : ∃ h3, h3 = h2.push (.cells [.lit (.int .i64 (bucketG m b.id).id), .lit (.int .i64 (bucketG m b.id).kind), va2, vw2] 93) := ⟨_, rfl⟩
  have e3 : Ext h2.n h2 h3 := hh3 ▸ (Ext.refl _ _).push _ (Nat.le_refl _)
  have P3 := (e3.2 _ (at_lt P2)).trans P2
  have B3 := (e3.2 _ (at_lt B2)).trans B2
  have LP3 := ld_at (T := tabOf Try.prog NT0) P3
  have LB3 := ld_at (T := tabOf Try.prog NT0) B3
  have lP3 := at_lt P3
  have lB3 := at_lt B3
  have E3 := E2.step e3
  have key : ∀ (hq : ¬ ((bucketF m b.id).isNone = true ∧ b.items = [])), WC Try.prog (tabOf Try.prog NT0) S0 36 [mpV m vo vp vb, bktV b va vw] h3 (fun r h' => ∃ rb, Ext h3.n h3 h' ∧ r = mpV (withB m b) vo vp rb ∧ MpAt (fun k => F k ∨ h3.n ≤ k) h' (withB m b) vo vp rb) := fun _ => by
    refine (wb_x b (hm.ext E3 (Nat.le_refl _)) (up47 sb) hbk (ha.ext E3 (Nat.le_refl _)) (hw.ext E3 (Nat.le_refl _)) la lw hi).mono ?_
    rintro _ h4 ⟨e4, rb, rfl, ib⟩
    have hm4 := (hm.ext E3 (Nat.le_refl _)).ext e4 (Nat.le_refl _)
    exact ⟨rb, e4, rfl, hm4.o.lift fun b hb _ => ⟨rfl, .inl hb⟩, hm4.p.lift fun b hb _ => ⟨rfl, .inl hb⟩, ib.lift fun b hb _ => ⟨rfl, .inr hb⟩⟩
  have hfin : (if goodF (withB m b) = true then (0 : Int) else 22) = errC (withB m b) := by unfold errC; rw [check_good]
  cases hb : (bucketF m b.id) with
  | none =>
    rw [hb] at key
    by_cases ci : b.items = []
    · have ci0 : ((b.items.length : Int) == 0) = true := by rw [ci]; rfl
      simp only [core, zrA, zrS, zrM, zrL, zrE, reduceCtorEq, zrD, ziE, ziL, ziN, q1, q2, bktV, ← hh3, hb, ci0, a1, w1, a2, a3, LP3, LB3, lP3, lB3, Option.isSome_none, Option.isNone_none]
      rw [if_pos ci]
      first | exact ⟨E3, rfl⟩ | exact E3
    · have ci0 : ((b.items.length : Int) == 0) = false := by
        rw [Bool.eq_false_iff]
        intro hh
        simp at hh
        exact ci hh
      simp only [core, zrA, zrS, zrM, zrL, zrE, reduceCtorEq, zrD, ziE, ziL, ziN, q1, q2, bktV, ← hh3, hb, ci0, a1, w1, a2, a3, LP3, LB3, lP3, lB3, Option.isSome_none, Option.isNone_none]
      rw [if_neg ci, hfin]
      refine (key (fun hh => ci hh.2)).mono ?_
      rintro _ h4 ⟨rb, e4, rfl, hm4⟩
      simp only [core, zrA, zrS, zrM, zrL, zrE, reduceCtorEq, zrD, ziE, ziL, ziN]
      refine (check_x hm4 (withB_ok sb hbk la lw)).mono ?_
      rintro _ h5 ⟨e5, rfl⟩
      simp only [core, zrA, zrS, zrM, zrL, zrE, reduceCtorEq, zrD, ziE, ziL, ziN]
      first | exact ⟨(E3.step e4).step e5, trivial⟩ | exact (E3.step e4).step e5
  | some y =>
    rw [hb] at key
    simp only [core, zrA, zrS, zrM, zrL, zrE, reduceCtorEq, zrD, ziE, ziL, ziN, q1, q2, bktV, ← hh3, hb, a1, w1, a2, a3, LP3, LB3, lP3, lB3, Option.isSome_some, Option.isNone_some]
    rw [if_neg (fun hh => by cases hh.1), hfin]
    refine (key (fun hh => by cases hh.1)).mono ?_
    rintro _ h4 ⟨rb, e4, rfl, hm4⟩
    simp only [core, zrA, zrS, zrM, zrL, zrE, reduceCtorEq, zrD, ziE, ziL, ziN]
    refine (check_x hm4 (withB_ok sb hbk la lw)).mono ?_
    rintro _ h5 ⟨e5, rfl⟩
    simp only [core, zrA, zrS, zrM, zrL, zrE, reduceCtorEq, zrD, ziE, ziL, ziN]
    first | exact ⟨(E3.step e4).step e5, trivial⟩ | exact (E3.step e4).step e5
theorem May_x {F : Nat → Prop} {H : AH} {m : MapD} {vo vp vb va vw : AV} (c : ChD) (hm : MpAt F H m vo vp vb) (so : Sm 40 m.osds) (sp : Sm 32 m.pools) (sb : (m.buckets.length + 1) * 64 ≤ 140737488351232) (hbk : ∀ b ∈ m.buckets, Sm 8 b.items ∧ Sm 8 b.weights) (ha : IsSl RInt F H va c.bucket.items) (hw : IsSl RInt F H vw c.bucket.weights) (la : Sm 8 c.bucket.items) (lw : Sm 8 c.bucket.weights) (hi : I64 c.bucket.id ∧ I64 c.bucket.kind) :
    WC Try.prog (tabOf Try.prog NT0) S0 24 [mpV m vo vp vb, chV c va vw] H fun r h' => Ext H.n H h' ∧ r = .lit (.int .i64 (chMay m c)) := by
  refine WC_fn Try.func24 rfl rfl ?_
  have o1 := hm.o.one
  have o2 := hm.p.one
  have o3 := hm.b.one
  have a1 := ha.one
  have w1 := hw.one
  have a2 := ha.isSl
  have w2 := hw.isSl
  simp only [core, zrA, zrS, zrM, zrL, zrE, reduceCtorEq, zrD, ziE, ziL, ziN, Try.ntmps24, mpV, chV, o1, o2, o3, a1, w1]
  obtain ⟨hp, hhp⟩ : ∃ hp, hp = (H.push (.cells [.lit (.int .i64 m.epoch), vo, vp, vb, .lit (.int .i64 m.leaf)] 72)).push (.cells [.lit (.int .i64 c.kind), .lit (.int .i64 c.osd), .lit (.int .i64 c.value), .lit (.int .i64 c.pool.id), .lit (.int .i64 c.pool.size), .lit (.int .i64 c.pool.min), .lit (.int .i64 c.pool.pgs), .lit (.int .i64 c.bucket.id), .lit (.int .i64 c.bucket.kind), va, vw] 97) := ⟨_, rfl⟩
  have EP : Ext H.n H hp := hhp ▸ ((Ext.refl _ _).push _ (Nat.le_refl _)).push _ (by rw [n_push]; omega)
  have P0 : hp.at H.n = some (.cells [.lit (.int .i64 m.epoch), vo, vp, vb, .lit (.int .i64 m.leaf)] 72) := hhp ▸ (at_push_lt _ (by rw [n_push]; omega)).trans (at_push_n _ _)
  have B0 : hp.at (H.n + 1) = some (.cells [.lit (.int .i64 c.kind), .lit (.int .i64 c.osd), .lit (.int .i64 c.value), .lit (.int .i64 c.pool.id), .lit (.int .i64 c.pool.size), .lit (.int .i64 c.pool.min), .lit (.int .i64 c.pool.pgs), .lit (.int .i64 c.bucket.id), .lit (.int .i64 c.bucket.kind), va, vw] 97) := hhp ▸ at_push_n _ _
  have LP0 := ld_at (T := tabOf Try.prog NT0) P0
  have LB0 := ld_at (T := tabOf Try.prog NT0) B0
  have lP0 := at_lt P0
  have lB0 := at_lt B0
  rw [← hhp]
  clear hhp
  have hmp := hm.ext EP (Nat.le_refl _)
  have hap := ha.ext EP (Nat.le_refl _)
  have hwp := hw.ext EP (Nat.le_refl _)
  have hO : isOs c.kind → chMay m c = if c.osd < 0 ∨ 8 ≤ c.osd then 22 else mayOsdF m c := fun h => by unfold chMay; rw [if_pos h]
  by_cases k1 : c.kind = 1
  · have k1e : (c.kind == 1) = true := by simp [k1]
    rw [hO (by unfold isOs; omega)]
    by_cases c1 : c.osd < 0
    · rw [if_pos (.inl c1)]
      simp only [core, zrA, zrS, zrM, zrL, zrE, reduceCtorEq, zrD, ziE, ziL, ziN, LP0, LB0, lP0, lB0, o1, o2, o3, a1, w1, a2, w2, k1e, c1]
      first | exact ⟨EP, trivial⟩ | exact EP
    by_cases c2 : 8 ≤ c.osd
    · rw [if_pos (.inr c2)]
      simp only [core, zrA, zrS, zrM, zrL, zrE, reduceCtorEq, zrD, ziE, ziL, ziN, LP0, LB0, lP0, lB0, o1, o2, o3, a1, w1, a2, w2, k1e, c1, c2]
      first | exact ⟨EP, trivial⟩ | exact EP
    rw [if_neg (by omega)]
    simp only [core, zrA, zrS, zrM, zrL, zrE, reduceCtorEq, zrD, ziE, ziL, ziN, LP0, LB0, lP0, lB0, o1, o2, o3, a1, w1, a2, w2, k1e, c1, c2]
    refine (mayOsd_x c hmp so a1 w1).mono ?_
    rintro _ h2 ⟨e2, rfl⟩
    simp only [core, zrA, zrS, zrM, zrL, zrE, reduceCtorEq, zrD, ziE, ziL, ziN]
    first | exact ⟨EP.step e2, trivial⟩ | exact EP.step e2
  have k1e : (c.kind == 1) = false := by simp [k1]
  by_cases k2 : c.kind = 2
  · have k2e : (c.kind == 2) = true := by simp [k2]
    rw [hO (by unfold isOs; omega)]
    by_cases c1 : c.osd < 0
    · rw [if_pos (.inl c1)]
      simp only [core, zrA, zrS, zrM, zrL, zrE, reduceCtorEq, zrD, ziE, ziL, ziN, LP0, LB0, lP0, lB0, o1, o2, o3, a1, w1, a2, w2, k1e, k2e, c1]
      first | exact ⟨EP, trivial⟩ | exact EP
    by_cases c2 : 8 ≤ c.osd
    · rw [if_pos (.inr c2)]
      simp only [core, zrA, zrS, zrM, zrL, zrE, reduceCtorEq, zrD, ziE, ziL, ziN, LP0, LB0, lP0, lB0, o1, o2, o3, a1, w1, a2, w2, k1e, k2e, c1, c2]
      first | exact ⟨EP, trivial⟩ | exact EP
    rw [if_neg (by omega)]
    simp only [core, zrA, zrS, zrM, zrL, zrE, reduceCtorEq, zrD, ziE, ziL, ziN, LP0, LB0, lP0, lB0, o1, o2, o3, a1, w1, a2, w2, k1e, k2e, c1, c2]
    refine (mayOsd_x c hmp so a1 w1).mono ?_
    rintro _ h2 ⟨e2, rfl⟩
    simp only [core, zrA, zrS, zrM, zrL, zrE, reduceCtorEq, zrD, ziE, ziL, ziN]
    first | exact ⟨EP.step e2, trivial⟩ | exact EP.step e2
  have k2e : (c.kind == 2) = false := by simp [k2]
  by_cases k3 : c.kind = 3
  · have k3e : (c.kind == 3) = true := by simp [k3]
    rw [hO (by unfold isOs; omega)]
    by_cases c1 : c.osd < 0
    · rw [if_pos (.inl c1)]
      simp only [core, zrA, zrS, zrM, zrL, zrE, reduceCtorEq, zrD, ziE, ziL, ziN, LP0, LB0, lP0, lB0, o1, o2, o3, a1, w1, a2, w2, k1e, k2e, k3e, c1]
      first | exact ⟨EP, trivial⟩ | exact EP
    by_cases c2 : 8 ≤ c.osd
    · rw [if_pos (.inr c2)]
      simp only [core, zrA, zrS, zrM, zrL, zrE, reduceCtorEq, zrD, ziE, ziL, ziN, LP0, LB0, lP0, lB0, o1, o2, o3, a1, w1, a2, w2, k1e, k2e, k3e, c1, c2]
      first | exact ⟨EP, trivial⟩ | exact EP
    rw [if_neg (by omega)]
    simp only [core, zrA, zrS, zrM, zrL, zrE, reduceCtorEq, zrD, ziE, ziL, ziN, LP0, LB0, lP0, lB0, o1, o2, o3, a1, w1, a2, w2, k1e, k2e, k3e, c1, c2]
    refine (mayOsd_x c hmp so a1 w1).mono ?_
    rintro _ h2 ⟨e2, rfl⟩
    simp only [core, zrA, zrS, zrM, zrL, zrE, reduceCtorEq, zrD, ziE, ziL, ziN]
    first | exact ⟨EP.step e2, trivial⟩ | exact EP.step e2
  have k3e : (c.kind == 3) = false := by simp [k3]
  by_cases k4 : c.kind = 4
  · have k4e : (c.kind == 4) = true := by simp [k4]
    rw [hO (by unfold isOs; omega)]
    by_cases c1 : c.osd < 0
    · rw [if_pos (.inl c1)]
      simp only [core, zrA, zrS, zrM, zrL, zrE, reduceCtorEq, zrD, ziE, ziL, ziN, LP0, LB0, lP0, lB0, o1, o2, o3, a1, w1, a2, w2, k1e, k2e, k3e, k4e, c1]
      first | exact ⟨EP, trivial⟩ | exact EP
    by_cases c2 : 8 ≤ c.osd
    · rw [if_pos (.inr c2)]
      simp only [core, zrA, zrS, zrM, zrL, zrE, reduceCtorEq, zrD, ziE, ziL, ziN, LP0, LB0, lP0, lB0, o1, o2, o3, a1, w1, a2, w2, k1e, k2e, k3e, k4e, c1, c2]
      first | exact ⟨EP, trivial⟩ | exact EP
    rw [if_neg (by omega)]
    simp only [core, zrA, zrS, zrM, zrL, zrE, reduceCtorEq, zrD, ziE, ziL, ziN, LP0, LB0, lP0, lB0, o1, o2, o3, a1, w1, a2, w2, k1e, k2e, k3e, k4e, c1, c2]
    refine (mayOsd_x c hmp so a1 w1).mono ?_
    rintro _ h2 ⟨e2, rfl⟩
    simp only [core, zrA, zrS, zrM, zrL, zrE, reduceCtorEq, zrD, ziE, ziL, ziN]
    first | exact ⟨EP.step e2, trivial⟩ | exact EP.step e2
  have k4e : (c.kind == 4) = false := by simp [k4]
  by_cases k5 : c.kind = 5
  · have k5e : (c.kind == 5) = true := by simp [k5]
    have hC : chMay m c = mayPoolF m c.pool := by unfold chMay; rw [if_neg (by unfold isOs; omega), if_pos k5]
    rw [hC]
    simp only [core, zrA, zrS, zrM, zrL, zrE, reduceCtorEq, zrD, ziE, ziL, ziN, LP0, LB0, lP0, lB0, o1, o2, o3, a1, w1, a2, w2, k1e, k2e, k3e, k4e, k5e]
    refine (mayPool_x c.pool hmp sp).mono ?_
    rintro _ h2 ⟨e2, rfl⟩
    simp only [core, zrA, zrS, zrM, zrL, zrE, reduceCtorEq, zrD, ziE, ziL, ziN]
    first | exact ⟨EP.step e2, trivial⟩ | exact EP.step e2
  have k5e : (c.kind == 5) = false := by simp [k5]
  by_cases k6 : c.kind = 6
  · have k6e : (c.kind == 6) = true := by simp [k6]
    have hC : chMay m c = mayBktF m c.bucket := by unfold chMay; rw [if_neg (by unfold isOs; omega), if_neg k5, if_pos k6]
    rw [hC]
    simp only [core, zrA, zrS, zrM, zrL, zrE, reduceCtorEq, zrD, ziE, ziL, ziN, LP0, LB0, lP0, lB0, o1, o2, o3, a1, w1, a2, w2, k1e, k2e, k3e, k4e, k5e, k6e]
    refine (mayBkt_x c.bucket hmp sb hbk hap hwp la lw hi).mono ?_
    rintro _ h2 ⟨e2, rfl⟩
    simp only [core, zrA, zrS, zrM, zrL, zrE, reduceCtorEq, zrD, ziE, ziL, ziN]
    first | exact ⟨EP.step e2, trivial⟩ | exact EP.step e2
  have k6e : (c.kind == 6) = false := by simp [k6]
  by_cases k7 : c.kind = 7
  · have k7e : (c.kind == 7) = true := by simp [k7]
    have hC : chMay m c = if c.value < 0 ∨ 3 < c.value then 22 else 0 := by unfold chMay; rw [if_neg (by unfold isOs; omega), if_neg k5, if_neg k6, if_pos k7]
    rw [hC]
    by_cases c1 : c.value < 0
    · rw [if_pos (.inl c1)]
      simp only [core, zrA, zrS, zrM, zrL, zrE, reduceCtorEq, zrD, ziE, ziL, ziN, LP0, LB0, lP0, lB0, o1, o2, o3, a1, w1, a2, w2, k1e, k2e, k3e, k4e, k5e, k6e, k7e, c1]
      first | exact ⟨EP, trivial⟩ | exact EP
    by_cases c2 : 3 < c.value
    · rw [if_pos (.inr c2)]
      simp only [core, zrA, zrS, zrM, zrL, zrE, reduceCtorEq, zrD, ziE, ziL, ziN, LP0, LB0, lP0, lB0, o1, o2, o3, a1, w1, a2, w2, k1e, k2e, k3e, k4e, k5e, k6e, k7e, c1, c2]
      first | exact ⟨EP, trivial⟩ | exact EP
    rw [if_neg (by omega)]
    simp only [core, zrA, zrS, zrM, zrL, zrE, reduceCtorEq, zrD, ziE, ziL, ziN, LP0, LB0, lP0, lB0, o1, o2, o3, a1, w1, a2, w2, k1e, k2e, k3e, k4e, k5e, k6e, k7e, c1, c2]
    first | exact ⟨EP, trivial⟩ | exact EP
  have k7e : (c.kind == 7) = false := by simp [k7]
  have hC : chMay m c = 22 := by unfold chMay; rw [if_neg (by unfold isOs; omega), if_neg k5, if_neg k6, if_neg k7]
  rw [hC]
  simp only [core, zrA, zrS, zrM, zrL, zrE, reduceCtorEq, zrD, ziE, ziL, ziN, LP0, LB0, lP0, lB0, o1, o2, o3, a1, w1, a2, w2, k1e, k2e, k3e, k4e, k5e, k6e, k7e]
  first | exact ⟨EP, trivial⟩ | exact EP
end Go.Proofs.Ytjkmmbfenhhjkaa.Ex
end

section

set_option linter.unusedSimpArgs false
set_option linter.unusedVariables false
set_option maxRecDepth 10000
set_option maxHeartbeats 4000000
namespace Go.Proofs.Ytjkmmbfenhhjkaa.Ex
open Go
section
variable {α : Type}
/-- Elements whose cells are known. -/
structure FlatC (R : Rep α) (cf : α → List AV) (z : Nat) (ok : α → Prop) : Prop where
  hz : R.z = z
  z0 : 0 < z
  len : ∀ x, (cf x).length = z
  is : ∀ F h c x, R.is F h c x ↔ c = cf x ∧ ok x
variable {R : Rep α} {cf : α → List AV} {z : Nat} {ok : α → Prop}
theorem FlatC.flat (hR : FlatC R cf z ok) : FlatR R := fun F G h h' c x hh => (hR.is _ _ _ _).2 ((hR.is _ _ _ _).1 hh)
theorem flatMap_len (hl : ∀ x, (cf x).length = z) : ∀ l : List α, (l.flatMap cf).length = l.length * z
  | [] => by simp
  | x :: r => by rw [List.flatMap_cons, List.length_append, flatMap_len hl r, hl, List.length_cons, Nat.succ_mul]; omega
theorem flatMap_split {l : List α} {i : Nat} {x : α} (hx : l[i]? = some x) : l.flatMap cf = (l.take i).flatMap cf ++ (cf x ++ (l.drop (i + 1)).flatMap cf) := by
  obtain ⟨hi, rfl⟩ := List.getElem?_eq_some_iff.1 hx
  conv => lhs; rw [← List.take_append_drop i l, List.drop_eq_getElem_cons hi]
  rw [List.flatMap_append, List.flatMap_cons]
theorem put_flat {l : List α} {i k : Nat} {x y : α} {v : AV} (hl : ∀ x, (cf x).length = z) (hx : l[i]? = some x) (hk : k < z) (hy : cf y = (cf x).set k v) : put (l.flatMap cf) (i * z + k) [v] = some ((l.set i y).flatMap cf) := by
  obtain ⟨hi, hxe⟩ := List.getElem?_eq_some_iff.1 hx
  have h2 : (l.set i y)[i]? = some y := by rw [List.getElem?_set_self hi]
  have ht : (l.set i y).take i = l.take i := by rw [List.take_set_of_le (Nat.le_refl i)]
  have hd : (l.set i y).drop (i + 1) = l.drop (i + 1) := by rw [List.drop_set_of_lt (by omega)]
  have h3 := flatMap_len hl (l.take i)
  rw [List.length_take, Nat.min_eq_left (by omega)] at h3
  rw [flatMap_split hx, flatMap_split h2, ht, hd, hy]
  unfold put
  rw [if_pos (by simp only [List.length_append, h3, hl, List.length_singleton]; omega)]
  congr 1
  have hkl : k < (cf x).length := by rw [hl]; exact hk
  have t1 : ((l.take i).flatMap cf ++ (cf x ++ (l.drop (i + 1)).flatMap cf)).take (i * z + k) = (l.take i).flatMap cf ++ (cf x).take k := by
    rw [← h3, List.take_length_add_append, List.take_append_of_le_length (by omega)]
  have t2 : ((l.take i).flatMap cf ++ (cf x ++ (l.drop (i + 1)).flatMap cf)).drop (i * z + k + [v].length) = (cf x).drop (k + 1) ++ (l.drop (i + 1)).flatMap cf := by
    rw [show i * z + k + [v].length = ((l.take i).flatMap cf).length + (k + 1) by rw [h3]; rfl, List.drop_length_add_append, List.drop_append_of_le_length (by omega)]
  rw [t1, t2, List.set_eq_take_append_cons_drop, if_pos hkl]
  simp only [List.append_assoc, List.cons_append, List.nil_append]
theorem put_el {l : List α} {i : Nat} {y : α} (hl : ∀ x, (cf x).length = z) (hi : i < l.length) : put (l.flatMap cf) (i * z) (cf y) = some ((l.set i y).flatMap cf) := by
  have hx : l[i]? = some l[i] := List.getElem?_eq_getElem hi
  have h2 : (l.set i y)[i]? = some y := by rw [List.getElem?_set_self hi]
  have ht : (l.set i y).take i = l.take i := by rw [List.take_set_of_le (Nat.le_refl i)]
  have hd : (l.set i y).drop (i + 1) = l.drop (i + 1) := by rw [List.drop_set_of_lt (by omega)]
  have h3 := flatMap_len hl (l.take i)
  rw [List.length_take, Nat.min_eq_left (by omega)] at h3
  rw [flatMap_split hx, flatMap_split h2, ht, hd]
  unfold put
  rw [if_pos (by simp only [List.length_append, h3, hl]; omega)]
  congr 1
  have hkl : (cf l[i]).length = z := hl _
  have t1 : ((l.take i).flatMap cf ++ (cf l[i] ++ (l.drop (i + 1)).flatMap cf)).take (i * z) = (l.take i).flatMap cf := List.take_left' h3
  have t2 : ((l.take i).flatMap cf ++ (cf l[i] ++ (l.drop (i + 1)).flatMap cf)).drop (i * z + (cf y).length) = (l.drop (i + 1)).flatMap cf := by
    rw [← List.append_assoc]
    exact List.drop_left' (by rw [List.length_append, h3, hl, hl])
  rw [t1, t2, List.append_assoc]
/-- A row of the run's own, as cells. -/
theorem OwnL.row {G : Nat → Prop} {n0 : Nat} {h : AH} {v : AV} {e : TypeId} {xs : List α} (hR : FlatC R cf z ok) (ho : OwnL R G n0 h v e xs) (hne : xs ≠ []) :
    ∃ p, v = .sl p 0 xs.length (.un z) ∧ n0 ≤ p ∧ h.at p = some (.cells (xs.flatMap cf) e) ∧ ∀ x ∈ xs, ok x := by
  obtain ⟨L, ⟨h1, h2⟩, h3, h4⟩ := ho
  rcases h2 with ⟨rfl, rfl⟩ | ⟨p, rfl, hp, hat⟩
  · exact absurd (List.eq_nil_of_length_eq_zero h3.symm) hne
  · have hL : ∀ (L : List (List AV)) (xs : List α), L.length = xs.length → (∀ (i : Nat) c x, L[i]? = some c → xs[i]? = some x → c = cf x) → L.flatten = xs.flatMap cf := by
      intro L
      induction L with
      | nil => intro xs hl _; cases xs with | nil => rfl | cons => cases hl
      | cons a r ih =>
        intro xs hl hh
        cases xs with
        | nil => cases hl
        | cons x xs =>
          rw [List.flatten_cons, List.flatMap_cons, hh 0 a x rfl rfl, ih xs (by simpa using hl) (fun i c y a b => hh (i + 1) c y (by simpa using a) (by simpa using b))]
    refine ⟨p, by rw [h3, hR.hz], hp, by rw [hat, hL L xs h3 fun i c x a b => ((hR.is _ _ _ _).1 (h4 i c x a b)).1], fun x hx => ?_⟩
    obtain ⟨i, hi, rfl⟩ := List.mem_iff_getElem.1 hx
    exact ((hR.is _ _ _ _).1 (h4 i L[i] xs[i] (List.getElem?_eq_getElem (by omega)) (List.getElem?_eq_getElem hi))).2
theorem OwnL.ofRow {G : Nat → Prop} {n0 : Nat} {h : AH} {e : TypeId} {xs : List α} {p n : Nat} (hR : FlatC R cf z ok) (hn : n = xs.length) (hp : n0 ≤ p) (hat : h.at p = some (.cells (xs.flatMap cf) e)) (hx : ∀ x ∈ xs, ok x) : OwnL R G n0 h (.sl p 0 n (.un z)) e xs := by
  subst hn
  refine ⟨xs.map cf, ⟨?_, .inr ⟨p, ?_, hp, ?_⟩⟩, ?_, fun i c x h1 h2 => ?_⟩
  · intro c hc; obtain ⟨n, _, rfl⟩ := List.mem_map.1 hc; rw [hR.len, hR.hz]
  · rw [List.length_map, hR.hz]
  · rw [hat, List.flatMap_def]
  · simp
  · rw [List.getElem?_map, h2] at h1
    simp only [Option.map_some, Option.some.injEq] at h1
    exact (hR.is _ _ _ _).2 ⟨h1.symm, hx x (List.mem_of_getElem? h2)⟩
/-- One more behind an own row of flat elements. -/
theorem OwnE.snoc {T : TT} {t e e' : TypeId} {by' p n0 : Nat} {zv : AV} {c : List AV} {y : α} {cap : Cap} {h : AH} {v : AV} {xs : List α} (hR : FlatC R cf z ok) (ho : OwnE R n0 h v e xs) (hu : und T t = some (.slice e)) (hz : sizeT T e = some R.z) (hzv : zeroT T e = some zv) (hb : bytesT T e = some by')
    (hzl : zv.cells.length = R.z) (h0 : 0 < R.z) (h200 : R.z ≤ 200) (hp : h.at p = some (.cells c e')) (hc : R.is (fun _ => False) h c y) (hn : xs.length + 1 ≤ 4611686018427387904) (hby : (xs.length + 1) * by' ≤ 140737488355328) (hn0 : n0 ≤ h.n) :
    ∃ s' h', appendA T h t t v (.sl p 0 1 cap) = some (s', h') ∧ OwnE R n0 h' s' e (xs ++ [y]) ∧ Fr h v h' s' := by
  rcases ho with ho | ⟨rfl, q, hq, rfl, hat⟩
  · obtain ⟨s', h', a, b, d, f⟩ := ho.snoc hu hu hz hzv hb hzl h0 h200 hp (cap := cap) (hR.flat _ _ _ _ _ _ hc) hn hby hn0
    exact ⟨s', h', a, .inl b, d.1, f⟩
  · obtain ⟨rfl, hok⟩ := (hR.is _ _ _ _).1 hc
    have hg : getR h p = some (cf y) := by unfold getR; rw [hp]
    have hl1 : (cf y).length = R.z := by rw [hR.len, hR.hz]
    rcases append_fresh (T := T) (h := h) (t := t) (tx := t) (e := e) (M := [cf y]) (p := q) (x := .sl p 0 1 cap) hu hu hz hzv hb hzl h0 h200 hat (by
        simp only [srcA, hg, cut]
        rw [if_pos (by omega)]
        simp [hl1 ▸ List.take_length]) rfl (by intro c hc; rw [List.mem_singleton.1 hc, hl1]) (by rw [List.flatten_cons, List.flatten_nil, List.append_nil, List.all_eq_true]; exact fun v hv => R.one hc v hv) (by simp) (by simpa using hby) with ⟨hM, ha⟩ | ⟨hM, ha⟩
    · cases hM
    · refine ⟨_, _, ha, .inl ?_, by rw [n_push]; omega, fun b hb hab => ⟨at_push_lt _ hb, fun off n cap e => by cases e; omega⟩⟩
      have := OwnL.ofRow (G := fun _ => False) (n0 := n0) (h := h.push (.cells [cf y].flatten e)) (e := e) (xs := [y]) (p := h.n) (n := 1) hR rfl hn0 (by rw [at_push_n]; simp) (fun x hx => by rw [List.mem_singleton.1 hx]; exact hok)
      rw [hR.hz]
      exact this
/-- Rows of other elements lie elsewhere. -/
theorem OwnE.sep {β : Type} {R : Rep α} {S : Rep β} {n0 n1 : Nat} {h : AH} {v u : AV} {e e2 : TypeId} {xs : List α} {ys : List β} (ho : OwnE R n0 h v e xs) (hu : OwnE S n1 h u e2 ys) (hne : e ≠ e2) : ∀ b off n cap, v = .sl b off n cap → Apart u b := by
  have hat : ∀ {γ : Type} {R : Rep γ} {n0 : Nat} {v : AV} {e : TypeId} {xs : List γ}, OwnE R n0 h v e xs → ∀ b off n cap, v = .sl b off n cap → ∃ l, h.at b = some (.cells l e) := by
    intro γ R n0 v e xs ho b off n cap hv
    rcases ho with ⟨L, h1, h2⟩ | ⟨rfl, p, hp, rfl, hat⟩
    · rcases h1.2 with ⟨hh, _⟩ | ⟨p, hh, hp, hat⟩
      · rw [hh] at hv; cases hv
      · rw [hh] at hv; cases hv; exact ⟨_, hat⟩
    · cases hv; exact ⟨_, hat⟩
  intro b off n cap hv off2 n2 cap2 hu2
  obtain ⟨l1, k1⟩ := hat ho b off n cap hv
  obtain ⟨l2, k2⟩ := hat hu b off2 n2 cap2 hu2
  rw [k1] at k2
  cases k2
  exact hne rfl
theorem OwnE.keep {R : Rep α} {n0 : Nat} {h h' : AH} {v : AV} {e : TypeId} {xs : List α} (ho : OwnE R n0 h v e xs) (hk : ∀ b off n cap, v = .sl b off n cap → h'.at b = h.at b) : OwnE R n0 h' v e xs := by
  rcases ho with ho | ⟨rfl, p, hp, rfl, hat⟩
  · exact .inl (ho.lift hk (fun b hb => hb.elim))
  · exact .inr ⟨rfl, p, hp, rfl, (hk _ _ _ _ rfl).trans hat⟩
theorem OwnE.blt {R : Rep α} {n0 : Nat} {h : AH} {v : AV} {e : TypeId} {xs : List α} (ho : OwnE R n0 h v e xs) : ∀ b off n cap, v = .sl b off n cap → b < h.n := by
  intro b off n cap hv
  rcases ho with ⟨L, h1, h2⟩ | ⟨rfl, p, hp, rfl, hat⟩
  · rcases h1.2 with ⟨hh, _⟩ | ⟨p, hh, hp, hat⟩
    · rw [hh] at hv; cases hv
    · rw [hh] at hv; cases hv; exact at_lt hat
  · cases hv; exact at_lt hat
/-- A row beside one that grows. -/
theorem OwnE.fr {β : Type} {R : Rep α} {S : Rep β} {n0 n1 : Nat} {h h' : AH} {v u u' : AV} {e e2 : TypeId} {xs : List α} {ys : List β} (ho : OwnE R n0 h v e xs) (hu : OwnE S n1 h u e2 ys) (hne : e ≠ e2) (f : Fr h u h' u') : OwnE R n0 h' v e xs :=
  ho.keep fun b off n cap hv => (f.2 b (ho.blt b off n cap hv) (ho.sep hu hne b off n cap hv)).1
end
section
def oC' (o : OsdD) : List AV := [.lit (.bool o.ex), .lit (.bool o.up), .lit (.int .i64 o.weight), .lit (.int .i64 o.boot), .lit (.int .i64 o.upFrom), .lit (.int .i64 o.upThru)]
def okO (x : OsdD) : Prop := I64 x.weight ∧ I64 x.boot ∧ I64 x.upFrom ∧ I64 x.upThru
theorem flatO : FlatC ROsd oC' 6 okO := ⟨rfl, by decide, fun x => rfl, fun F h c x => ROsd_is⟩
def pC' (p : PoolD) : List AV := [.lit (.int .i64 p.id), .lit (.int .i64 p.size), .lit (.int .i64 p.min), .lit (.int .i64 p.pgs)]
def okP (x : PoolD) : Prop := I64 x.id ∧ I64 x.size ∧ I64 x.min ∧ I64 x.pgs
theorem flatP : FlatC RPool pC' 4 okP := ⟨rfl, by decide, fun x => rfl, fun F h c x => RPool_is⟩
end
end Go.Proofs.Ytjkmmbfenhhjkaa.Ex
end

section

set_option linter.unusedSimpArgs false
set_option linter.unusedVariables false
set_option maxRecDepth 10000
set_option maxHeartbeats 4000000
namespace Go.Proofs.Ytjkmmbfenhhjkaa.Ex
open Go
/-- What a change must be read as. -/
structure ChIn (F : Nat → Prop) (H : AH) (c : ChD) (va vw : AV) : Prop where
  a : IsSl RInt F H va c.bucket.items
  w : IsSl RInt F H vw c.bucket.weights
  la : Sm 8 c.bucket.items
  lw : Sm 8 c.bucket.weights
  hi : I64 c.bucket.id ∧ I64 c.bucket.kind
  hp : okP c.pool
  hv : I64 c.value
/-- Sizes of a map that may be changed. -/
structure MpSz (m : MapD) : Prop where
  so : Sm 40 m.osds
  sp : (m.pools.length + 1) * 32 ≤ 140737488351232
  sb : (m.buckets.length + 1) * 64 ≤ 140737488351232
  bk : ∀ b ∈ m.buckets, Sm 8 b.items ∧ Sm 8 b.weights
def mC (m : MapD) (vo vp vb : AV) : AB := .cells [.lit (.int .i64 m.epoch), vo, vp, vb, .lit (.int .i64 m.leaf)] 72
def cC (c : ChD) (va vw : AV) : AB := .cells [.lit (.int .i64 c.kind), .lit (.int .i64 c.osd), .lit (.int .i64 c.value), .lit (.int .i64 c.pool.id), .lit (.int .i64 c.pool.size), .lit (.int .i64 c.pool.min), .lit (.int .i64 c.pool.pgs), .lit (.int .i64 c.bucket.id), .lit (.int .i64 c.bucket.kind), va, vw] 97
def mz : AB := .cells [.lit (.int .i64 0), .lit (.slice none 0 0), .lit (.slice none 0 0), .lit (.slice none 0 0), .lit (.int .i64 0)] 72
theorem made_boxes {H : AH} (x y z : AB) : ∃ hp, hp = ((H.push x).push y).push z ∧ Ext H.n H hp ∧ hp.at H.n = some x ∧ hp.at (H.n + 1) = some y ∧ hp.at (H.n + 2) = some z ∧ hp.n = H.n + 3 :=
  ⟨_, rfl, (((Ext.refl _ _).push _ (Nat.le_refl _)).push _ (by rw [n_push]; omega)).push _ (by rw [n_push, n_push]; omega),
    ((at_push_lt _ (by rw [n_push, n_push]; omega)).trans (at_push_lt _ (by rw [n_push]; omega))).trans (at_push_n _ _), (at_push_lt _ (by rw [n_push, n_push]; omega)).trans (at_push_n _ _), at_push_n _ _, by rw [n_push, n_push, n_push]⟩
theorem made6_x {F : Nat → Prop} {H : AH} {m : MapD} {vo vp vb va vw : AV} {n0 p0 : Nat} (c : ChD) (hm : OwnMp n0 p0 H m vo vp vb) (hn0 : n0 ≤ H.n) (hp0 : p0 < H.n) (hz : MpSz m) (hc : ChIn F H c va vw) (hk : c.kind = 6) :
    WC Try.prog (tabOf Try.prog NT0) S0 25 [mpV m vo vp vb, chV c va vw] H fun r h' => Ext n0 H h' ∧ h'.at p0 = H.at p0 ∧ ∃ ro rp rb, r = mpV (chMade m c) ro rp rb ∧ OwnMp n0 p0 h' (chMade m c) ro rp rb := by
  refine WC_fn Try.func25 rfl rfl ?_
  have hmA := hm.at (F := fun _ => True) fun _ _ => trivial
  have o1 := hmA.o.one
  have o2 := hmA.p.one
  have o3 := hmA.b.one
  have a1 := hc.a.one
  have w1 := hc.w.one
  have s1 := hmA.o.isSl
  have s2 := hmA.p.isSl
  have s3 := hmA.b.isSl
  have k5e : (c.kind == 5) = false := by rw [hk]; rfl
  have k6e : (c.kind == 6) = true := by rw [hk]; rfl
  obtain ⟨hp, hhp, EP, P0, C0, Z0, nP⟩ := made_boxes (H := H) (mC m vo vp vb) (cC c va vw) mz
  unfold mC at P0 hhp
  unfold cC at C0 hhp
  unfold mz at Z0 hhp
  have LP := ld_at (T := tabOf Try.prog NT0) P0
  have LC := ld_at (T := tabOf Try.prog NT0) C0
  have lP := at_lt P0
  have lC := at_lt C0
  simp only [core, zrA, zrS, zrM, zrL, zrE, reduceCtorEq, zrD, ziE, ziL, ziN, Try.ntmps25, mpV, chV, o1, o2, o3, a1, w1, ← hhp, LP, LC, lP, lC, k5e, k6e, s1, s2, s3]
  refine (wb_x c.bucket (hmA.ext EP (Nat.le_refl _)) (up47 hz.sb) hz.bk ((hc.a.lift (G := fun _ => True) fun _ _ _ => ⟨rfl, trivial⟩).ext EP (Nat.le_refl _)) ((hc.w.lift (G := fun _ => True) fun _ _ _ => ⟨rfl, trivial⟩).ext EP (Nat.le_refl _)) hc.la hc.lw hc.hi).mono ?_
  rintro _ h2 ⟨e2, rb, rfl, ib⟩
  have q3 := ib.one
  have Z2 := (e2.2 _ (at_lt Z0)).trans Z0
  have lZ2 := at_lt Z2
  have hE : chMade m c = withB m c.bucket := by unfold chMade; rw [if_neg (by omega), if_pos hk]
  have l2 := e2.1
  simp only [core, zrA, zrS, zrM, zrL, zrE, reduceCtorEq, zrD, ziE, ziL, ziN, mpV, o1, o2, q3, Z2, lZ2]
  have E2 := EP.step e2
  have m2 := hm.ext E2 (Nat.le_refl _)
  refine ⟨(E2.mono hn0).put _ (by omega), (E2.put _ (by omega)).2 _ hp0, vo, vp, rb, by rw [hE], ?_⟩
  rw [hE]
  refine ⟨m2.o.put_ap (hm.o.apart (by omega)), m2.p.put_ap (hm.p.apart (by omega)), ?_, hm.ao, hm.ap⟩
  show IsSl RBkt _ _ rb (withB m c.bucket).buckets
  exact ib.lift fun b hb _ => ⟨at_put_ne _ (by omega), by omega, hm.o.apart (by omega), hm.p.apart (by omega), by omega⟩
theorem made7_x {F : Nat → Prop} {H : AH} {m : MapD} {vo vp vb va vw : AV} {n0 p0 : Nat} (c : ChD) (hm : OwnMp n0 p0 H m vo vp vb) (hn0 : n0 ≤ H.n) (hp0 : p0 < H.n) (hz : MpSz m) (hc : ChIn F H c va vw) (hk : c.kind = 7) :
    WC Try.prog (tabOf Try.prog NT0) S0 25 [mpV m vo vp vb, chV c va vw] H fun r h' => Ext n0 H h' ∧ h'.at p0 = H.at p0 ∧ ∃ ro rp rb, r = mpV (chMade m c) ro rp rb ∧ OwnMp n0 p0 h' (chMade m c) ro rp rb := by
  refine WC_fn Try.func25 rfl rfl ?_
  have hmA := hm.at (F := fun _ => True) fun _ _ => trivial
  have o1 := hmA.o.one
  have o2 := hmA.p.one
  have o3 := hmA.b.one
  have a1 := hc.a.one
  have w1 := hc.w.one
  have s1 := hmA.o.isSl
  have s2 := hmA.p.isSl
  have s3 := hmA.b.isSl
  have k5e : (c.kind == 5) = false := by rw [hk]; rfl
  have k6e : (c.kind == 6) = false := by rw [hk]; rfl
  have k7e : (c.kind == 7) = true := by rw [hk]; rfl
  obtain ⟨hp, hhp, EP, P0, C0, Z0, nP⟩ := made_boxes (H := H) (mC m vo vp vb) (cC c va vw) mz
  unfold mC at P0 hhp
  unfold cC at C0 hhp
  unfold mz at Z0 hhp
  have LP := ld_at (T := tabOf Try.prog NT0) P0
  have LC := ld_at (T := tabOf Try.prog NT0) C0
  have lP := at_lt P0
  have lC := at_lt C0
  have lZ := at_lt Z0
  have hne : ¬ H.n = H.n + 2 := by omega
  have hE : chMade m c = { m with leaf := c.value } := by unfold chMade; rw [if_neg (by omega), if_neg (by omega), if_pos hk]
  simp only [core, zrA, zrS, zrM, zrL, zrE, reduceCtorEq, zrD, ziE, ziL, ziN, Try.ntmps25, mpV, chV, o1, o2, o3, a1, w1, ← hhp, LP, LC, P0, Z0, lP, lC, lZ, k5e, k6e, k7e, s1, s2, s3, hne]
  refine ⟨((EP.put _ (Nat.le_refl _)).put _ (by omega)).mono hn0, ((EP.put _ (Nat.le_refl _)).put _ (by omega)).2 _ hp0, vo, vp, vb, by rw [hE], ?_⟩
  rw [hE]
  have mp := hm.ext EP (Nat.le_refl _)
  refine ⟨(mp.o.put_ap (hm.o.apart (by omega))).put_ap (hm.o.apart (by omega)), (mp.p.put_ap (hm.p.apart (by omega))).put_ap (hm.p.apart (by omega)), ?_, hm.ao, hm.ap⟩
  have hbl : IsSl RBkt (fun k => (n0 ≤ k ∧ Apart vo k ∧ Apart vp k ∧ k ≠ p0) ∧ k < H.n) hp vb m.buckets := hm.b.lift fun b hb hlt => ⟨EP.2 _ hlt, hb, hlt⟩
  exact hbl.lift fun b hb _ => ⟨by have := hb.2; rw [at_put_ne _ (by omega), at_put_ne _ (by omega)], hb.1⟩
end Go.Proofs.Ytjkmmbfenhhjkaa.Ex
end

section

set_option linter.unusedSimpArgs false
set_option linter.unusedVariables false
set_option maxRecDepth 10000
set_option maxHeartbeats 4000000
namespace Go.Proofs.Ytjkmmbfenhhjkaa.Ex
open Go
theorem insA_eq {h : AH} {v : AV} {b2 o2 : Nat} {k2 : Cap} {l2 new : List AV} (hv : isSl v = true) (hbig : (lenD v + 1) * 32 ≤ 140737488355328) (hg2 : getR h b2 = some l2) (hc2 : cut l2 o2 4 = some new) (h1 : new.all AV.one = true) :
    appendA (tabOf Try.prog NT0) h 69 69 v (.sl b2 o2 1 k2) = appendB h 95 4 1 new v := by
  have e1 : und (tabOf Try.prog NT0) 69 = some (.slice 95) := by kernel_rfl
  have h00 : (tabOf Try.prog NT0 95).map (fun i => (i.bytes, i.zero.cells.length, i.size)) = some (32, 4, 4) := by kernel_rfl
  obtain ⟨i0, h0, he⟩ := Option.map_eq_some_iff.1 h00
  obtain ⟨hb, hz, hs⟩ : i0.bytes = 32 ∧ i0.zero.cells.length = 4 ∧ i0.size = 4 := by
    simp only [Prod.mk.injEq] at he
    exact he
  have hlv : lenA v = some (lenD v) := by
    obtain ⟨n, ⟨rfl, _⟩ | ⟨b, off, cap, rfl⟩⟩ := SlN.of hv <;> rfl
  have hsrc : srcA h 4 (.sl b2 o2 1 k2) = some new := by
    simp only [srcA, hg2]
    exact hc2
  have hnl : new.length = 4 := by
    unfold cut at hc2
    split at hc2
    · cases hc2
      rw [List.length_take, List.length_drop]
      omega
    · cases hc2
  unfold appendA
  have f1 : Nat.ble (lenD v + 1) 4611686018427387904 = true := Nat.ble_eq_true_of_le (by omega)
  have f2 : Nat.ble ((lenD v + 1) * 32) 140737488355328 = true := Nat.ble_eq_true_of_le hbig
  have hlu : lenA (.sl b2 o2 1 k2) = some 1 := rfl
  rw [e1, hlv, hlu]
  simp only [h0, hb, hz, hs, hsrc, hnl, h1, f1, f2]
  rfl
theorem OwnE.capOk {α : Type} {R : Rep α} {n0 : Nat} {h : AH} {v : AV} {e : TypeId} {xs : List α} (ho : OwnE R n0 h v e xs) : CapOk R.z v := by
  obtain ⟨L, -, -, hc, -⟩ := (ho.toSl (F := fun _ => True) (fun _ _ => trivial)).out
  exact hc
theorem made5_x {F : Nat → Prop} {H : AH} {m : MapD} {vo vp vb va vw : AV} {n0 p0 : Nat} (c : ChD) (hm : OwnMp n0 p0 H m vo vp vb) (hn0 : n0 ≤ H.n) (hp0 : p0 < H.n) (hz : MpSz m) (hc : ChIn F H c va vw) (hk : c.kind = 5) :
    WC Try.prog (tabOf Try.prog NT0) S0 25 [mpV m vo vp vb, chV c va vw] H fun r h' => Ext n0 H h' ∧ h'.at p0 = H.at p0 ∧ ∃ ro rp rb, r = mpV (chMade m c) ro rp rb ∧ OwnMp n0 p0 h' (chMade m c) ro rp rb := by
  refine WC_fn Try.func25 rfl rfl ?_
  have hmA := hm.at (F := fun _ => True) fun _ _ => trivial
  have o1 := hmA.o.one
  have o2 := hmA.p.one
  have o3 := hmA.b.one
  have a1 := hc.a.one
  have w1 := hc.w.one
  have s1 := hmA.o.isSl
  have s2 := hmA.p.isSl
  have d2 := hmA.p.lenD
  have s3 := hmA.b.isSl
  have k5e : (c.kind == 5) = true := by rw [hk]; rfl
  obtain ⟨hp, hhp, EP, P0, C0, Z0, nP⟩ := made_boxes (H := H) (mC m vo vp vb) (cC c va vw) mz
  unfold mC at P0 hhp
  unfold cC at C0 hhp
  unfold mz at Z0 hhp
  have LP := ld_at (T := tabOf Try.prog NT0) P0
  have LC := ld_at (T := tabOf Try.prog NT0) C0
  have lP := at_lt P0
  have lC := at_lt C0
  have lZ := at_lt Z0
  have hne : ¬ H.n = H.n + 2 := by omega
  have hE : chMade m c = { m with pools := insP m.pools c.pool } := by unfold chMade; rw [if_pos hk]
  have hsp : m.pools.length < 4611686018427387904 := by have := hz.sp; omega
  have mp := hm.ext EP (Nat.le_refl _)
  have hbl : IsSl RBkt (fun k => (n0 ≤ k ∧ Apart vo k ∧ Apart vp k ∧ k ≠ p0) ∧ k < H.n) hp vb m.buckets := hm.b.lift fun b hb hlt => ⟨EP.2 _ hlt, hb, hlt⟩
  simp only [core, zrA, zrS, zrM, zrL, zrE, reduceCtorEq, zrD, ziE, ziL, ziN, Try.ntmps25, mpV, chV, o1, o2, o3, a1, w1, ← hhp, LP, LC, lP, lC, k5e, s1, s2, s3]
  obtain ⟨n, hN⟩ : ∃ n, n = m.pools.length := ⟨_, rfl⟩
  rw [← hN] at d2 hsp
  -- the end: box and result written over a heap where the pools' row is new
  have fin : ∀ (h : AH) (rp : AV), hp.n ≤ h.n → (∀ b, b < hp.n → Apart vp b → h.at b = hp.at b) → OwnE RPool n0 h rp 95 (insP m.pools c.pool) → (∀ b, b < hp.n → Apart vp b → Apart rp b) →
      Ext n0 H ((h.put H.n (.cells [.lit (.int .i64 m.epoch), vo, rp, vb, .lit (.int .i64 m.leaf)] 72)).put (H.n + 2) (.cells [.lit (.int .i64 m.epoch), vo, rp, vb, .lit (.int .i64 m.leaf)] 72)) ∧
      ((h.put H.n (.cells [.lit (.int .i64 m.epoch), vo, rp, vb, .lit (.int .i64 m.leaf)] 72)).put (H.n + 2) (.cells [.lit (.int .i64 m.epoch), vo, rp, vb, .lit (.int .i64 m.leaf)] 72)).at p0 = H.at p0 ∧
      OwnMp n0 p0 ((h.put H.n (.cells [.lit (.int .i64 m.epoch), vo, rp, vb, .lit (.int .i64 m.leaf)] 72)).put (H.n + 2) (.cells [.lit (.int .i64 m.epoch), vo, rp, vb, .lit (.int .i64 m.leaf)] 72)) { m with pools := insP m.pools c.pool } vo rp vb := by
    intro h rp hhn hk ho hap
    refine ⟨(Ext.put _ (Ext.put _ ⟨by have := EP.1; omega, fun b hb => ?_⟩ hn0) (by omega)), ?_, ⟨?_, ?_, ?_, hm.ao, hap _ (by omega) hm.ap⟩⟩
    · rw [hk b (by have := EP.1; omega) (hm.p.apartLt hb)]
      exact EP.2 b (by omega)
    · rw [at_put_ne _ (by omega), at_put_ne _ (by omega), hk _ (by omega) hm.ap]
      exact EP.2 _ hp0
    · refine ((mp.o.keep fun b off n cap hv => hk b (mp.o.blt b off n cap hv) (mp.o.sep mp.p (by decide) b off n cap hv)).put_ap (hm.o.apart (by omega))).put_ap (hm.o.apart (by omega))
    · exact (ho.put_ap (hap _ (by omega) (hm.p.apart (by omega)))).put_ap (hap _ (by omega) (hm.p.apart (by omega)))
    · refine hbl.lift fun b hb hlt => ⟨?_, hb.1.1, hb.1.2.1, hap b (by omega) hb.1.2.2.1, hb.1.2.2.2⟩
      have := hb.2
      rw [at_put_ne _ (by omega), at_put_ne _ (by omega)]
      exact hk b (by omega) hb.1.2.2.1
  refine WB_ind (fun (i : Nat) t h => h = hp ∧ i ≤ n ∧ (∀ j, j < i → (m.pools.getD j pool0).id < c.pool.id) ∧ t.n = 138 ∧ t.get 2 = .ptr H.n 0 ∧ t.get 3 = .ptr (H.n + 1) 0 ∧ t.get 4 = .ptr (H.n + 2) 0 ∧ t.get 5 = .lit (.int .i64 i)) (fun i => n - i) ?_ 0 _ _ ?_
  · rintro i t h ⟨rfl, hin, hj, hn, g2, g3, g4, g5⟩ ih
    by_cases hlt : i < n
    · obtain ⟨x, hx⟩ : ∃ x, m.pools[i]? = some x := ⟨_, List.getElem?_eq_getElem (by omega)⟩
      obtain ⟨cc, hc1, hld, hld0⟩ := hmA.p.atE (T := tabOf Try.prog NT0) EP RPool_z hx
      obtain ⟨rfl, hokx⟩ := RPool_is.1 hc1
      have hltI : ((i : Int) < (n : Int)) = True := by simp only [eq_iff_iff, iff_true]; omega
      have hws := wrap_succ hlt (by omega)
      by_cases hxl : x.id < c.pool.id
      · simp only [core, zrA, zrS, zrM, zrL, zrE, reduceCtorEq, zrD, ziE, ziL, ziN]
        rw [WB_regionD [0, 1, 2, 3, 4, 5, 6, 7, 8, 9, 10, 11, 12, 13, 14, 15, 16] 497317544944576001011160041067678386381011072683367138058344116058555441232145599692800 (by kernel_rfl)]
        repeat ((with_reducible refine WDM_cons ?_; simp only [dw1]; try simp only [dw2, zrA, zrM, zrR, zrO, zrE]); simp only [core, zrA, zrS, zrM, zrL, zrE, reduceCtorEq, zrD, ziE, ziL, ziN, cored, LP, LC, lP, lC, s2, d2, hn, g2, g3, g4, g5, hlt, hltI, hld, hld0, hxl])
        simp only [core, zrA, zrS, zrM, zrL, zrE, reduceCtorEq, zrD, ziE, ziL, ziN, hws, hn, g2, g3, g4, g5]
        refine ih (i + 1) _ _ ⟨rfl, hlt, fun j hji => ?_, ?_⟩ (by omega)
        · by_cases hji2 : j = i
          · subst hji2
            rw [List.getD_eq_getElem?_getD, hx]
            exact hxl
          · exact hj j (by omega)
        · simp only [core, zrA, zrS, zrM, zrL, zrE, reduceCtorEq, zrD, ziE, ziL, ziN, hn, g2, g3, g4, g5]
      · have hne0 : m.pools ≠ [] := fun hh => by rw [hh] at hx; simp at hx
        have row : ∃ q, vp = .sl q 0 m.pools.length (.un 4) ∧ n0 ≤ q ∧ q < H.n ∧ h.at q = some (.cells (m.pools.flatMap pC') 95) ∧ ∀ x ∈ m.pools, okP x := by
          rcases mp.p with ho | ⟨hh, _⟩
          · obtain ⟨q, hv, hq, hat, hok⟩ := ho.row flatP hne0
            exact ⟨q, hv, hq, hm.p.blt q _ _ _ hv, hat, hok⟩
          · exact absurd hh hne0
        obtain ⟨q, hv, hq, hqH, hat, hok⟩ := row
        have lq := at_lt hat
        have hq0 : ¬ q = H.n := by omega
        by_cases hxe : x.id = c.pool.id
        · have hxeb : (x.id == c.pool.id) = true := by simp [hxe]
          have hput := put_el (cf := pC') (z := 4) (y := c.pool) (fun _ => rfl) (show i < m.pools.length by omega)
          simp only [pC'] at hput
          have hv1 : slB vp = q := by rw [hv]; rfl
          have hv2 : slO vp = 0 := by rw [hv]; rfl
          have hat' : h.at (slB vp) = some (.cells (m.pools.flatMap pC') 95) := by rw [hv1]; exact hat
          have lq' := at_lt hat'
          have hput' : put (m.pools.flatMap pC') (slO vp + i * 4) [.lit (.int .i64 c.pool.id), .lit (.int .i64 c.pool.size), .lit (.int .i64 c.pool.min), .lit (.int .i64 c.pool.pgs)] = some ((m.pools.set i c.pool).flatMap pC') := by
            rw [hv2, Nat.zero_add]; exact hput
          obtain ⟨h2, hh2⟩ : ∃ h2, h2 = h.put q (.cells ((m.pools.set i c.pool).flatMap pC') 95) := ⟨_, rfl⟩
          have W2 : h2.at q = some (.cells ((m.pools.set i c.pool).flatMap pC') 95) := hh2 ▸ at_put_same _ lq
          have k2 : ∀ b, b ≠ q → h2.at b = h.at b := fun b hb => hh2 ▸ at_put_ne _ (Ne.symm hb)
          have n2 : h2.n = h.n := by rw [hh2, n_put]
          have P2 := (k2 _ (by omega)).trans P0
          have Z2 := (k2 _ (by omega)).trans Z0
          have LP2 := ld_at (T := tabOf Try.prog NT0) P2
          have lZ2 := at_lt Z2
          have hh2' : h.put (slB vp) (.cells ((m.pools.set i c.pool).flatMap pC') 95) = h2 := by rw [hv1]; exact hh2.symm
          simp only [core, zrA, zrS, zrM, zrL, zrE, reduceCtorEq, zrD, ziE, ziL, ziN]
          rw [WB_regionD [0, 1, 2, 3, 4, 5, 6, 7, 8, 9, 10, 11, 12, 13, 14, 15, 16] 497317544944576001011160041067678386381011072683367138058344116058555441232145599692800 (by kernel_rfl)]
          repeat ((with_reducible refine WDM_cons ?_; simp only [dw1]; try simp only [dw2, zrA, zrM, zrR, zrO, zrE]); simp only [core, zrA, zrS, zrM, zrL, zrE, reduceCtorEq, zrD, ziE, ziL, ziN, cored, LP, LC, lP, lC, s2, d2, hn, g2, g3, g4, g5, hlt, hltI, hld, hld0, hxl])
          rw [WB_regionD [0, 1, 2, 3, 4, 5, 6, 7, 8, 9, 10, 11, 12, 13, 14, 15, 16] 497317544944576001011160041067678386381011072683367138058344116058555441232145599692800 (by kernel_rfl)]
          repeat ((with_reducible refine WDM_cons ?_; simp only [dw1]; try simp only [dw2, zrA, zrM, zrR, zrO, zrE]); simp only [corem, WB_cond_s, put, ldL, WB_label, List.nil_append, List.drop_zero, List.take_zero, zrA, zrS, zrM, zrL, zrE, reduceCtorEq, zrD, ziE, ziL, ziN, cored, -put, LP, LC, lP, lC, s2, d2, hn, g2, g3, g4, g5, hlt, hltI, hld, hld0, hxl, hxeb, hat', lq', hput', hh2', LP2, Z2, lZ2, o1, o2, o3])
          have hI : insP m.pools c.pool = m.pools.set i c.pool := insP_eq hx hj hxe
          have E2 : Ext n0 H h2 := ⟨by have := EP.1; omega, fun b hb => (k2 b (by omega)).trans (EP.2 b (by omega))⟩
          have hqp : p0 ≠ q := fun hh => hm.ap 0 _ _ (hh ▸ hv)
          refine ⟨E2.put _ (by omega), by rw [at_put_ne _ (by omega), k2 _ hqp]; exact EP.2 _ hp0, vo, vp, vb, by rw [hE], ?_⟩
          rw [hE, hI]
          have hsep := mp.o.sep mp.p (by decide)
          refine ⟨((mp.o.keep fun b off n cap hv' => k2 b (fun hh => hsep b off n cap hv' 0 _ _ (hh ▸ hv))).put_ap (hm.o.apart (by omega))), ?_, ?_, hm.ao, hm.ap⟩
          · refine OwnE.put_ap (.inl ?_) (hm.p.apart (by omega))
            rw [hv]
            exact OwnL.ofRow flatP (by simp) hq W2 fun y hy => by
              rcases List.mem_or_eq_of_mem_set hy with hy | rfl
              · exact hok y hy
              · exact hc.hp
          · refine hbl.lift fun b hb hlt => ⟨?_, hb.1⟩
            have := hb.2
            rw [at_put_ne _ (by omega)]
            exact k2 b fun hh => hb.1.2.2.1 0 _ _ (hh ▸ hv)
        · have hxeb : (x.id == c.pool.id) = false := by simp [hxe]
          simp only [core, zrA, zrS, zrM, zrL, zrE, reduceCtorEq, zrD, ziE, ziL, ziN]
          rw [WB_regionD [0, 1, 2, 3, 4, 5, 6, 7, 8, 9, 10, 11, 12, 13, 14, 15, 16] 497317544944576001011160041067678386381011072683367138058344116058555441232145599692800 (by kernel_rfl)]
          repeat ((with_reducible refine WDM_cons ?_; simp only [dw1]; try simp only [dw2, zrA, zrM, zrR, zrO, zrE]); simp only [core, zrA, zrS, zrM, zrL, zrE, reduceCtorEq, zrD, ziE, ziL, ziN, cored, LP, LC, lP, lC, s2, d2, hn, g2, g3, g4, g5, hlt, hltI, hld, hld0, hxl])
          rw [WB_regionD [0, 1, 2, 3, 4, 5, 6, 7, 8, 9, 10, 11, 12, 13, 14, 15, 16] 497317544944576001011160041067678386381011072683367138058344116058555441232145599692800 (by kernel_rfl)]
          repeat ((with_reducible refine WDM_cons ?_; simp only [dw1]; try simp only [dw2, zrA, zrM, zrR, zrO, zrE]); simp only [core, zrA, zrS, zrM, zrL, zrE, reduceCtorEq, zrD, ziE, ziL, ziN, cored, LP, LC, lP, lC, s2, d2, hn, g2, g3, g4, g5, hlt, hltI, hld, hld0, hxl, hxeb])
          rw [hv]
          have hcut : cut (m.pools.flatMap pC') 0 (m.pools.length * 4) = some (m.pools.flatMap pC') := by
            unfold cut
            have := flatMap_len (cf := pC') (z := 4) (fun _ => rfl) m.pools
            rw [if_pos (by omega), List.drop_zero, ← this, List.take_length]
          have hIg : insP m.pools c.pool = m.pools.take i ++ c.pool :: m.pools.drop i := insP_gt hx hj (by omega)
          have hrow : (m.pools.flatMap pC').take (i * 4) ++ pC' c.pool ++ (m.pools.flatMap pC').drop (i * 4) = (insP m.pools c.pool).flatMap pC' := by
            have h3 := flatMap_len (cf := pC') (z := 4) (fun _ => rfl) (m.pools.take i)
            rw [List.length_take, Nat.min_eq_left (by omega)] at h3
            have h4 : m.pools.flatMap pC' = (m.pools.take i).flatMap pC' ++ (m.pools.drop i).flatMap pC' := by rw [← List.flatMap_append, List.take_append_drop]
            rw [hIg, List.flatMap_append, List.flatMap_cons, h4, List.take_left' h3, List.drop_left' h3, List.append_assoc]
          have hlenI : (insP m.pools c.pool).length = m.pools.length + 1 := by rw [hIg]; simp; omega
          refine ins_c (l2 := pC' c.pool) (new := pC' c.pool) ((at_push_lt _ lq).trans hat) (at_push_n _ _) hcut rfl (by have := hz.sp; omega) (by omega) rfl ?_ (by omega) ?_
          · rw [List.all_eq_true]
            intro v hv'
            obtain ⟨y, _, hy⟩ := List.mem_flatMap.1 hv'
            simp only [pC', List.mem_cons, List.not_mem_nil, or_false] at hy
            rcases hy with rfl | rfl | rfl | rfl <;> rfl
          rw [hrow]
          obtain ⟨h2, hh2⟩ : ∃ h2, h2 = ((h.push (.cells (pC' c.pool) 95)).put q .gone).push (.cells ((insP m.pools c.pool).flatMap pC') 95) := ⟨_, rfl⟩
          have n2 : h2.n = h.n + 2 := by rw [hh2, n_push, n_put, n_push]
          have W2 : h2.at (h.n + 1) = some (.cells ((insP m.pools c.pool).flatMap pC') 95) := by
            have := at_push_n ((h.push (.cells (pC' c.pool) 95)).put q .gone) (.cells ((insP m.pools c.pool).flatMap pC') 95)
            rw [n_put, n_push] at this
            rw [hh2]
            exact this
          have k2 : ∀ b, b < h.n → b ≠ q → h2.at b = h.at b := fun b hb hbq => by
            rw [hh2, at_push_lt _ (by rw [n_put, n_push]; omega), at_put_ne _ (Ne.symm hbq), at_push_lt _ hb]
          have hgo : (h.push (.cells (pC' c.pool) 95)).n = h.n + 1 := n_push _ _
          have hpc : ((h.push (.cells [.lit (.int .i64 c.pool.id), .lit (.int .i64 c.pool.size), .lit (.int .i64 c.pool.min), .lit (.int .i64 c.pool.pgs)] 95)).put q .gone).push (.cells ((insP m.pools c.pool).flatMap pC') 95) = h2 := hh2.symm
          have hone : (AV.sl (h.n + 1) 0 (m.pools.length + 1) (.un 4)).one = true := rfl
          have P2 := (k2 _ lP (by omega)).trans P0
          have Z2 := (k2 _ lZ (by omega)).trans Z0
          have LP2 := ld_at (T := tabOf Try.prog NT0) P2
          have lZ2 := at_lt Z2
          have lP2 := at_lt P2
          simp only [core, zrA, zrS, zrM, zrL, zrE, reduceCtorEq, zrD, ziE, ziL, ziN, hpc, P2, LP2, lP2, Z2, lZ2, o1, o3, hne, hn, g2, g3, g4, g5]
          obtain ⟨f1, f3, f2⟩ := fin h2 (.sl (h.n + 1) 0 (m.pools.length + 1) (.un 4)) (by omega) (fun b hb hab => k2 b hb (fun hh => hab 0 _ _ (hh ▸ hv))) (.inl (OwnL.ofRow flatP hlenI.symm (by omega) W2 (by
            rw [hIg]
            intro y hy
            rcases List.mem_append.1 hy with hy | hy
            · exact hok y (List.mem_of_mem_take hy)
            · rcases List.mem_cons.1 hy with rfl | hy
              · exact hc.hp
              · exact hok y (List.mem_of_mem_drop hy)))) (fun b hb _ off n cap e => by cases e; omega)
          exact ⟨f1, f3, vo, _, vb, by rw [hE], by rw [hE]; exact f2⟩
    · have hltI : ((i : Int) < (n : Int)) = False := by simp only [eq_iff_iff, iff_false]; omega
      simp only [core, zrA, zrS, zrM, zrL, zrE, reduceCtorEq, zrD, ziE, ziL, ziN]
      rw [WB_regionD [0, 1, 2, 3, 4, 5, 6, 7, 8, 9, 10, 11, 12, 13, 14, 15, 16] 497317544944576001011160041067678386381011072683367138058344116058555441232145599692800 (by kernel_rfl)]
      repeat ((with_reducible refine WDM_cons ?_; simp only [dw1]; try simp only [dw2, zrA, zrM, zrR, zrO, zrE]); simp only [core, zrA, zrS, zrM, zrL, zrE, reduceCtorEq, zrD, ziE, ziL, ziN, cored, LP, LC, lP, lC, s2, d2, hn, g2, g3, g4, g5, hlt, hltI])
      rw [WB_regionD [0, 1, 2, 3, 4, 5, 6, 7, 8, 9, 10, 11, 12, 13, 14, 15, 16] 497317544944576001011160041067678386381011072683367138058344116058555441232145599692800 (by kernel_rfl)]
      repeat ((with_reducible refine WDM_cons ?_; simp only [dw1]; try simp only [dw2, zrA, zrM, zrR, zrO, zrE]); simp only [core, zrA, zrS, zrM, zrL, zrE, reduceCtorEq, zrD, ziE, ziL, ziN, cored, LP, LC, lP, lC, s2, d2, hn, g2, g3, g4, g5, hlt, hltI])
      have hid : i = lenD vp := by omega
      obtain ⟨h1, hh1⟩ : ∃ h1, h1 = h.push (.cells [.lit (.int .i64 c.pool.id), .lit (.int .i64 c.pool.size), .lit (.int .i64 c.pool.min), .lit (.int .i64 c.pool.pgs)] 95) := ⟨_, rfl⟩
      have e1 : Ext h.n h h1 := hh1 ▸ (Ext.refl _ _).push _ (Nat.le_refl _)
      have A1 : h1.at h.n = some (.cells (pC' c.pool) 95) := hh1 ▸ at_push_n _ _
      have n1 : h1.n = h.n + 1 := by rw [hh1, n_push]
      rw [← hh1, hid]
      clear hh1
      have p1 := mp.p.ext e1 (Nat.le_refl _)
      have hg2 : getR h1 h.n = some (pC' c.pool) := by unfold getR; rw [A1]
      have hbig : (lenD vp + 1) * 32 ≤ 140737488355328 := by have := hz.sp; omega
      have hIe : insP m.pools c.pool = m.pools ++ [c.pool] := insP_end fun j hjl => hj j (by omega)
      obtain ⟨s', h2, ha, hs', f2⟩ := p1.snoc (T := tabOf Try.prog NT0) (t := 69) (y := c.pool) (cap := .kn 1) flatP (by kernel_rfl) (by kernel_rfl) (zv := .agg [.lit (.int .i64 0), .lit (.int .i64 0), .lit (.int .i64 0), .lit (.int .i64 0)]) (by kernel_rfl) (by' := 32) (by kernel_rfl) rfl (by decide) (by decide) A1 (RPool_is.2 ⟨rfl, hc.hp⟩) (by omega) (by rw [← d2.trans hN]; exact hbig) (by omega)
      rw [insA_eq s2 hbig hg2 rfl rfl] at ha
      refine insA_c s2 mp.p.capOk hg2 rfl hbig rfl ha ?_
      have fr : Fr h vp h2 s' := (Fr.ext e1).trans f2
      have ap0 := hm.p.apart (b := H.n) (by omega)
      have ap2 := hm.p.apart (b := H.n + 2) (by omega)
      have P2 := (fr.2 _ lP ap0).1.trans P0
      have Z2 := (fr.2 _ lZ ap2).1.trans Z0
      have LP2 := ld_at (T := tabOf Try.prog NT0) P2
      have lZ2 := at_lt Z2
      have lP2 := at_lt P2
      have q1 := (hs'.toSl (F := fun _ => True) (fun _ _ => trivial)).one
      simp only [core, zrA, zrS, zrM, zrL, zrE, reduceCtorEq, zrD, ziE, ziL, ziN, P2, LP2, lP2, Z2, lZ2, o1, o3, q1, hne, hn, g2, g3, g4, g5]
      have f0 := fr.1
      obtain ⟨f1, f3, f2⟩ := fin h2 s' (by omega) (fun b hb hab => (fr.2 b hb hab).1) (by rw [hIe]; exact hs') (fun b hb hab => (fr.2 b hb hab).2)
      exact ⟨f1, f3, vo, _, vb, by rw [hE], by rw [hE]; exact f2⟩
  · refine ⟨rfl, Nat.zero_le _, fun j hj => by omega, ?_⟩
    simp only [core, zrA, zrS, zrM, zrL, zrE, reduceCtorEq, zrD, ziE, ziL, ziN]
    simp
end Go.Proofs.Ytjkmmbfenhhjkaa.Ex
end

section

set_option linter.unusedSimpArgs false
set_option linter.unusedVariables false
set_option maxRecDepth 10000
set_option maxHeartbeats 4000000
namespace Go.Proofs.Ytjkmmbfenhhjkaa.Ex
open Go
theorem grow_step {l : List OsdD} {k n : Nat} (h : n + 1 ≤ l.length + k) (hk : k = 0 ∨ l.length + k ≤ n + 1) : l ++ List.replicate k osd0 = growO l n := by
  unfold growO
  congr 2
  omega
theorem rep_succ (l : List OsdD) (k : Nat) : l ++ List.replicate k osd0 ++ [osd0] = l ++ List.replicate (k + 1) osd0 := by
  rw [List.replicate_succ', List.append_assoc]
theorem okO0 : okO osd0 := by unfold okO I64 osd0; decide
theorem wrap_I64 (n : Int) : I64 (IntKind.i64.wrap n) := by rw [IntKind.wrap_i64]; unfold I64; omega
theorem madeO_x {F : Nat → Prop} {H : AH} {m : MapD} {vo vp vb va vw : AV} {n0 p0 : Nat} (c : ChD) {k : Nat} (hm : OwnMp n0 p0 H m vo vp vb) (hn0 : n0 ≤ H.n) (hp0 : p0 < H.n) (hz : MpSz m) (hc : ChIn F H c va vw) (hk : isOs c.kind) (ho : c.osd = (k : Int)) (hk8 : k < 8) :
    WC Try.prog (tabOf Try.prog NT0) S0 25 [mpV m vo vp vb, chV c va vw] H fun r h' => Ext n0 H h' ∧ h'.at p0 = H.at p0 ∧ ∃ ro rp rb, r = mpV (chMade m c) ro rp rb ∧ OwnMp n0 p0 h' (chMade m c) ro rp rb := by
  refine WC_fn Try.func25 rfl rfl ?_
  have hmA := hm.at (F := fun _ => True) fun _ _ => trivial
  have o1 := hmA.o.one
  have o2 := hmA.p.one
  have o3 := hmA.b.one
  have a1 := hc.a.one
  have w1 := hc.w.one
  have s1 := hmA.o.isSl
  have s2 := hmA.p.isSl
  have d1 := hmA.o.lenD
  have s3 := hmA.b.isSl
  have k5e : (c.kind == 5) = false := by unfold isOs at hk; simp; omega
  have k6e : (c.kind == 6) = false := by unfold isOs at hk; simp; omega
  have k7e : (c.kind == 7) = false := by unfold isOs at hk; simp; omega
  obtain ⟨hp, hhp, EP, P0, C0, Z0, nP⟩ := made_boxes (H := H) (mC m vo vp vb) (cC c va vw) mz
  unfold mC at P0 hhp
  unfold cC at C0 hhp
  unfold mz at Z0 hhp
  have LP := ld_at (T := tabOf Try.prog NT0) P0
  have LC := ld_at (T := tabOf Try.prog NT0) C0
  have lP := at_lt P0
  have lC := at_lt C0
  have lZ := at_lt Z0
  have hne : ¬ H.n = H.n + 2 := by omega
  have hE : chMade m c = setO m k (newOs m.epoch (osdG m (k : Int)) c.kind c.value) := by
    unfold chMade
    unfold isOs at hk
    rw [if_neg (by omega), if_neg (by omega), if_neg (by omega), ho]
    rfl
  have mp := hm.ext EP (Nat.le_refl _)
  have hbl : IsSl RBkt (fun k => n0 ≤ k ∧ Apart vo k ∧ Apart vp k ∧ k < H.n ∧ k ≠ p0) hp vb m.buckets := hm.b.lift fun b hb hlt => ⟨EP.2 _ hlt, hb.1, hb.2.1, hb.2.2.1, hlt, hb.2.2.2⟩
  have hso : m.osds.length < 4611686018427387904 := by have := hz.so; unfold Sm at this; omega
  simp only [core, zrA, zrS, zrM, zrL, zrE, reduceCtorEq, zrD, ziE, ziL, ziN, Try.ntmps25, mpV, chV, o1, o2, o3, a1, w1, ← hhp, LP, LC, lP, lC, k5e, k6e, k7e, s1, s2, s3]
  refine WB_ind (fun (j : Nat) t h => ∃ v, h.at H.n = some (.cells [.lit (.int .i64 m.epoch), v, vp, vb, .lit (.int .i64 m.leaf)] 72) ∧ h.at (H.n + 1) = hp.at (H.n + 1) ∧ h.at (H.n + 2) = hp.at (H.n + 2) ∧ (j = 0 ∨ m.osds.length + j ≤ k + 1) ∧
      OwnE ROsd n0 h v 113 (m.osds ++ List.replicate j osd0) ∧ OwnE RPool n0 h vp 95 m.pools ∧ IsSl RBkt (fun k => n0 ≤ k ∧ Apart v k ∧ Apart vp k ∧ k < H.n ∧ k ≠ p0) h vb m.buckets ∧ Apart v p0 ∧ h.at p0 = H.at p0 ∧ Ext n0 H h ∧ hp.n ≤ h.n ∧ Apart v H.n ∧ Apart v (H.n + 1) ∧ Apart v (H.n + 2) ∧ t.n = 138 ∧ t.get 2 = .ptr H.n 0 ∧ t.get 3 = .ptr (H.n + 1) 0 ∧ t.get 4 = .ptr (H.n + 2) 0) (fun j => k + 1 - j) ?_ 0 _ _ ?_
  · rintro j t h ⟨v, PH, CH, ZH, hj, ov, ovp, ib, avp, hp0e, EH, lhn, av0, av1, av2, hn, g2, g3, g4⟩ ih
    rw [C0] at CH
    rw [Z0] at ZH
    have LPH := ld_at (T := tabOf Try.prog NT0) PH
    have LCH := ld_at (T := tabOf Try.prog NT0) CH
    have lPH := at_lt PH
    have lCH := at_lt CH
    have lZH := at_lt ZH
    have ovs := ov.toSl (F := fun _ => True) (fun _ _ => trivial)
    have t1 := ovs.isSl
    have t2 := ovs.lenD
    have t3 := ovs.one
    obtain ⟨n, hN⟩ : ∃ n, n = (m.osds ++ List.replicate j osd0).length := ⟨_, rfl⟩
    have hN' : n = m.osds.length + j := by rw [hN, List.length_append, List.length_replicate]
    rw [← hN] at t2
    by_cases hlt : n ≤ k
    · have hltI : ((n : Int) ≤ (k : Int)) = True := by simp only [eq_iff_iff, iff_true]; omega
      have ap2 := hm.p.apart (b := H.n) (by omega)
      simp only [core, zrA, zrS, zrM, zrL, zrE, reduceCtorEq, zrD, ziE, ziL, ziN, hn, g2, g3, g4, LPH, LCH, lPH, lCH, t1, t2, t3, s2, s3, ho, hltI]
      have A1 := at_push_n h (.cells (oC' osd0) 113)
      have eA : Ext h.n h (h.push (.cells (oC' osd0) 113)) := (Ext.refl _ _).push _ (Nat.le_refl _)
      refine WOp_app ((ov.ext eA (Nat.le_refl _)).snoc (T := tabOf Try.prog NT0) (y := osd0) (cap := .kn 1) flatO (by kernel_rfl) (by kernel_rfl) (zv := .agg [.lit (.bool false), .lit (.bool false), .lit (.int .i64 0), .lit (.int .i64 0), .lit (.int .i64 0), .lit (.int .i64 0)]) (by kernel_rfl) (by' := 40) (by kernel_rfl) rfl (by decide) (by decide) A1 (ROsd_is.2 ⟨rfl, okO0⟩) (by rw [← hN]; omega) (by rw [← hN]; omega) (by rw [n_push]; have := EH.1; omega)) ?_
      rintro s' h2 ⟨os', f2⟩
      have lfn := f2.1
      rw [n_push] at lfn
      have P1 : (h.push (.cells (oC' osd0) 113)).at H.n = _ := (at_push_lt _ lPH).trans PH
      have C1 : (h.push (.cells (oC' osd0) 113)).at (H.n + 1) = _ := (at_push_lt _ lCH).trans CH
      have Z1 : (h.push (.cells (oC' osd0) 113)).at (H.n + 2) = _ := (at_push_lt _ lZH).trans ZH
      obtain ⟨P2, bp0⟩ := f2.box P1 av0
      obtain ⟨C2, bp1⟩ := f2.box C1 av1
      obtain ⟨Z2, bp2⟩ := f2.box Z1 av2
      have LP2 := ld_at (T := tabOf Try.prog NT0) P2
      have lP2 := at_lt P2
      have q1 := (os'.toSl (F := fun _ => True) (fun _ _ => trivial)).one
      have q2 := (os'.toSl (F := fun _ => True) (fun _ _ => trivial)).isSl
      simp only [core, zrA, zrS, zrM, zrL, zrE, reduceCtorEq, zrD, ziE, ziL, ziN, hn, g2, g3, g4, P2, LP2, lP2, q1, q2]
      refine ih (j + 1) _ _ ⟨s', at_put_same _ lP2, by rw [at_put_ne _ (by omega), C2, C0], by rw [at_put_ne _ (by omega), Z2, Z0], .inr (by omega), ?_, ?_, ?_, (f2.2 _ (by rw [n_push]; omega) avp).2, by rw [at_put_ne _ (by omega), (f2.2 _ (by rw [n_push]; omega) avp).1, at_push_lt _ (by omega)]; exact hp0e, ?_, by rw [n_put]; omega, bp0, bp1, bp2, ?_⟩ (by omega)
      · rw [← rep_succ]
        exact os'.put_ap bp0
      · exact ((ovp.ext eA (Nat.le_refl _)).fr (ov.ext eA (Nat.le_refl _)) (by decide) f2).put_ap (hm.p.apart (by omega))
      · refine ib.lift fun b hb hlb => ?_
        obtain ⟨k1, k2⟩ := f2.2 b (by rw [n_push]; omega) hb.2.1
        have := hb.2.2.2.1
        exact ⟨by rw [at_put_ne _ (by omega), k1, at_push_lt _ hlb], hb.1, k2, hb.2.2.1, hb.2.2.2⟩
      · refine Ext.put _ ⟨by have := EH.1; omega, fun b hb => ?_⟩ hn0
        have := EH.1
        rw [(f2.2 b (by rw [n_push]; omega) (ov.apartLt hb)).1, at_push_lt _ (by omega)]
        exact EH.2 b hb
      · simp only [core, zrA, zrS, zrM, zrL, zrE, reduceCtorEq, zrD, ziE, ziL, ziN, hn, g2, g3, g4]
    · have hltI : ((n : Int) ≤ (k : Int)) = False := by simp only [eq_iff_iff, iff_false]; omega
      have hgr : m.osds ++ List.replicate j osd0 = growO m.osds k := grow_step (by omega) hj
      have hkn : k < n := by omega
      obtain ⟨l, hl⟩ : ∃ l, l = m.osds ++ List.replicate j osd0 := ⟨_, rfl⟩
      rw [← hl] at ov ovs hN hgr
      obtain ⟨x, hx⟩ : ∃ x, l[k]? = some x := ⟨_, List.getElem?_eq_getElem (by omega)⟩
      have hxG : osdG m (k : Int) = x := by
        rw [osdG_get (by omega), Int.toNat_natCast, ← grow_get m.osds k k, ← hgr, List.getD_eq_getElem?_getD, hx]
        rfl
      have hlne : l ≠ [] := fun hh => by rw [hh] at hx; simp at hx
      have row : ∃ q, v = .sl q 0 l.length (.un 6) ∧ n0 ≤ q ∧ h.at q = some (.cells (l.flatMap oC') 113) ∧ ∀ x ∈ l, okO x := by
        rcases ov with hov | ⟨hh, _⟩
        · exact hov.row flatO hlne
        · exact absurd hh hlne
      obtain ⟨q, hv, hq, hat, hok⟩ := row
      have hv1 : slB v = q := by rw [hv]; rfl
      have hv2 : slO v = 0 := by rw [hv]; rfl
      have hat' : h.at (slB v) = some (.cells (l.flatMap oC') 113) := by rw [hv1]; exact hat
      have lq := at_lt hat
      have lq' := at_lt hat'
      obtain ⟨cc, hc1, hld, hld0⟩ := ovs.at (T := tabOf Try.prog NT0) ROsd_z hx
      obtain ⟨rfl, okx⟩ := ROsd_is.1 hc1
      have hq0 : q ≠ H.n := fun hh => av0 0 _ _ (hh ▸ hv)
      have hq1 : q ≠ H.n + 1 := fun hh => av1 0 _ _ (hh ▸ hv)
      have hq2 : q ≠ H.n + 2 := fun hh => av2 0 _ _ (hh ▸ hv)
      have hsep := ovp.sep ov (by decide)
      have hb0 : ¬ slB v = H.n := by rw [hv1]; exact hq0
      have hb1 : ¬ slB v = H.n + 1 := by rw [hv1]; exact hq1
      have finO : ∀ (h' : AH) (y : OsdD) (X : AB), okO y → h'.n = h.n → (∀ b, b ≠ q → h'.at b = h.at b) → h'.at q = some (.cells ((l.set k y).flatMap oC') 113) → newOs m.epoch x c.kind c.value = y →
          Ext n0 H (h'.put (H.n + 2) X) ∧ (h'.put (H.n + 2) X).at p0 = H.at p0 ∧ ∃ ro rp rb, AV.agg [.lit (.int .i64 m.epoch), v, vp, vb, .lit (.int .i64 m.leaf)] = .agg [.lit (.int .i64 (chMade m c).epoch), ro, rp, rb, .lit (.int .i64 (chMade m c).leaf)] ∧ OwnMp n0 p0 (h'.put (H.n + 2) X) (chMade m c) ro rp rb := by
        intro h' y X oky hn' hk' hat2 hnew
        have hE' : chMade m c = { m with osds := l.set k y } := by rw [hE, hxG, hnew, hgr]; rfl
        refine ⟨Ext.put _ ⟨by have := EH.1; omega, fun b hb => (hk' b (by omega)).trans (EH.2 b hb)⟩ (by omega), by rw [at_put_ne _ (by omega), hk' _ (fun hh => avp 0 _ _ (hh ▸ hv))]; exact hp0e, v, vp, vb, by rw [hE'], ?_⟩
        rw [hE']
        refine ⟨?_, ?_, ?_, avp, hm.ap⟩
        · refine OwnE.put_ap (.inl ?_) av2
          rw [hv]
          exact OwnL.ofRow flatO (by simp) hq hat2 fun y' hy => by
            rcases List.mem_or_eq_of_mem_set hy with hy | rfl
            · exact hok y' hy
            · exact oky
        · exact (ovp.keep fun b off n cap hv' => hk' b (fun hh => hsep b off n cap hv' 0 _ _ (hh ▸ hv))).put_ap (hm.p.apart (by omega))
        · refine ib.lift fun b hb hlb => ⟨?_, hb.1, hb.2.1, hb.2.2.1, hb.2.2.2.2⟩
          have := hb.2.2.2.1
          rw [at_put_ne _ (by omega)]
          exact hk' b fun hh => hb.2.1 0 _ _ (hh ▸ hv)
      have hkl : k < l.length := by omega
      have pf : ∀ (l2 : List OsdD) (x2 y : OsdD) (f : Nat) (u : AV), l2[k]? = some x2 → f < 6 → oC' y = (oC' x2).set f u → put (l2.flatMap oC') (slO v + k * 6 + f) [u] = some ((l2.set k y).flatMap oC') := by
        intro l2 x2 y f u hx2 hf hy
        rw [hv2, Nat.zero_add]
        exact put_flat (fun _ => rfl) hx2 hf hy
      obtain ⟨ex, up, w, bt, uf, ut⟩ := x
      simp only at hld hld0
      have one1 : ∀ (h2 : AH) (y : OsdD), h2 = h.put (slB v) (.cells ((l.set k y).flatMap oC') 113) → h2.n = h.n ∧ (∀ b, b ≠ q → h2.at b = h.at b) ∧ h2.at q = some (.cells ((l.set k y).flatMap oC') 113) := by
        rintro h2 y rfl
        rw [hv1]
        exact ⟨n_put _ _ _, fun b hb => at_put_ne _ (Ne.symm hb), at_put_same _ lq⟩
      rcases hk with k1 | k1 | k1 | k1
      · have e1 : (c.kind == 1) = true := by simp [k1]
        have I64w : I64 (65536 : Int) := by unfold I64; decide
        cases ex with
        | true =>
          have hput0 := pf (l) ⟨true, up, w, bt, uf, ut⟩ ⟨true, up, w, bt, uf, ut⟩ 0 (.lit (.bool true)) hx (by decide) rfl
          simp only [Nat.add_zero] at hput0
          have hput1 := pf ((l).set k ⟨true, up, w, bt, uf, ut⟩) ⟨true, up, w, bt, uf, ut⟩ ⟨true, true, w, bt, uf, ut⟩ 1 (.lit (.bool true)) (List.getElem?_set_self (by first | exact hkl | (simp only [List.length_set]; exact hkl))) (by decide) rfl
          have hput2 := pf (((l).set k ⟨true, up, w, bt, uf, ut⟩).set k ⟨true, true, w, bt, uf, ut⟩) ⟨true, true, w, bt, uf, ut⟩ ⟨true, true, w, c.value, uf, ut⟩ 3 (.lit (.int .i64 c.value)) (List.getElem?_set_self (by first | exact hkl | (simp only [List.length_set]; exact hkl))) (by decide) rfl
          have hput3 := pf ((((l).set k ⟨true, up, w, bt, uf, ut⟩).set k ⟨true, true, w, bt, uf, ut⟩).set k ⟨true, true, w, c.value, uf, ut⟩) ⟨true, true, w, c.value, uf, ut⟩ ⟨true, true, w, c.value, (IntKind.i64.wrap (m.epoch + 1)), ut⟩ 4 (.lit (.int .i64 (IntKind.i64.wrap (m.epoch + 1)))) (List.getElem?_set_self (by first | exact hkl | (simp only [List.length_set]; exact hkl))) (by decide) rfl
          obtain ⟨h2, hh2⟩ : ∃ h2, h2 = ((((h).put (slB v) (.cells (((l).set k ⟨true, up, w, bt, uf, ut⟩).flatMap oC') 113)).put (slB v) (.cells ((((l).set k ⟨true, up, w, bt, uf, ut⟩).set k ⟨true, true, w, bt, uf, ut⟩).flatMap oC') 113)).put (slB v) (.cells (((((l).set k ⟨true, up, w, bt, uf, ut⟩).set k ⟨true, true, w, bt, uf, ut⟩).set k ⟨true, true, w, c.value, uf, ut⟩).flatMap oC') 113)).put (slB v) (.cells ((((((l).set k ⟨true, up, w, bt, uf, ut⟩).set k ⟨true, true, w, bt, uf, ut⟩).set k ⟨true, true, w, c.value, uf, ut⟩).set k ⟨true, true, w, c.value, (IntKind.i64.wrap (m.epoch + 1)), ut⟩).flatMap oC') 113) := ⟨_, rfl⟩
          have n2 : h2.n = h.n := by rw [hh2]; simp only [n_put]
          have k2 : ∀ b, b ≠ q → h2.at b = h.at b := fun b hb => by rw [hh2, hv1]; simp only [at_put_ne _ (Ne.symm hb)]
          have W2 : h2.at q = some (.cells ((l.set k ⟨true, true, w, c.value, (IntKind.i64.wrap (m.epoch + 1)), ut⟩).flatMap oC') 113) := by
            rw [hh2, hv1, at_put_same _ (by simp only [n_put]; exact lq)]
            simp only [List.set_set]
          have P2 := (k2 _ (Ne.symm hq0)).trans PH
          have Z2 := (k2 _ (Ne.symm hq2)).trans ZH
          have LP2 := ld_at (T := tabOf Try.prog NT0) P2
          have lZ2 := at_lt Z2
          simp only [corem, WB_cond_s, put, ldL, WB_label, List.nil_append, List.drop_zero, List.take_zero, zrA, zrS, zrM, zrL, zrE, reduceCtorEq, zrD, ziE, ziL, ziN, -put, hn, g2, g3, g4, LPH, LCH, lPH, lCH, t1, t2, t3, s2, s3, ho, hltI, hkn, e1, hld, hld0, hb0, hb1, same_int, hat', lq', hput0, hput1, hput2, hput3, ← hh2, LP2, Z2, lZ2, o2, o3]
          rw [WB_regionD [0, 1, 2, 3, 4, 5, 6, 7, 8, 9, 10, 11, 12, 13, 14, 15, 16, 17, 18, 19, 20] 2839211736014648557665625145243202673207761677055053730083980496644075090390337902035124234349416132990381754724532346531952526884864 (by kernel_rfl)]
          repeat (first | ((with_reducible refine WDM_cons ?_; simp only [dw1]; try simp only [dw2, zrA, zrM, zrR, zrO, zrE]); simp only [corem, WB_cond_s, put, ldL, WB_label, List.nil_append, List.drop_zero, List.take_zero, zrA, zrS, zrM, zrL, zrE, reduceCtorEq, zrD, ziE, ziL, ziN, cored, -put, hn, g2, g3, g4, LPH, LCH, lPH, lCH, t1, t2, t3, s2, s3, ho, hltI, hkn, e1, hld, hld0, hb0, hb1, same_int, hat', lq', hput0, hput1, hput2, hput3, ← hh2, LP2, Z2, lZ2, o2, o3]) | simp only [corem, WB_cond_s, put, ldL, WB_label, List.nil_append, List.drop_zero, List.take_zero, zrA, zrS, zrM, zrL, zrE, reduceCtorEq, zrD, ziE, ziL, ziN, cored, -put, hn, g2, g3, g4, LPH, LCH, lPH, lCH, t1, t2, t3, s2, s3, ho, hltI, hkn, e1, hld, hld0, hb0, hb1, same_int, hat', lq', hput0, hput1, hput2, hput3, ← hh2, LP2, Z2, lZ2, o2, o3])
          exact finO h2 ⟨true, true, w, c.value, (IntKind.i64.wrap (m.epoch + 1)), ut⟩ _ ⟨okx.1, hc.hv, wrap_I64 _, okx.2.2.2⟩ n2 k2 W2 (by simp [newOs, k1])
        | false =>
          have hput0 := pf (l) ⟨false, up, w, bt, uf, ut⟩ ⟨false, up, 65536, bt, uf, ut⟩ 2 (.lit (.int .i64 65536)) hx (by decide) rfl
          have hput1 := pf ((l).set k ⟨false, up, 65536, bt, uf, ut⟩) ⟨false, up, 65536, bt, uf, ut⟩ ⟨true, up, 65536, bt, uf, ut⟩ 0 (.lit (.bool true)) (List.getElem?_set_self (by first | exact hkl | (simp only [List.length_set]; exact hkl))) (by decide) rfl
          simp only [Nat.add_zero] at hput1
          have hput2 := pf (((l).set k ⟨false, up, 65536, bt, uf, ut⟩).set k ⟨true, up, 65536, bt, uf, ut⟩) ⟨true, up, 65536, bt, uf, ut⟩ ⟨true, true, 65536, bt, uf, ut⟩ 1 (.lit (.bool true)) (List.getElem?_set_self (by first | exact hkl | (simp only [List.length_set]; exact hkl))) (by decide) rfl
          have hput3 := pf ((((l).set k ⟨false, up, 65536, bt, uf, ut⟩).set k ⟨true, up, 65536, bt, uf, ut⟩).set k ⟨true, true, 65536, bt, uf, ut⟩) ⟨true, true, 65536, bt, uf, ut⟩ ⟨true, true, 65536, c.value, uf, ut⟩ 3 (.lit (.int .i64 c.value)) (List.getElem?_set_self (by first | exact hkl | (simp only [List.length_set]; exact hkl))) (by decide) rfl
          have hput4 := pf (((((l).set k ⟨false, up, 65536, bt, uf, ut⟩).set k ⟨true, up, 65536, bt, uf, ut⟩).set k ⟨true, true, 65536, bt, uf, ut⟩).set k ⟨true, true, 65536, c.value, uf, ut⟩) ⟨true, true, 65536, c.value, uf, ut⟩ ⟨true, true, 65536, c.value, (IntKind.i64.wrap (m.epoch + 1)), ut⟩ 4 (.lit (.int .i64 (IntKind.i64.wrap (m.epoch + 1)))) (List.getElem?_set_self (by first | exact hkl | (simp only [List.length_set]; exact hkl))) (by decide) rfl
          obtain ⟨h2, hh2⟩ : ∃ h2, h2 = (((((h).put (slB v) (.cells (((l).set k ⟨false, up, 65536, bt, uf, ut⟩).flatMap oC') 113)).put (slB v) (.cells ((((l).set k ⟨false, up, 65536, bt, uf, ut⟩).set k ⟨true, up, 65536, bt, uf, ut⟩).flatMap oC') 113)).put (slB v) (.cells (((((l).set k ⟨false, up, 65536, bt, uf, ut⟩).set k ⟨true, up, 65536, bt, uf, ut⟩).set k ⟨true, true, 65536, bt, uf, ut⟩).flatMap oC') 113)).put (slB v) (.cells ((((((l).set k ⟨false, up, 65536, bt, uf, ut⟩).set k ⟨true, up, 65536, bt, uf, ut⟩).set k ⟨true, true, 65536, bt, uf, ut⟩).set k ⟨true, true, 65536, c.value, uf, ut⟩).flatMap oC') 113)).put (slB v) (.cells (((((((l).set k ⟨false, up, 65536, bt, uf, ut⟩).set k ⟨true, up, 65536, bt, uf, ut⟩).set k ⟨true, true, 65536, bt, uf, ut⟩).set k ⟨true, true, 65536, c.value, uf, ut⟩).set k ⟨true, true, 65536, c.value, (IntKind.i64.wrap (m.epoch + 1)), ut⟩).flatMap oC') 113) := ⟨_, rfl⟩
          have n2 : h2.n = h.n := by rw [hh2]; simp only [n_put]
          have k2 : ∀ b, b ≠ q → h2.at b = h.at b := fun b hb => by rw [hh2, hv1]; simp only [at_put_ne _ (Ne.symm hb)]
          have W2 : h2.at q = some (.cells ((l.set k ⟨true, true, 65536, c.value, (IntKind.i64.wrap (m.epoch + 1)), ut⟩).flatMap oC') 113) := by
            rw [hh2, hv1, at_put_same _ (by simp only [n_put]; exact lq)]
            simp only [List.set_set]
          have P2 := (k2 _ (Ne.symm hq0)).trans PH
          have Z2 := (k2 _ (Ne.symm hq2)).trans ZH
          have LP2 := ld_at (T := tabOf Try.prog NT0) P2
          have lZ2 := at_lt Z2
          simp only [corem, WB_cond_s, put, ldL, WB_label, List.nil_append, List.drop_zero, List.take_zero, zrA, zrS, zrM, zrL, zrE, reduceCtorEq, zrD, ziE, ziL, ziN, -put, hn, g2, g3, g4, LPH, LCH, lPH, lCH, t1, t2, t3, s2, s3, ho, hltI, hkn, e1, hld, hld0, hb0, hb1, same_int, hat', lq', hput0, hput1, hput2, hput3, hput4, ← hh2, LP2, Z2, lZ2, o2, o3]
          rw [WB_regionD [0, 1, 2, 3, 4, 5, 6, 7, 8, 9, 10, 11, 12, 13, 14, 15, 16, 17, 18, 19, 20] 2839211736014648557665625145243202673207761677055053730083980496644075090390337902035124234349416132990381754724532346531952526884864 (by kernel_rfl)]
          repeat (first | ((with_reducible refine WDM_cons ?_; simp only [dw1]; try simp only [dw2, zrA, zrM, zrR, zrO, zrE]); simp only [corem, WB_cond_s, put, ldL, WB_label, List.nil_append, List.drop_zero, List.take_zero, zrA, zrS, zrM, zrL, zrE, reduceCtorEq, zrD, ziE, ziL, ziN, cored, -put, hn, g2, g3, g4, LPH, LCH, lPH, lCH, t1, t2, t3, s2, s3, ho, hltI, hkn, e1, hld, hld0, hb0, hb1, same_int, hat', lq', hput0, hput1, hput2, hput3, hput4, ← hh2, LP2, Z2, lZ2, o2, o3]) | simp only [corem, WB_cond_s, put, ldL, WB_label, List.nil_append, List.drop_zero, List.take_zero, zrA, zrS, zrM, zrL, zrE, reduceCtorEq, zrD, ziE, ziL, ziN, cored, -put, hn, g2, g3, g4, LPH, LCH, lPH, lCH, t1, t2, t3, s2, s3, ho, hltI, hkn, e1, hld, hld0, hb0, hb1, same_int, hat', lq', hput0, hput1, hput2, hput3, hput4, ← hh2, LP2, Z2, lZ2, o2, o3])
          exact finO h2 ⟨true, true, 65536, c.value, (IntKind.i64.wrap (m.epoch + 1)), ut⟩ _ ⟨I64w, hc.hv, wrap_I64 _, okx.2.2.2⟩ n2 k2 W2 (by simp [newOs, k1])
      · have e1 : (c.kind == 1) = false := by simp [k1]
        have e2 : (c.kind == 2) = true := by simp [k1]
        have hput := pf l ⟨ex, up, w, bt, uf, ut⟩ ⟨ex, false, w, bt, uf, ut⟩ 1 (.lit (.bool false)) hx (by decide) rfl
        obtain ⟨h2, hh2⟩ : ∃ h2, h2 = h.put (slB v) (.cells ((l.set k ⟨ex, false, w, bt, uf, ut⟩).flatMap oC') 113) := ⟨_, rfl⟩
        obtain ⟨n2, k2, W2⟩ := one1 h2 _ hh2
        have P2 := (k2 _ (Ne.symm hq0)).trans PH
        have Z2 := (k2 _ (Ne.symm hq2)).trans ZH
        have LP2 := ld_at (T := tabOf Try.prog NT0) P2
        have lZ2 := at_lt Z2
        simp only [corem, WB_cond_s, put, ldL, WB_label, List.nil_append, List.drop_zero, List.take_zero, zrA, zrS, zrM, zrL, zrE, reduceCtorEq, zrD, ziE, ziL, ziN, -put, hn, g2, g3, g4, LPH, LCH, lPH, lCH, t1, t2, t3, s2, s3, ho, hltI, hkn, e1, e2, hat', lq', hput, ← hh2, LP2, Z2, lZ2, o2, o3]
        exact finO h2 ⟨ex, false, w, bt, uf, ut⟩ _ okx n2 k2 W2 (by simp [newOs, k1])
      · have e1 : (c.kind == 1) = false := by simp [k1]
        have e2 : (c.kind == 2) = false := by simp [k1]
        have e3 : (c.kind == 3) = true := by simp [k1]
        have hput := pf l ⟨ex, up, w, bt, uf, ut⟩ ⟨ex, up, c.value, bt, uf, ut⟩ 2 (.lit (.int .i64 c.value)) hx (by decide) rfl
        obtain ⟨h2, hh2⟩ : ∃ h2, h2 = h.put (slB v) (.cells ((l.set k ⟨ex, up, c.value, bt, uf, ut⟩).flatMap oC') 113) := ⟨_, rfl⟩
        obtain ⟨n2, k2, W2⟩ := one1 h2 _ hh2
        have P2 := (k2 _ (Ne.symm hq0)).trans PH
        have Z2 := (k2 _ (Ne.symm hq2)).trans ZH
        have LP2 := ld_at (T := tabOf Try.prog NT0) P2
        have lZ2 := at_lt Z2
        simp only [corem, WB_cond_s, put, ldL, WB_label, List.nil_append, List.drop_zero, List.take_zero, zrA, zrS, zrM, zrL, zrE, reduceCtorEq, zrD, ziE, ziL, ziN, -put, hn, g2, g3, g4, LPH, LCH, lPH, lCH, t1, t2, t3, s2, s3, ho, hltI, hkn, e1, e2, e3, hat', lq', hput, ← hh2, LP2, Z2, lZ2, o2, o3]
        exact finO h2 ⟨ex, up, c.value, bt, uf, ut⟩ _ ⟨hc.hv, okx.2⟩ n2 k2 W2 (by simp [newOs, k1])
      · have e1 : (c.kind == 1) = false := by simp [k1]
        have e2 : (c.kind == 2) = false := by simp [k1]
        have e3 : (c.kind == 3) = false := by simp [k1]
        have hput := pf l ⟨ex, up, w, bt, uf, ut⟩ ⟨ex, up, w, bt, uf, c.value⟩ 5 (.lit (.int .i64 c.value)) hx (by decide) rfl
        obtain ⟨h2, hh2⟩ : ∃ h2, h2 = h.put (slB v) (.cells ((l.set k ⟨ex, up, w, bt, uf, c.value⟩).flatMap oC') 113) := ⟨_, rfl⟩
        obtain ⟨n2, k2, W2⟩ := one1 h2 _ hh2
        have P2 := (k2 _ (Ne.symm hq0)).trans PH
        have Z2 := (k2 _ (Ne.symm hq2)).trans ZH
        have LP2 := ld_at (T := tabOf Try.prog NT0) P2
        have lZ2 := at_lt Z2
        simp only [corem, WB_cond_s, put, ldL, WB_label, List.nil_append, List.drop_zero, List.take_zero, zrA, zrS, zrM, zrL, zrE, reduceCtorEq, zrD, ziE, ziL, ziN, -put, hn, g2, g3, g4, LPH, LCH, lPH, lCH, t1, t2, t3, s2, s3, ho, hltI, hkn, e1, e2, e3, hat', lq', hput, ← hh2, LP2, Z2, lZ2, o2, o3]
        exact finO h2 ⟨ex, up, w, bt, uf, c.value⟩ _ ⟨okx.1, okx.2.1, okx.2.2.1, hc.hv⟩ n2 k2 W2 (by simp [newOs, k1])
  · refine ⟨vo, P0, rfl, rfl, .inl rfl, by rw [List.replicate_zero, List.append_nil]; exact mp.o, mp.p, hbl, hm.ao, EP.2 _ hp0, ⟨by have := EP.1; omega, fun b hb => EP.2 b (by omega)⟩, Nat.le_refl _, hm.o.apart (by omega), hm.o.apart (by omega), hm.o.apart (by omega), ?_⟩
    simp only [core, zrA, zrS, zrM, zrL, zrE, reduceCtorEq, zrD, ziE, ziL, ziN]
end Go.Proofs.Ytjkmmbfenhhjkaa.Ex
end

section

set_option linter.unusedSimpArgs false
set_option linter.unusedVariables false
set_option maxRecDepth 10000
set_option maxHeartbeats 4000000
namespace Go.Proofs.Ytjkmmbfenhhjkaa.Ex
open Go
theorem made_x {F : Nat → Prop} {H : AH} {m : MapD} {vo vp vb va vw : AV} {n0 p0 : Nat} (c : ChD) (hm : OwnMp n0 p0 H m vo vp vb) (hn0 : n0 ≤ H.n) (hp0 : p0 < H.n) (hz : MpSz m) (hc : ChIn F H c va vw) (hmay : chMay m c = 0) :
    WC Try.prog (tabOf Try.prog NT0) S0 25 [mpV m vo vp vb, chV c va vw] H fun r h' => Ext n0 H h' ∧ h'.at p0 = H.at p0 ∧ ∃ ro rp rb, r = mpV (chMade m c) ro rp rb ∧ OwnMp n0 p0 h' (chMade m c) ro rp rb := by
  by_cases k5 : c.kind = 5
  · exact made5_x c hm hn0 hp0 hz hc k5
  by_cases k6 : c.kind = 6
  · exact made6_x c hm hn0 hp0 hz hc k6
  by_cases k7 : c.kind = 7
  · exact made7_x c hm hn0 hp0 hz hc k7
  unfold chMay at hmay
  by_cases ki : isOs c.kind
  · rw [if_pos ki] at hmay
    by_cases ho : c.osd < 0 ∨ 8 ≤ c.osd
    · rw [if_pos ho] at hmay; cases hmay
    · exact madeO_x (k := c.osd.toNat) c hm hn0 hp0 hz hc ki (by omega) (by omega)
  · rw [if_neg ki, if_neg k5, if_neg k6, if_neg k7] at hmay
    cases hmay
theorem applyC_append : ∀ (a b : List ChD) (m : MapD), applyC m (a ++ b) = if (applyC m a).2 = 0 then applyC (applyC m a).1 b else applyC m a
  | [], b, m => by simp [applyC]
  | c :: r, b, m => by
    have e1 : ∀ l, applyC m (c :: l) = if chMay m c = 0 then applyC (chMade m c) l else (map0, chMay m c) := fun l => rfl
    rw [List.cons_append, e1, e1]
    by_cases h : chMay m c = 0
    · rw [if_pos h, if_pos h]
      exact applyC_append r b (chMade m c)
    · rw [if_neg h, if_neg h, if_neg h]
theorem applyC_succ {m n : MapD} {l : List ChD} {i : Nat} {c : ChD} (hc : l[i]? = some c) (h : applyC m (l.take i) = (n, 0)) : applyC m (l.take (i + 1)) = if chMay n c = 0 then (chMade n c, 0) else (map0, chMay n c) := by
  rw [List.take_add_one, hc, applyC_append, h]
  rw [if_pos rfl]
  rfl
theorem applyC_err {m n : MapD} {l : List ChD} {i : Nat} {c : ChD} (hc : l[i]? = some c) (h : applyC m (l.take i) = (n, 0)) (he : chMay n c ≠ 0) : applyC m l = (map0, chMay n c) := by
  conv => lhs; rw [← List.take_append_drop (i + 1) l]
  rw [applyC_append, applyC_succ hc h, if_neg he, if_neg he]
theorem applyC_epoch : ∀ {l : List ChD} {m : MapD}, (applyC m l).2 = 0 → (applyC m l).1.epoch = m.epoch
  | [], m, _ => rfl
  | c :: r, m, h => by
    unfold applyC at h ⊢
    by_cases hm : chMay m c = 0
    · rw [if_pos hm] at h ⊢
      exact (applyC_epoch h).trans (made_epoch m c)
    · rw [if_neg hm] at h
      exact absurd h hm
theorem OwnMp.putp {n0 p0 : Nat} {h : AH} {m : MapD} {vo vp vb : AV} {x : AB} (hm : OwnMp n0 p0 h m vo vp vb) : OwnMp n0 p0 (h.put p0 x) m vo vp vb :=
  ⟨hm.o.put_ap hm.ao, hm.p.put_ap hm.ap, hm.b.lift fun b hb _ => ⟨at_put_ne _ (Ne.symm hb.2.2.2), hb⟩, hm.ao, hm.ap⟩
theorem OwnMp.putLt {n0 p0 p : Nat} {h : AH} {m : MapD} {vo vp vb : AV} {x : AB} (hm : OwnMp n0 p0 h m vo vp vb) (hp : p < n0) : OwnMp n0 p0 (h.put p x) m vo vp vb :=
  ⟨hm.o.put_ap (hm.o.apartLt hp), hm.p.put_ap (hm.p.apartLt hp), hm.b.lift fun b hb _ => ⟨at_put_ne _ (by omega), hb⟩, hm.ao, hm.ap⟩
theorem at0 {F : Nat → Prop} {h : AH} : MpAt F h map0 (.lit (.slice none 0 0)) (.lit (.slice none 0 0)) (.lit (.slice none 0 0)) := ⟨.nil, .nil, .nil⟩
theorem Apply_x {F : Nat → Prop} {H : AH} {m : MapD} {vo vp vb vc : AV} (x : IncD) (hm : MpAt F H m vo vp vb) (hok : OkMp m) (hb : m.buckets.length ≤ 1000000000) (he : I64 m.epoch) (hcs : IsSl RCh F H vc x.changes) (sc : Sm 88 x.changes) (hsz : ∀ c ∈ x.changes, Sm 8 c.bucket.items ∧ Sm 8 c.bucket.weights)
    (hst : ∀ i n, i ≤ x.changes.length → applyC m (x.changes.take i) = (n, 0) → MpSz n) :
    WC Try.prog (tabOf Try.prog NT0) S0 16 [mpV m vo vp vb, incV x vc] H fun r h' => Ext H.n H h' ∧ ∃ ro rp rb, r = .tup [mpV (applyD m x).1 ro rp rb, .lit (.int .i64 (applyD m x).2)] ∧ MpAt (fun k => H.n ≤ k) h' (applyD m x).1 ro rp rb := by
  refine WC_fn Try.func16 rfl rfl ?_
  have o1 := hm.o.one
  have o2 := hm.p.one
  have o3 := hm.b.one
  have s1 := hm.o.isSl
  have s2 := hm.p.isSl
  have s3 := hm.b.isSl
  have c1 := hcs.one
  have c2 := hcs.isSl
  have c3 := hcs.lenD
  obtain ⟨hp, hhp, EP, P0, C0, Z0, nP⟩ := made_boxes (H := H) (mC m vo vp vb) (.cells [.lit (.int .i64 x.epoch), vc] 85) mz
  unfold mC at P0 hhp
  unfold mz at Z0 hhp
  have LP := ld_at (T := tabOf Try.prog NT0) P0
  have LC := ld_at (T := tabOf Try.prog NT0) C0
  have lP := at_lt P0
  have lC := at_lt C0
  have lZ := at_lt Z0
  unfold I64 at he
  by_cases hM : m.epoch = 9223372036854775807
  · have hMe : (m.epoch == 9223372036854775807) = true := by simp [hM]
    have hA : applyD m x = (map0, 126) := by unfold applyD; rw [if_pos (.inl hM)]
    simp only [core, zrA, zrS, zrM, zrL, zrE, reduceCtorEq, zrD, ziE, ziL, ziN, Try.ntmps16, mpV, incV, o1, o2, o3, c1, ← hhp, LP, LC, lP, lC, Z0, lZ, hMe]
    rw [hA]
    exact ⟨EP.put _ (by omega), _, _, _, rfl, at0⟩
  have hMe : (m.epoch == 9223372036854775807) = false := by simp [hM]
  have hws : IntKind.i64.wrap (m.epoch + 1) = m.epoch + 1 := wrap_in (by omega) (by omega)
  by_cases hE : x.epoch = m.epoch + 1
  · have hEe : (x.epoch != m.epoch + 1) = false := by simp [hE]
    simp only [core, zrA, zrS, zrM, zrL, zrE, reduceCtorEq, zrD, ziE, ziL, ziN, Try.ntmps16, mpV, incV, o1, o2, o3, c1, ← hhp, LP, LC, lP, lC, hMe, hws, hEe]
    refine (copyM_x (hm.ext EP (Nat.le_refl _)) hok hb).mono ?_
    rintro _ h3 ⟨e3, ro, rp, rb, rfl, hown⟩
    have P3 := (e3.2 _ lP).trans P0
    have C3 := (e3.2 _ lC).trans C0
    have Z3 := (e3.2 _ lZ).trans Z0
    have l3 := e3.1
    obtain ⟨h4, hh4⟩ : ∃ h4, h4 = h3.push (.cells [.lit (.int .i64 m.epoch), ro, rp, rb, .lit (.int .i64 m.leaf)] 72) := ⟨_, rfl⟩
    have e4 : Ext h3.n h3 h4 := hh4 ▸ (Ext.refl _ _).push _ (Nat.le_refl _)
    have W4 : h4.at h3.n = some (.cells [.lit (.int .i64 m.epoch), ro, rp, rb, .lit (.int .i64 m.leaf)] 72) := hh4 ▸ at_push_n _ _
    have n4 : h4.n = h3.n + 1 := by rw [hh4, n_push]
    have hw3 := hown 0 (by omega)
    have w1 := (hw3.at (F := fun _ => True) (fun _ _ => trivial)).o.one
    have w2 := (hw3.at (F := fun _ => True) (fun _ _ => trivial)).p.one
    have w3 := (hw3.at (F := fun _ => True) (fun _ _ => trivial)).b.one
    have C4 := (e4.2 _ (at_lt C3)).trans C3
    have Z4 := (e4.2 _ (at_lt Z3)).trans Z3
    have LC4 := ld_at (T := tabOf Try.prog NT0) C4
    have lC4 := at_lt C4
    have own4 := (hw3.lt (p1 := h3.n) (Nat.le_refl _)).ext e4 (Nat.le_refl _)
    simp only [core, zrA, zrS, zrM, zrL, zrE, reduceCtorEq, zrD, ziE, ziL, ziN, mpV, w1, w2, w3, ← hh4, LC4, lC4, c1, c2, c3]
    clear hh4
    obtain ⟨q, hq⟩ : ∃ q, q = h3.n := ⟨_, rfl⟩
    obtain ⟨N, hN⟩ : ∃ N, N = x.changes.length := ⟨_, rfl⟩
    rw [← hq] at W4 own4 n4
    rw [← hq, ← hN]
    rw [← hN] at c3
    have E4 : Ext hp.n hp h4 := e3.trans (e4.mono l3)
    refine WB_for N (fun i t h => ∃ n v1 v2 v3, applyC m (x.changes.take i) = (n, 0) ∧ h.at q = some (.cells [.lit (.int .i64 n.epoch), v1, v2, v3, .lit (.int .i64 n.leaf)] 72) ∧ OwnMp hp.n q h n v1 v2 v3 ∧ Ext hp.n hp h ∧ h4.n ≤ h.n ∧ t.n = 47 ∧ t.get 2 = .ptr H.n 0 ∧ t.get 3 = .ptr (H.n + 1) 0 ∧ t.get 4 = .ptr (H.n + 2) 0 ∧ t.get 6 = .ptr q 0 ∧ t.get 25 = vc ∧ t.get 26 = .lit (.int .i64 N) ∧ t.get 27 = .lit (.int .i64 i)) ?_ ?_ _ _ ?_
    · rintro i t h hlt hc ⟨n, v1, v2, v3, hap, WQ, own, he', lh4, hn, g2, g3, g4, g6, g25, g26, g27⟩ ih
      obtain ⟨c, hx⟩ : ∃ c, x.changes[i]? = some c := ⟨_, List.getElem?_eq_getElem (by omega)⟩
      have hzn := hst i n (by omega) hap
      have EH : Ext H.n H h := EP.trans (he'.mono (by omega))
      obtain ⟨cc, hc1, hld, hld0⟩ := hcs.atE (T := tabOf Try.prog NT0) EH RCh_z hx
      obtain ⟨va, vw, rfl, ha, hw, ⟨i1, i2, i3⟩, i4, i5⟩ := RCh_is.1 hc1
      have a1 := ha.one
      have b1 := hw.one
      obtain ⟨la, lw⟩ := hsz c (List.mem_of_getElem? hx)
      have hwi := wrap_succ (n := N) hlt (by have := sc; unfold Sm at this; omega)
      obtain ⟨hA, hhA⟩ : ∃ hA, hA = h.push (cC c va vw) := ⟨_, rfl⟩
      have eA : Ext h.n h hA := hhA ▸ (Ext.refl _ _).push _ (Nat.le_refl _)
      have XA : hA.at h.n = some (cC c va vw) := hhA ▸ at_push_n _ _
      have nA : hA.n = h.n + 1 := by rw [hhA, n_push]
      unfold cC at XA hhA
      have LXA := ld_at (T := tabOf Try.prog NT0) XA
      have QA := (eA.2 _ (at_lt WQ)).trans WQ
      have LQA := ld_at (T := tabOf Try.prog NT0) QA
      have EA := EH.step eA
      have ownA := own.ext eA (Nat.le_refl _)
      have m1 := ownA.at (F := fun _ => True) (fun _ _ => trivial)
      have y1 := m1.o.one
      have y2 := m1.p.one
      have y3 := m1.b.one
      have haA := (ha.ext EA (Nat.le_refl _)).lift (G := fun _ => True) fun _ _ _ => ⟨rfl, trivial⟩
      have hwA := (hw.ext EA (Nat.le_refl _)).lift (G := fun _ => True) fun _ _ _ => ⟨rfl, trivial⟩
      have f1 : hp.n ≤ h.n := he'.1
      have f2 : q < h.n := at_lt WQ
      simp only [core, zrA, zrS, zrM, zrL, zrE, reduceCtorEq, zrD, ziE, ziL, ziN, c2, c3, hn, g2, g3, g4, g6, g25, g26, g27, hlt, hc, hld, hld0, a1, b1, ← hhA, LXA, LQA, y1, y2, y3]
      refine (May_x c m1 hzn.so (Sm_le (Nat.le_succ _) hzn.sp) hzn.sb hzn.bk haA hwA la lw i5).mono ?_
      rintro _ h5 ⟨e5, rfl⟩
      have f5 := e5.1
      by_cases hmay : chMay n c = 0
      · have hmn : (chMay n c != 0) = false := by simp [hmay]
        have X5 := (e5.2 _ (at_lt XA)).trans XA
        have Q5 := (e5.2 _ (at_lt QA)).trans QA
        have LX5 := ld_at (T := tabOf Try.prog NT0) X5
        have LQ5 := ld_at (T := tabOf Try.prog NT0) Q5
        have lX5 := at_lt X5
        have lQ5 := at_lt Q5
        have own5 := ownA.ext e5 (Nat.le_refl _)
        simp only [core, zrA, zrS, zrM, zrL, zrE, reduceCtorEq, zrD, ziE, ziL, ziN, hn, g2, g3, g4, g6, g25, g26, g27, hmn, LX5, LQ5, a1, b1, y1, y2, y3]
        refine (made_x (F := fun _ => True) c own5 (by omega) (by omega) hzn ⟨haA.ext e5 (Nat.le_refl _), hwA.ext e5 (Nat.le_refl _), la, lw, i5, i4, i3⟩ hmay).mono ?_
        rintro _ h6 ⟨e6, k6, r1, r2, r3, rfl, own6⟩
        have Q6 := k6.trans Q5
        have lQ6 := at_lt Q6
        have m6 := own6.at (F := fun _ => True) (fun _ _ => trivial)
        have z1 := m6.o.one
        have z2 := m6.p.one
        have z3 := m6.b.one
        have f6 := e6.1
        simp only [core, zrA, zrS, zrM, zrL, zrE, reduceCtorEq, zrD, ziE, ziL, ziN, mpV, hn, g2, g3, g4, g6, g25, g26, g27, Q6, lQ6, z1, z2, z3, hwi]
        refine ih _ _ ⟨chMade n c, r1, r2, r3, by rw [applyC_succ hx hap, if_pos hmay], at_put_same _ lQ6, own6.putp, ?_, by rw [n_put]; omega, ?_⟩
        · exact ((he'.trans (eA.mono f1)).trans (e5.mono (by omega))).trans e6 |>.put _ (by omega)
        · simp only [core, zrA, zrS, zrM, zrL, zrE, reduceCtorEq, zrD, ziE, ziL, ziN, hn, g2, g3, g4, g6, g25, g26, g27]
      · have hmn : (chMay n c != 0) = true := by simp [hmay]
        have Z5 := ((((he'.trans (eA.mono f1)).trans (e5.mono (by omega)))).2 _ (by omega)).trans Z0
        have lZ5 := at_lt Z5
        have hD : applyD m x = (map0, chMay n c) := by
          unfold applyD
          rw [if_neg (fun hh => hh.elim hM (fun h => h hE)), applyC_err hx hap hmay, if_neg hmay]
        simp only [core, zrA, zrS, zrM, zrL, zrE, reduceCtorEq, zrD, ziE, ziL, ziN, hn, g2, g3, g4, g6, g25, g26, g27, hmn, Z5, lZ5]
        rw [hD]
        exact ⟨(EA.step e5).put _ (by omega), _, _, _, rfl, at0⟩
    · rintro t h hc ⟨n, v1, v2, v3, hap, WQ, own, he', lh4, hn, g2, g3, g4, g6, g25, g26, g27⟩
      rw [hN, List.take_length] at hap
      have EH : Ext H.n H h := EP.trans (he'.mono (by omega))
      have ZH := (he'.2 _ (by omega)).trans Z0
      have lZH := at_lt ZH
      have LQ := ld_at (T := tabOf Try.prog NT0) WQ
      have lQ := at_lt WQ
      have m1 := own.at (F := fun _ => True) (fun _ _ => trivial)
      have y1 := m1.o.one
      have y2 := m1.p.one
      have y3 := m1.b.one
      have hne : ¬ q = H.n + 2 := by omega
      have hep : n.epoch = m.epoch := by have := applyC_epoch (l := x.changes) (m := m) (by rw [hap]); rw [hap] at this; exact this
      have hD : applyD m x = ({ n with epoch := x.epoch }, 0) := by
        unfold applyD
        rw [if_neg (fun hh => hh.elim hM (fun h => h hE)), hap, if_pos rfl]
      rw [hep] at WQ LQ
      simp only [core, zrA, zrS, zrM, zrL, zrE, reduceCtorEq, zrD, ziE, ziL, ziN, hn, g2, g3, g4, g6, g25, g26, g27, hc, WQ, LQ, lQ, ZH, lZH, hws, hne, y1, y2, y3]
      rw [hD]
      refine ⟨(EH.put _ (by omega)).put _ (by omega), v1, v2, v3, by rw [← hE], ?_⟩
      have own7 : OwnMp hp.n q ((h.put q (.cells [.lit (.int .i64 (m.epoch + 1)), v1, v2, v3, .lit (.int .i64 n.leaf)] 72)).put (H.n + 2) (.cells [.lit (.int .i64 (m.epoch + 1)), v1, v2, v3, .lit (.int .i64 n.leaf)] 72)) n v1 v2 v3 := own.putp.putLt (by omega)
      have m7 := own7.at (F := fun k => H.n ≤ k) (fun _ hk => by omega)
      exact ⟨m7.o, m7.p, m7.b⟩
    · refine ⟨m, ro, rp, rb, rfl, W4, own4, E4, Nat.le_refl _, ?_⟩
      simp only [core, zrA, zrS, zrM, zrL, zrE, reduceCtorEq, zrD, ziE, ziL, ziN]
      rfl
  · have hEe : (x.epoch != m.epoch + 1) = true := by simp [hE]
    have hA : applyD m x = (map0, 126) := by unfold applyD; rw [if_pos (.inr hE)]
    simp only [core, zrA, zrS, zrM, zrL, zrE, reduceCtorEq, zrD, ziE, ziL, ziN, Try.ntmps16, mpV, incV, o1, o2, o3, c1, ← hhp, LP, LC, lP, lC, Z0, lZ, hMe, hws, hEe]
    rw [hA]
    exact ⟨EP.put _ (by omega), _, _, _, rfl, at0⟩
end Go.Proofs.Ytjkmmbfenhhjkaa.Ex
end

section

set_option linter.unusedSimpArgs false
set_option linter.unusedVariables false
set_option maxRecDepth 10000
set_option maxHeartbeats 4000000
namespace Go.Proofs.Ytjkmmbfenhhjkaa.Ex
open Go
section
variable {P : Program} {T : TT} {t : TM} {h : AH} {o : Oper} {e : TypeId}
theorem a_nilE {i : Nat} (hv : t.get i = .lit (.pointer none)) (hp : pur P (binOp .eql e (.pointer none) (.pointer none)) = some (.ok (.bool true))) : aBin P T o t h .eql e (.tmp i) (.const (.pointer none)) = some (.val (.lit (.bool true)), h) := by
  unfold aBin
  rw [ev_tmp, hv, ev_nilp]
  simp only [hp, ofPV_bool]
theorem a_nilN {i : Nat} (hv : t.get i = .lit (.pointer none)) (hp : pur P (binOp .neq e (.pointer none) (.pointer none)) = some (.ok (.bool false))) : aBin P T o t h .neq e (.tmp i) (.const (.pointer none)) = some (.val (.lit (.bool false)), h) := by
  unfold aBin
  rw [ev_tmp, hv, ev_nilp]
  simp only [hp, ofPV_bool]
end
structure CliD where
  k : Int
  i : Int
  boot : Int
  mons : Int
  tries : Int
def cliC (c : CliD) (m : MapD) (vo vp vb : AV) : AB := .cells [.lit (.int .i64 c.k), .lit (.int .i64 c.i), .lit (.int .i64 c.boot), .lit (.int .i64 c.mons), .lit (.int .i64 c.tries), .lit (.int .i64 m.epoch), vo, vp, vb, .lit (.int .i64 m.leaf), .lit (.int .i64 0), .lit (.pointer none), .lit (.pointer none)] 82
/-- A client at block q, with a map and nothing under way. -/
def Cl (q : Nat) (h : AH) (c : CliD) (m : MapD) : Prop := ∃ vo vp vb, h.at q = some (cliC c m vo vp vb) ∧ MpAt (fun k => q < k) h m vo vp vb
/-- All blocks but q are as they were. -/
def Kq (q : Nat) (H h : AH) : Prop := H.n ≤ h.n ∧ ∀ b, b < H.n → b ≠ q → h.at b = H.at b
theorem Kq.refl (q : Nat) (H : AH) : Kq q H H := ⟨Nat.le_refl _, fun _ _ _ => rfl⟩
theorem Kq.ext {q : Nat} {H h : AH} (e : Ext H.n H h) : Kq q H h := ⟨e.1, fun b hb _ => e.2 b hb⟩
theorem Kq.trans {q : Nat} {H h h' : AH} (a : Kq q H h) (b : Kq q h h') : Kq q H h' := ⟨Nat.le_trans a.1 b.1, fun x hx hq => (b.2 x (Nat.lt_of_lt_of_le hx a.1) hq).trans (a.2 x hx hq)⟩
theorem Kq.put {q : Nat} {H h : AH} (a : Kq q H h) (x : AB) : Kq q H (h.put q x) := ⟨by rw [n_put]; exact a.1, fun b hb hq => (at_put_ne _ (Ne.symm hq)).trans (a.2 b hb hq)⟩
theorem Kq.sl {q : Nat} {α : Type} {R : Rep α} {F : Nat → Prop} {H h : AH} {v : AV} {xs : List α} (a : Kq q H h) (hs : IsSl R F H v xs) (hF : ∀ b, F b → b ≠ q) : IsSl R F h v xs := hs.lift fun b hb hlt => ⟨a.2 b hlt (hF b hb), hb⟩
theorem Cl.ext {q : Nat} {H h : AH} {c : CliD} {m : MapD} (k : Cl q H c m) (e : Ext H.n H h) : Cl q h c m := by
  obtain ⟨vo, vp, vb, h1, h2⟩ := k
  exact ⟨vo, vp, vb, (e.2 _ (at_lt h1)).trans h1, h2.ext e (Nat.le_refl _)⟩
theorem Cl.lt {q : Nat} {H : AH} {c : CliD} {m : MapD} (k : Cl q H c m) : q < H.n := by
  obtain ⟨vo, vp, vb, h1, h2⟩ := k
  exact at_lt h1
theorem New_x {H : AH} (c : CliD) (hno : c.boot < 1 ∨ c.tries < 1 ∨ c.mons < 1 ∨ 5 < c.mons) :
    WC Try.prog (tabOf Try.prog NT0) S0 4 [.agg [.lit (.int .i64 c.k), .lit (.int .i64 c.i)], .lit (.int .i64 c.boot), .lit (.int .i64 c.mons), .lit (.int .i64 c.tries)] H fun r h' => Ext H.n H h' ∧ r = .tup [.lit (.pointer none), .lit (.int .i64 22)] := by
  refine WC_fn Try.func4 rfl rfl ?_
  have E0 : Ext H.n H (H.push (.cells [.lit (.int .i64 c.k), .lit (.int .i64 c.i)] 23)) := (Ext.refl _ _).push _ (Nat.le_refl _)
  by_cases h1 : c.boot < 1
  · simp only [core, zrA, zrS, zrM, zrL, zrE, reduceCtorEq, zrD, ziE, ziL, ziN, Try.ntmps4, h1]
    exact E0
  by_cases h2 : c.tries < 1
  · simp only [core, zrA, zrS, zrM, zrL, zrE, reduceCtorEq, zrD, ziE, ziL, ziN, Try.ntmps4, h1, h2]
    exact E0
  by_cases h3 : c.mons < 1
  · simp only [core, zrA, zrS, zrM, zrL, zrE, reduceCtorEq, zrD, ziE, ziL, ziN, Try.ntmps4, h1, h2, h3]
    exact E0
  have h4 : 5 < c.mons := by omega
  simp only [core, zrA, zrS, zrM, zrL, zrE, reduceCtorEq, zrD, ziE, ziL, ziN, Try.ntmps4, h1, h2, h3, h4]
  exact E0
theorem New_ok {H : AH} (c : CliD) (h1 : ¬ c.boot < 1) (h2 : ¬ c.tries < 1) (h3 : ¬ c.mons < 1) (h4 : ¬ 5 < c.mons) :
    WC Try.prog (tabOf Try.prog NT0) S0 4 [.agg [.lit (.int .i64 c.k), .lit (.int .i64 c.i)], .lit (.int .i64 c.boot), .lit (.int .i64 c.mons), .lit (.int .i64 c.tries)] H fun r h' => Ext H.n H h' ∧ ∃ q, r = .tup [.ptr q 0, .lit (.int .i64 0)] ∧ H.n ≤ q ∧ Cl q h' c map0 := by
  refine WC_fn Try.func4 rfl rfl ?_
  obtain ⟨hA, hhA⟩ : ∃ hA, hA = H.push (.cells [.lit (.int .i64 c.k), .lit (.int .i64 c.i)] 23) := ⟨_, rfl⟩
  have eA : Ext H.n H hA := hhA ▸ (Ext.refl _ _).push _ (Nat.le_refl _)
  have XA : hA.at H.n = some (.cells [.lit (.int .i64 c.k), .lit (.int .i64 c.i)] 23) := hhA ▸ at_push_n _ _
  have LXA := ld_at (T := tabOf Try.prog NT0) XA
  have lXA := at_lt XA
  simp only [core, zrA, zrS, zrM, zrL, zrE, reduceCtorEq, zrD, ziE, ziL, ziN, Try.ntmps4, h1, h2, h3, h4, ← hhA]
  rw [WB_regionD [0, 1, 2, 3, 4, 5, 6, 7, 8] 1205375957378261718138880 (by kernel_rfl)]
  repeat ((with_reducible refine WDM_cons ?_; simp only [dw1]; try simp only [dw2, zrA, zrM, zrR, zrO, zrE]); simp only [core, zrA, zrS, zrM, zrL, zrE, reduceCtorEq, zrD, ziE, ziL, ziN, cored, LXA, lXA])
  refine (empty_x).mono ?_
  rintro _ hB ⟨eB, rfl⟩
  have e2 := eA.trans (eB.mono eA.1)
  unfold mpV
  repeat ((with_reducible refine WDM_cons ?_; simp only [dw1]; try simp only [dw2, zrA, zrM, zrR, zrO, zrE]); simp only [core, zrA, zrS, zrM, zrL, zrE, reduceCtorEq, zrD, ziE, ziL, ziN, cored, LXA, lXA])
  have XB := (eB.2 _ lXA).trans XA
  have LXB := ld_at (T := tabOf Try.prog NT0) ((at_push_lt (.cells [.lit (.int .i64 c.k), .lit (.int .i64 c.i), .lit (.int .i64 c.boot), .lit (.int .i64 c.mons), .lit (.int .i64 c.tries), .lit (.int .i64 0), .lit (.slice none 0 0), .lit (.slice none 0 0), .lit (.slice none 0 0), .lit (.int .i64 0), .lit (.int .i64 0), .lit (.pointer none), .lit (.pointer none)] 82) (at_lt XB)).trans XB)
  refine ⟨?_, e2.push _ e2.1, hB.n, rfl, e2.1, _, _, _, at_push_n _ _, .nil, .nil, .nil⟩
  simp only [core, zrA, zrS, zrM, zrL, zrE, reduceCtorEq, zrD, ziE, ziL, ziN, cored, LXB, same_agg, same_int]
theorem made_x1 {q : Nat} {H : AH} {c : CliD} {m : MapD} (hq : Cl q H c m) (hb : 0 < c.boot) : WC Try.prog (tabOf Try.prog NT0) S0 15 [.ptr q 0] H fun r h' => r = .lit (.bool true) ∧ h' = H := by
  refine WC_fn Try.func15 rfl rfl ?_
  obtain ⟨vo, vp, vb, h1, h2⟩ := hq
  unfold cliC at h1
  have L := ld_at (T := tabOf Try.prog NT0) h1
  have l := at_lt h1
  simp only [core, zrA, zrS, zrM, zrL, zrE, reduceCtorEq, zrD, ziE, ziL, ziN, Try.ntmps15, L, l, hb]
  try exact ⟨rfl, rfl⟩
end Go.Proofs.Ytjkmmbfenhhjkaa.Ex
end

section

set_option linter.unusedSimpArgs false
set_option linter.unusedVariables false
set_option maxRecDepth 10000
set_option maxHeartbeats 4000000
namespace Go.Proofs.Ytjkmmbfenhhjkaa.Ex
open Go
def chgN (l : List IncD) : Nat := (l.map fun x => x.changes.length).sum
theorem chgN_mem {l : List IncD} {i : Nat} {x : IncD} (hx : l[i]? = some x) : chgN (l.take i) + x.changes.length ≤ chgN l := by
  obtain ⟨hi, rfl⟩ := List.getElem?_eq_some_iff.1 hx
  unfold chgN
  conv => rhs; rw [← List.take_append_drop i l, List.drop_eq_getElem_cons hi]
  rw [List.map_append, List.sum_append, List.map_cons, List.sum_cons]
  omega
theorem StOk.sz {m : MapD} {k : Nat} (h : StOk m k) (hk : k ≤ 1000000000) : MpSz m :=
  ⟨Sm_le h.no (by decide), Nat.le_trans (Nat.mul_le_mul_right 32 (Nat.succ_le_succ h.np)) (by omega), Nat.le_trans (Nat.mul_le_mul_right 64 (Nat.succ_le_succ h.nb)) (by omega), fun b hb => ⟨Sm_le (h.ni b hb).1 (by decide), Sm_le (h.ni b hb).2 (by decide)⟩⟩
theorem StOk.ok {m : MapD} {k : Nat} (h : StOk m k) (hk : k ≤ 1000000000) : OkMp m :=
  ⟨⟨Sm_le h.no (by decide), fun _ _ => trivial⟩, ⟨Sm_le h.np (by omega), fun _ _ => trivial⟩, Sm_le h.nb (by omega), fun b hb => ⟨Sm_le (h.ni b hb).1 (by decide), Sm_le (h.ni b hb).2 (by decide)⟩⟩
theorem StOk.leaf {m : MapD} {k : Nat} (h : StOk m k) : I64 m.leaf := by
  have := h.good
  unfold goodF at this
  simp only [Bool.and_eq_true, decide_eq_true_eq] at this
  unfold I64
  omega
theorem StOk.run {m n : MapD} {k j : Nat} {l : List ChD} (h : StOk m k) (hi : ∀ c ∈ l, c.bucket.items.length ≤ 1048576) (ha : applyC m (l.take j) = (n, 0)) : StOk n (k + l.length) := by
  have := (applyC_st h (l := l.take j) (fun c hc => hi c (List.mem_of_mem_take hc)) (by rw [ha])).1
  rw [ha] at this
  exact this.mono (by rw [List.length_take]; omega)
theorem RInc_z : RInc.z = 2 := rfl
theorem RInc_is {F : Nat → Prop} {h : AH} {c : List AV} {x : IncD} : RInc.is F h c x ↔ ∃ vc, c = [.lit (.int .i64 x.epoch), vc] ∧ IsSl RCh F h vc x.changes ∧ I64 x.epoch := by
  constructor
  · rintro ⟨_, _, rfl, ⟨rfl, h1⟩, h2⟩
    obtain ⟨vc, rfl, h3⟩ := RSl_is.1 h2
    exact ⟨vc, rfl, h3, h1⟩
  · rintro ⟨vc, rfl, h3, h1⟩
    exact ⟨_, _, rfl, ⟨rfl, h1⟩, RSl_is.2 ⟨vc, rfl, h3⟩⟩
/-- A row of maps of the run's own, that began as a row of one. -/
def OwnQ (n0 : Nat) (h : AH) (v : AV) (xs : List MapD) : Prop := OwnL RMp (fun k => n0 ≤ k) n0 h v 72 xs ∨ ∃ p c x, n0 ≤ p ∧ v = .sl p 0 1 (.kn 1) ∧ xs = [x] ∧ h.at p = some (.cells c 72) ∧ RMp.is (fun k => n0 ≤ k) h c x
theorem OwnQ.toSl {n0 : Nat} {h : AH} {v : AV} {xs : List MapD} (ho : OwnQ n0 h v xs) : IsSl RMp (fun k => n0 ≤ k) h v xs := by
  rcases ho with ho | ⟨p, c, x, hp, rfl, rfl, hat, hc⟩
  · exact ho.toSl (fun _ hk => hk) (fun _ hk => hk)
  · exact IsSl.ofAt (e := 72) (L := [c]) (by rw [hat]; simp) hp (Els.nil.snoc hc) rfl
theorem OwnQ.ext {n0 m : Nat} {h h' : AH} {v : AV} {xs : List MapD} (ho : OwnQ n0 h v xs) (he : Ext m h h') (hm : h.n ≤ m) : OwnQ n0 h' v xs := by
  rcases ho with ho | ⟨p, c, x, hp, rfl, rfl, hat, hc⟩
  · exact .inl (ho.ext he hm)
  · exact .inr ⟨p, c, x, hp, rfl, rfl, (he.2 _ (by have := at_lt hat; omega)).trans hat, RMp.lift hc fun b hb hlt => ⟨he.2 _ (by omega), hb⟩⟩
end Go.Proofs.Ytjkmmbfenhhjkaa.Ex
end

section

set_option linter.unusedSimpArgs false
set_option linter.unusedVariables false
namespace Go.Proofs.Ytjkmmbfenhhjkaa.Ex
open Go
/-- A client's map behind a message of maps. -/
def stepD (m : MapD) : List IncD → MapD
  | [] => m
  | x :: r => if x.epoch ≤ m.epoch then stepD m r else if (applyD m x).2 = 0 then stepD (applyD m x).1 r else m
/-- A row of maps in which each is made of the one before. -/
def Made (ms : List MapD) (l : List IncD) : Prop := ms.length = l.length + 1 ∧ ∀ i x, l[i]? = some x → (applyD (ms.getD i map0) x).2 = 0 ∧ (applyD (ms.getD i map0) x).1 = ms.getD (i + 1) map0
end Go.Proofs.Ytjkmmbfenhhjkaa.Ex
end

section

set_option linter.unusedSimpArgs false
set_option linter.unusedVariables false
set_option maxRecDepth 10000
namespace Go.Proofs.Ytjkmmbfenhhjkaa.Ex
open Go
variable {P : Program}
theorem pur_bind {α β : Type} (s : Sem α) (f : α → Sem β) : pur P (s >>= f) = match pur P s with
    | some (.ok a) => pur P (f a)
    | some (.pan v) => some (.pan v)
    | none => none := by
  induction s with
  | pure a => rfl
  | program k ih => exact ih P
  | mark m k ih => exact ih
  | halt o => cases o <;> rfl
  | _ => rfl
theorem pur_program : pur P program = some (.ok P) := rfl
theorem pur_pure {α : Type} (a : α) : pur P (pure a) = some (.ok a) := rfl
theorem pur_ite {α : Type} {c : Prop} [Decidable c] (a b : Sem α) : pur P (if c then a else b) = if c then pur P a else pur P b := by split <;> rfl
theorem pur_und {t : TypeId} {d : TypeDesc} (h : P.underlying t = some d) : pur P (underlying t) = some (.ok d) := by
  show pur P (match P.underlying t with | some d => pure d | none => stuck "no such type") = _
  rw [h]
  rfl
theorem pur_equalIn_struct (d : Nat) (t : TypeId) (xs ys : Array Value) (ht : P.underlying t = some (.struct (P.fieldsOf t))) (hp : P.stoodInHeld t = false) : pur P (Op.equalIn (d + 1) t (.agg xs) (.agg ys)) = pur P (Op.eqFields d xs ys (P.fieldsOf t).toList) := by
  simp only [Op.equalIn, pur_bind, pur_und ht, pur_program, hp, Bool.false_eq_true, if_false]
  rw [← Array.forIn_toList]
  generalize (P.fieldsOf t).toList = fs
  clear ht
  induction fs with
  | nil => simp [Op.eqFields, pur_pure]
  | cons f fs ih =>
    simp only [List.forIn_cons, Op.eqFields, pur_bind, pur_ite]
    by_cases hn : f.name ≠ "_"
    · simp only [if_pos hn]
      cases pur P (part f.type xs f.offset) with
      | none => rfl
      | some r1 =>
        cases r1 with
        | pan v => rfl
        | ok a =>
          simp only
          cases pur P (part f.type ys f.offset) with
          | none => rfl
          | some r2 =>
            cases r2 with
            | pan v => rfl
            | ok b =>
              simp only
              cases pur P (Op.equalIn d f.type a b) with
              | none => rfl
              | some r3 =>
                cases r3 with
                | pan v => rfl
                | ok r =>
                  cases r
                  · simp [pur_pure]
                  · simp only [Bool.not_true, Bool.false_eq_true, if_false, pur_pure]
                    exact ih
    · simp only [if_neg hn, pur_pure]
      exact ih
theorem pur_equalIn_int (d : Nat) (t : TypeId) (k k' : IntKind) (a b : Int) (h : P.underlying t = some (.int k')) : pur P (Op.equalIn (d + 1) t (.int k a) (.int k b)) = some (.ok (a == b)) := by
  simp only [Op.equalIn, pur_bind, pur_und h]
  simp [pur_pure]
variable {d : Option Tmp} {ty : TypeId} {ps : String} {af : Array Edge} {g : Option (Nat × Bool)} {f : TypeId} {t : TM} {h : AH}
/-! The same as rules for the simplifier. -/
def aBinQ (P : Program) (T : TT) (o : Oper) (t : TM) (h : AH) (op : BinOp) (e : TypeId) (x y : Operand) : AR := aBinR P T o t h op e x y
end Go.Proofs.Ytjkmmbfenhhjkaa.Ex
end

section

set_option linter.unusedSimpArgs false
set_option linter.unusedVariables false
set_option maxRecDepth 10000
namespace Go.Proofs.Ytjkmmbfenhhjkaa.Ex
open Go
section
theorem pur_eq_node (a0 : Int) (a1 : Int) (b0 : Int) (b1 : Int) : pur Try.prog (Op.equal 23 (.agg #[.int .i64 a0, .int .i64 a1]) (.agg #[.int .i64 b0, .int .i64 b1])) = some (.ok ((a0 == b0) && (a1 == b1))) := by
  show pur Try.prog (Op.equalIn (9999 + 1) 23 (.agg #[.int .i64 a0, .int .i64 a1]) (.agg #[.int .i64 b0, .int .i64 b1])) = _
  rw [pur_equalIn_struct 9999 23 _ _ (by kernel_rfl) (by kernel_rfl)]
  obtain ⟨f0, f1, hf, n0, n1, t0, t1, z0, z1⟩ : ∃ f0 f1 : Field, (Try.prog.fieldsOf 23).toList = [f0, f1] ∧ f0.name ≠ "_" ∧ f1.name ≠ "_" ∧ f0.type = 3 ∧ f1.type = 3 ∧ f0.offset = 0 ∧ f1.offset = 1 := by
    unfold Program.fieldsOf
    rw [Try.underlying23]
    exact ⟨_, _, rfl, by decide, by decide, rfl, rfl, rfl, rfl⟩
  rw [hf]
  have p0 : ∀ (a0 : Int) (a1 : Int), pur Try.prog (part 3 #[.int .i64 a0, .int .i64 a1] 0) = some (.ok (.int .i64 a0)) := fun a0 a1 => by kernel_rfl
  have p1 : ∀ (a0 : Int) (a1 : Int), pur Try.prog (part 3 #[.int .i64 a0, .int .i64 a1] 1) = some (.ok (.int .i64 a1)) := fun a0 a1 => by kernel_rfl
  have qi : ∀ x y : Int, pur Try.prog (Op.equalIn 9999 3 (.int .i64 x) (.int .i64 y)) = some (.ok (x == y)) := fun x y => pur_equalIn_int 9998 3 .i64 .i64 x y Try.underlying3
  simp only [Op.eqFields, n0, t0, z0, p0, n1, t1, z1, p1, ne_eq, not_false_eq_true, if_true, pur_bind, qi, pur_ite, pur_pure]
  cases (a0 == b0) <;> cases (a1 == b1) <;> rfl
variable {d : Option Tmp} {ty : TypeId} {ps : String} {af : Array Edge} {g : Option (Nat × Bool)} {f : TypeId} {t : TM} {h : AH}
theorem a_nenode {i j : Nat} {a0 : Int} {a1 : Int} {b0 : Int} {b1 : Int} (hi : t.get i = .agg [.lit (.int .i64 a0), .lit (.int .i64 a1)]) (hj : t.get j = .agg [.lit (.int .i64 b0), .lit (.int .i64 b1)]) :
    aBin Try.prog (tabOf Try.prog NT0) ⟨d, .binOp .neq 23 (.tmp i) (.tmp j) f, ty, ps, af, g⟩ t h .neq 23 (.tmp i) (.tmp j) = some (.val (.lit (.bool (!((a0 == b0) && (a1 == b1))))), h) := by
  have e1 : evalA t (.tmp i) = some (.agg [.lit (.int .i64 a0), .lit (.int .i64 a1)]) := by rw [ev_tmp, hi]
  have e2 : evalA t (.tmp j) = some (.agg [.lit (.int .i64 b0), .lit (.int .i64 b1)]) := by rw [ev_tmp, hj]
  have l1 : litEnv t (.tmp i) = .agg #[.int .i64 a0, .int .i64 a1] := by unfold litEnv; rw [e1]; rfl
  have l2 : litEnv t (.tmp j) = .agg #[.int .i64 b0, .int .i64 b1] := by unfold litEnv; rw [e2]; rfl
  have hl : litOp Try.prog ⟨d, .binOp .neq 23 (.tmp i) (.tmp j) f, ty, ps, af, g⟩ t = some (.val (.lit (.bool (!((a0 == b0) && (a1 == b1)))))) := by
    unfold litOp
    rw [if_pos (by
      show (notSelect _ && litAll t [.tmp i, .tmp j]) = true
      simp only [litAll, e1, e2]
      rfl)]
    have : pur Try.prog (execOp (litEnv t) ⟨d, .binOp .neq 23 (.tmp i) (.tmp j) f, ty, ps, af, g⟩) = some (.ok (.value (.bool (!((a0 == b0) && (a1 == b1)))))) := by
      show pur Try.prog (do pure (Next.value (← (do eqGuard .neq 23 (.tmp i) (.tmp j) (litEnv t (.tmp i)) (litEnv t (.tmp j)); binOp .neq 23 (litEnv t (.tmp i)) (litEnv t (.tmp j)))))) = _
      rw [l1, l2]
      have hg : pur Try.prog (eqGuard .neq 23 (.tmp i) (.tmp j) (.agg #[.int .i64 a0, .int .i64 a1]) (.agg #[.int .i64 b0, .int .i64 b1])) = some (.ok ()) := by
        have hm : Try.prog.eqGuardType Try.prog.depth 23 = false := by kernel_rfl
        simp [eqGuard, pur_bind, pur_program, hm, pur_pure]
      have hb : pur Try.prog (binOp .neq 23 (.agg #[.int .i64 a0, .int .i64 a1]) (.agg #[.int .i64 b0, .int .i64 b1])) = some (.ok (.bool (!((a0 == b0) && (a1 == b1))))) := by
        show pur Try.prog (do pure (Value.bool (!(← Op.equal 23 (.agg #[.int .i64 a0, .int .i64 a1]) (.agg #[.int .i64 b0, .int .i64 b1]))))) = _
        simp only [pur_bind, pur_eq_node, pur_pure]
      simp only [pur_bind, hg, hb, pur_pure]
    rw [this]
    rfl
  unfold aBin
  rw [e1, e2]
  show orLit _ _ _ _ _ = _
  unfold orLit
  rw [hl]
def neMnode (h : AH) (r : AR) : AV → AV → AR
  | .agg [.lit (.int .i64 a0), .lit (.int .i64 a1)], .agg [.lit (.int .i64 b0), .lit (.int .i64 b1)] => some (.val (.lit (.bool (!((a0 == b0) && (a1 == b1))))), h)
  | _, _ => r
theorem neMnode_eq {r : AR} {a0 : Int} {a1 : Int} {b0 : Int} {b1 : Int} : neMnode h r (.agg [.lit (.int .i64 a0), .lit (.int .i64 a1)]) (.agg [.lit (.int .i64 b0), .lit (.int .i64 b1)]) = some (.val (.lit (.bool (!((a0 == b0) && (a1 == b1))))), h) := rfl
theorem a_neMnode {i j : Nat} : aBinR Try.prog (tabOf Try.prog NT0) ⟨d, .binOp .neq 23 (.tmp i) (.tmp j) f, ty, ps, af, g⟩ t h .neq 23 (.tmp i) (.tmp j) = neMnode h (aBinQ Try.prog (tabOf Try.prog NT0) ⟨d, .binOp .neq 23 (.tmp i) (.tmp j) f, ty, ps, af, g⟩ t h .neq 23 (.tmp i) (.tmp j)) (t.get i) (t.get j) := by
  unfold neMnode
  split
  · rename_i h1 h2
    exact a_nenode h1 h2
  · rfl
end
end Go.Proofs.Ytjkmmbfenhhjkaa.Ex
end

section

set_option linter.unusedSimpArgs false
set_option linter.unusedVariables false
namespace Go.Proofs.Ytjkmmbfenhhjkaa.Ex
open Go Go.RowKit Go.ChangeShapes Go.WideShapes Go.ChangeAt
section
variable {H : Type} {enc : TypeId × Value → H} {W : World}
end
end Go.Proofs.Ytjkmmbfenhhjkaa.Ex
end

section

set_option linter.unusedSimpArgs false
set_option linter.unusedVariables false
namespace Go.Proofs.Ytjkmmbfenhhjkaa.Ex
open Go Go.RowKit Go.ChangeShapes Go.WideShapes Go.ChangeAt
theorem rels_absV {ρ : Nat → Value} {w : World} : ∀ {cs : List Value}, (∀ c ∈ cs, c.oneCell' = true) → rels ρ (mu0 w) w (cs.map (absV w)) cs
  | [], _ => rels_nil
  | c :: r, h => rels_cons (absV_rel (h c (by simp))) (rels_absV fun x hx => h x (by simp [hx]))
theorem law_join {W : World} {f : FuncId} {vs : List Value} {avs : List AV} (ha : rels (fun _ => default) (mu0 W) W avs vs) (hw : WC Try.prog (tabOf Try.prog NT0) S0 f avs (absH W) fun v h' => v = .lit (.bool true)) :
    Calls Try.prog f vs.toArray W fun e w' => e = .returned (.bool true) ∧ Below W.heap.size W w' := by
  obtain ⟨n, o, h1, hex, v, cm, rfl, rfl⟩ := hw
  refine (ex_callsH tab_sound noNG follows_mixed (sums_ok _ _) (absH_hr W) (absH_nw W) hex ha).mono fun e w' hy => ?_
  obtain ⟨v', μ', rfl, hb, hv⟩ := hy
  exact ⟨by rw [rel_bool_inv hv], hb⟩
theorem open_agg {ρ : Nat → Value} {P : Program} {H : Type} {enc : TypeId × Value → H} {W : World} {base : Nat} {t : TypeId} {v0 : Value} {d0 : DataW H} {p0 : List MemPlace} {d : TypeDesc} {α : Type} {R : Rep α} {B : α → Prop} (hO : OpensA enc P W t R B) (hu : P.underlying t = some d) (hd : isAggD d = true)
    (k0 : Value.okWide P W .any base t v0) (h0 : DataW.Trod enc P W 0 (fun _ => true) true t v0 d0 p0) (hw : ∀ n ∈ d0.weights P t, n ≤ reachBytes) :
    ∃ (cs : List AV) (y : α), rel ρ (mu0 W) W (.agg cs) v0 ∧ R.is (InH W) (absH W) cs y ∧ B y := by
  obtain ⟨cs, rfl, h1, h2⟩ := okWide_agg hu hd k0
  obtain ⟨fuel, hf⟩ := h0
  obtain ⟨h3, h4, y, h5, h6⟩ := hO.2 fuel cs.toList _ hf (List.all_eq_true.2 fun n hn => (by simpa using hw n hn))
  refine ⟨_, y, ?_, h5, h6.1⟩
  unfold rel
  exact ⟨cs.toList, by simp, rels_absV h4⟩
end Go.Proofs.Ytjkmmbfenhhjkaa.Ex
end

section

set_option linter.unusedSimpArgs false
set_option linter.unusedVariables false
namespace Go.Proofs.Ytjkmmbfenhhjkaa.Ex
open Go Go.RowKit Go.ChangeShapes Go.WideShapes Go.ChangeAt
theorem open_sl {P : Program} {H : Type} {enc : TypeId × Value → H} {W : World} {base : Nat} {t e : TypeId} {v0 : Value} {d0 : DataW H} {p0 : List MemPlace} {α : Type} {R : Rep α} {B : List α → Prop} (hO : OpensA enc P W t (RSl R) B) (hu : P.underlying t = some (.slice e))
    (k0 : Value.okWide P W .any base t v0) (h0 : DataW.Trod enc P W 0 (fun _ => true) true t v0 d0 p0) (hw : ∀ n ∈ d0.weights P t, n ≤ reachBytes) :
    ∃ (v : AV) (ys : List α), rel (fun _ => default) (mu0 W) W v v0 ∧ IsSl R (InH W) (absH W) v ys ∧ B ys := by
  obtain ⟨a, len, cap, rfl⟩ := okWide_slice hu k0
  obtain ⟨fuel, hf⟩ := h0
  obtain ⟨h3, h4, y, h5, h6⟩ := hO.2 fuel [Value.slice a len cap] _ hf (List.all_eq_true.2 fun n hn => (by simpa using hw n hn))
  obtain ⟨v', e', h5⟩ := RSl_is.1 h5
  cases e'
  exact ⟨_, y, absV_rel (h4 _ (by simp)), h5, h6.1⟩
end Go.Proofs.Ytjkmmbfenhhjkaa.Ex
end

section

set_option linter.unusedSimpArgs false
set_option linter.unusedVariables false
set_option maxRecDepth 10000
set_option maxHeartbeats 4000000
namespace Go.Proofs.Ytjkmmbfenhhjkaa.Ex
open Go
theorem chgN_succ {l : List IncD} {i : Nat} {x : IncD} (hx : l[i]? = some x) : chgN (l.take (i + 1)) = chgN (l.take i) + x.changes.length := by
  unfold chgN
  rw [List.take_add_one, hx, List.map_append, List.sum_append]
  rfl
end Go.Proofs.Ytjkmmbfenhhjkaa.Ex
end

section

set_option linter.unusedSimpArgs false
set_option linter.unusedVariables false
set_option maxRecDepth 10000
set_option maxHeartbeats 4000000
namespace Go.Proofs.Ytjkmmbfenhhjkaa.Ex
open Go
/-- The message of maps of the law. -/
def msgL (k i ep : Int) (vi : AV) : List AV :=
  [.lit (.int .i64 15), .lit (.int .i64 1), .lit (.int .i64 0), .lit (.int .i64 k), .lit (.int .i64 i), .lit (.int .i64 0), .lit (.int .i64 ep), .lit (.int .i64 0), .lit (.int .i64 0), .lit (.int .i64 0), .lit (.int .i64 0), .lit (.int .i64 0), .lit (.slice none 0 0), vi, .lit (.slice none 0 0),
   .lit (.int .i64 0), .lit (.int .i64 0), .lit (.int .i64 0), .lit (.int .i64 0), .lit (.int .i64 0), .lit (.int .i64 0), .lit (.int .i64 0), .lit (.int .i64 0), .lit (.int .i64 0), .lit (.slice none 0 0), .lit (.slice none 0 0), .lit (.slice none 0 0), .lit (.int .i64 0), .lit (.int .i64 0), .lit (.bool false), .lit (.int .i64 0), .lit (.string ⟨#[]⟩), .lit (.int .i64 0), .lit (.int .i64 0), .lit (.string ⟨#[]⟩), .lit (.int .i64 0), .lit (.int .i64 0), .lit (.slice none 0 0), .lit (.int .i64 0), .lit (.string ⟨#[]⟩), .lit (.slice none 0 0), .lit (.int .i64 0), .lit (.int .i64 0), .lit (.slice none 0 0), .lit (.slice none 0 0), .lit (.int .i64 0)]
theorem stepD_cons (m : MapD) (x : IncD) (r : List IncD) : stepD m (x :: r) = if x.epoch ≤ m.epoch then stepD m r else if (applyD m x).2 = 0 then stepD (applyD m x).1 r else m := rfl
theorem applyD_epoch {m : MapD} {x : IncD} (h : (applyD m x).2 = 0) : (applyD m x).1.epoch = x.epoch := by
  unfold applyD at h ⊢
  by_cases he : m.epoch = 9223372036854775807 ∨ ¬ x.epoch = m.epoch + 1
  · rw [if_pos he] at h; cases h
  rw [if_neg he] at h ⊢
  by_cases h0 : (applyC m x.changes).2 = 0
  · rw [if_pos h0]
  · rw [if_neg h0] at h
    exact absurd h h0
theorem Step_x {F : Nat → Prop} {H : AH} {q : Nat} {ep : Int} {c : CliD} {m : MapD} {vi : AV} (l : List IncD) (k : Nat) (hq : Cl q H c m) (hb : 0 < c.boot) (hl : IsSl RInc F H vi l) (hF : ∀ b, F b → b ≠ q) (hlen : l.length ≤ 1000000) (hi : ∀ x ∈ l, ∀ c ∈ x.changes, c.bucket.items.length ≤ 1048576) (hsz : ∀ x ∈ l, Sm 88 x.changes ∧ ∀ c ∈ x.changes, Sm 8 c.bucket.items ∧ Sm 8 c.bucket.weights)
    (hst : StOk m k) (he : I64 m.epoch) (hk : k + chgN l ≤ 1000000000) :
    WC Try.prog (tabOf Try.prog NT0) S0 6 [.ptr q 0, .agg (msgL c.k c.i ep vi)] H fun r h' => Kq q H h' ∧ Cl q h' c (stepD m l) := by
  refine WC_fn Try.func6 rfl rfl ?_
  have s1 := hl.isSl
  have d1 := hl.lenD
  have c1 := hl.one
  obtain ⟨hp, hhp⟩ : ∃ hp, hp = H.push (.cells (msgL c.k c.i ep vi) 58) := ⟨_, rfl⟩
  have EP : Ext H.n H hp := hhp ▸ (Ext.refl _ _).push _ (Nat.le_refl _)
  have P0 : hp.at H.n = some (.cells (msgL c.k c.i ep vi) 58) := hhp ▸ at_push_n _ _
  have hqn := hq.lt
  have hqp := hq.ext EP
  unfold msgL at P0 hhp
  have LP := ld_at (T := tabOf Try.prog NT0) P0
  have lP := at_lt P0
  have lp0 := hl.ext EP (Nat.le_refl _)
  unfold msgL
  simp only [core, zrA, zrS, zrM, zrL, zrE, reduceCtorEq, zrD, ziE, ziL, ziN, Try.ntmps6, c1, ← hhp]
  rw [WB_regionD [0, 1, 2, 3, 4, 5, 6, 7, 8, 9, 10, 11] 11146288031902756625935560190634610435035136 (by kernel_rfl)]
  repeat ((with_reducible refine WDM_cons ?_; simp only [dw1]; try simp only [dw2, zrA, zrM, zrR, zrO, zrE]); simp only [core, zrA, zrS, zrM, zrL, zrE, reduceCtorEq, zrD, ziE, ziL, ziN, cored, LP, lP])
  refine (made_x1 hqp hb).mono ?_
  rintro _ _ ⟨rfl, q5⟩
  replace q5 := q5.symm
  subst q5
  obtain ⟨vo, vp, vb, h1, h2⟩ := id hqp
  unfold cliC at h1
  have L := ld_at (T := tabOf Try.prog NT0) h1
  have lq := at_lt h1
  have hpn : pur Try.prog (binOp .neq 79 (.pointer none) (.pointer none)) = some (.ok (.bool false)) := by kernel_rfl
  have hkk : (!((c.k == c.k) && (c.i == c.i))) = false := by simp
  have h15 : ((15 : Int) == 15) = true := rfl
  have h11 : ((1 : Int) == 1) = true := rfl
  repeat ((with_reducible refine WDM_cons ?_; simp only [dw1]; try simp only [dw2, zrA, zrM, zrR, zrO, zrE]); simp only [core, zrA, zrS, zrM, zrL, zrE, reduceCtorEq, zrD, ziE, ziL, ziN, cored, LP, lP, L, lq, a_neMnode, neMnode_eq, hkk, h15, h11, s1, d1])
  obtain ⟨N, hN⟩ : ∃ N, N = l.length := ⟨_, rfl⟩
  rw [← hN]
  rw [← hN] at d1
  refine WB_for N (fun i t h => ∃ n, Cl q h c n ∧ StOk n (k + chgN (l.take i)) ∧ I64 n.epoch ∧ stepD m l = stepD n (l.drop i) ∧ Kq q hp h ∧ t.n = 141 ∧ t.get 0 = .ptr q 0 ∧ t.get 3 = .ptr H.n 0 ∧ t.get 4 = .lit (.slice none 0 0) ∧ t.get 5 = .lit (.int .i64 m.epoch) ∧ t.get 39 = vi ∧ t.get 40 = .lit (.int .i64 N) ∧ t.get 41 = .lit (.int .i64 i)) ?_ ?_ _ _ ?_
  · rintro i t h hlt hc ⟨n, hcl, hsn, hen, hd, hkq, hn, g0, g3, g4, g5, g39, g40, g41⟩ ih
    obtain ⟨x, hx⟩ : ∃ x, l[i]? = some x := ⟨_, List.getElem?_eq_getElem (by omega)⟩
    have hxm := List.mem_of_getElem? hx
    have hl' := hkq.sl lp0 hF
    obtain ⟨cc, hc1, hld, hld0⟩ := hl'.at (T := tabOf Try.prog NT0) RInc_z hx
    obtain ⟨vc, rfl, hch, hex⟩ := RInc_is.1 hc1
    have v1 := hch.one
    have v2 := hch.isSl
    have v3 := hch.lenD
    have hwi := wrap_succ (n := N) hlt (by omega)
    obtain ⟨hA, hhA⟩ : ∃ hA, hA = h.push (.cells [.lit (.int .i64 x.epoch), vc] 85) := ⟨_, rfl⟩
    have eA : Ext h.n h hA := hhA ▸ (Ext.refl _ _).push _ (Nat.le_refl _)
    have XA : hA.at h.n = some (.cells [.lit (.int .i64 x.epoch), vc] 85) := hhA ▸ at_push_n _ _
    have LXA := ld_at (T := tabOf Try.prog NT0) XA
    have lXA := at_lt XA
    have hclA := hcl.ext eA
    have hkA := hkq.trans (.ext eA)
    obtain ⟨wo, wp, wb, y1, y2⟩ := id hclA
    have o1 := y2.o.one
    have o2 := y2.p.one
    have o3 := y2.b.one
    have p1 := y2.o.isSl
    have p2 := y2.p.isSl
    have p3 := y2.b.isSl
    unfold cliC at y1
    have LY := ld_at (T := tabOf Try.prog NT0) y1
    have lY := at_lt y1
    have hdc : l.drop i = x :: l.drop (i + 1) := by
      obtain ⟨hil, rfl⟩ := List.getElem?_eq_some_iff.1 hx
      exact List.drop_eq_getElem_cons hil
    have hchs : k + chgN (l.take i) + x.changes.length ≤ 1000000000 := Nat.le_trans (by have := chgN_mem hx; omega) hk
    have hsn' : StOk n (k + chgN (l.take (i + 1))) := hsn.mono (by rw [chgN_succ hx]; omega)
    simp only [core, zrA, zrS, zrM, zrL, zrE, reduceCtorEq, zrD, ziE, ziL, ziN, hn, g0, g3, g4, g5, g39, g40, g41, hlt, hc, s1, d1, hld, hld0, v1, ← hhA]
    rw [WB_regionD [0, 1, 2, 3, 4, 5, 6, 7] 9168233779351781632 (by kernel_rfl)]
    by_cases hle : x.epoch ≤ n.epoch
    · repeat (first | ((with_reducible refine WDM_cons ?_; simp only [dw1]; try simp only [dw2, zrA, zrM, zrR, zrO, zrE]); simp only [core, zrA, zrS, zrM, zrL, zrE, reduceCtorEq, zrD, ziE, ziL, ziN, cored, hn, g0, g3, g4, g5, g39, g40, g41, LXA, lXA, LY, lY, hle, hwi]) | simp only [core, zrA, zrS, zrM, zrL, zrE, reduceCtorEq, zrD, ziE, ziL, ziN, cored, hn, g0, g3, g4, g5, g39, g40, g41, LXA, lXA, LY, lY, hle, hwi])
      refine ih _ _ ⟨n, hclA, hsn', hen, ?_, hkA, ?_⟩
      · rw [hd, hdc, stepD_cons, if_pos hle]
      · simp only [core, zrA, zrS, zrM, zrL, zrE, reduceCtorEq, zrD, ziE, ziL, ziN, hn, g0, g3, g4, g5, g39, g40, g41]
    · repeat ((with_reducible refine WDM_cons ?_; simp only [dw1]; try simp only [dw2, zrA, zrM, zrR, zrO, zrE]); simp only [core, zrA, zrS, zrM, zrL, zrE, reduceCtorEq, zrD, ziE, ziL, ziN, cored, hn, g0, g3, g4, g5, g39, g40, g41, LXA, lXA, LY, lY, hle, hwi])
      rw [WB_regionD [0, 1, 2, 3, 4, 9, 5, 6, 7, 8, 10, 11] 11145947599277408019301084219409282117931008 (by kernel_rfl)]
      repeat ((with_reducible refine WDM_cons ?_; simp only [dw1]; try simp only [dw2, zrA, zrM, zrR, zrO, zrE]); simp only [core, zrA, zrS, zrM, zrL, zrE, reduceCtorEq, zrD, ziE, ziL, ziN, cored, hn, g0, g3, g4, g5, g39, g40, g41, LXA, lXA, LY, lY, o1, o2, o3, v1])
      refine ⟨by simp only [same_sl, v2, p1, p2, p3, Bool.and_self], ?_⟩
      obtain ⟨hB, hhB⟩ : ∃ hB, hB = hA.push (.cells [.lit (.int .i64 0), .lit (.slice none 0 0), .lit (.slice none 0 0), .lit (.slice none 0 0), .lit (.int .i64 0)] 72) := ⟨_, rfl⟩
      rw [← hhB]
      have eB : Ext hA.n hA hB := hhB ▸ (Ext.refl _ _).push _ (Nat.le_refl _)
      have ZB : hB.at hA.n = some (.cells [.lit (.int .i64 0), .lit (.slice none 0 0), .lit (.slice none 0 0), .lit (.slice none 0 0), .lit (.int .i64 0)] 72) := hhB ▸ at_push_n _ _
      have nB : hB.n = hA.n + 1 := by rw [hhB, n_push]
      have y2' := y2.ext eB (Nat.le_refl _)
      have mT : MpAt (fun _ => True) hB n wo wp wb := ⟨y2'.o.lift fun _ _ _ => ⟨rfl, trivial⟩, y2'.p.lift fun _ _ _ => ⟨rfl, trivial⟩, y2'.b.lift fun _ _ _ => ⟨rfl, trivial⟩⟩
      have eAB := eA.trans (eB.mono eA.1)
      have cT : IsSl RCh (fun _ => True) hB vc x.changes := (hch.ext eAB (Nat.le_refl _)).lift fun _ _ _ => ⟨rfl, trivial⟩
      refine (Apply_x x mT (hsn.ok (by omega)) (by have := hsn.nb; omega) hen cT (hsz x hxm).1 (hsz x hxm).2 (fun j n' hj hh => (hsn.run (hi x hxm) hh).sz (by omega))).mono ?_
      rintro _ h4 ⟨e4, ro, rp, rb, rfl, m4⟩
      have z1 := m4.o.one
      have z2 := m4.p.one
      have z3 := m4.b.one
      have Z4 := (e4.2 _ (at_lt ZB)).trans ZB
      have lZ4 := at_lt Z4
      have y4 := ((eB.trans (e4.mono eB.1)).2 _ lY).trans y1
      have lY4 := at_lt y4
      have LY4 := ld_at (T := tabOf Try.prog NT0) y4
      obtain ⟨er, her⟩ : ∃ er, er = (applyD n x).2 := ⟨_, rfl⟩
      obtain ⟨n2, hn2⟩ : ∃ n2, n2 = (applyD n x).1 := ⟨_, rfl⟩
      rw [← hn2] at m4
      rw [← her, ← hn2]
      unfold mpV
      have hqA : q < hA.n := hclA.lt
      have hk4 : Kq q hp h4 := hkA.trans ((Kq.ext eB).trans (.ext e4))
      obtain ⟨h5, hh5⟩ : ∃ h5, h5 = h4.put hA.n (.cells [.lit (.int .i64 n2.epoch), ro, rp, rb, .lit (.int .i64 n2.leaf)] 72) := ⟨_, rfl⟩
      have n5 : h5.n = h4.n := by rw [hh5, n_put]
      have Z5 : h5.at hA.n = some (.cells [.lit (.int .i64 n2.epoch), ro, rp, rb, .lit (.int .i64 n2.leaf)] 72) := hh5 ▸ at_put_same _ lZ4
      have LZ5 := ld_at (T := tabOf Try.prog NT0) Z5
      have lZ5 := at_lt Z5
      have y5 : h5.at q = _ := (hh5 ▸ at_put_ne _ (by omega)).trans y4
      have LY5 := ld_at (T := tabOf Try.prog NT0) y5
      have lY5 := at_lt y5
      have k5 : Kq q hp h5 := by
        refine ⟨by rw [n5]; exact hk4.1, fun b hb hbq => ?_⟩
        rw [hh5, at_put_ne _ (by have := hkA.1; omega)]
        exact hk4.2 b hb hbq
      have ap : ∀ b, hB.n ≤ b → b < h4.n → h5.at b = h4.at b := fun b hb _ => by rw [hh5, at_put_ne _ (by omega)]
      by_cases h0 : er = 0
      · have h0e : (er != 0) = false := by rw [h0]; rfl
        repeat (first | ((with_reducible refine WDM_cons ?_; simp only [dw1]; try simp only [dw2, zrA, zrM, zrR, zrO, zrE]); simp only [core, zrA, zrS, zrM, zrL, zrE, reduceCtorEq, zrD, ziE, ziL, ziN, cored, hn, g0, g3, g4, g5, g39, g40, g41, Z4, lZ4, z1, z2, z3, h0e, hwi, ← hh5, y5, LY5, lY5, LZ5, lZ5]) | simp only [core, zrA, zrS, zrM, zrL, zrE, reduceCtorEq, zrD, ziE, ziL, ziN, cored, hn, g0, g3, g4, g5, g39, g40, g41, Z4, lZ4, z1, z2, z3, h0e, hwi, ← hh5, y5, LY5, lY5, LZ5, lZ5])
        have h00 : (applyD n x).2 = 0 := by rw [← her]; exact h0
        refine ih _ _ ⟨n2, ⟨ro, rp, rb, at_put_same _ lY5, ?_, ?_, ?_⟩, ?_, ?_, ?_, k5.put _, ?_⟩
        · exact m4.o.lift fun b hb hlt => ⟨(at_put_ne _ (by omega)).trans (ap b hb hlt), by omega⟩
        · exact m4.p.lift fun b hb hlt => ⟨(at_put_ne _ (by omega)).trans (ap b hb hlt), by omega⟩
        · exact m4.b.lift fun b hb hlt => ⟨(at_put_ne _ (by omega)).trans (ap b hb hlt), by omega⟩
        · rw [hn2, chgN_succ hx, ← Nat.add_assoc]
          exact (applyD_st hsn (hi x hxm) h00).1
        · rw [hn2, applyD_epoch h00]; exact hex
        · rw [hd, hdc, stepD_cons, if_neg hle, if_pos h00, hn2]
        · simp only [core, zrA, zrS, zrM, zrL, zrE, reduceCtorEq, zrD, ziE, ziL, ziN, hn, g0, g3, g4, g5, g39, g40, g41]
      · have h0e : (er != 0) = true := bne_iff_ne.2 h0
        have hdn : stepD m l = n := by
          rw [hd, hdc, stepD_cons, if_neg hle, if_neg (by rw [← her]; exact h0)]
        have hfin : Cl q h5 c n := by
          have ee : Ext hA.n hA h5 := by
            refine ⟨by rw [n5]; exact (eB.trans (e4.mono eB.1)).1, fun b hb => ?_⟩
            rw [hh5, at_put_ne _ (by omega)]
            exact (eB.trans (e4.mono eB.1)).2 b hb
          exact hclA.ext ee
        by_cases hgt : m.epoch < n.epoch
        · repeat (first | ((with_reducible refine WDM_cons ?_; simp only [dw1]; try simp only [dw2, zrA, zrM, zrR, zrO, zrE]); simp only [core, zrA, zrS, zrM, zrL, zrE, reduceCtorEq, zrD, ziE, ziL, ziN, cored, hn, g0, g3, g4, g5, g39, g40, g41, Z4, lZ4, z1, z2, z3, h0e, ← hh5, y5, LY5, lY5, hgt, a_nilN, hpn]) | simp only [core, zrA, zrS, zrM, zrL, zrE, reduceCtorEq, zrD, ziE, ziL, ziN, cored, hn, g0, g3, g4, g5, g39, g40, g41, Z4, lZ4, z1, z2, z3, h0e, ← hh5, y5, LY5, lY5, hgt, a_nilN, hpn])
          rw [hdn]
          exact ⟨(Kq.ext EP).trans k5, hfin⟩
        · repeat (first | ((with_reducible refine WDM_cons ?_; simp only [dw1]; try simp only [dw2, zrA, zrM, zrR, zrO, zrE]); simp only [core, zrA, zrS, zrM, zrL, zrE, reduceCtorEq, zrD, ziE, ziL, ziN, cored, hn, g0, g3, g4, g5, g39, g40, g41, Z4, lZ4, z1, z2, z3, h0e, ← hh5, y5, LY5, lY5, hgt, a_nilN, hpn]) | simp only [core, zrA, zrS, zrM, zrL, zrE, reduceCtorEq, zrD, ziE, ziL, ziN, cored, hn, g0, g3, g4, g5, g39, g40, g41, Z4, lZ4, z1, z2, z3, h0e, ← hh5, y5, LY5, lY5, hgt, a_nilN, hpn])
          rw [hdn]
          exact ⟨(Kq.ext EP).trans k5, hfin⟩
  · rintro t h hc ⟨n, hcl, hsn, hen, hd, hkq, hn, g0, g3, g4, g5, g39, g40, g41⟩
    rw [hN, List.drop_length] at hd
    have hd : stepD m l = n := hd
    obtain ⟨wo, wp, wb, y1, y2⟩ := id hcl
    unfold cliC at y1
    have LY := ld_at (T := tabOf Try.prog NT0) y1
    have lY := at_lt y1
    by_cases hgt : m.epoch < n.epoch
    · simp only [core, zrA, zrS, zrM, zrL, zrE, reduceCtorEq, zrD, ziE, ziL, ziN, hn, g0, g3, g4, g5, g39, g40, g41, hc, y1, LY, lY, hgt, a_nilN, hpn]
      rw [hd]
      exact ⟨(Kq.ext EP).trans hkq, hcl⟩
    · simp only [core, zrA, zrS, zrM, zrL, zrE, reduceCtorEq, zrD, ziE, ziL, ziN, hn, g0, g3, g4, g5, g39, g40, g41, hc, y1, LY, lY, hgt, a_nilN, hpn]
      rw [hd]
      exact ⟨(Kq.ext EP).trans hkq, hcl⟩
  · refine ⟨m, hqp, by simpa [chgN] using hst, he, rfl, .refl _ _, ?_⟩
    simp only [core, zrA, zrS, zrM, zrL, zrE, reduceCtorEq, zrD, ziE, ziL, ziN]
    (repeat' apply And.intro) <;> first | rfl | trivial
end Go.Proofs.Ytjkmmbfenhhjkaa.Ex
end

section

set_option linter.unusedSimpArgs false
set_option linter.unusedVariables false
set_option maxRecDepth 10000
set_option maxHeartbeats 4000000
namespace Go.Proofs.Ytjkmmbfenhhjkaa.Ex
open Go
def withinF (m : MapD) (id : Int) : Bool := m.buckets.any (fun b => b.items.contains id)
def twiceF (m : MapD) (i : Nat) : Bool := (m.buckets.take i).any (fun c => c.id == (m.buckets.getD i bkt0).id)
def mayO (o : OsdD) (osd x : Int) : Bool := o.ex && o.up && decide (0 < o.weight) && decide (IntKind.i64.wrap ((hash2F x (IntKind.u32.wrap osd)).tmod 65536) < o.weight)
def mayF (m : MapD) (osd x : Int) : Bool := if 0 ≤ osd then (match m.osds[osd.toNat]? with | some o => mayO o osd x | none => false) else false
end Go.Proofs.Ytjkmmbfenhhjkaa.Ex
end

section

set_option linter.unusedSimpArgs false
set_option linter.unusedVariables false
set_option maxRecDepth 10000
set_option maxHeartbeats 4000000
namespace Go.Proofs.Ytjkmmbfenhhjkaa.Ex
open Go
/-! Own rows of numbers. -/
def iL (xs : List Int) : List AV := xs.map fun n => .lit (.int .i64 n)
theorem iL_len (xs : List Int) : (iL xs).length = xs.length := by simp [iL]
theorem OwnL.ints {G : Nat → Prop} {n0 : Nat} {h : AH} {v : AV} {e : TypeId} {xs : List Int} (ho : OwnL RInt G n0 h v e xs) (hne : xs ≠ []) :
    ∃ p, v = .sl p 0 xs.length (.un 1) ∧ n0 ≤ p ∧ h.at p = some (.cells (iL xs) e) ∧ ∀ x ∈ xs, I64 x := by
  obtain ⟨L, h1, h2⟩ := ho
  have hL : L.flatten = iL xs ∧ ∀ x ∈ xs, I64 x := by
    obtain ⟨e1, e2⟩ := h2
    have key : ∀ (L : List (List AV)) (xs : List Int), L.length = xs.length → (∀ (i : Nat) c x, L[i]? = some c → xs[i]? = some x → RInt.is (fun b => G b ∧ Apart v b) h c x) → L.flatten = iL xs ∧ ∀ x ∈ xs, I64 x := by
      intro L
      induction L with
      | nil => intro xs hl _; cases xs with | nil => exact ⟨rfl, by simp⟩ | cons => cases hl
      | cons a r ih =>
        intro xs hl hh
        cases xs with
        | nil => cases hl
        | cons x xs =>
          obtain ⟨i1, i2⟩ := ih xs (by simpa using hl) (fun i c y a b => hh (i + 1) c y (by simpa using a) (by simpa using b))
          obtain ⟨rfl, j2⟩ := hh 0 a x rfl rfl
          refine ⟨by rw [List.flatten_cons, i1]; rfl, fun y hy => ?_⟩
          rcases List.mem_cons.1 hy with rfl | hy
          · exact j2
          · exact i2 y hy
    exact key L xs e1 e2
  have e0 := h2.1
  rcases h1.2 with ⟨rfl, rfl⟩ | ⟨p, rfl, hp, hat⟩
  · exact absurd (List.eq_nil_of_length_eq_zero (by rw [← e0]; rfl)) hne
  · exact ⟨p, by rw [e0]; rfl, hp, by rw [hat, hL.1], hL.2⟩
theorem OwnL.ofInts {G : Nat → Prop} {n0 : Nat} {h : AH} {e : TypeId} {xs : List Int} {p : Nat} (hp : n0 ≤ p) (hat : h.at p = some (.cells (iL xs) e)) (hx : ∀ x ∈ xs, I64 x) : OwnL RInt G n0 h (.sl p 0 xs.length (.un 1)) e xs := by
  refine ⟨xs.map fun n => [.lit (.int .i64 n)], ⟨?_, .inr ⟨p, ?_, hp, ?_⟩⟩, ?_, fun i c x h1 h2 => ?_⟩
  · intro c hc; obtain ⟨n, _, rfl⟩ := List.mem_map.1 hc; rfl
  · rw [List.length_map]; rfl
  · rw [hat]
    congr 2
    unfold iL
    clear hat hx
    induction xs with
    | nil => rfl
    | cons a r ih => simp only [List.map_cons, List.flatten_cons, ← ih]; rfl
  · simp
  · rw [List.getElem?_map, h2] at h1
    simp only [Option.map_some, Option.some.injEq] at h1
    exact ⟨h1.symm, hx x (List.mem_of_getElem? h2)⟩
theorem ldL_ints {T : TT} {e : TypeId} (hA : isAggT T e = some false) (hS : sizeT T e = some 1) {xs : List Int} {i : Nat} (hi : i < xs.length) : ldL T e (iL xs) i = some (.lit (.int .i64 (xs.getD i 0))) := by
  unfold ldL
  rw [hA, hS]
  simp only [iL, List.getElem?_map, getD_some' 0 hi, Option.map_some]
theorem put_ints {xs : List Int} {i : Nat} {x : Int} (hi : i < xs.length) : put (iL xs) i [.lit (.int .i64 x)] = some (iL (xs.set i x)) := by
  unfold put
  rw [if_pos (by rw [iL_len]; exact hi)]
  congr 1
  unfold iL
  rw [List.map_set, List.set_eq_take_append_cons_drop, if_pos (by rw [List.length_map]; exact hi)]
  simp
def posF (x : Int) (l : List Int) : Nat → Nat
  | 0 => 0
  | n + 1 => if l.getD n 0 < x then posF x l n else n + 1
def insD (x : Int) (l : List Int) : List Int := l.take (posF x l l.length) ++ x :: l.drop (posF x l l.length)
def rootsN (m : MapD) : Nat → List Int
  | 0 => []
  | i + 1 => if withinF m (m.buckets.getD i bkt0).id || twiceF m i then rootsN m i else insD (m.buckets.getD i bkt0).id (rootsN m i)
def rootsR (m : MapD) : List Int := rootsN m m.buckets.length
theorem posF_le (x : Int) (l : List Int) : ∀ n, posF x l n ≤ n
  | 0 => Nat.le_refl 0
  | n + 1 => by unfold posF; split; exact Nat.le_succ_of_le (posF_le x l n); exact Nat.le_refl _
end Go.Proofs.Ytjkmmbfenhhjkaa.Ex
end
