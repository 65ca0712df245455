/- Part 5 of the proof: Exd7, Exd8, Exs9, Exe, ExTab, W, Ws, Own, Row. -/
import Derived.Test.YtkgbeihcepociaaDoorChecked
import Derived.Test.YtkgbeihcepociaaDoorM4
section

set_option linter.unusedSimpArgs false
set_option linter.unusedVariables false
namespace Go.Proofs.YtkgbeihcepociaaDoor.Ex
open Go Go.RowKit
variable {P : Program} {T : TT} {S : Sums} {ρ : Nat → Value} {fl : Nat} {ops : Array Oper} {h : AH}
theorem HRL.extend {h : List AB} {μ : Mu} {w : World} (hr : HRL P ρ fl μ h w) (ex : List AB) : HRL P ρ fl μ (h ++ ex) w := by
  have key : ∀ (b : Nat) (x : Nat × Nat) (ab : AB), μ b = some x → (h ++ ex)[b]? = some ab → h[b]? = some ab := fun b x ab hb hx => by
    rwa [List.getElem?_append_left (hr.dom b x hb)] at hx
  refine ⟨hr.floor, fun b x hb => by have := hr.dom b x hb; simp; omega, fun b r base ab hb hx => hr.obj b r base ab hb (key b _ ab hb hx), fun b b' r base base' ab ab' h1 h2 h3 h4 h5 h6 => hr.inj b b' r base base' ab ab' h1 h2 (key b _ ab h1 h3) (key b' _ ab' h2 h4) h5 h6, hr.pin⟩
theorem EffL.extend {μ μ' : Mu} {w w' : World} {h h' : List AB} (e : EffL P ρ fl μ h w μ' h' w') (ex : List AB) : EffL P ρ fl μ h w μ' (h' ++ ex) w' := by
  refine ⟨e.more, by have := e.len; simp; omega, e.new, fun b hb hn => ?_, fun b hb => ?_, fun b l t hb => ?_, e.grows, e.size, e.own, e.rest, e.same, e.hr.extend ex⟩
  · rw [List.getElem?_append_left (Nat.lt_of_lt_of_le hb e.len)]
    exact e.keep b hb hn
  · have := e.gone b hb
    rw [List.getElem?_append_left (List.getElem?_eq_some_iff.1 this).1]
    exact this
  · have := e.frz b l t hb
    rw [List.getElem?_append_left (List.getElem?_eq_some_iff.1 this).1]
    exact this
/-- A block that stands in the abstract heap is made in the real one. -/
theorem EffL.late {μ μ' : Mu} {w w' : World} {h h' : List AB} {b : Nat} {ab : AB} {ob : Obj} (hr : HRL P ρ fl μ h w) (e : EffL P ρ fl μ h w μ' h' w') (hb : h.length ≤ b) (hn : μ' b = none) (hx : h'[b]? = some ab) (ho : objRel P ρ μ' w' 0 ab ob) :
    EffL P ρ fl μ h w (up μ' b (w'.heap.size, 0)) h' (w'.alloc ob) := by
  have hm : More μ' (up μ' b (w'.heap.size, 0)) := more_up hn
  have hg := grows_alloc w' ob
  have hs : (w'.alloc ob).heap.size = w'.heap.size + 1 := by simp
  have hblt := (List.getElem?_eq_some_iff.1 hx).1
  refine ⟨e.more.trans hm, e.len, fun c x h1 h2 => ?_, e.keep, e.gone, e.frz, e.grows.trans hg, by have := e.size; omega, fun c r base h1 h2 => ?_, fun r h1 h2 => ?_, e.same, ?_⟩
  · by_cases hc : c = b
    · omega
    · rw [up_ne hc] at h2
      exact e.new c x h1 h2
  · by_cases hc : c = b
    · subst hc
      rw [up_same] at h2
      simp only [Option.some.injEq, Prod.mk.injEq] at h2
      have := e.size
      exact .inl (by omega)
    · rw [up_ne hc] at h2
      exact e.own c r base h1 h2
  · rw [Below.heap_alloc w' ob r (Nat.lt_of_lt_of_le h1 e.size)]
    exact e.rest r h1 h2
  · refine ⟨by have := e.hr.floor; omega, fun c x hc => ?_, fun c r base ac hc hac => ?_, fun c c' r base base' a1 a2 h1 h2 h3 h4 h5 h6 => ?_, e.hr.pin.more hm hg⟩
    · by_cases hcb : c = b
      · omega
      · rw [up_ne hcb] at hc
        exact e.hr.dom c x hc
    · by_cases hcb : c = b
      · subst hcb
        rw [up_same] at hc
        simp only [Option.some.injEq, Prod.mk.injEq] at hc
        obtain ⟨rfl, rfl⟩ := hc
        rw [hx] at hac
        obtain rfl := Option.some.inj hac
        exact ⟨fun _ => e.hr.floor, by omega, ob, heap_alloc_new' w' ob, ho.mono hm hg⟩
      · rw [up_ne hcb] at hc
        obtain ⟨h3, h4, o', h5, h6⟩ := e.hr.obj c r base ac hc hac
        exact ⟨h3, by omega, o', by rw [Below.heap_alloc w' ob r h4]; exact h5, h6.mono hm hg⟩
    · by_cases hc1 : c = b
      · by_cases hc2 : c' = b
        · omega
        · rw [up_ne hc2] at h2
          rw [hc1, up_same] at h1
          simp only [Option.some.injEq, Prod.mk.injEq] at h1
          have := (e.hr.obj c' r base' a2 h2 h4).2.1
          omega
      · rw [up_ne hc1] at h1
        by_cases hc2 : c' = b
        · rw [hc2, up_same] at h2
          simp only [Option.some.injEq, Prod.mk.injEq] at h2
          have := (e.hr.obj c r base a1 h1 h3).2.1
          omega
        · rw [up_ne hc2] at h2
          exact e.hr.inj c c' r base base' a1 a2 h1 h2 h3 h4 h5 h6
theorem Eff.extend {μ μ' : Mu} {w w' : World} {h' h1 : AH} {ex : List AB} (e : Eff P ρ fl μ h w μ' h' w') (hh : h1.L = h'.L ++ ex) : Eff P ρ fl μ h w μ' h1 w' := by
  unfold Eff
  rw [hh]
  exact EffL.extend e ex
theorem Eff.late {μ μ' : Mu} {w w' : World} {h' : AH} {b : Nat} {ab : AB} {ob : Obj} (hr : HR P ρ fl μ h w) (e : Eff P ρ fl μ h w μ' h' w') (hb : h.n ≤ b) (hn : μ' b = none) (hx : h'.at b = some ab) (ho : objRel P ρ μ' w' 0 ab ob) :
    Eff P ρ fl μ h w (up μ' b (w'.heap.size, 0)) h' (w'.alloc ob) :=
  EffL.late hr e (by rw [L_n]; exact hb) hn (by rw [L_at]; exact hx) ho
def IsRead (T : TT) (ops : Array Oper) (e : Ent) (rd : RD) : Prop := kindOf T e.o = .reads ∧ wantedA ops e.tmps e.o = some true ∧ rdOf e.o e.tmps = some rd
/-- The operations up to the next act. -/
theorem seg (hT : TT.Sound P T) {tf : TM} {hf : AH} {rsf : Reads} : ∀ (B0 : List Ent) (tA : TM) (HA : AH) (RA : Reads), Tr P T ρ fl ops B0 tA HA RA tf hf rsf →
    ∃ Sg B tS HS RS exs, B0 = Sg ++ B ∧ Tr P T ρ fl ops Sg tA HA RA tS HS RS ∧ Tr P T ρ fl ops B tS HS RS tf hf rsf ∧ (∀ e ∈ Sg, actK (kindOf T e.o) = false) ∧ (∀ a B', B = a :: B' → actK (kindOf T a.o) = true) ∧ HS.L = HA.L ++ exs ∧
      (∀ e ∈ Sg, Pend T ops e → HA.n ≤ e.h.n ∧ e.h.n < HS.n ∧ ∃ ab, e.h1 = e.h.push ab ∧ HS.at e.h.n = some ab) ∧
      (∀ e ∈ Sg, ∀ e2 ∈ Sg, Pend T ops e → Pend T ops e2 → e.h.n = e2.h.n → e.i = e2.i) ∧ (∀ x ∈ RA, x ∈ RS) ∧ (∀ e ∈ Sg, ∀ rd, IsRead T ops e rd → (e.i, rd, e.v) ∈ RS)
  | [], tA, HA, RA, tr => ⟨[], [], tA, HA, RA, [], rfl, ⟨rfl, rfl, rfl⟩, tr, fun e he => (by cases he), fun a B' h => (by cases h), by simp, fun e he => (by cases he), fun e he => (by cases he), fun x hx => hx, fun e he => (by cases he)⟩
  | e :: r, tA, HA, RA, tr => by
    cases hk : actK (kindOf T e.o) with
    | true => exact ⟨[], e :: r, tA, HA, RA, [], rfl, ⟨rfl, rfl, rfl⟩, tr, fun e he => (by cases he), fun a B' h => (by obtain ⟨rfl, _⟩ := List.cons.inj h; exact hk), by simp, fun e he => (by cases he), fun e he => (by cases he), fun x hx => hx, fun e he => (by cases he)⟩
    | false =>
      obtain ⟨q1, q2, rs1, q3, q4⟩ := tr
      obtain ⟨p1, p2, p3⟩ := rest_step hT q3 hk
      obtain ⟨Sg, B, tS, HS, RS, exs, s1, s2, s3, s4, s5, s6, s7, s8, s9, s10⟩ := seg hT r _ e.h1 rs1 q4
      have hex : ∃ ex1, e.h1.L = HA.L ++ ex1 := by
        rcases p1 with ⟨_, ab, h⟩ | ⟨_, h⟩
        · exact ⟨[ab], by rw [h, q2, L_push]⟩
        · exact ⟨[], by rw [h, q2]; simp⟩
      obtain ⟨ex1, hex⟩ := hex
      have hlen : HA.n ≤ e.h1.n := by rw [← L_n, ← L_n, hex]; simp
      have hS : HS.L = HA.L ++ (ex1 ++ exs) := by rw [s6, hex]; simp
      have hself : Pend T ops e → HA.n = e.h.n ∧ e.h1.n = HA.n + 1 ∧ ∃ ab, e.h1 = e.h.push ab ∧ HS.at e.h.n = some ab := fun hp => by
        rcases p1 with ⟨_, ab, h⟩ | ⟨hn, _⟩
        · refine ⟨by rw [q2], by rw [h, q2]; rfl, ab, h, ?_⟩
          rw [← L_at, s6, h, L_push, List.getElem?_append_left (by simp [L_n]), List.getElem?_append_right (by rw [L_n]; exact Nat.le_refl _), L_n, Nat.sub_self]
          rfl
        · exact absurd hp hn
      refine ⟨e :: Sg, B, tS, HS, RS, ex1 ++ exs, by rw [s1]; rfl, ⟨q1, q2, rs1, q3, s2⟩, s3, ?_, s5, hS, ?_, ?_, fun x hx => s9 x (p2 x hx), ?_⟩
      · intro x hx
        cases hx with
        | head => exact hk
        | tail _ hm => exact s4 x hm
      · intro x hx hp
        cases hx with
        | head =>
          obtain ⟨h1, h2, ab, h3, h4⟩ := hself hp
          exact ⟨by omega, at_lt h4, ab, h3, h4⟩
        | tail _ hm =>
          obtain ⟨h1, h2⟩ := s7 x hm hp
          exact ⟨by omega, h2⟩
      · intro x hx y hy hpx hpy hl
        cases hx with
        | head =>
          cases hy with
          | head => rfl
          | tail _ hm =>
            obtain ⟨h1, h2, _⟩ := hself hpx
            have := (s7 y hm hpy).1
            omega
        | tail _ hm =>
          cases hy with
          | head =>
            obtain ⟨h1, h2, _⟩ := hself hpy
            have := (s7 x hm hpx).1
            omega
          | tail _ hm2 => exact s8 x hm y hm2 hpx hpy hl
      · intro x hx rd hrd
        cases hx with
        | head => exact s9 _ (p3 rd hrd.1 hrd.2.1 hrd.2.2)
        | tail _ hm => exact s10 x hm rd hrd
/-- What holds at each point of any order. -/
structure Inv (P : Program) (T : TT) (ρ : Nat → Value) (fl : Nat) (ops : Array Oper) (es : List Ent) (t0 : TM) (h0 : AH) (tf : TM) (hf : AH) (rsf : Reads) (μ0 : Mu) (w0 : World)
    (listed : Array Bool) (f : Frame) (w : World) (A B : List Ent) (tA : TM) (HA : AH) (RA : Reads) (μ : Mu) : Prop where
  cut : es = A ++ B
  trA : Tr P T ρ fl ops A t0 h0 [] tA HA RA
  trB : Tr P T ρ fl ops B tA HA RA tf hf rsf
  actsA : ∀ e ∈ A, actK (kindOf T e.o) = true → on listed e.i
  actsB : ∀ e ∈ B, actK (kindOf T e.o) = true → ¬ on listed e.i
  head : ∀ a B', B = a :: B' → actK (kindOf T a.o) = true
  eff : Eff P ρ fl μ0 h0 w0 μ HA w
  tmps : rels ρ μ w (foldX listed es t0.L) f.tmps.toList
  pend : ∀ e ∈ A, Pend T ops e → h0.n ≤ e.h.n ∧ e.h.n < HA.n ∧ (¬ on listed e.i → μ e.h.n = none ∧ ∃ ab, e.h1 = e.h.push ab ∧ HA.at e.h.n = some ab)
  dist : ∀ e ∈ A, ∀ e2 ∈ A, Pend T ops e → Pend T ops e2 → e.h.n = e2.h.n → e.i = e2.i
  reads : ∀ e ∈ A, ∀ rd, IsRead T ops e rd → ¬ on listed e.i → (e.i, rd, e.v) ∈ RA
end Go.Proofs.YtkgbeihcepociaaDoor.Ex
end

section

set_option linter.unusedSimpArgs false
set_option linter.unusedVariables false
namespace Go.Proofs.YtkgbeihcepociaaDoor.Ex
open Go Go.RowKit
variable {P : Program} {T : TT} {S : Sums} {ρ : Nat → Value} {fl : Nat} {ops : Array Oper}
theorem Tr.oper : ∀ {es : List Ent} {t t' : TM} {h h' : AH} {rs rs' : Reads}, Tr P T ρ fl ops es t h rs t' h' rs' → ∀ e ∈ es, ops[e.i]? = some e.o
  | [], _, _, _, _, _, _, _, e, he => by cases he
  | x :: r, _, _, _, _, _, _, tr, e, he => by
    obtain ⟨_, _, _, h3, h4⟩ := tr
    cases he with
    | head => exact h3.1
    | tail _ hm => exact Tr.oper (es := r) h4 e hm
theorem hold_mem {h : AH} {rs : Reads} (hh : hold T h rs = true) {i : Nat} {rd : RD} {v : AV} (hm : (i, rd, v) ∈ rs) : rdA T h rd = some v := by
  unfold hold at hh
  have := List.all_eq_true.1 hh _ hm
  simp only at this
  split at this
  · rename_i u hu
    rw [hu, same_sound 8 u v this]
  · cases this
section pick
variable {L : List Nat} {es : List Ent} {t0 : TM} {h0 : AH} {tf : TM} {hf : AH} {rsf : Reads} {μ0 : Mu} {w0 : World} {listed : Array Bool} {f : Frame} {w : World} {A B : List Ent} {tA : TM} {HA : AH} {RA : Reads} {μ : Mu}
theorem Inv.hold (iv : Inv P T ρ fl ops es t0 h0 tf hf rsf μ0 w0 listed f w A B tA HA RA μ) (hh : hold T hf rsf = true) : Ex.hold T HA RA = true := by
  cases B with
  | nil =>
    obtain ⟨_, h1, h2⟩ := iv.trB
    rw [← h1, ← h2]
    exact hh
  | cons a B' =>
    obtain ⟨q1, q2, rs1, q3, q4⟩ := iv.trB
    have hk := iv.head a B' rfl
    obtain ⟨_, ⟨_, _, _, hr⟩ | ⟨_, hr⟩⟩ := q3
    · cases hq : kindOf T a.o <;> rw [hq] at hk hr <;> first | cases hk | skip
      rw [← q2]
      exact hr.1
    · cases hq : kindOf T a.o <;> rw [hq] at hk hr <;> first | cases hk | skip
      rw [← q2]
      exact hr.1
/-- What the picked operation sees. -/
theorem sees (ho : Ord T ops L) (hes : es.map (·.i) = L) (tr : Tr P T ρ fl ops es t0 h0 [] tf hf rsf) {e : Ent} {pre post : List Ent} (hsp : es = pre ++ e :: post) (hcl : ClosedX ops listed) (hrd : ReadyX ops listed e.i) :
    (∀ k ∈ namesOf ops e.o, (foldX listed es t0.L)[k]? = e.tmps.at k) ∧ foldX (listed.setIfInBounds e.i true) es t0.L = setTmpL (foldX listed es t0.L) e.o.dst e.v := by
  have hL : L = pre.map (·.i) ++ e.i :: post.map (·.i) := by rw [← hes, hsp]; simp
  have hoper := tr.oper
  have hpre : ∀ x ∈ pre, x.i ≠ e.i := fun x hx hxe => ho.nodup _ _ _ hL (by rw [← hxe]; exact List.mem_map_of_mem hx)
  have hpostL : ∀ x ∈ post, ∃ p q, L = (pre.map (·.i) ++ e.i :: p) ++ x.i :: q := fun x hx => by
    obtain ⟨p, q, rfl⟩ := List.append_of_mem hx
    exact ⟨p.map (·.i), q.map (·.i), by rw [hL]; simp⟩
  have hpost : ∀ x ∈ post, x.i ≠ e.i := fun x hx hxe => by
    obtain ⟨p, q, h⟩ := hpostL x hx
    exact ho.nodup _ _ _ h (by rw [hxe]; simp)
  have heo : ops[e.i]? = some e.o := hoper e (by rw [hsp]; simp)
  have cpre : ∀ k ∈ namesOf ops e.o, ∀ x ∈ pre, x.o.dst = some k → on listed x.i := fun k hk x hx hd => by
    have hxo := hoper x (by rw [hsp]; simp [hx])
    rcases ho.tmps e.i x.i e.o x.o k heo hxo hd hk with h | h | h
    · exact absurd h.symm (hpre x hx)
    · exact hrd.before hcl h
    · exfalso
      obtain ⟨p, q, rfl⟩ := List.append_of_mem hx
      have h2 : L = p.map (·.i) ++ x.i :: (q.map (·.i) ++ e.i :: post.map (·.i)) := by rw [hL]; simp
      have := ho.before h h2
      exact ho.nodup _ _ _ hL (by simp; left; simpa using this)
  have cpost : ∀ k ∈ namesOf ops e.o, ∀ x ∈ post, x.o.dst = some k → ¬ on listed x.i := fun k hk x hx hd hon => by
    have hxo := hoper x (by rw [hsp]; simp [hx])
    rcases ho.tmps e.i x.i e.o x.o k heo hxo hd hk with h | h | h
    · exact hpost x hx h.symm
    · obtain ⟨p, q, h2⟩ := hpostL x hx
      have := ho.before h hL
      exact ho.nodup _ _ _ h2 (by simp only [List.mem_append]; exact .inl this)
    · exact hrd.2.1 (hcl.before h hon)
  have het : e.tmps.L = foldA pre t0.L := by
    have tr2 := tr
    rw [hsp] at tr2
    obtain ⟨tm, hm, rm, q1, q2⟩ := tr2.split
    rw [← q1.tmps, q2.1]
  refine ⟨fun k hk => ?_, ?_⟩
  · rw [hsp, foldX_append, ← TL_at, het]
    simp only [foldX]
    have hn : ¬ listed.getD e.i false = true := hrd.2.1
    rw [if_neg hn, foldX_none post _ (cpost k hk)]
    exact fold_get pre t0.L t0.L rfl rfl (cpre k hk)
  · rw [hsp]
    exact foldX_set hrd.1 hrd.2.1 hpre hpost (fun x hx hon k hk hd => cpost k (by simp [namesOf, hk]) x hx hd hon)
theorem mem_operands {o : Oper} {t : Tmp} (hx : Operand.tmp t ∈ o.op.operands) : t ∈ namesOf ops o := by
  unfold namesOf
  simp only [List.mem_append, List.mem_filterMap]
  exact .inl (.inr ⟨.tmp t, by simpa using hx, rfl⟩)
theorem agree_of {o : Oper} {t1 t2 : TM} (hk : ∀ k ∈ namesOf ops o, t1.at k = t2.at k) : Agree o t1 t2 ∧ wantedA ops t1 o = wantedA ops t2 o := by
  refine ⟨fun x hx => ?_, wantedA_congr fun j want d hg hd => hk d ?_⟩
  · cases x with
    | tmp t =>
      have := hk t (mem_operands hx)
      simp only [evalA, List.getD_eq_getElem?_getD, this]
    | _ => rfl
  · unfold namesOf
    simp only [List.mem_append]
    right
    rw [hg]
    simp [hd]
/-- One operation more. -/
theorem one_pick (hT : TT.Sound P T) (ho : Ord T ops L) (hes : es.map (·.i) = L) (tr : Tr P T ρ fl ops es t0 h0 [] tf hf rsf) (hh : Ex.hold T hf rsf = true) (hr0 : HR P ρ fl μ0 h0 w0) {i : Nat} {r : List Nat} {l : List Item} {cs : List Frame}
    (iv : Inv P T ρ fl ops es t0 h0 tf hf rsf μ0 w0 listed f w A B tA HA RA μ) (hcl : ClosedX ops listed) (hrd : ReadyX ops listed i) (hm : f.mode = .run) (ht : f.todo = .inRegion ops (i :: r) :: l) :
    ∃ v' w' A' B' tA' HA' RA' μ', Steps P (lone f cs w) (lone (f.finish v') cs w') ∧ Inv P T ρ fl ops es t0 h0 tf hf rsf μ0 w0 (listed.setIfInBounds i true) (f.finish v') w' A' B' tA' HA' RA' μ' := by
  have hiL : i ∈ L := ho.all i hrd.2.2.1
  rw [← hes, List.mem_map] at hiL
  obtain ⟨e, he, rfl⟩ := hiL
  obtain ⟨pre, post, hsp⟩ := List.append_of_mem he
  obtain ⟨hsee, hfold⟩ := sees ho hes tr hsp hcl hrd
  obtain ⟨hag, hwt⟩ := agree_of (t1 := tmOf (foldX listed es t0.L)) (t2 := e.tmps) (fun k hk => by rw [tmOf_at]; exact hsee k hk)
  have hXL : rels ρ μ w (tmOf (foldX listed es t0.L)).L f.tmps.toList := by rw [tmOf_L]; exact iv.tmps
  have heo : ops[e.i]? = some e.o := tr.oper e he
  have henv : EnvR ρ μ w (tmOf (foldX listed es t0.L)) f.eval := envR_of hXL (fun t => by simp [Frame.eval]) (fun _ => rfl) (fun _ => rfl)
  have hwant : ∀ b, wantedA ops e.tmps e.o = some b → Region.wanted e.o (yielded ops f.tmps) = b := fun b hb => wantedA_sound hXL (by rw [hwt]; exact hb)
  have hL : L = pre.map (·.i) ++ e.i :: post.map (·.i) := by rw [← hes, hsp]; simp
  have uniq : ∀ x ∈ es, x.i = e.i → x = e := fun x hx hxe => by
    rw [hsp] at hx
    simp only [List.mem_append, List.mem_cons] at hx
    rcases hx with hx | rfl | hx
    · exact absurd (show e.i ∈ pre.map (·.i) by rw [← hxe]; exact List.mem_map_of_mem hx) (ho.nodup _ _ _ hL)
    · rfl
    · obtain ⟨p, q, rfl⟩ := List.append_of_mem hx
      exact absurd (show x.i ∈ pre.map (·.i) ++ e.i :: p.map (·.i) by rw [hxe]; simp) (ho.nodup (pre.map (·.i) ++ e.i :: p.map (·.i)) x.i (q.map (·.i)) (by rw [hL]; simp))
  have hons : ∀ j, on (listed.setIfInBounds e.i true) j ↔ on listed j ∨ j = e.i := fun j => on_set hrd.1
  -- the temporaries behind the operation
  have fin : ∀ {μ1 : Mu} {w1 : World} {v' : Value}, More μ μ1 → Grows w w1 → rel ρ μ1 w1 e.v v' → rels ρ μ1 w1 (foldX (listed.setIfInBounds e.i true) es t0.L) (f.finish v').tmps.toList := by
    intro μ1 w1 v' h1 h2 h3
    rw [hfold, finish_region ht heo]
    exact setTmpL_rels (rels.mono h1 h2 _ _ iv.tmps) h3
  cases hact : actK (kindOf T e.o) with
  | true =>
    -- an act: the first one of B
    have heB : e ∈ B := by
      have : e ∈ A ++ B := by rw [← iv.cut]; exact he
      rcases List.mem_append.1 this with h | h
      · exact absurd (iv.actsA e h hact) hrd.2.1
      · exact h
    cases hB : B with
    | nil => rw [hB] at heB; cases heB
    | cons a B' =>
      have hha := iv.head a B' hB
      have hae : a = e := by
        rw [hB] at heB
        cases heB with
        | head => rfl
        | tail _ hmem =>
          exfalso
          obtain ⟨p, q, rfl⟩ := List.append_of_mem hmem
          have h2 : L = (A.map (·.i) ++ a.i :: p.map (·.i)) ++ e.i :: q.map (·.i) := by rw [← hes, iv.cut, hB]; simp
          have hao : ops[a.i]? = some a.o := tr.oper a (by rw [iv.cut, hB]; simp)
          have := ho.acts _ _ _ h2 a.i (by simp) (by rw [isAct_eq hao]; exact hha)
          exact iv.actsB a (by rw [hB]; simp) hha (hrd.before hcl this)
      subst hae
      have trB := iv.trB
      rw [hB] at trB
      obtain ⟨q1, q2, rs1, q3, q4⟩ := trB
      -- the step itself
      have step : ∃ μ1 w1 v', Eff P ρ fl μ HA w μ1 a.h1 w1 ∧ rel ρ μ1 w1 a.v v' ∧ Steps P (lone f cs w) (lone (f.finish v') cs w1) ∧ rs1 = keep ops a.i RA := by
        obtain ⟨_, ⟨hw, hv, hh1, hr⟩ | ⟨hw, hr⟩⟩ := q3
        · cases hq : kindOf T a.o <;> rw [hq] at hact hr <;> first | cases hact | skip
          refine ⟨μ, w, undef, by rw [hh1, q2]; exact Eff.refl iv.eff.hr, by rw [hv]; exact rel_undef, .one (step_unwanted hm ht heo (hwant false hw)), hr.2⟩
        · cases hq : kindOf T a.o <;> rw [hq] at hact hr <;> first | cases hact | skip
          obtain ⟨_, hr2, hrun⟩ := hr
          obtain ⟨μ1, w1, v', r1, r2, r3⟩ := hrun (tmOf (foldX listed es t0.L)) (fun x hx => (hag x hx).symm) μ w f cs ops a.i r l (by rw [q2]; exact iv.eff.hr) henv hm ht heo (hwant true hw)
          exact ⟨μ1, w1, v', by rw [← q2]; exact r1, r2, r3, hr2⟩
      obtain ⟨μ1, w1, v', r1, r2, r3, r4⟩ := step
      subst r4
      obtain ⟨Sg, B2, tS, HS, RS, exs, s1, s2, s3, s4, s5, s6, s7, s8, s9, s10⟩ := seg hT B' _ _ _ q4
      have hlen := r1.len
      have hSn : HS.n = a.h1.n + exs.length := by rw [← L_n, s6, List.length_append, L_n]
      have hSat : ∀ b, b < a.h1.n → HS.at b = a.h1.at b := fun b hb => by rw [← L_at, s6, List.getElem?_append_left (by rw [L_n]; exact hb), L_at]
      refine ⟨v', w1, A ++ a :: Sg, B2, tS, HS, RS, μ1, r3, ?_, ?_, s3, ?_, ?_, s5, ?_, fin r1.more r1.grows r2, ?_, ?_, ?_⟩
      · rw [iv.cut, hB, s1]; simp
      · exact iv.trA.join ⟨q1, q2, _, q3, s2⟩
      · intro x hx hk
        rw [hons]
        simp only [List.mem_append, List.mem_cons] at hx
        rcases hx with hx | rfl | hx
        · exact .inl (iv.actsA x hx hk)
        · exact .inr rfl
        · rw [s4 x hx] at hk; cases hk
      · intro x hx hk hon
        rw [hons] at hon
        have hxB : x ∈ B' := by rw [s1]; simp [hx]
        rcases hon with hon | hon
        · exact iv.actsB x (by rw [hB]; simp [hxB]) hk hon
        · have hxa := uniq x (by rw [iv.cut, hB]; simp [hxB]) hon
          subst hxa
          obtain ⟨p, q, hpq⟩ := List.append_of_mem hxB
          refine ho.nodup (A.map (·.i) ++ x.i :: p.map (·.i)) x.i (q.map (·.i)) (by rw [← hes, iv.cut, hB, hpq]; simp) (by simp)
      · exact (iv.eff.trans hr0 r1).extend s6
      · intro x hx hp
        simp only [List.mem_append, List.mem_cons] at hx
        rcases hx with hx | rfl | hx
        · obtain ⟨p1, p2, p3⟩ := iv.pend x hx hp
          refine ⟨p1, by omega, fun hn => ?_⟩
          have hn0 : ¬ on listed x.i := fun hon => hn ((hons _).2 (.inl hon))
          obtain ⟨p4, ab, p5, p6⟩ := p3 hn0
          refine ⟨?_, ab, p5, ?_⟩
          · cases hq : μ1 x.h.n with
            | none => rfl
            | some y => exact absurd (r1.new _ _ p4 hq) (by omega)
          · rw [hSat _ (by omega), r1.keep _ p2 p4]
            exact p6
        · exfalso
          have := hp.1
          rw [this] at hact
          cases hact
        · obtain ⟨p1, p2, ab, p3, p4⟩ := s7 x hx hp
          have := iv.eff.len
          refine ⟨by omega, p2, fun _ => ⟨?_, ab, p3, p4⟩⟩
          cases hq : μ1 x.h.n with
          | none => rfl
          | some y => exact absurd (r1.hr.dom _ _ hq) (by omega)
      · intro x hx y hy hpx hpy hl
        simp only [List.mem_append, List.mem_cons] at hx hy
        have notact : ∀ z : Ent, Pend T ops z → z ≠ a := fun z hz hza => by
          subst hza
          rw [hz.1] at hact
          cases hact
        rcases hx with hx | hx | hx
        · rcases hy with hy | hy | hy
          · exact iv.dist x hx y hy hpx hpy hl
          · exact absurd hy (notact y hpy)
          · have h1 := (iv.pend x hx hpx).2.1
            have h2 := (s7 y hy hpy).1
            omega
        · exact absurd hx (notact x hpx)
        · rcases hy with hy | hy | hy
          · have h1 := (iv.pend y hy hpy).2.1
            have h2 := (s7 x hx hpx).1
            omega
          · exact absurd hy (notact y hpy)
          · exact s8 x hx y hy hpx hpy hl
      · intro x hx rd hxr hn
        simp only [List.mem_append, List.mem_cons] at hx
        have hn0 : ¬ on listed x.i := fun hon => hn ((hons _).2 (.inl hon))
        rcases hx with hx | rfl | hx
        · have h1 := iv.reads x hx rd hxr hn0
          refine s9 _ ?_
          unfold keep
          rw [List.mem_filter]
          refine ⟨h1, ?_⟩
          have hxo := tr.oper x (by rw [iv.cut]; simp [hx])
          have hxl := (Array.getElem?_eq_some_iff.1 hxo).1
          cases hq : waits ops.size (mat ops) a.i x.i with
          | false => simp [hq]
          | true => exact absurd (hrd.before hcl (ho.waits _ _ hxl hq)) hn0
        · rw [hxr.1] at hact; cases hact
        · exact s10 x hx rd hxr
  | false =>
    -- no act: it lies in A
    have heA : e ∈ A := by
      have : e ∈ A ++ B := by rw [← iv.cut]; exact he
      rcases List.mem_append.1 this with h | h
      · exact h
      · exfalso
        cases hB : B with
        | nil => rw [hB] at h; cases h
        | cons a B' =>
          have hha := iv.head a B' hB
          rw [hB] at h
          cases h with
          | head => rw [hha] at hact; cases hact
          | tail _ hmem =>
            obtain ⟨p, q, rfl⟩ := List.append_of_mem hmem
            have h2 : L = (A.map (·.i) ++ a.i :: p.map (·.i)) ++ e.i :: q.map (·.i) := by rw [← hes, iv.cut, hB]; simp
            have hao : ops[a.i]? = some a.o := tr.oper a (by rw [iv.cut, hB]; simp)
            have := ho.acts _ _ _ h2 a.i (by simp) (by rw [isAct_eq hao]; exact hha)
            exact iv.actsB a (by rw [hB]; simp) hha (hrd.before hcl this)
    -- the step that the abstract machine took
    obtain ⟨rs0, rs1, hstep⟩ : ∃ rs0 rs1, StepR P T ρ fl ops e rs0 rs1 := by
      have tr2 := tr
      rw [hsp] at tr2
      obtain ⟨tm, hm', rm, _, _, _, rs1, q, _⟩ := tr2.split
      exact ⟨rm, rs1, q⟩
    -- the invariant, the heap as it was
    have go : ∀ (μ1 : Mu) (w1 : World) (v' : Value), Eff P ρ fl μ0 h0 w0 μ1 HA w1 → More μ μ1 → Grows w w1 → rel ρ μ1 w1 e.v v' → (∀ x ∈ A, Pend T ops x → x.i ≠ e.i → ¬ on listed x.i → μ x.h.n = none → μ1 x.h.n = none) → Steps P (lone f cs w) (lone (f.finish v') cs w1) →
        ∃ v' w' A' B' tA' HA' RA' μ', Steps P (lone f cs w) (lone (f.finish v') cs w') ∧ Inv P T ρ fl ops es t0 h0 tf hf rsf μ0 w0 (listed.setIfInBounds e.i true) (f.finish v') w' A' B' tA' HA' RA' μ' := fun μ1 w1 v' h1 h2 h3 h4 h5 h6 => by
      refine ⟨v', w1, A, B, tA, HA, RA, μ1, h6, iv.cut, iv.trA, iv.trB, fun x hx hk => (hons _).2 (.inl (iv.actsA x hx hk)), fun x hx hk hon => ?_, iv.head, h1, fin h2 h3 h4, fun x hx hp => ?_, iv.dist, fun x hx rd hxr hn => iv.reads x hx rd hxr (fun hon => hn ((hons _).2 (.inl hon)))⟩
      · rw [hons] at hon
        rcases hon with hon | hon
        · exact iv.actsB x hx hk hon
        · have := uniq x (by rw [iv.cut]; simp [hx]) hon
          subst this
          rw [hact] at hk
          cases hk
      · obtain ⟨p1, p2, p3⟩ := iv.pend x hx hp
        refine ⟨p1, p2, fun hn => ?_⟩
        have hn0 : ¬ on listed x.i := fun hon => hn ((hons _).2 (.inl hon))
        obtain ⟨p4, p5⟩ := p3 hn0
        exact ⟨h5 x hx hp (fun hxe => hn ((hons _).2 (.inr hxe))) hn0 p4, p5⟩
    -- an operation that leaves the heap as it was
    have calm : ∀ (h9 : AH), aop P T e.o e.tmps HA = some (.val e.v, HA) → wantedA ops e.tmps e.o = some true →
        ∃ v' w' A' B' tA' HA' RA' μ', Steps P (lone f cs w) (lone (f.finish v') cs w') ∧ Inv P T ρ fl ops es t0 h0 tf hf rsf μ0 w0 (listed.setIfInBounds e.i true) (f.finish v') w' A' B' tA' HA' RA' μ' := fun _ ha hw => by
      have ha2 : aop P T e.o (tmOf (foldX listed es t0.L)) HA = some (.val e.v, HA) := by rw [aop_congr hag]; exact ha
      obtain ⟨μ1, w1, v', q1, q2, q3⟩ := aop_sound hT iv.eff.hr henv ha2
      refine go μ1 w1 v' (iv.eff.trans hr0 q2) q2.more q2.grows q3 (fun x hx hp _ _ hn => ?_) (.one (step_value hm ht heo (hwant true hw) (.inr (not_defer ha2 (fun _ _ => by simp))) q1))
      cases hq : μ1 x.h.n with
      | none => rfl
      | some y => exact absurd (q2.new _ _ hn hq) (by have := (iv.pend x hx hp).2.1; omega)
    obtain ⟨_, ⟨hw, hv, hh1, hr⟩ | ⟨hw, hr⟩⟩ := id hstep
    · exact go μ w undef iv.eff (More.refl μ) (Grows.refl w) (by rw [hv]; exact rel_undef) (fun _ _ _ _ _ hn => hn) (.one (step_unwanted hm ht heo (hwant false hw)))
    · cases hk : kindOf T e.o with
      | acts => rw [hk] at hact; cases hact
      | still =>
        rw [hk] at hr
        exact calm HA ((still_any hk hr.1).2 HA) hw
      | reads =>
        rw [hk] at hr
        obtain ⟨ha, hrr⟩ := hr
        rcases hrr with ⟨rd, h1, _⟩ | ⟨h1, h2, _⟩
        · have hmem := iv.reads e heA rd ⟨hk, hw, h1⟩ hrd.2.1
          exact calm HA (read_late hk ha h1 (hold_mem (iv.hold hh) hmem)).2 hw
        · exact calm HA ((read_lit hk ha h1 h2).2 HA) hw
      | alloc =>
        rw [hk] at hr
        obtain ⟨p1, p2, p3⟩ := iv.pend e heA ⟨hk, hw⟩
        obtain ⟨p4, ab, p5, p6⟩ := p3 hrd.2.1
        obtain ⟨mk, ab', m1, m2, m3⟩ := alloc_any hT hk (show aop P T e.o (tmOf (foldX listed es t0.L)) e.h = some (.val e.v, e.h1) by rw [aop_congr hag]; exact hr.1)
        obtain rfl : ab = ab' := by
          have := congrArg (fun h : AH => h.at e.h.n) (p5.symm.trans m2)
          simp only [at_push_n] at this
          exact Option.some.inj this
        have m1 : e.v = mk e.h.n := by simpa using m1
        obtain ⟨m4, m5, m6⟩ := m3
        obtain ⟨ob, v', n1, n2, n3⟩ := m6 ρ μ w f.eval henv
        have hlate := Eff.late hr0 iv.eff p1 p4 p6 n2
        refine go _ _ v' hlate (more_up p4) (grows_alloc w ob) (by rw [m1]; exact n3 _ _ _ (up_same _ _ _)) (fun x hx hp hne _ hn => ?_) (.one (step_value hm ht heo (hwant true hw) (.inr (not_defer (m4 HA) (fun _ _ => by simp))) (.inl n1)))
        rw [up_ne (fun hl => hne (iv.dist x hx e heA hp ⟨hk, hw⟩ hl))]
        exact hn
end pick
end Go.Proofs.YtkgbeihcepociaaDoor.Ex
end

section

set_option linter.unusedSimpArgs false
set_option linter.unusedVariables false
namespace Go.Proofs.YtkgbeihcepociaaDoor.Ex
open Go Go.RowKit
variable {P : Program} {T : TT} {S : Sums} {ρ : Nat → Value} {fl : Nat} {ops : Array Oper}
theorem picks {L : List Nat} {es : List Ent} {t0 : TM} {h0 : AH} {tf : TM} {hf : AH} {rsf : Reads} {μ0 : Mu} {w0 : World} (hT : TT.Sound P T) (ho : Ord T ops L) (hes : es.map (·.i) = L) (tr : Tr P T ρ fl ops es t0 h0 [] tf hf rsf) (hh : hold T hf rsf = true) (hr0 : HR P ρ fl μ0 h0 w0) {l : List Item} {cs : List Frame} :
    ∀ (l0 : List Nat) (listed : Array Bool) (f : Frame) (w : World) (A B : List Ent) (tA : TM) (HA : AH) (RA : Reads) (μ : Mu), LinR ops l0 listed → ClosedX ops listed → f.mode = .run → f.todo = .inRegion ops l0 :: l → Inv P T ρ fl ops es t0 h0 tf hf rsf μ0 w0 listed f w A B tA HA RA μ →
      ∃ f' w' μ', Steps P (lone f cs w) (lone f' cs w') ∧ f'.fn = f.fn ∧ f'.defers = f.defers ∧ f'.kind = f.kind ∧ f'.roundOf = f.roundOf ∧ f'.mode = .run ∧ f'.todo = .inRegion ops [] :: l ∧ Eff P ρ fl μ0 h0 w0 μ' hf w' ∧ rels ρ μ' w' tf.L f'.tmps.toList
  | [], listed, f, w, A, B, tA, HA, RA, μ, hl, hc, hm, ht, iv => by
    have hall : ∀ e ∈ es, on listed e.i := fun e he => hl _ (Array.getElem?_eq_some_iff.1 (tr.oper e he)).1
    have hB : B = [] := by
      cases hq : B with
      | nil => rfl
      | cons a B' => exact absurd (hall a (by rw [iv.cut, hq]; simp)) (iv.actsB a (by rw [hq]; simp) (iv.head a B' hq))
    subst hB
    obtain ⟨e1, e2, e3⟩ := iv.trB
    refine ⟨f, w, μ, .refl P _, rfl, rfl, rfl, rfl, hm, ht, by rw [e2]; exact iv.eff, ?_⟩
    have := iv.tmps
    rw [foldX_all es t0.L hall, ← tr.tmps] at this
    exact this
  | i :: r, listed, f, w, A, B, tA, HA, RA, μ, hl, hc, hm, ht, iv => by
    obtain ⟨hrd, hl2⟩ := hl
    obtain ⟨v', w', A', B', tA', HA', RA', μ', s1, iv2⟩ := one_pick hT ho hes tr hh hr0 (cs := cs) iv hc hrd hm ht
    have heo : ∃ o, ops[i]? = some o := ⟨ops[i]'hrd.2.2.1, Array.getElem?_eq_getElem hrd.2.2.1⟩
    obtain ⟨o, heo⟩ := heo
    have hfin := finish_region ht heo v'
    obtain ⟨f2, w2, μ2, q1, q2, q3, q4, q5, q6, q7, q8, q9⟩ := picks hT ho hes tr hh hr0 (l := l) (cs := cs) r _ (f.finish v') w' A' B' tA' HA' RA' μ' hl2 (hc.set hrd) (by rw [hfin]; exact hm) (by rw [hfin]) iv2
    exact ⟨f2, w2, μ2, s1.trans q1, by rw [q2, hfin], by rw [q3, hfin], by rw [q4, hfin], by rw [q5, hfin], q6, q7, q8, q9⟩
theorem draw_ok (hT : TT.Sound P T) (hNG : NoNG P) (hMix : P.follows .mixedOrders = true) {n : Nat} (hrec : ∀ m, m < n → RecOK P ρ fl (ex P T S m)) : DrawOK P T ρ fl (ex P T S n) := by
  intro fr id ops k h out h' hfr hok hx
  have ho := okD_ord hok
  obtain ⟨es, tf, hf, rsf, m, e1, e2, e3, e4, e5⟩ := trace_of hT hNG _ n fr [] k h out h' hrec hx
  refine outR.pre (fr1 := { fr with tmps := tf, todo := k }) ⟨rfl, rfl, rfl⟩ (fun μ w f cs hr hfB hc => ?_) (hrec m e4 _ _ _ _ e5)
  obtain ⟨l, t1, t2⟩ := todo_code hfr hfB
  have hd : Eff P ρ fl μ h w μ h w.drew := Eff.drew hr 1
  -- the order is drawn
  obtain ⟨t, hst⟩ : ∃ t, step P (lone f cs w) = .next (lone { f with todo := .inRegion ops (Region.linearise .any ops t) :: l } cs w.drew) :=
    ⟨w.tape w.drawn (.order f.fn id), step_lone_go (by simp [stepG, stepG.exec, hfB.mode, t1, Question.forced, Question.cut, Region.schedule, hMix])⟩
  -- the invariant at the beginning
  obtain ⟨Sg, B, tS, HS, RS, exs, s1, s2, s3, s4, s5, s6, s7, s8, s9, s10⟩ := seg hT es _ _ _ e2
  have hnone : ∀ j, ¬ on (Array.replicate ops.size false) j := fun j hj => by
    simp only [on, Array.getD_eq_getD_getElem?, Array.getElem?_replicate] at hj
    split at hj <;> simp at hj
  have iv : Inv P T ρ fl ops es fr.tmps h tf hf rsf μ w.drew (Array.replicate ops.size false) { f with todo := .inRegion ops (Region.linearise .any ops t) :: l } w.drew Sg B tS HS RS μ := by
    refine ⟨s1, s2, s3, fun e he hk => ?_, fun e he hk => hnone _, s5, ?_, ?_, fun e he hp => ?_, s8, fun e he rd hxr _ => s10 e he rd hxr⟩
    · rw [s4 e he] at hk; cases hk
    · exact (Eff.refl hd.hr).extend s6
    · rw [foldX_false]
      exact rels.mono (More.refl μ) hd.grows _ _ hfB.u.tmps
    · obtain ⟨p1, p2, p3⟩ := s7 e he hp
      refine ⟨p1, p2, fun _ => ⟨?_, p3⟩⟩
      cases hq : μ e.h.n with
      | none => rfl
      | some y => exact absurd (hr.dom _ _ hq) (by omega)
  obtain ⟨f2, w2, μ2, q1, q2, q3, q4, q5, q6, q7, q8, q9⟩ := picks hT ho e1 e2 e3 hd.hr (cs := cs) _ _ { f with todo := .inRegion ops (Region.linearise .any ops t) :: l } w.drew Sg B tS HS RS μ (linearise_LinR ho t) closed_false hfB.mode rfl iv
  have heff := hd.trans hr q8
  have hu := hfB.u.mono heff.more heff.grows
  have hlast : step P (lone f2 cs w2) = .next (lone { f2 with todo := l } cs w2) := step_lone_go (by simp [stepG, stepG.exec, q6, q7])
  refine ⟨μ2, w2, { f2 with todo := l }, cs, heff, .head hst (q1.trans (.one hlast)), ⟨⟨?_, q9, ?_, ?_, ?_, hu.rc⟩, t2.mono heff.more, q6⟩, csTo.refl (hc.mono heff.more heff.grows)⟩
  · exact q2.trans hu.fn
  · show defsR P ρ μ2 w2 fr.defers f2.defers
    rw [q3]
    exact hu.defers
  · show f2.kind = _
    rw [q4]
    exact hu.kind
  · show roundR μ2 fr.roundOf f2.roundOf
    rw [q5]
    exact hu.round
theorem ex_ok (hT : TT.Sound P T) (hNG : NoNG P) (hMix : P.follows .mixedOrders = true) (hS : SumsOK P ρ fl S) (n : Nat) : RecOK P ρ fl (ex P T S n) := by
  induction n using Nat.strongRecOn with
  | _ n ih =>
    cases n with
    | zero => intro t h out h' hx; cases hx
    | succ n => exact xStep_ok hT hNG hS (ih n (Nat.lt_succ_self n)) (draw_ok hT hNG hMix fun m hm => ih m (by omega))
/-- What a run comes to, from a heap of which nothing is written. -/
theorem ex_callsH (hT : TT.Sound P T) (hNG : NoNG P) (hMix : P.follows .mixedOrders = true) {w : World} (hS : SumsOK P ρ w.heap.size S) {μ0 : Mu} {h0 : AH} (hr : HR P ρ w.heap.size μ0 h0 w) (hnw : ∀ b ab, h0.at b = some ab → wr ab = false) {n : Nat} {f : FuncId} {args : List AV} {v : AV} {cm : Option Mode} {h' : AH}
    (hx : ex P T S n (.call f args none) h0 = some (.ended (.ret v) cm, h')) {args' : List Value} (ha : rels ρ μ0 w args args') :
    Calls P f args'.toArray w fun e w' => ∃ v' μ', e = .returned v' ∧ Below w.heap.size w w' ∧ rel ρ μ' w' v v' := by
  intro cs
  obtain ⟨_, h2⟩ := ex_ok hT hNG hMix hS n _ _ _ _ hx
  obtain ⟨_, μ', w', f', cs', q1, q2, q3, q4⟩ := h2 _ w cs args' hr ha trivial
  cases cm with
  | some m => rename_i h3; cases h3
  | none =>
    have q4 : cs' = cs := q4
    subst q4
    obtain ⟨r1, r2, r3, r4, fn, v', r5, r6, r7⟩ := q3
    exact ⟨.returned v', w', f', ⟨v', μ', rfl, ⟨q1.same.2.1, q1.same.1, q1.same.2.2, q1.size, fun k hk => q1.rest k hk (fun b base ab _ hb => hnw b ab hb)⟩, r7⟩, q2, r1, r4, r2, r3, fn, by rw [r1]; exact r5, r6⟩
end Go.Proofs.YtkgbeihcepociaaDoor.Ex
end

section

set_option linter.unusedSimpArgs false
set_option linter.unusedVariables false
namespace Go.Proofs.YtkgbeihcepociaaDoor.Ex
open Go Go.RowKit
variable {P : Program} {ρ : Nat → Value} {fl : Nat}
/-- A world that has grown alone. -/
theorem EffL.below {μ : Mu} {h : List AB} {w w' : World} (hr : HRL P ρ fl μ h w) (hb : Below w.heap.size w w') : EffL P ρ fl μ h w μ h w' := by
  have hg : Grows w w' := fun k cur e fz hc => ⟨cur, e, fz, by rw [hb.block k (lt_in hc)]; exact hc, rfl⟩
  refine ⟨More.refl μ, Nat.le_refl _, fun c x h1 h2 => (by rw [h1] at h2; cases h2), fun c hc hn => rfl, fun c hc => hc, fun _ _ _ hc => hc, hg, hb.size, fun c r' base' h1 h2 => (by rw [h1] at h2; cases h2), fun k hk2 hno => hb.block k hk2, ⟨hb.tape, hb.os, hb.output⟩, ?_⟩
  refine ⟨Nat.le_trans hr.floor hb.size, hr.dom, fun c r' base' ac hc hac => ?_, hr.inj, hr.pin.more (More.refl μ) hg⟩
  obtain ⟨q1, q2, o, q3, q4⟩ := hr.obj c r' base' ac hc hac
  exact ⟨q1, Nat.lt_of_lt_of_le q2 hb.size, o, by rw [hb.block r' q2]; exact q3, q4.mono (More.refl μ) hg⟩
theorem Eff.below {μ : Mu} {h : AH} {w w' : World} (hr : HR P ρ fl μ h w) (hb : Below w.heap.size w w') : Eff P ρ fl μ h w μ h w' := EffL.below hr hb
theorem noNG : NoNG Tryd.prog := by
  have h : (Tryd.prog.funcs.all fun fn => !(fn.name == "runtime.NumGoroutine")) = true := by decide +kernel
  intro f fn hf
  have := Array.all_eq_true_iff_forall_mem.1 h fn (Array.mem_of_getElem? hf)
  simpa using this
theorem cell_one {P : Program} {w : World} {r : Reach} {base : Nat} {t : TypeId} {v : Value} (h : Cell.okWide P w r base t v) : v.oneCell' = true := by
  cases v <;> first | rfl | skip
  all_goals
    exfalso
    unfold Cell.okWide Cell.ok at h
    cases hq : P.underlying t with
    | none => rw [hq] at h; exact h
    | some d => rw [hq] at h; cases d <;> exact h
theorem okWide_agg {P : Program} {w : World} {r : Reach} {base : Nat} {t : TypeId} {v : Value} {d : TypeDesc} (hu : P.underlying t = some d) (hd : isAggD d = true) (h : Value.okWide P w r base t v) :
    ∃ cs : Array Value, v = .agg cs ∧ cs.size = P.cellsOf t ∧ ∀ (i : Nat) (u : Value), cs[i]? = some u → u.oneCell' = true := by
  unfold Value.okWide at h
  rw [hu] at h
  cases d <;> first | cases hd | skip
  all_goals
    obtain ⟨cs, h1, h2, ts, _, _, h3⟩ := h
    refine ⟨cs, h1, h2, fun i u hu => ?_⟩
    obtain ⟨t', _, h4⟩ := h3 i u hu
    exact cell_one h4
end Go.Proofs.YtkgbeihcepociaaDoor.Ex
end

section

namespace Go.Proofs.YtkgbeihcepociaaDoor.Ex
open Go
def NT0 : NT := (.node (.node (.node (.node (.node (.node (.node (.node .leaf 1 .leaf) 2 .leaf) 3 (.node .leaf 4 .leaf)) 5 (.node (.node (.node .leaf 6 .leaf) 7 .leaf) 8 (.node .leaf 9 .leaf))) 10 (.node (.node (.node (.node .leaf 11 .leaf) 12 .leaf) 13 (.node .leaf 14 .leaf)) 15 (.node (.node (.node .leaf 16 .leaf) 17 .leaf) 18 (.node .leaf 19 .leaf)))) 20 (.node (.node (.node (.node (.node .leaf 21 .leaf) 22 .leaf) 23 (.node .leaf 24 .leaf)) 25 (.node (.node (.node .leaf 26 .leaf) 27 .leaf) 28 (.node .leaf 29 .leaf))) 30 (.node (.node (.node (.node .leaf 31 .leaf) 32 .leaf) 33 (.node .leaf 34 .leaf)) 35 (.node (.node (.node .leaf 36 .leaf) 37 .leaf) 38 (.node .leaf 39 .leaf))))) 40 (.node (.node (.node (.node (.node (.node .leaf 41 .leaf) 42 .leaf) 44 (.node .leaf 45 .leaf)) 46 (.node (.node (.node .leaf 47 .leaf) 48 .leaf) 49 (.node .leaf 50 .leaf))) 51 (.node (.node (.node (.node .leaf 52 .leaf) 53 .leaf) 54 (.node .leaf 55 .leaf)) 56 (.node (.node (.node .leaf 57 .leaf) 59 .leaf) 60 (.node .leaf 61 .leaf)))) 62 (.node (.node (.node (.node (.node .leaf 63 .leaf) 64 .leaf) 65 (.node .leaf 66 .leaf)) 67 (.node (.node (.node .leaf 69 .leaf) 70 .leaf) 71 (.node .leaf 72 .leaf))) 73 (.node (.node (.node (.node .leaf 74 .leaf) 75 .leaf) 76 (.node .leaf 77 .leaf)) 78 (.node (.node .leaf 79 .leaf) 80 (.node .leaf 81 .leaf)))))) 82 (.node (.node (.node (.node (.node (.node (.node .leaf 83 .leaf) 84 .leaf) 85 (.node .leaf 86 .leaf)) 87 (.node (.node (.node .leaf 88 .leaf) 90 .leaf) 91 (.node .leaf 92 .leaf))) 93 (.node (.node (.node (.node .leaf 94 .leaf) 95 .leaf) 96 (.node .leaf 97 .leaf)) 98 (.node (.node (.node .leaf 99 .leaf) 100 .leaf) 101 (.node .leaf 102 .leaf)))) 103 (.node (.node (.node (.node (.node .leaf 104 .leaf) 106 .leaf) 107 (.node .leaf 108 .leaf)) 109 (.node (.node (.node .leaf 110 .leaf) 111 .leaf) 112 (.node .leaf 113 .leaf))) 114 (.node (.node (.node (.node .leaf 115 .leaf) 116 .leaf) 117 (.node .leaf 118 .leaf)) 119 (.node (.node (.node .leaf 120 .leaf) 121 .leaf) 122 (.node .leaf 123 .leaf))))) 124 (.node (.node (.node (.node (.node (.node .leaf 125 .leaf) 126 .leaf) 127 (.node .leaf 128 .leaf)) 129 (.node (.node (.node .leaf 130 .leaf) 131 .leaf) 132 (.node .leaf 133 .leaf))) 134 (.node (.node (.node (.node .leaf 135 .leaf) 136 .leaf) 138 (.node .leaf 139 .leaf)) 140 (.node (.node (.node .leaf 141 .leaf) 142 .leaf) 143 (.node .leaf 144 .leaf)))) 145 (.node (.node (.node (.node (.node .leaf 146 .leaf) 147 .leaf) 148 (.node .leaf 149 .leaf)) 150 (.node (.node (.node .leaf 151 .leaf) 152 .leaf) 153 (.node .leaf 154 .leaf))) 155 (.node (.node (.node (.node .leaf 156 .leaf) 157 .leaf) 158 (.node .leaf 159 .leaf)) 160 (.node (.node .leaf 161 .leaf) 162 (.node .leaf 163 .leaf)))))))
set_option maxRecDepth 100000 in
theorem tab_sound : TT.Sound Tryd.prog (tabOf Tryd.prog NT0) := tabOf_sound (by decide +kernel)
end Go.Proofs.YtkgbeihcepociaaDoor.Ex
end

section

set_option linter.unusedSimpArgs false
set_option linter.unusedVariables false
namespace Go.Proofs.YtkgbeihcepociaaDoor.Ex
open Go
/-! Operations that neither defer nor recover. -/
def plainOp : Op → Bool
  | .defer _ => false
  | .call c => (match c.callee with | .builtin .recover => false | _ => true)
  | _ => true
def AN.plain : AN → Bool
  | .defer _ _ => false
  | .recover => false
  | _ => true
def Pl (x : AR) : Prop := ∀ n h1, x = some (n, h1) → n.plain = true
theorem Pl_none : Pl none := fun n h1 h => by cases h
theorem Pl_some {n : AN} {h : AH} (hn : n.plain = true) : Pl (some (n, h)) := fun n' h1 e => by
  simp only [Option.some.injEq, Prod.mk.injEq] at e
  rw [← e.1]
  exact hn
theorem Pl_map {α : Type} {x : Option α} {f : α → AN × AH} (hf : ∀ y, (f y).1.plain = true) : Pl (x.map f) := fun n h1 e => by
  simp only [Option.map_eq_some_iff] at e
  obtain ⟨y, _, e2⟩ := e
  rw [show n = (f y).1 by rw [e2]]
  exact hf y
theorem Pl_val {x : Option AV} {h : AH} : Pl (val h x) := Pl_map fun _ => rfl
theorem Pl_orLit {P : Program} {t : TM} {h : AH} {o : Oper} {r : Unit → AR} (hr : Pl (r ())) : Pl (orLit P o t h r) := by
  unfold orLit
  split
  · rename_i n hn
    refine Pl_some ?_
    unfold litOp at hn
    split at hn
    · unfold ofPR at hn
      split at hn
      · simp only [Option.map_eq_some_iff] at hn; obtain ⟨_, _, rfl⟩ := hn; rfl
      · simp only [Option.map_eq_some_iff] at hn; obtain ⟨_, _, rfl⟩ := hn; rfl
      · cases hn
    · cases hn
  · exact hr
theorem Pl_pv {h : AH} {x : Option (PR Value)} : Pl (ofPV h x) := by
  unfold ofPV
  split
  · exact Pl_map fun _ => rfl
  · exact Pl_map fun _ => rfl
  · exact Pl_none
theorem Pl_if {c : Prop} [Decidable c] {a b : AR} (ha : Pl a) (hb : Pl b) : Pl (if c then a else b) := by split <;> assumption
theorem Pl_bif {c : Bool} {a b : AR} (ha : Pl a) (hb : Pl b) : Pl (bif c then a else b) := by cases c <;> assumption
theorem Pl_callA {P : Program} {h : AH} {f : AV} {args : List AV} : Pl ((callA P f args).map (·, h)) := fun n h1 e => by
  simp only [Option.map_eq_some_iff, Prod.mk.injEq] at e
  obtain ⟨y, hy, rfl, _⟩ := e
  unfold callA at hy
  split at hy
  · obtain rfl := Option.some.inj hy; rfl
  · obtain rfl := Option.some.inj hy; rfl
  · simp only [Option.map_eq_some_iff] at hy; obtain ⟨_, _, rfl⟩ := hy; rfl
  · cases hy
theorem aop_plain {P : Program} {T : TT} {t : TM} {h : AH} {o : Oper} (hp : plainOp o.op = true) : Pl (aop P T o t h) := by
  obtain ⟨dst, op, ty, pos, after, guard⟩ := o
  have e0 : ∀ x : AR, (∃ y : Option AV, x = val h y) → Pl x := fun x ⟨y, e⟩ => e ▸ Pl_val
  cases op <;> simp only [aop] <;> first
    | exact Pl_none | exact Pl_val | exact Pl_map fun _ => rfl | skip
  all_goals first
    | (cases hp; done)
    | (simp only [aPick, aBox, aBuild, aBuildSlice, aLoad, aStore, aNilCheck, aBin, aUn, aConvert, aConv1, aMakeInterface, aMakeFunc, aMakeSlice, aSlice, aSlice1, aFieldAddr, aField, aIndexAddr, aIndex, aLookup, aUpdate, aRange, aNext, aEntry, aExtract, aAssert, aPanic, aSame, aAlloc]
       repeat' (first | exact Pl_none | exact Pl_val | exact Pl_pv | (exact Pl_map fun _ => rfl) | exact Pl_some rfl | refine Pl_orLit ?_ | refine Pl_bif ?_ ?_ | refine Pl_if ?_ ?_ | split)
       done)
    | skip
  · rename_i r; cases r <;> first | exact Pl_none | exact Pl_some rfl
  · rename_i c
    unfold aCall
    split
    · rename_i b hb
      unfold aBuiltin
      repeat' (first | exact Pl_none | exact Pl_val | (exact Pl_map fun _ => rfl) | exact Pl_some rfl | refine Pl_orLit ?_ | split)
      all_goals (simp only [plainOp, hb] at hp; first | cases hp | skip)
    · split <;> first | exact Pl_callA | exact Pl_none
    · split <;> first | exact Pl_callA | exact Pl_none
section
variable {P : Program} {T : TT} {S : Sums}
/-! More fuel does not hurt. -/
def RLe (r r' : Rec) : Prop := ∀ t h x, r t h = some x → r' t h = some x
def OLe {α : Type} (a b : Option α) : Prop := ∀ x, a = some x → b = some x
theorem OLe.refl {α : Type} (a : Option α) : OLe a a := fun _ h => h
variable {r r' : Rec}
theorem xCall1_mono (hr : RLe r r') {a b : Option (Out × AH)} (hab : OLe a b) (cm : Option Mode) : OLe (xCall1 r cm a) (xCall1 r' cm b) := fun x hx => by
  cases a with
  | none => cases hx
  | some p => rw [hab _ rfl]; revert hx; unfold xCall1; split <;> first | exact fun hx => hr _ _ _ hx | exact id
theorem xCall_mono (hr : RLe r r') (f : FuncId) (args : List AV) (cm : Option Mode) (h : AH) : OLe (xCall P S r f args cm h) (xCall P S r' f args cm h) := fun x hx => by
  unfold xCall at hx ⊢
  split at hx
  · split at hx
    · split at hx
      · exact hx
      · exact hx
      · exact xCall1_mono hr (fun y hy => hr _ _ _ hy) _ x hx
    · cases hx
  · cases hx
theorem xUnwind1_mono (hr : RLe r r') {a b : Option (Out × AH)} (hab : OLe a b) (fr : AFr) (ds : List ADI) : OLe (xUnwind1 r fr ds a) (xUnwind1 r' fr ds b) := fun x hx => by
  cases a with
  | none => cases hx
  | some p => rw [hab _ rfl]; revert hx; unfold xUnwind1; split <;> first | exact fun hx => hr _ _ _ hx | exact id
theorem xUnwind_mono (hr : RLe r r') (fr : AFr) (m : Mode) (h : AH) : OLe (xUnwind P T r fr m h) (xUnwind P T r' fr m h) := fun x hx => by
  unfold xUnwind at hx ⊢
  split at hx
  · split at hx <;> exact hx
  · split at hx
    · exact hr _ _ _ hx
    · cases hx
  · exact xUnwind1_mono hr (fun y hy => hr _ _ _ hy) _ _ x hx
theorem xRound_mono (hr : RLe r r') (l : Nat) (args : List AV) (h : AH) : OLe (xRound P r l args h) (xRound P r' l args h) := fun x hx => by
  unfold xRound at hx ⊢
  split at hx
  · rename_i lo hl
    split at hx
    · rename_i hlen
      rw [if_pos hlen]
      cases hb : r (.body { fn := lo.fn, tmps := setParams lo.tmps lo.params args, todo := [.code lo.assign, .beginRound, .code lo.body], defers := [], cm := none, roundOf := some l }) h with
      | none => rw [hb] at hx; cases hx
      | some p => rw [hb] at hx; rw [hr _ _ _ hb]; exact hx
    · cases hx
  · cases hx
theorem xRange1_mono (hr : RLe r r') {a b : Option (Out × AH)} (hab : OLe a b) (fr : AFr) (k : List AI) (d l : Nat) : OLe (xRange1 r fr k d l a) (xRange1 r' fr k d l b) := fun x hx => by
  cases a with
  | none => cases hx
  | some p => rw [hab _ rfl]; revert hx; unfold xRange1; split <;> first | exact fun hx => hr _ _ _ hx | exact id
theorem xRange_mono (hr : RLe r r') (fr : AFr) (k : List AI) (h : AH) (f : Operand) (ps : Array Tmp) (a b : Code) : OLe (xRange P r fr k h f ps a b) (xRange P r' fr k h f ps a b) := fun x hx => by
  unfold xRange at hx ⊢
  split at hx
  · split at hx
    · exact xRange1_mono hr (fun y hy => hr _ _ _ hy) _ _ _ _ x hx
    · cases hx
  · cases hx
theorem xBegin_mono (hr : RLe r r') (fr : AFr) (k : List AI) (h : AH) : OLe (xBegin r fr k h) (xBegin r' fr k h) := fun x hx => by
  unfold xBegin at hx ⊢
  split at hx
  · split at hx
    · split at hx
      · exact hr _ _ _ hx
      · cases hx
    · cases hx
  · cases hx
theorem xEnd_mono (hr : RLe r r') (fr : AFr) (l : Nat) (k : List AI) (h : AH) : OLe (xEnd r fr l k h) (xEnd r' fr l k h) := fun x hx => by
  unfold xEnd at hx ⊢
  split at hx
  · split at hx
    · cases hx
    · exact hr _ _ _ hx
  · cases hx
theorem xCalled_mono (hr : RLe r r') {a b : Option (Out × AH)} (hab : OLe a b) (fr : AFr) (o : Oper) (it : AI) (k : List AI) : OLe (xCalled r fr o it k a) (xCalled r' fr o it k b) := fun x hx => by
  cases a with
  | none => cases hx
  | some p => rw [hab _ rfl]; revert hx; unfold xCalled; split <;> first | exact fun hx => hr _ _ _ hx | exact id
theorem xOp_mono (hr : RLe r r') (fr : AFr) (o : Oper) (it : AI) (k : List AI) (a : AR) : OLe (xOp r fr o it k a) (xOp r' fr o it k a) := fun x hx => by
  unfold xOp at hx ⊢
  split at hx
  · exact hr _ _ _ hx
  · exact xCalled_mono hr (fun y hy => hr _ _ _ hy) _ _ _ _ x hx
  · exact xCalled_mono hr (fun y hy => hr _ _ _ hy) _ _ _ _ x hx
  · split at hx
    · cases hx
    · rename_i hn; rw [if_neg hn]; exact hr _ _ _ hx
  · split at hx
    · cases hx
    · rename_i hn; rw [if_neg hn]; exact hr _ _ _ hx
  · exact hx
  · cases hx
theorem xReg_mono (hr : RLe r r') (fr : AFr) (ops : Array Oper) (i : Nat) (l : List Nat) (k : List AI) (h : AH) : OLe (xReg P T r fr ops i l k h) (xReg P T r' fr ops i l k h) := fun x hx => by
  unfold xReg at hx ⊢
  split at hx
  · split at hx
    · exact xOp_mono hr _ _ _ _ _ x hx
    · exact hr _ _ _ hx
    · cases hx
  · cases hx
theorem xCalledD_mono (hr : RLe r r') {a b : Option (Out × AH)} (hab : OLe a b) (fr : AFr) (o : Oper) (it : AI) (k : List AI) : OLe (xCalledD r fr o it k a) (xCalledD r' fr o it k b) := fun x hx => by
  cases a with
  | none => cases hx
  | some p => rw [hab _ rfl]; revert hx; unfold xCalledD; split <;> first | exact fun hx => hr _ _ _ hx | exact id
theorem xOpD_mono (hr : RLe r r') (fr : AFr) (ops : Array Oper) (i : Nat) (o : Oper) (l : List Nat) (rs : List (Nat × RD × AV)) (k : List AI) (a : AR) : OLe (xOpD P T r fr ops i o l rs k a) (xOpD P T r' fr ops i o l rs k a) := fun x hx => by
  unfold xOpD at hx ⊢
  split at hx
  · split at hx
    · exact hr _ _ _ hx
    · exact xCalledD_mono hr (fun y hy => hr _ _ _ hy) _ _ _ _ x hx
    · exact xCalledD_mono hr (fun y hy => hr _ _ _ hy) _ _ _ _ x hx
    · cases hx
  · split at hx
    · split at hx
      · exact hr _ _ _ hx
      · rename_i hrd
        cases hl : (litOp P o fr.tmps).isSome with
        | false => rw [hl] at hx; cases hx
        | true => rw [hl] at hx; exact hr _ _ _ hx
    · cases hx
  · split at hx
    · exact hr _ _ _ hx
    · cases hx
theorem xRegD1_mono (hr : RLe r r') (fr : AFr) (ops : Array Oper) (i : Nat) (o : Oper) (l : List Nat) (rs : List (Nat × RD × AV)) (k : List AI) (h : AH) : OLe (xRegD1 P T r fr ops i o l rs k h) (xRegD1 P T r' fr ops i o l rs k h) := fun x hx => by
  unfold xRegD1 at hx ⊢
  split at hx
  · exact xOpD_mono hr _ _ _ _ _ _ _ _ x hx
  · exact hr _ _ _ hx
  · cases hx
theorem xRegD_mono (hr : RLe r r') (fr : AFr) (ops : Array Oper) (i : Nat) (l : List Nat) (rs : List (Nat × RD × AV)) (k : List AI) (h : AH) : OLe (xRegD P T r fr ops i l rs k h) (xRegD P T r' fr ops i l rs k h) := fun x hx => by
  unfold xRegD at hx ⊢
  split at hx
  · split at hx
    · rename_i ha
      rw [if_pos ha]
      split at hx
      · rename_i hh; rw [if_pos hh]; exact xRegD1_mono hr _ _ _ _ _ _ _ _ x hx
      · cases hx
    · rename_i ha
      rw [if_neg ha]
      exact xRegD1_mono hr _ _ _ _ _ _ _ _ x hx
  · cases hx
theorem xCode_mono (hr : RLe r r') (fr : AFr) (k : List AI) (h : AH) (c : Code) : OLe (xCode P T r fr k h c) (xCode P T r' fr k h c) := fun x hx => by
  cases c with
  | ret => exact hx
  | skip => exact hr _ _ _ hx
  | label n => exact hr _ _ _ hx
  | seq a b => exact hr _ _ _ hx
  | cond c a b =>
    simp only [xCode, xCond] at hx ⊢
    split at hx
    · exact hr _ _ _ hx
    · cases hx
  | block id c => exact hr _ _ _ hx
  | loop c => exact hr _ _ _ hx
  | scope c => exact hr _ _ _ hx
  | exit id =>
    simp only [xCode, xExit] at hx ⊢
    split at hx
    · exact hr _ _ _ hx
    · exact hx
  | goto n =>
    simp only [xCode, xGoto] at hx ⊢
    split at hx
    · exact hr _ _ _ hx
    · cases hx
  | rangeFunc f ps a b => exact xRange_mono hr _ _ _ _ _ _ _ x hx
  | region id ops draw =>
    simp only [xCode, xRegion] at hx ⊢
    cases draw with
    | true =>
      simp only [cond_true] at hx ⊢
      cases hok : okD T ops with
      | false => rw [hok] at hx; cases hx
      | true => rw [hok] at hx; exact hr _ _ _ hx
    | false => exact hr _ _ _ hx
  | refuse why => cases hx
theorem xBody_mono (hr : RLe r r') (fr : AFr) (h : AH) : OLe (xBody P T r fr h) (xBody P T r' fr h) := fun x hx => by
  unfold xBody at hx ⊢
  split at hx
  · exact hx
  · rename_i it k hk
    unfold xItem at hx ⊢
    split at hx
    · exact xCode_mono hr _ _ _ _ x hx
    · exact hr _ _ _ hx
    · exact hr _ _ _ hx
    · exact hr _ _ _ hx
    · exact hr _ _ _ hx
    · exact xReg_mono hr _ _ _ _ _ _ x hx
    · split at hx
      · rename_i hh; rw [if_pos hh]; exact hr _ _ _ hx
      · cases hx
    · exact xRegD_mono hr _ _ _ _ _ _ _ x hx
    · exact xBegin_mono hr _ _ _ x hx
    · exact xEnd_mono hr _ _ _ _ x hx
theorem xStep_mono (hr : RLe r r') : RLe (xStep P T S r) (xStep P T S r') := fun t h x hx => by
  cases t with
  | call f args cm => exact xCall_mono hr _ _ _ _ x hx
  | body fr => exact xBody_mono hr _ _ x hx
  | unwind fr m => exact xUnwind_mono hr _ _ _ x hx
  | round l args => exact xRound_mono hr _ _ _ x hx
theorem ex_mono1 : ∀ n, RLe (ex P T S n) (ex P T S (n + 1))
  | 0 => fun t h x hx => by cases hx
  | n + 1 => fun t h x hx => xStep_mono (ex_mono1 n) t h x hx
theorem ex_mono {n m : Nat} (hnm : n ≤ m) : RLe (ex P T S n) (ex P T S m) := by
  induction hnm with
  | refl => exact fun _ _ _ h => h
  | step _ ih => exact fun t h x hx => ex_mono1 _ t h x (ih t h x hx)
/-- A task comes to something of which Q holds. -/
def W (P : Program) (T : TT) (S : Sums) (t : Task) (h : AH) (Q : Out → AH → Prop) : Prop := ∃ n o h', ex P T S n t h = some (o, h') ∧ Q o h'
theorem W.mono {t : Task} {h : AH} {Q Q' : Out → AH → Prop} (hw : W P T S t h Q) (hq : ∀ o h', Q o h' → Q' o h') : W P T S t h Q' := by
  obtain ⟨n, o, h', h1, h2⟩ := hw
  exact ⟨n, o, h', h1, hq _ _ h2⟩
theorem W_eq {t t' : Task} {h h' : AH} {Q : Out → AH → Prop} (e : ∀ rec : Rec, xStep P T S rec t h = rec t' h') : W P T S t h Q = W P T S t' h' Q := by
  apply propext
  constructor
  · rintro ⟨n, o, h2, h3, h4⟩
    refine ⟨n, o, h2, ?_, h4⟩
    have h5 : ex P T S (n + 1) t h = some (o, h2) := ex_mono1 n _ _ _ h3
    rw [← h5]
    exact (e (ex P T S n)).symm
  · rintro ⟨n, o, h2, h3, h4⟩
    exact ⟨n + 1, o, h2, (e (ex P T S n)).trans h3, h4⟩
theorem W_end {t : Task} {h h' : AH} {o : Out} {Q : Out → AH → Prop} (e : ∀ rec : Rec, xStep P T S rec t h = some (o, h')) : W P T S t h Q = Q o h' := by
  apply propext
  constructor
  · rintro ⟨n, o2, h2, h3, h4⟩
    have h5 : ex P T S (n + 1) t h = some (o2, h2) := ex_mono1 n _ _ _ h3
    have h6 : ex P T S (n + 1) t h = some (o, h') := e (ex P T S n)
    rw [h5] at h6
    simp only [Option.some.injEq, Prod.mk.injEq] at h6
    rw [← h6.1, ← h6.2]
    exact h4
  · exact fun hq => ⟨1, o, h', e (ex P T S 0), hq⟩
/-- What stays of a frame while its body runs. -/
structure FE where
  fn : FuncId
  defers : List ADI := []
  cm : Option Mode := none
  ro : Option Nat := none
def FE.fr (E : FE) (t : TM) (k : List AI) : AFr := { fn := E.fn, tmps := t, todo := k, defers := E.defers, cm := E.cm, roundOf := E.ro }
abbrev KK := Option Code → TM → AH → Prop
/-- The blocks for deferred calls that ranges over functions have laid are taken up. -/
inductive Coll (ok : Prop) : List ADI → List ADI → AH → AH → Prop
  | refl (ds : List ADI) (h : AH) : Coll ok ds ds h h
  | cons {b : Nat} {ds ds0 : List ADI} {h h' : AH} : ok → h.at b = some .defd → Coll ok ds ds0 (h.put b .gone) h' → Coll ok (.coll b :: ds) ds0 h h'
theorem Coll.len {ok : Prop} {ds ds0 : List ADI} {h h' : AH} (c : Coll ok ds ds0 h h') : ds0.length ≤ ds.length := by
  induction c with
  | refl => exact Nat.le_refl _
  | cons _ _ _ ih => simp only [List.length_cons]; omega
theorem Coll.same {ok : Prop} {ds : List ADI} {h h' : AH} (c : Coll ok ds ds h h') : h' = h := by
  cases c with
  | refl => rfl
  | cons _ _ c => have := c.len; simp only [List.length_cons] at this; omega
theorem Coll.snoc {ok : Prop} {ds ds0 ds1 : List ADI} {b : Nat} {h h' : AH} (c : Coll ok ds ds1 h h') (e : ds1 = .coll b :: ds0) (hok : ok) (hb : h'.at b = some .defd) : Coll ok ds ds0 h (h'.put b .gone) := by
  induction c with
  | refl => subst e; exact .cons hok hb (.refl _ _)
  | cons h1 h2 _ ih => exact .cons h1 h2 (ih e hb)
/-- A frame's body runs to its end; K is told the jump, the temporaries and the heap (behind the taking up of what ranges over functions deferred). -/
def WB (P : Program) (T : TT) (S : Sums) (E : FE) (t : TM) (k : List AI) (h : AH) (K : KK) : Prop :=
  W P T S (.body (E.fr t k)) h fun o h' => ∃ j t' k' ds h'', o = .left j (({ E with defers := ds } : FE).fr t' k') ∧ Coll (E.ro = none) ds E.defers h' h'' ∧ K j t' h''
/-- A call comes back. -/
def WC (P : Program) (T : TT) (S : Sums) (f : FuncId) (args : List AV) (h : AH) (Q : AV → AH → Prop) : Prop :=
  W P T S (.call f args none) h fun o h' => ∃ v cm, o = .ended (.ret v) cm ∧ Q v h'
theorem WC.mono {f : FuncId} {args : List AV} {h : AH} {Q Q' : AV → AH → Prop} (hw : WC P T S f args h Q) (hq : ∀ v h', Q v h' → Q' v h') : WC P T S f args h Q' :=
  W.mono hw fun o h' ⟨v, cm, e, hv⟩ => ⟨v, cm, e, hq v h' hv⟩
theorem WB.mono {E : FE} {t : TM} {k : List AI} {h : AH} {K K' : KK} (hw : WB P T S E t k h K) (hq : ∀ j t' h', K j t' h' → K' j t' h') : WB P T S E t k h K' :=
  W.mono hw fun o h' ⟨j, t', k', ds, h'', e, hc, hv⟩ => ⟨j, t', k', ds, h'', e, hc, hq j t' h'' hv⟩
variable {E : FE} {t : TM} {k : List AI} {h : AH} {K : KK}
theorem WB_eq {t' : TM} {k' : List AI} {h' : AH} (e : ∀ rec : Rec, xBody P T rec (E.fr t k) h = rec (.body (E.fr t' k')) h') : WB P T S E t k h K = WB P T S E t' k' h' K := W_eq e
theorem FE.fr_inj {t' : TM} {k' : List AI} {ds : List ADI} (e : E.fr t k = ({ E with defers := ds } : FE).fr t' k') : t = t' ∧ k = k' ∧ E.defers = ds := by
  simp only [FE.fr, AFr.mk.injEq] at e
  exact ⟨e.2.1, e.2.2.1, e.2.2.2.1⟩
theorem WB_end {j : Option Code} (e : ∀ rec : Rec, xBody P T rec (E.fr t k) h = some (.left j (E.fr t k), h)) : WB P T S E t k h K = K j t h := by
  unfold WB
  rw [W_end (t := .body (E.fr t k)) (h' := h) (o := .left j (E.fr t k)) (fun rec => e rec)]
  apply propext
  constructor
  · rintro ⟨j', t', k', ds, h'', e1, hc, hk⟩
    simp only [Out.left.injEq] at e1
    obtain ⟨rfl, e2⟩ := e1
    obtain ⟨rfl, _, rfl⟩ := FE.fr_inj e2
    rw [hc.same] at hk
    exact hk
  · exact fun hk => ⟨j, t, k, E.defers, h, rfl, .refl _ _, hk⟩
theorem WB_nil : WB P T S E t [] h K = K none t h := WB_end fun _ => rfl
theorem WB_ret : WB P T S E t (.code .ret :: k) h K = K (some .ret) t h := WB_end fun _ => rfl
theorem WB_skip : WB P T S E t (.code .skip :: k) h K = WB P T S E t k h K := WB_eq fun _ => rfl
theorem WB_label {n : Nat} : WB P T S E t (.code (.label n) :: k) h K = WB P T S E t k h K := WB_eq fun _ => rfl
theorem WB_seq {a b : Code} : WB P T S E t (.code (.seq a b) :: k) h K = WB P T S E t (.code a :: .code b :: k) h K := WB_eq fun _ => rfl
theorem WB_block {id : Nat} {c : Code} : WB P T S E t (.code (.block id c) :: k) h K = WB P T S E t (.code c :: .blk id :: k) h K := WB_eq fun _ => rfl
theorem WB_loop {c : Code} : WB P T S E t (.code (.loop c) :: k) h K = WB P T S E t (.lp c :: k) h K :=
  (WB_eq (k' := .code c :: .lp c :: k) fun _ => rfl).trans (WB_eq (k := .lp c :: k) fun _ => rfl).symm
theorem WB_lp {c : Code} : WB P T S E t (.lp c :: k) h K = WB P T S E t (.code c :: .lp c :: k) h K := WB_eq fun _ => rfl
theorem WB_scope {c : Code} : WB P T S E t (.code (.scope c) :: k) h K = WB P T S E t (.code c :: .sc c :: k) h K := WB_eq fun _ => rfl
theorem WB_blk {id : Nat} : WB P T S E t (.blk id :: k) h K = WB P T S E t k h K := WB_eq fun _ => rfl
theorem WB_sc {c : Code} : WB P T S E t (.sc c :: k) h K = WB P T S E t k h K := WB_eq fun _ => rfl
theorem WB_region {id : Nat} {ops : Array Oper} : WB P T S E t (.code (.region id ops false) :: k) h K = WB P T S E t (.reg ops (List.range ops.size) :: k) h K := WB_eq fun _ => rfl
theorem WB_reg_nil {ops : Array Oper} : WB P T S E t (.reg ops [] :: k) h K = WB P T S E t k h K := WB_eq fun _ => rfl
def WExit (P : Program) (T : TT) (S : Sums) (E : FE) (t : TM) (id : Nat) (h : AH) (K : KK) : Option (List AI) → Prop
  | some k' => WB P T S E t k' h K
  | none => K (some (.exit id)) t h
theorem WB_exit {id : Nat} : WB P T S E t (.code (.exit id) :: k) h K = WExit P T S E t id h K (exitA id k) := by
  cases hk : exitA id k with
  | some k' => exact WB_eq fun _ => by simp [xBody, FE.fr, xItem, xCode, xExit, hk, goOn]
  | none => exact WB_end fun _ => by simp [xBody, FE.fr, xItem, xCode, xExit, hk]
def WGoto (P : Program) (T : TT) (S : Sums) (E : FE) (t : TM) (h : AH) (K : KK) : Option (List AI) → Prop
  | some k' => WB P T S E t k' h K
  | none => False
theorem WB_goto {n : Nat} : WGoto P T S E t h K (gotoA n k) → WB P T S E t (.code (.goto n) :: k) h K := by
  cases hk : gotoA n k with
  | some k' => exact fun hw => by rw [WB_eq (t' := t) (k' := k') (h' := h) fun _ => by simp [xBody, FE.fr, xItem, xCode, xGoto, hk, goOn]]; exact hw
  | none => exact False.elim
/-- A condition. -/
def WIf (A B : Prop) : Option AV → Prop
  | some (.lit (.bool b)) => (b = true → A) ∧ (b = false → B)
  | _ => False
theorem WB_cond {c : Operand} {a b : Code} (x : Bool) (hx : evalA t c = some (.lit (.bool x))) : WB P T S E t (.code (.cond c a b) :: k) h K = WB P T S E t (.code (bif x then a else b) :: k) h K :=
  WB_eq fun _ => by simp [xBody, FE.fr, xItem, xCode, xCond, hx, goOn]
theorem WB_cond_if {c : Operand} {a b : Code} (hw : WIf (WB P T S E t (.code a :: k) h K) (WB P T S E t (.code b :: k) h K) (evalA t c)) : WB P T S E t (.code (.cond c a b) :: k) h K := by
  unfold WIf at hw
  split at hw
  · rename_i x hx
    rw [WB_cond x hx]
    cases x
    · exact hw.2 rfl
    · exact hw.1 rfl
  · exact hw.elim
/-- What an operation's outcome leads to. -/
def WOp (P : Program) (T : TT) (S : Sums) (E : FE) (t : TM) (o : Oper) (k : List AI) (K : KK) : AR → Prop
  | some (.val v, h1) => WB P T S E (setTmp t o.dst v) k h1 K
  | some (.enter g a, h1) => WC P T S g a h1 fun v h2 => WB P T S E (setTmp t o.dst v) k h2 K
  | some (.round l a, h1) => W P T S (.round l a) h1 fun x h2 => ∃ v cm, x = .ended (.ret v) cm ∧ WB P T S E (setTmp t o.dst v) k h2 K
  | _ => False
theorem WB_called {o : Oper} {it : AI} {k0 : List AI} {h1 : AH} {tk : Task} (e : ∀ rec : Rec, xBody P T rec (E.fr t k) h = xCalled rec (E.fr t k) o it k0 (rec tk h1))
    (hw : W P T S tk h1 fun x h2 => ∃ v cm, x = .ended (.ret v) cm ∧ WB P T S E (setTmp t o.dst v) (it :: k0) h2 K) : WB P T S E t k h K := by
  obtain ⟨n, x, h2, h3, v, cm, rfl, m, x2, h4, h5, h6⟩ := hw
  refine ⟨max n m + 1, x2, h4, ?_, h6⟩
  show xBody P T (ex P T S (max n m)) (E.fr t k) h = _
  rw [e, ex_mono (Nat.le_max_left n m) _ _ _ h3]
  exact ex_mono (Nat.le_max_right n m) _ _ _ h5
theorem WB_called_eq {o : Oper} {it : AI} {k0 : List AI} {h1 : AH} {tk : Task} (e : ∀ rec : Rec, xBody P T rec (E.fr t k) h = xCalled rec (E.fr t k) o it k0 (rec tk h1)) :
    WB P T S E t k h K = W P T S tk h1 fun x h2 => ∃ v cm, x = .ended (.ret v) cm ∧ WB P T S E (setTmp t o.dst v) (it :: k0) h2 K := by
  apply propext
  refine ⟨fun hw => ?_, WB_called e⟩
  obtain ⟨n, x, h2, h3, j, t', k', ds, h'', rfl, h4⟩ := hw
  cases n with
  | zero => cases h3
  | succ n =>
    have h5 : xCalled (ex P T S n) (E.fr t k) o it k0 (ex P T S n tk h1) = some (.left j (({ E with defers := ds } : FE).fr t' k'), h2) := by rw [← e]; exact h3
    cases hx : ex P T S n tk h1 with
    | none => rw [hx] at h5; cases h5
    | some p =>
      rw [hx] at h5
      obtain ⟨x, hh⟩ := p
      cases x with
      | ended en cm =>
        cases en with
        | ret v => exact ⟨n, _, _, hx, v, cm, rfl, n, _, _, h5, j, t', k', ds, h'', rfl, h4⟩
        | pan c => simp [xCalled] at h5
      | left a b => simp [xCalled] at h5
      | raised a b => simp [xCalled] at h5
theorem WB_none (e : ∀ rec : Rec, xBody P T rec (E.fr t k) h = none) : WB P T S E t k h K = False := by
  apply propext
  refine ⟨fun hw => ?_, False.elim⟩
  obtain ⟨n, x, h2, h3, _⟩ := hw
  cases n with
  | zero => cases h3
  | succ n =>
    have : xBody P T (ex P T S n) (E.fr t k) h = some (x, h2) := h3
    rw [e] at this
    cases this
/-- What the next operation of a region leads to. -/
def WReg (P : Program) (T : TT) (S : Sums) (E : FE) (t : TM) (ops : Array Oper) (l : List Nat) (k : List AI) (h : AH) (K : KK) (o : Oper) : Option Bool → Prop
  | some true => WOp P T S E t o (.reg ops l :: k) K (aop P T o t h)
  | some false => WB P T S E (setTmp t o.dst aundef) (.reg ops l :: k) h K
  | none => False
theorem WB_reg_eq {ops : Array Oper} {i : Nat} {l : List Nat} (o : Oper) (ho : ops[i]? = some o) (hn : ∀ g a h1, aop P T o t h ≠ some (.defer g a, h1)) (hn2 : ∀ h1, aop P T o t h ≠ some (.recover, h1)) : WB P T S E t (.reg ops (i :: l) :: k) h K = WReg P T S E t ops l k h K o (wantedA ops t o) := by
  cases hg : wantedA ops t o with
  | none => exact WB_none fun rec => by simp [xBody, FE.fr, xItem, xReg, ho, hg]
  | some b =>
    cases b with
    | false => exact WB_eq fun rec => by simp [xBody, FE.fr, xItem, xReg, ho, hg]; rfl
    | true =>
      have e0 : ∀ rec : Rec, xBody P T rec (E.fr t (.reg ops (i :: l) :: k)) h = xOp rec (E.fr t (.reg ops (i :: l) :: k)) o (.reg ops l) k (aop P T o t h) := fun rec => by
        simp [xBody, FE.fr, xItem, xReg, ho, hg]
      show _ = WOp P T S E t o (.reg ops l :: k) K (aop P T o t h)
      cases ha : aop P T o t h with
      | none => rw [ha] at e0; exact WB_none e0
      | some p =>
        obtain ⟨an, h1⟩ := p
        rw [ha] at e0
        cases an with
        | val v => exact WB_eq e0
        | enter g a => exact WB_called_eq e0
        | round l a => exact WB_called_eq e0
        | defer g a => exact absurd ha (hn g a h1)
        | recover => exact absurd ha (hn2 h1)
        | pan v =>
          apply propext
          refine ⟨fun hw => ?_, False.elim⟩
          obtain ⟨n, x, h2, h3, j, t', k', ds, h'', rfl, h4⟩ := hw
          cases n with
          | zero => cases h3
          | succ n =>
            have h5 := e0 (ex P T S n)
            have h6 : xBody P T (ex P T S n) (E.fr t (.reg ops (i :: l) :: k)) h = some (.left j (({ E with defers := ds } : FE).fr t' k'), h2) := h3
            rw [h5] at h6
            simp [xOp] at h6
def plainO : Option Oper → Bool
  | some o => plainOp o.op
  | none => true
def WRegO (P : Program) (T : TT) (S : Sums) (E : FE) (t : TM) (ops : Array Oper) (l : List Nat) (k : List AI) (h : AH) (K : KK) : Option Oper → Prop
  | some o => WReg P T S E t ops l k h K o (wantedA ops t o)
  | none => False
theorem WB_reg_s {ops : Array Oper} {i : Nat} {l : List Nat} (hp : plainO (ops[i]?) = true) : WB P T S E t (.reg ops (i :: l) :: k) h K = WRegO P T S E t ops l k h K (ops[i]?) := by
  cases ho : ops[i]? with
  | none => exact WB_none fun rec => by simp [xBody, FE.fr, xItem, xReg, ho]
  | some o =>
    rw [ho] at hp
    have hpl := aop_plain (P := P) (T := T) (t := t) (h := h) (o := o) hp
    exact WB_reg_eq o ho (fun g a h1 e => by have := hpl _ _ e; cases this) (fun h1 e => by have := hpl _ _ e; cases this)
theorem WRegO_some {ops : Array Oper} {l : List Nat} {d : Option Tmp} {op : Op} {ty : TypeId} {ps : String} {af : Array Edge} : WRegO P T S E t ops l k h K (some ⟨d, op, ty, ps, af, none⟩) = WOp P T S E t ⟨d, op, ty, ps, af, none⟩ (.reg ops l :: k) K (aop P T ⟨d, op, ty, ps, af, none⟩ t h) := rfl
theorem WRegO_guard {ops : Array Oper} {l : List Nat} {d : Option Tmp} {op : Op} {ty : TypeId} {ps : String} {af : Array Edge} {g : Nat × Bool} : WRegO P T S E t ops l k h K (some ⟨d, op, ty, ps, af, some g⟩) = WReg P T S E t ops l k h K ⟨d, op, ty, ps, af, some g⟩ (wantedA ops t ⟨d, op, ty, ps, af, some g⟩) := rfl
theorem WReg_true {ops : Array Oper} {l : List Nat} {o : Oper} : WReg P T S E t ops l k h K o (some true) = WOp P T S E t o (.reg ops l :: k) K (aop P T o t h) := rfl
theorem WReg_false {ops : Array Oper} {l : List Nat} {o : Oper} : WReg P T S E t ops l k h K o (some false) = WB P T S E (setTmp t o.dst aundef) (.reg ops l :: k) h K := rfl
theorem WB_cond_s {c : Operand} {a b : Code} : WB P T S E t (.code (.cond c a b) :: k) h K = WIf (WB P T S E t (.code a :: k) h K) (WB P T S E t (.code b :: k) h K) (evalA t c) := by
  apply propext
  refine ⟨fun hw => ?_, WB_cond_if⟩
  unfold WIf
  split
  · rename_i x hx
    rw [WB_cond x hx] at hw
    cases x
    · exact ⟨fun e => (by cases e), fun _ => hw⟩
    · exact ⟨fun _ => hw, fun e => (by cases e)⟩
  · rename_i hx
    have : WB P T S E t (.code (.cond c a b) :: k) h K = False := WB_none fun rec => by
      simp only [xBody, FE.fr, xItem, xCode, xCond]
    exact this ▸ hw
/-! Regions that draw their order. -/
/-- The number that a region's order is. -/
structure MO (ops : Array Oper) where
  m : Nat
  ok : mat ops = m
def WDM (P : Program) (T : TT) (S : Sums) (E : FE) (t : TM) {ops : Array Oper} (M : MO ops) (l : List Nat) (rs : List (Nat × RD × AV)) (k : List AI) (h : AH) (K : KK) : Prop := WB P T S E t (.regD ops l rs :: k) h K
theorem WB_regionD {id : Nat} {ops : Array Oper} (l : List Nat) (m : Nat) (hk : (okD T ops && (orderD T ops == l) && Nat.beq (mat ops) m) = true) :
    WB P T S E t (.code (.region id ops true) :: k) h K = WDM P T S E t (⟨m, Nat.eq_of_beq_eq_true (by simp only [Bool.and_eq_true] at hk; exact hk.2)⟩ : MO ops) l [] k h K := by
  simp only [Bool.and_eq_true, beq_iff_eq] at hk
  unfold WDM
  rw [← hk.1.2]
  exact WB_eq fun rec => by simp [xBody, FE.fr, xItem, xCode, xRegion, hk.1.1, goOn]
theorem WDM_nil {ops : Array Oper} {M : MO ops} {rs : List (Nat × RD × AV)} : WDM P T S E t M [] rs k h K = (hold T h rs = true ∧ WB P T S E t k h K) := by
  unfold WDM
  cases hh : hold T h rs with
  | false => rw [WB_none fun rec => by simp [xBody, FE.fr, xItem, hh]]; simp
  | true => rw [WB_eq (t' := t) (k' := k) (h' := h) fun rec => by simp [xBody, FE.fr, xItem, hh, goOn]]; simp
/-- What an operation of such a region leads to. -/
def WOpD (P : Program) (T : TT) (S : Sums) (E : FE) (t : TM) {ops : Array Oper} (M : MO ops) (i : Nat) (o : Oper) (l : List Nat) (rs : List (Nat × RD × AV)) (k : List AI) (K : KK) : Kind → AR → Prop
  | .acts, some (.val v, h1) => WDM P T S E (setTmp t o.dst v) M l rs k h1 K
  | .acts, some (.enter g a, h1) => WC P T S g a h1 fun v h2 => WDM P T S E (setTmp t o.dst v) M l rs k h2 K
  | .reads, some (.val v, h1) => match rdOf o t with
    | some rd => WDM P T S E (setTmp t o.dst v) M l ((i, rd, v) :: rs) k h1 K
    | none => (litOp P o t).isSome = true ∧ WDM P T S E (setTmp t o.dst v) M l rs k h1 K
  | .still, some (.val v, h1) => WDM P T S E (setTmp t o.dst v) M l rs k h1 K
  | .alloc, some (.val v, h1) => WDM P T S E (setTmp t o.dst v) M l rs k h1 K
  | _, _ => False
def WRegD (P : Program) (T : TT) (S : Sums) (E : FE) (t : TM) {ops : Array Oper} (M : MO ops) (i : Nat) (l : List Nat) (rs : List (Nat × RD × AV)) (k : List AI) (h : AH) (K : KK) (o : Oper) : Option Bool → Prop
  | some true => WOpD P T S E t M i o l rs k K (kindOf T o) (aop P T o t h)
  | some false => WDM P T S E (setTmp t o.dst aundef) M l rs k h K
  | none => False
def dropR (n m i : Nat) (rs : List (Nat × RD × AV)) : List (Nat × RD × AV) := rs.filter fun x => !waits n m i x.1
def WRegDO (P : Program) (T : TT) (S : Sums) (E : FE) (t : TM) {ops : Array Oper} (M : MO ops) (i : Nat) (l : List Nat) (rs : List (Nat × RD × AV)) (k : List AI) (h : AH) (K : KK) : Option Oper → Prop
  | some o => match kindOf T o with
    | .acts => hold T h rs = true ∧ WRegD P T S E t M i l (dropR ops.size M.m i rs) k h K o (wantedA ops t o)
    | _ => WRegD P T S E t M i l rs k h K o (wantedA ops t o)
  | none => False
theorem WD_called {o : Oper} {it : AI} {k0 : List AI} {h1 : AH} {tk : Task} (e : ∀ rec : Rec, xBody P T rec (E.fr t k) h = xCalledD rec (E.fr t k) o it k0 (rec tk h1))
    (hw : W P T S tk h1 fun x h2 => ∃ v cm, x = .ended (.ret v) cm ∧ WB P T S E (setTmp t o.dst v) (it :: k0) h2 K) : WB P T S E t k h K := by
  obtain ⟨n, x, h2, h3, v, cm, rfl, m, x2, h4, h5, h6⟩ := hw
  refine ⟨max n m + 1, x2, h4, ?_, h6⟩
  show xBody P T (ex P T S (max n m)) (E.fr t k) h = _
  rw [e, ex_mono (Nat.le_max_left n m) _ _ _ h3]
  exact ex_mono (Nat.le_max_right n m) _ _ _ h5
theorem WD_op {ops : Array Oper} {M : MO ops} {i : Nat} {l : List Nat} {rs rs0 : List (Nat × RD × AV)} {o : Oper} (e : ∀ rec : Rec, xBody P T rec (E.fr t (.regD ops (i :: l) rs0 :: k)) h = xRegD1 P T rec (E.fr t (.regD ops (i :: l) rs0 :: k)) ops i o l rs k h)
    (hw : WRegD P T S E t M i l rs k h K o (wantedA ops t o)) : WB P T S E t (.regD ops (i :: l) rs0 :: k) h K := by
  cases hg : wantedA ops t o with
  | none => rw [hg] at hw; exact hw.elim
  | some b =>
    rw [hg] at hw
    cases b with
    | false =>
      rw [WB_eq (t' := setTmp t o.dst aundef) (k' := .regD ops l rs :: k) (h' := h) fun rec => by rw [e]; simp [xRegD1, FE.fr, hg]; rfl]
      exact hw
    | true =>
      have e1 : ∀ rec : Rec, xBody P T rec (E.fr t (.regD ops (i :: l) rs0 :: k)) h = xOpD P T rec (E.fr t (.regD ops (i :: l) rs0 :: k)) ops i o l rs k (aop P T o t h) := fun rec => by rw [e]; simp [xRegD1, FE.fr, hg]
      have hw : WOpD P T S E t M i o l rs k K (kindOf T o) (aop P T o t h) := hw
      unfold WOpD at hw
      split at hw
      · rename_i v h1 hk ha
        rw [WB_eq (t' := setTmp t o.dst v) (k' := .regD ops l rs :: k) (h' := h1) fun rec => by rw [e1, ha]; simp only [xOpD, hk]; rfl]
        exact hw
      · rename_i g a h1 hk ha
        refine WD_called (o := o) (it := .regD ops l rs) (k0 := k) (h1 := h1) (tk := .call g a none) (fun rec => ?_) hw
        rw [e1, ha]
        simp only [xOpD, hk]
      · rename_i v h1 hk ha
        split at hw
        · rename_i rd hrd
          rw [WB_eq (t' := setTmp t o.dst v) (k' := .regD ops l ((i, rd, v) :: rs) :: k) (h' := h1) fun rec => by
            rw [e1, ha]
            simp only [xOpD, hk]
            show (match rdOf o t with | some rd => _ | none => _) = _
            rw [hrd]; rfl]
          exact hw
        · rename_i hrd
          rw [WB_eq (t' := setTmp t o.dst v) (k' := .regD ops l rs :: k) (h' := h1) fun rec => by
            rw [e1, ha]
            simp only [xOpD, hk]
            show (match rdOf o t with | some rd => _ | none => (bif (litOp P o t).isSome then _ else _)) = _
            rw [hrd]
            simp only [hw.1, cond_true]
            rfl]
          exact hw.2
      · rename_i v h1 hk ha
        rw [WB_eq (t' := setTmp t o.dst v) (k' := .regD ops l rs :: k) (h' := h1) fun rec => by rw [e1, ha]; simp only [xOpD, hk]; rfl]
        exact hw
      · rename_i v h1 hk ha
        rw [WB_eq (t' := setTmp t o.dst v) (k' := .regD ops l rs :: k) (h' := h1) fun rec => by rw [e1, ha]; simp only [xOpD, hk]; rfl]
        exact hw
      · exact hw.elim
theorem WDM_cons {ops : Array Oper} {M : MO ops} {i : Nat} {l : List Nat} {rs : List (Nat × RD × AV)} (hw : WRegDO P T S E t M i l rs k h K (ops[i]?)) : WDM P T S E t M (i :: l) rs k h K := by
  unfold WDM
  cases ho : ops[i]? with
  | none => rw [ho] at hw; exact hw.elim
  | some o =>
    rw [ho] at hw
    have hw : (match kindOf T o with
      | .acts => hold T h rs = true ∧ WRegD P T S E t M i l (dropR ops.size M.m i rs) k h K o (wantedA ops t o)
      | _ => WRegD P T S E t M i l rs k h K o (wantedA ops t o)) := hw
    have hact : isAct T ops i = (match kindOf T o with | .acts => true | _ => false) := by simp only [isAct, ho]; rfl
    split at hw
    · rename_i hk
      refine WD_op (M := M) (rs := dropR ops.size M.m i rs) (o := o) (fun rec => ?_) hw.2
      rw [hk] at hact
      simp only [xBody, FE.fr, xItem, xRegD, ho, hact, hw.1, if_true]
      rw [M.ok]
      rfl
    · rename_i hk
      refine WD_op (M := M) (rs := rs) (o := o) (fun rec => ?_) hw
      have : isAct T ops i = false := by
        rw [hact]
        split
        · rename_i h2; exact absurd h2 hk
        · rfl
      simp [xBody, FE.fr, xItem, xRegD, ho, this]
/-- What was deferred is taken up, and the results are told. -/
theorem unwind_coll {f : FuncId} {fn : Func} (hf : P.funcs[f]? = some fn) {ok : Prop} {ds ds0 : List ADI} {h1 h2 : AH} (c : Coll ok ds ds0 h1 h2) (h0 : ds0 = []) {t' : TM} {k' : List AI} {l : List AV} (hl : resultsA T h2 t' fn.results.toList = some l) :
    ∃ n, ex P T S n (.unwind (FE.fr { fn := f, defers := ds } t' k') .ret) h1 = some (.ended (.ret (oneOf l)) none, h2) := by
  induction c with
  | refl ds h =>
    subst h0
    refine ⟨1, ?_⟩
    show xUnwind P T (ex P T S 0) (FE.fr { fn := f } t' k') .ret _ = _
    simp only [xUnwind, FE.fr, xResults, hf, hl, Option.map_some]
  | @cons b ds ds0 h h' h1 h2 c ih =>
    obtain ⟨n, hn⟩ := ih h0 hl
    refine ⟨n + 1, ?_⟩
    rw [← hn]
    show xUnwind P T (ex P T S n) (FE.fr { fn := f, defers := .coll b :: ds } t' k') .ret h = _
    simp only [xUnwind, FE.fr, h2]
/-- A function is called. -/
theorem WC_fn {f : FuncId} {args : List AV} {fn : Func} {c : Code} {Q : AV → AH → Prop} (hf : P.funcs[f]? = some fn) (hb : fn.body = some c) (hS : S f = none)
    (hw : WB P T S { fn := f } (TM.ofL args (fn.ntmps - args.length)) [.code c] h fun j t h1 => (j = none ∨ j = some .ret) ∧ ∃ l, resultsA T h1 t fn.results.toList = some l ∧ Q (oneOf l) h1) : WC P T S f args h Q := by
  obtain ⟨n, o, h1, h2, j, t', k', ds, h'', rfl, hcl, hj, l, hl, hq⟩ := hw
  obtain ⟨m, hm⟩ := unwind_coll (S := S) hf hcl rfl (k' := k') hl
  refine ⟨max n m + 1, .ended (.ret (oneOf l)) none, h'', ?_, oneOf l, none, rfl, hq⟩
  show xCall P S (ex P T S (max n m)) f args none h = _
  unfold xCall
  rw [hf]
  simp only [hb, hS]
  have e1 : ex P T S (max n m) (.body { fn := f, tmps := TM.ofL args (fn.ntmps - args.length), todo := [.code c], defers := [], cm := none, roundOf := none }) h = some (.left j (FE.fr { fn := f, defers := ds } t' k'), h1) := ex_mono (Nat.le_max_left n m) _ _ _ h2
  rw [e1]
  have e2 := ex_mono (Nat.le_max_right n m) _ _ _ hm
  rcases hj with rfl | rfl
  · exact e2
  · exact e2
theorem WB_ind {ι : Type} (Inv : ι → TM → AH → Prop) (ms : ι → Nat) {c : Code}
    (body : ∀ i t h, Inv i t h → (∀ j t' h', Inv j t' h' → ms j < ms i → WB P T S E t' (.lp c :: k) h' K) → WB P T S E t (.code c :: .lp c :: k) h K) :
    ∀ i t h, Inv i t h → WB P T S E t (.lp c :: k) h K := by
  have key : ∀ n i t h, ms i = n → Inv i t h → WB P T S E t (.lp c :: k) h K := fun n => by
    induction n using Nat.strongRecOn with
    | _ n ih =>
      intro i t h hn hi
      rw [WB_lp]
      exact body i t h hi fun j t' h' hj hlt => ih (ms j) (by omega) j t' h' rfl hj
  exact fun i t h hi => key _ i t h rfl hi
end
end Go.Proofs.YtkgbeihcepociaaDoor.Ex
end

section

set_option linter.unusedSimpArgs false
set_option linter.unusedVariables false
namespace Go.Proofs.YtkgbeihcepociaaDoor.Ex
open Go
section
variable {P : Program} {T : TT} {S : Sums} {t : TM} {h : AH} {d : Option Tmp} {ty : TypeId} {ps : String} {af : Array Edge} {g : Option (Nat × Bool)}
/-! What the rules ask of a type. -/
def bytesT (T : TT) (t : TypeId) : Option Nat := (T t).map (·.bytes)
/-- A field's place, its size, and whether it has parts. -/
def fieldOff (T : TT) (t : TypeId) (i : Nat) : Option (Nat × Nat × Bool) := match und T t with
  | some (.struct fs) => match fs[i]? with
    | some f => match sizeT T f.type, isAggT T f.type with
      | some z, some a => some (f.offset, z, a)
      | _, _ => none
    | none => none
  | _ => none
/-! Temporaries. -/
def TM.get (t : TM) (i : Nat) : AV := (t.at i).getD aundef
theorem get_set_same {i : Nat} {v : AV} (hi : i < t.n) : (t.set i v).get i = v := by
  unfold TM.get
  rw [← TL_at, TL_set, List.getElem?_set_self (by rw [TL_n]; exact hi)]
  rfl
theorem get_set_ne {i j : Nat} {v : AV} (hi : i ≠ j) : (t.set i v).get j = t.get j := by
  unfold TM.get
  rw [← TL_at, TL_set, List.getElem?_set_ne hi, TL_at]
theorem n_set {i : Nat} {v : AV} : (t.set i v).n = t.n := Tn_set t i v
theorem n_ofL {l : List AV} {m : Nat} : (TM.ofL l m).n = l.length + m := by rw [← TL_n, ofL_L]; simp
theorem ev_tmp {i : Nat} : evalA t (.tmp i) = some (t.get i) := rfl
theorem ev_int {k : IntKind} {n : Int} : evalA t (.const (.int k n)) = some (.lit (.int k n)) := rfl
theorem ev_bool {b : Bool} : evalA t (.const (.bool b)) = some (.lit (.bool b)) := rfl
theorem ev_str {s : ByteArray} : evalA t (.const (.string s)) = some (.lit (.string s)) := rfl
theorem ev_nilp : evalA t (.const (.pointer none)) = some (.lit (.pointer none)) := rfl
theorem ev_nils : evalA t (.const (.slice none 0 0)) = some (.lit (.slice none 0 0)) := rfl
theorem ev_nilm : evalA t (.const (.map none)) = some (.lit (.map none)) := rfl
theorem ev_nilf : evalA t (.const .nilFunc) = some (.lit .nilFunc) := rfl
theorem ev_nili : evalA t (.const .nilIface) = some (.lit .nilIface) := rfl
theorem ev_func {f : FuncId} : evalA t (.func f) = some (.fn (.func f) [] []) := rfl
theorem setTmp_some {i : Nat} {v : AV} : setTmp t (some i) v = t.set i v := rfl
theorem setTmp_none {v : AV} : setTmp t none v = t := rfl
/-! Operations. -/
theorem a_move {x : Operand} : aop P T ⟨d, .move x, ty, ps, af, g⟩ t h = val h (evalA t x) := rfl
theorem a_assign {x : Operand} : aop P T ⟨d, .assign x, ty, ps, af, g⟩ t h = val h (evalA t x) := rfl
theorem a_load {e : TypeId} {x : Operand} : aop P T ⟨d, .load e x, ty, ps, af, g⟩ t h = aLoad T t h e x := rfl
theorem a_store {e : TypeId} {x y : Operand} : aop P T ⟨d, .store e x y, ty, ps, af, g⟩ t h = aStore T t h e x y := rfl
theorem a_alloc {e : TypeId} : aop P T ⟨d, .alloc e, ty, ps, af, g⟩ t h = aAlloc T h e := rfl
theorem a_box {e : TypeId} {x : Operand} : aop P T ⟨d, .box e x, ty, ps, af, g⟩ t h = aBox t h e x := rfl
theorem a_build {e : TypeId} {p : Array (Nat × Operand)} : aop P T ⟨d, .build e p, ty, ps, af, g⟩ t h = aBuild T t h e p := rfl
theorem a_fieldAddr {e : TypeId} {x : Operand} {i : Nat} : aop P T ⟨d, .fieldAddr e x i, ty, ps, af, g⟩ t h = aFieldAddr T t h e x i := rfl
theorem a_field {e : TypeId} {x : Operand} {i : Nat} : aop P T ⟨d, .field e x i, ty, ps, af, g⟩ t h = aField T t h e x i := rfl
theorem a_indexAddr {e : TypeId} {x y : Operand} : aop P T ⟨d, .indexAddr e x y, ty, ps, af, g⟩ t h = aIndexAddr T t h e x y := rfl
theorem a_bin {op : BinOp} {e f : TypeId} {x y : Operand} : aop P T ⟨d, .binOp op e x y f, ty, ps, af, g⟩ t h = aBin P T ⟨d, .binOp op e x y f, ty, ps, af, g⟩ t h op e x y := rfl
theorem a_un {op : UnOp} {e : TypeId} {x : Operand} : aop P T ⟨d, .unOp op e x, ty, ps, af, g⟩ t h = aUn P t h op x := rfl
theorem a_call {c : Call} : aop P T ⟨d, .call c, ty, ps, af, g⟩ t h = aCall P T ⟨d, .call c, ty, ps, af, g⟩ t h c := rfl
theorem a_pick {c x y : Operand} : aop P T ⟨d, .pick c x y, ty, ps, af, g⟩ t h = aPick t h c x y := rfl
theorem val_ok {v : AV} : val h (some v) = some (.val v, h) := rfl
theorem bin_ints {o : Oper} {op : BinOp} {e : TypeId} {x y : Operand} {k k' : IntKind} {a b : Int} (hx : evalA t x = some (.lit (.int k a))) (hy : evalA t y = some (.lit (.int k' b))) :
    aBin P T o t h op e x y = ofPV h (pur P (binOp op e (.int k a) (.int k' b))) := by
  unfold aBin
  rw [hx, hy]
variable {k : IntKind} {a b : Int} {e : TypeId}
theorem pb_lss : pur P (binOp .lss e (.int k a) (.int k b)) = some (.ok (.bool (decide (a < b)))) := by simp [binOp, Op.intCmp]; rfl
theorem pb_leq : pur P (binOp .leq e (.int k a) (.int k b)) = some (.ok (.bool (decide (a ≤ b)))) := by simp [binOp, Op.intCmp]; rfl
theorem pb_gtr : pur P (binOp .gtr e (.int k a) (.int k b)) = some (.ok (.bool (decide (b < a)))) := by simp [binOp, Op.intCmp]; rfl
theorem pb_geq : pur P (binOp .geq e (.int k a) (.int k b)) = some (.ok (.bool (decide (b ≤ a)))) := by simp [binOp, Op.intCmp]; rfl
theorem pb_eql : pur P (binOp .eql e (.int k a) (.int k b)) = some (.ok (.bool (a == b))) := by simp [binOp, Op.intCmp]; rfl
theorem pb_neq : pur P (binOp .neq e (.int k a) (.int k b)) = some (.ok (.bool (a != b))) := by simp [binOp, Op.intCmp]; rfl
theorem pb_add : pur P (binOp .add e (.int k a) (.int k b)) = some (.ok (.int k (k.wrap (a + b)))) := by simp [binOp, Op.intArith]; rfl
theorem pb_sub : pur P (binOp .sub e (.int k a) (.int k b)) = some (.ok (.int k (k.wrap (a - b)))) := by simp [binOp, Op.intArith]; rfl
theorem pb_mul : pur P (binOp .mul e (.int k a) (.int k b)) = some (.ok (.int k (k.wrap (a * b)))) := by simp [binOp, Op.intArith]; rfl
theorem ofPV_int {n : Int} : ofPV h (some (.ok (.int k n))) = some (.val (.lit (.int k n)), h) := rfl
theorem ofPV_bool {x : Bool} : ofPV h (some (.ok (.bool x))) = some (.val (.lit (.bool x)), h) := rfl
theorem WOp_val {E : FE} {o : Oper} {l : List AI} {K : KK} {v : AV} {h1 : AH} : WOp P T S E t o l K (some (.val v, h1)) = WB P T S E (setTmp t o.dst v) l h1 K := rfl
/-- What stands behind a call. -/
def KC (P : Program) (T : TT) (S : Sums) (E : FE) (t : TM) (d : Option Tmp) (l : List AI) (K : KK) : AV → AH → Prop := fun v h2 => WB P T S E (setTmp t d v) l h2 K
theorem KC_eq {E : FE} {l : List AI} {K : KK} {v : AV} {h2 : AH} : KC P T S E t d l K v h2 = WB P T S E (setTmp t d v) l h2 K := rfl
theorem WOp_enter {E : FE} {o : Oper} {l : List AI} {K : KK} {f : FuncId} {xs : List AV} {h1 : AH} : WOp P T S E t o l K (some (.enter f xs, h1)) = WC P T S f xs h1 (KC P T S E t o.dst l K) := rfl
theorem get_ofL' {l : List AV} {m i : Nat} : (TM.ofL l m).get i = l.getD i aundef := by
  unfold TM.get
  rw [← TL_at, ofL_L]
  by_cases hi : i < l.length
  · rw [List.getElem?_append_left hi, List.getD_eq_getElem?_getD]
  · rw [List.getElem?_append_right (by omega), List.getElem?_replicate, List.getD_eq_getElem?_getD, List.getElem?_eq_none (by omega)]
    split <;> rfl
theorem natA_int {k : IntKind} {n : Int} : natA (.lit (.int k n)) = if 0 ≤ n then some n.toNat else none := rfl
theorem rng0 (n : Nat) : List.range n = List.range' 0 n := List.range_eq_range'
theorem WIf_some {A B : Prop} {b : Bool} : WIf A B (some (.lit (.bool b))) = ((b = true → A) ∧ (b = false → B)) := rfl
theorem exA_blk {id id' : Nat} {k : List AI} : exitA id (.blk id' :: k) = if id' = id then some k else exitA id k := rfl
theorem exA_code {id : Nat} {c : Code} {k : List AI} : exitA id (.code c :: k) = exitA id k := rfl
theorem exA_lp {id : Nat} {c : Code} {k : List AI} : exitA id (.lp c :: k) = exitA id k := rfl
theorem exA_sc {id : Nat} {c : Code} {k : List AI} : exitA id (.sc c :: k) = exitA id k := rfl
theorem WExit_some {E : FE} {id : Nat} {K : KK} {k : List AI} : WExit P T S E t id h K (some k) = WB P T S E t k h K := rfl
/-- The same, of operands that are not known yet. -/
def aBinR (P : Program) (T : TT) (o : Oper) (t : TM) (h : AH) (op : BinOp) (e : TypeId) (x y : Operand) : AR := aBin P T o t h op e x y
theorem res_nil : resultsA T h t [] = some [] := rfl
theorem res_tmp {i : Nat} {r : List ResultVar} : resultsA T h t (.tmp i :: r) = (resultsA T h t r).map (t.get i :: ·) := rfl
theorem a_extract {x : Operand} {i : Nat} : aop P T ⟨d, .extract x i, ty, ps, af, g⟩ t h = aExtract t h x i := rfl
theorem ats_same {i : Nat} {v : AV} (hi : i < t.n) : (t.set i v).at i = some v := by rw [← TL_at, TL_set, List.getElem?_set_self (by rw [TL_n]; exact hi)]
theorem ats_ne {i j : Nat} {v : AV} (hi : i ≠ j) : (t.set i v).at j = t.at j := by rw [← TL_at, TL_set, List.getElem?_set_ne hi, TL_at]
theorem b_tt : (true == true) = true := rfl
theorem b_ft : (false == true) = false := rfl
theorem b_tf : (true == false) = false := rfl
theorem b_ff : (false == false) = true := rfl
/-! Values of one cell. -/
theorem one_lit {v : Value} : (AV.lit v).one = true := rfl
theorem one_ptr {b off : Nat} : (AV.ptr b off).one = true := rfl
theorem one_sl {b off n : Nat} {c : Cap} : (AV.sl b off n c).one = true := rfl
theorem one_mp {b : Nat} : (AV.mp b).one = true := rfl
theorem one_fn {f : Fn} {a b : List AV} : (AV.fn f a b).one = true := rfl
theorem one_ifc {t : TypeId} {a : AV} : (AV.ifc t a).one = true := rfl
theorem one_any : AV.any.one = true := rfl
theorem cells_lit {v : Value} : (AV.lit v).cells = [.lit v] := rfl
theorem cells_sl {b off n : Nat} {c : Cap} : (AV.sl b off n c).cells = [.sl b off n c] := rfl
theorem cells_ptr {b off : Nat} : (AV.ptr b off).cells = [.ptr b off] := rfl
theorem cells_agg {l : List AV} : (AV.agg l).cells = l := rfl
theorem cells_one {v : AV} (hv : v.one = true) : v.cells = [v] := by cases v <;> first | rfl | cases hv
/-! Blocks. -/
/-- (Not by rfl: a rule by rfl cannot serve in a side condition.) -/
theorem n_push2 (x : AB) : (h.push x).n = h.n + 1 := by rw [n_push]
theorem at_new {b : Nat} {x : AB} (hb : b = h.n) : (h.push x).at b = some x := by subst hb; exact at_push_n h x
theorem at_old {b : Nat} {x : AB} (hb : b < h.n) : (h.push x).at b = h.at b := at_push_lt x hb
theorem at_put {b : Nat} {x : AB} (hb : b < h.n) : (h.put b x).at b = some x := at_put_same x hb
theorem at_else {b c : Nat} {x : AB} (hb : c ≠ b) : (h.put c x).at b = h.at b := at_put_ne x hb
def ldL (T : TT) (t : TypeId) (l : List AV) (off : Nat) : Option AV := match isAggT T t, sizeT T t with
  | some true, some n => (cut l off n).map .agg
  | some false, some _ => l[off]?
  | _, _ => none
theorem ld_own {b off : Nat} {l : List AV} {e' : TypeId} (hb : h.at b = some (.cells l e')) : loadA T h e b off = ldL T e l off := by
  simp only [loadA, getR, hb, ldL]
  cases isAggT T e with
  | none => rfl
  | some a => cases a <;> cases sizeT T e <;> rfl
theorem ld_new {b off : Nat} {l : List AV} {e' : TypeId} (hb : b = h.n) : loadA T (h.push (.cells l e')) e b off = ldL T e l off := ld_own (at_new hb)
theorem ld_old {b off : Nat} {x : AB} (hb : b < h.n) : loadA T (h.push x) e b off = loadA T h e b off := by simp only [loadA, getR, at_old hb]
theorem ld_put {b off : Nat} {l : List AV} {e' : TypeId} (hb : b < h.n) : loadA T (h.put b (.cells l e')) e b off = ldL T e l off := ld_own (at_put hb)
theorem ld_else {b c off : Nat} {x : AB} (hb : c ≠ b) : loadA T (h.put c x) e b off = loadA T h e b off := by simp only [loadA, getR, at_else hb]
def stL (T : TT) (h : AH) (t : TypeId) (b off : Nat) (v : AV) : Option AB → Option AH
  | some (.cells l e) => match sizeT T t with
    | some n => if v.cells.length = n && v.cells.all AV.one then (put l off v.cells).map fun l' => h.put b (.cells l' e) else none
    | none => none
  | _ => none
theorem st_eq {b off : Nat} {v : AV} : storeA T h e b off v = stL T h e b off v (h.at b) := by
  unfold storeA stL getB
  cases h.at b with
  | none => rfl
  | some ab => cases ab <;> first | rfl | (cases sizeT T e <;> rfl)
/-- A slice held against nil. -/
def aBinS (P : Program) (T : TT) (o : Oper) (t : TM) (h : AH) (op : BinOp) (e : TypeId) (x y : Operand) : AR := aBin P T o t h op e x y
def slNil (h : AH) (b : Bool) (r : AR) : Option TypeDesc → AV → AR
  | some (.slice _), .sl _ _ _ _ => some (.val (.lit (.bool b)), h)
  | _, _ => r
theorem binR_nil_eql {f : TypeId} {i : Nat} :
    aBinR P T ⟨d, .binOp .eql e (.tmp i) (.const (.slice none 0 0)) f, ty, ps, af, g⟩ t h .eql e (.tmp i) (.const (.slice none 0 0)) =
      slNil h false (aBinS P T ⟨d, .binOp .eql e (.tmp i) (.const (.slice none 0 0)) f, ty, ps, af, g⟩ t h .eql e (.tmp i) (.const (.slice none 0 0))) (und T e) (t.get i) := by
  unfold slNil
  split
  · rename_i e' b off len cap hu hv
    unfold aBinR aBin
    rw [show evalA t (.tmp i) = some (.sl b off len cap) by rw [ev_tmp, hv], ev_nils]
    simp only [orLit, litOp, notSelect, Op.operands, litAll, ev_tmp, hv, toVal, Option.isSome_none, Bool.false_and, Bool.and_false, Bool.true_and, aSame, hu, ev_nils, sameA]
    rfl
  · rfl
theorem binR_nil_neq {f : TypeId} {i : Nat} :
    aBinR P T ⟨d, .binOp .neq e (.tmp i) (.const (.slice none 0 0)) f, ty, ps, af, g⟩ t h .neq e (.tmp i) (.const (.slice none 0 0)) =
      slNil h true (aBinS P T ⟨d, .binOp .neq e (.tmp i) (.const (.slice none 0 0)) f, ty, ps, af, g⟩ t h .neq e (.tmp i) (.const (.slice none 0 0))) (und T e) (t.get i) := by
  unfold slNil
  split
  · rename_i e' b off len cap hu hv
    unfold aBinR aBin
    rw [show evalA t (.tmp i) = some (.sl b off len cap) by rw [ev_tmp, hv], ev_nils]
    simp only [orLit, litOp, notSelect, Op.operands, litAll, ev_tmp, hv, toVal, Option.isSome_none, Bool.false_and, Bool.and_false, Bool.true_and, aSame, hu, ev_nils, sameA]
    rfl
  · rfl
theorem a_buildSlice {n : Nat} {p : Array (Nat × Operand)} : aop P T ⟨d, .buildSlice e n p, ty, ps, af, g⟩ t h = aBuildSlice T t h e n p := rfl
def bsM (T : TT) (h : AH) (n : Nat) (ps : Option (List (Nat × AV))) : Option TypeDesc → AR
  | some (.slice e) => match zeroT T e, sizeT T e, ps with
    | some zv, some z, some ps => if zv.cells.length = z && n ≤ 65536 && n * z ≤ 65536 then (fillA (fun k => some (k * z, z)) (rep zv.cells n) ps).map fun l => (.val (.sl h.n 0 n (.kn n)), h.push (.cells l e)) else none
    | _, _, _ => none
  | _ => none
theorem bs_eq {n : Nat} {p : Array (Nat × Operand)} : aBuildSlice T t h e n p = bsM T h n (evalParts t p.toList) (und T e) := by
  unfold aBuildSlice bsM
  cases hu : und T e with
  | none => simp
  | some dd =>
    cases dd <;> try (simp; done)
    rename_i e'
    cases hp : evalParts t p.toList with
    | none =>
      simp only
      cases zeroT T e' <;> cases sizeT T e' <;> rfl
    | some l =>
      simp only [zeroT, sizeT]
      cases T e' with
      | none => rfl
      | some i => rfl
def faM (h : AH) : Option (Nat × Nat × Bool) → Option AV → AR
  | some (o, _ + 1, _), some (.ptr b off) => some (.val (.ptr b (off + o)), h)
  | _, _ => none
theorem fa_eq {x : Operand} {i : Nat} : aFieldAddr T t h e x i = faM h (fieldOff T e i) (evalA t x) := by
  unfold aFieldAddr fieldOff faM
  cases hu : und T e with
  | none => simp
  | some dd =>
    cases dd <;> try (simp; done)
    rename_i fs
    cases hx : evalA t x with
    | none => simp
    | some v =>
      cases v <;> try (simp; done)
      simp only
      cases hf : fs[i]? with
      | none => simp
      | some f =>
        simp only [sizeT, isAggT]
        cases hT : T f.type with
        | none => simp
        | some ti =>
          simp only [Option.map_some]
          cases ti.size <;> rfl
def fdM (h : AH) : Option (Nat × Nat × Bool) → Option AV → AR
  | some (o, z, true), some (.agg l) => val h ((cut l o z).map .agg)
  | some (o, _, false), some (.agg l) => val h l[o]?
  | _, _ => none
theorem fd_eq {x : Operand} {i : Nat} : aField T t h e x i = fdM h (fieldOff T e i) (evalA t x) := by
  unfold aField fieldOff fdM
  cases hu : und T e with
  | none => simp
  | some dd =>
    cases dd <;> try (simp; done)
    rename_i fs
    cases hx : evalA t x with
    | none => simp
    | some v =>
      cases v <;> try (simp; done)
      simp only
      cases hf : fs[i]? with
      | none => simp
      | some f =>
        simp only [sizeT, isAggT, partA]
        cases hT : T f.type with
        | none => simp [val]
        | some ti =>
          simp only [Option.map_some]
          cases isAggD ti.desc <;> rfl
end
end Go.Proofs.YtkgbeihcepociaaDoor.Ex
end

section

set_option linter.unusedSimpArgs false
set_option linter.unusedVariables false
namespace Go.Proofs.YtkgbeihcepociaaDoor.Ex
open Go
/-- The heap has grown, and below n0 it is as it was. -/
def Ext (n0 : Nat) (h h' : AH) : Prop := h.n ≤ h'.n ∧ ∀ b, b < n0 → h'.at b = h.at b
theorem Ext.refl (n0 : Nat) (h : AH) : Ext n0 h h := ⟨Nat.le_refl _, fun _ _ => rfl⟩
theorem Ext.trans {n0 : Nat} {a b c : AH} (h : Ext n0 a b) (k : Ext n0 b c) : Ext n0 a c := ⟨Nat.le_trans h.1 k.1, fun x hx => (k.2 x hx).trans (h.2 x hx)⟩
theorem Ext.mono {n0 n1 : Nat} {a b : AH} (h : Ext n1 a b) (hn : n0 ≤ n1) : Ext n0 a b := ⟨h.1, fun x hx => h.2 x (by omega)⟩
theorem Ext.push {n0 : Nat} {h h' : AH} (x : AB) (he : Ext n0 h h') (hn : n0 ≤ h'.n) : Ext n0 h (h'.push x) :=
  ⟨by rw [n_push]; have := he.1; omega, fun b hb => (at_push_lt x (by omega)).trans (he.2 b hb)⟩
theorem Ext.put {n0 : Nat} {h h' : AH} {p : Nat} (x : AB) (he : Ext n0 h h') (hn : n0 ≤ p) : Ext n0 h (h'.put p x) :=
  ⟨by rw [n_put]; exact he.1, fun b hb => (at_put_ne x (by omega)).trans (he.2 b hb)⟩
theorem Ext.at {n0 : Nat} {h h' : AH} {b : Nat} {x : AB} (he : Ext n0 h h') (hb : b < n0) (hx : h.at b = some x) : h'.at b = some x := (he.2 b hb).trans hx
/-- A slice of the run's own: nothing yet, or it holds a block from n0 on. -/
def Own (n0 : Nat) (h : AH) (v : AV) (z : Nat) (e : TypeId) (L : List (List AV)) : Prop :=
  (∀ x ∈ L, x.length = z) ∧ ((v = .lit (.slice none 0 0) ∧ L = []) ∨ ∃ p, v = .sl p 0 L.length (.un z) ∧ n0 ≤ p ∧ h.at p = some (.cells L.flatten e))
theorem flat_len {z : Nat} {L : List (List AV)} (h : ∀ x ∈ L, x.length = z) : L.flatten.length = L.length * z := by
  induction L with
  | nil => simp
  | cons a r ih =>
    rw [List.flatten_cons, List.length_append, ih (fun x hx => h x (by simp [hx])), h a (by simp), List.length_cons, Nat.succ_mul]
    omega
/-- What of a heap an own slice does not touch. -/
def Apart (v : AV) (b : Nat) : Prop := ∀ off len cap, v ≠ .sl b off len cap
theorem append_own {T : TT} {h : AH} {t tx e : TypeId} {n0 z by' : Nat} {zv s x : AV} {L M : List (List AV)} (hu : und T t = some (.slice e)) (htx : und T tx = some (.slice e)) (hz : sizeT T e = some z) (hzv : zeroT T e = some zv) (hb : bytesT T e = some by')
    (hzl : zv.cells.length = z) (h0 : 0 < z) (h200 : z ≤ 200) (ho : Own n0 h s z e L) (hx : srcA h z x = some M.flatten) (hxl : lenA x = some M.length) (hM : ∀ c ∈ M, c.length = z) (h1 : M.flatten.all AV.one = true) (hn : L.length + M.length ≤ 4611686018427387904) (hby : (L.length + M.length) * by' ≤ 140737488355328) (hn0 : n0 ≤ h.n) :
    ∃ s' h', appendA T h t tx s x = some (s', h') ∧ Own n0 h' s' z e (L ++ M) ∧ Ext n0 h h' ∧ ∀ b, b < h.n → Apart s b → h'.at b = h.at b ∧ Apart s' b := by
  simp only [sizeT, zeroT, bytesT, Option.map_eq_some_iff] at hz hzv hb
  obtain ⟨i, hi, rfl⟩ := hz
  obtain ⟨i2, hi2, rfl⟩ := hzv
  obtain ⟨i3, hi3, rfl⟩ := hb
  rw [hi] at hi2 hi3
  obtain rfl := Option.some.inj hi2
  obtain rfl := Option.some.inj hi3
  have hml := flat_len hM
  have hlm : ∀ c ∈ L ++ M, c.length = i.size := fun c hc => (List.mem_append.1 hc).elim (ho.1 c) (hM c)
  have hs : lenA s = some L.length := by
    rcases ho.2 with ⟨rfl, rfl⟩ | ⟨p, rfl, _⟩ <;> rfl
  have hA : appendA T h t tx s x = appendB h e i.size M.length M.flatten s := by
    unfold appendA
    rw [hu, htx]
    simp only [hi, hxl, hs]
    rw [show (isSrcD i.size (.slice e) && Nat.blt 0 i.size && Nat.ble i.size 200 && Nat.beq i.zero.cells.length i.size && Nat.ble (L.length + M.length) 4611686018427387904 && Nat.ble ((L.length + M.length) * i.bytes) 140737488355328) = true by
      simp only [Bool.and_eq_true, Nat.ble_eq, Nat.blt_eq]
      exact ⟨⟨⟨⟨⟨rfl, h0⟩, h200⟩, by rw [hzl]; exact Nat.beq_refl _⟩, hn⟩, hby⟩]
    simp only [cond_true, hx]
    rw [show (Nat.beq M.flatten.length (M.length * i.size) && M.flatten.all AV.one) = true by
      rw [hml, h1, Nat.beq_refl]; rfl]
    rfl
  rw [hA]
  rcases ho.2 with ⟨rfl, rfl⟩ | ⟨p, rfl, hp, hat⟩
  · unfold appendB
    cases hm : Nat.beq M.length 0 with
    | true =>
      have : M = [] := List.eq_nil_of_length_eq_zero (Nat.eq_of_beq_eq_true hm)
      subst this
      exact ⟨_, _, rfl, ⟨hlm, .inl ⟨rfl, rfl⟩⟩, Ext.refl _ _, fun _ _ ha => ⟨rfl, ha⟩⟩
    | false =>
      refine ⟨_, _, rfl, ⟨hlm, .inr ⟨h.n, by simp, hn0, ?_⟩⟩, (Ext.refl _ _).push _ hn0, fun b hb _ => ⟨at_push_lt _ hb, fun off len cap e => by cases e; omega⟩⟩
      rw [at_push_n]
      simp
  · have hlt := at_lt hat
    unfold appendB
    cases hm : Nat.beq M.length 0 with
    | true =>
      have : M = [] := List.eq_nil_of_length_eq_zero (Nat.eq_of_beq_eq_true hm)
      subst this
      exact ⟨_, _, rfl, ⟨hlm, .inr ⟨p, by simp, hp, by simpa using hat⟩⟩, Ext.refl _ _, fun _ _ ha => ⟨rfl, ha⟩⟩
    | false =>
      have hg : getB h p = some (L.flatten, e) := by unfold getB; rw [hat]
      have hc : cut L.flatten 0 (L.length * i.size) = some L.flatten := by
        unfold cut
        rw [if_pos (by rw [Nat.zero_add, flat_len ho.1]; exact Nat.le_refl _), List.drop_zero, ← flat_len ho.1, List.take_length]
      simp only [cond_false, hg, hc, Nat.beq_refl, Bool.and_self, cond_true]
      refine ⟨_, _, rfl, ⟨hlm, .inr ⟨h.n, by simp, hn0, ?_⟩⟩, ((Ext.refl n0 h).put .gone hp).push _ (by rw [n_put]; exact hn0), fun b hb ha => ?_⟩
      · have := at_push_n (h.put p .gone) (.cells (L.flatten ++ M.flatten) e)
        rw [n_put] at this
        rw [this]
        simp
      · refine ⟨?_, fun off len cap e => by cases e; omega⟩
        rw [at_push_lt _ (by rw [n_put]; exact hb), at_put_ne]
        intro hpb
        subst hpb
        exact ha _ _ _ rfl
/-- What is appended to a new, empty slice. -/
theorem append_fresh {T : TT} {h : AH} {t tx e : TypeId} {z by' p : Nat} {zv x : AV} {M : List (List AV)} (hu : und T t = some (.slice e)) (htx : und T tx = some (.slice e)) (hz : sizeT T e = some z) (hzv : zeroT T e = some zv) (hb : bytesT T e = some by')
    (hzl : zv.cells.length = z) (h0 : 0 < z) (h200 : z ≤ 200) (hp : h.at p = some (.cells [] e)) (hx : srcA h z x = some M.flatten) (hxl : lenA x = some M.length) (hM : ∀ c ∈ M, c.length = z) (h1 : M.flatten.all AV.one = true) (hn : M.length ≤ 4611686018427387904) (hby : M.length * by' ≤ 140737488355328) :
    (M = [] ∧ appendA T h t tx (.sl p 0 0 (.kn 0)) x = some (.sl p 0 0 (.kn 0), h)) ∨ (M ≠ [] ∧ appendA T h t tx (.sl p 0 0 (.kn 0)) x = some (.sl h.n 0 M.length (.un z), h.push (.cells M.flatten e))) := by
  simp only [sizeT, zeroT, bytesT, Option.map_eq_some_iff] at hz hzv hb
  obtain ⟨i, hi, rfl⟩ := hz
  obtain ⟨i2, hi2, rfl⟩ := hzv
  obtain ⟨i3, hi3, rfl⟩ := hb
  rw [hi] at hi2 hi3
  obtain rfl := Option.some.inj hi2
  obtain rfl := Option.some.inj hi3
  have hml := flat_len hM
  have hA : appendA T h t tx (.sl p 0 0 (.kn 0)) x = appendB h e i.size M.length M.flatten (.sl p 0 0 (.kn 0)) := by
    unfold appendA
    rw [hu, htx]
    have hl0 : lenA (.sl p 0 0 (.kn 0)) = some 0 := rfl
    simp only [hi, hxl, hl0]
    rw [show (isSrcD i.size (.slice e) && Nat.blt 0 i.size && Nat.ble i.size 200 && Nat.beq i.zero.cells.length i.size && Nat.ble (0 + M.length) 4611686018427387904 && Nat.ble ((0 + M.length) * i.bytes) 140737488355328) = true by
      simp only [Bool.and_eq_true, Nat.ble_eq, Nat.blt_eq]
      exact ⟨⟨⟨⟨⟨rfl, h0⟩, h200⟩, by rw [hzl]; exact Nat.beq_refl _⟩, by omega⟩, by rw [Nat.zero_add]; exact hby⟩]
    simp only [cond_true, hx]
    rw [show (Nat.beq M.flatten.length (M.length * i.size) && M.flatten.all AV.one) = true by
      rw [hml, h1, Nat.beq_refl]; rfl]
    rfl
  rw [hA]
  unfold appendB
  cases hm : Nat.beq M.length 0 with
  | true => exact .inl ⟨List.eq_nil_of_length_eq_zero (Nat.eq_of_beq_eq_true hm), rfl⟩
  | false =>
    have hne : M ≠ [] := fun hh => by subst hh; simp at hm
    have hb : Nat.ble (0 + M.length) 0 = false := by
      rw [Bool.eq_false_iff]
      intro hh
      have := Nat.ble_eq.mp hh
      exact hne (List.eq_nil_of_length_eq_zero (by omega))
    refine .inr ⟨hne, ?_⟩
    have hg : getR h p = some [] := by unfold getR; rw [hp]
    have hc : cut ([] : List AV) 0 (0 * i.size) = some [] := by simp [cut]
    simp only [hb, hg, hc, cond_false]
    simp
end Go.Proofs.YtkgbeihcepociaaDoor.Ex
end

section

set_option linter.unusedSimpArgs false
set_option linter.unusedVariables false
namespace Go.Proofs.YtkgbeihcepociaaDoor.Ex
open Go
/-- A slice that reads as a list of elements (their cells). -/
def Rd (h : AH) (v : AV) (z : Nat) (L : List (List AV)) : Prop :=
  (∀ x ∈ L, x.length = z) ∧ ((v = .lit (.slice none 0 0) ∧ L = []) ∨ ∃ b off cap row, v = .sl b off L.length cap ∧ getR h b = some row ∧ cut row off (L.length * z) = some L.flatten)
theorem Rd.len {h : AH} {v : AV} {z : Nat} {L : List (List AV)} (hr : Rd h v z L) : lenA v = some L.length := by
  rcases hr.2 with ⟨rfl, rfl⟩ | ⟨b, off, cap, row, rfl, _⟩ <;> rfl
theorem Rd.src {h : AH} {v : AV} {z : Nat} {L : List (List AV)} (hr : Rd h v z L) : srcA h z v = some L.flatten := by
  rcases hr.2 with ⟨rfl, rfl⟩ | ⟨b, off, cap, row, rfl, h1, h2⟩
  · rfl
  · simp only [srcA, h1]
    exact h2
theorem flat_get {z : Nat} : ∀ {L : List (List AV)}, (∀ x ∈ L, x.length = z) → ∀ (i : Nat) {c : List AV}, L[i]? = some c → (L.flatten.drop (i * z)).take z = c
  | [], _, i, c, hc => by simp at hc
  | a :: r, h, i, c, hc => by
    have ha := h a (by simp)
    cases i with
    | zero =>
      obtain rfl : a = c := by simpa using hc
      rw [Nat.zero_mul, List.drop_zero, List.flatten_cons, ← ha, List.take_left']
      rfl
    | succ i =>
      rw [List.flatten_cons, Nat.succ_mul, Nat.add_comm, List.drop_append, List.drop_of_length_le (by omega), List.nil_append, ha, Nat.add_sub_cancel_left]
      exact flat_get (fun x hx => h x (by simp [hx])) i (by simpa using hc)
/-- An element is loaded. -/
theorem Rd.get {h : AH} {b off len : Nat} {cap : Cap} {z : Nat} {L : List (List AV)} (hr : Rd h (.sl b off len cap) z L) {i : Nat} {c : List AV} (hi : L[i]? = some c) :
    ∃ row, getR h b = some row ∧ (row.drop (off + i * z)).take z = c ∧ off + i * z + z ≤ row.length ∧ c.length = z := by
  rcases hr.2 with ⟨hh, _⟩ | ⟨b2, off2, cap2, row, hh, h1, h2⟩
  · cases hh
  · cases hh
    have hlt := (List.getElem?_eq_some_iff.1 hi).1
    have hcz := hr.1 c (List.mem_of_getElem? hi)
    unfold cut at h2
    split at h2
    case isFalse => cases h2
    rename_i hfit
    have h2 := Option.some.inj h2
    have hz : i * z + z ≤ L.length * z := by rw [← Nat.succ_mul]; exact Nat.mul_le_mul_right _ hlt
    refine ⟨row, h1, ?_, by omega, hcz⟩
    have := flat_get hr.1 i hi
    rw [← h2, List.drop_take, List.take_take, Nat.min_eq_left (by omega), List.drop_drop] at this
    exact this
theorem Rd.ext {n0 : Nat} {h h' : AH} {v : AV} {z : Nat} {L : List (List AV)} (hr : Rd h v z L) (hv : ∀ b off len cap, v = .sl b off len cap → h'.at b = h.at b) : Rd h' v z L := by
  refine ⟨hr.1, ?_⟩
  rcases hr.2 with hh | ⟨b, off, cap, row, hh, h1, h2⟩
  · exact .inl hh
  · refine .inr ⟨b, off, cap, row, hh, ?_, h2⟩
    unfold getR at h1 ⊢
    rw [hv _ _ _ _ hh]
    exact h1
theorem Own.rd {n0 : Nat} {h : AH} {v : AV} {z : Nat} {e : TypeId} {L : List (List AV)} (ho : Own n0 h v z e L) : Rd h v z L := by
  refine ⟨ho.1, ?_⟩
  rcases ho.2 with hh | ⟨p, rfl, hp, hat⟩
  · exact .inl hh
  · refine .inr ⟨p, 0, _, L.flatten, rfl, by unfold getR; rw [hat], ?_⟩
    unfold cut
    rw [if_pos (by rw [Nat.zero_add, flat_len ho.1]; exact Nat.le_refl _), List.drop_zero, ← flat_len ho.1, List.take_length]
end Go.Proofs.YtkgbeihcepociaaDoor.Ex
end
