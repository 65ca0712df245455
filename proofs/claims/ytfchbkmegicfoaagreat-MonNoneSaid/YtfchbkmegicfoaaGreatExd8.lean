/- Regions that draw their order: one operation more, in whatever order. -/
import Derived.Test.YtfchbkmegicfoaaGreatExd7
set_option linter.unusedSimpArgs false
set_option linter.unusedVariables false
namespace Go.Proofs.YtfchbkmegicfoaaGreat.Ex
open Go Go.RowKit

variable {P : Program} {T : TT} {S : Sums} {ρ : Nat → Value} {fl : Nat} {ops : Array Oper}

theorem Tr.oper : ∀ {es : List Ent} {t t' : TM} {h h' : AH} {rs rs' : Reads}, Tr P T ρ fl ops es t h rs t' h' rs' → ∀ e ∈ es, ops[e.i]? = some e.o
  | [], _, _, _, _, _, _, _, e, he => by cases he
  | x :: r, _, _, _, _, _, _, tr, e, he => by
    obtain ⟨_, _, _, h3, h4⟩ := tr
    cases he with
    | head => exact h3.1
    | tail _ hm => exact Tr.oper (es := r) h4 e hm

theorem hold_mem {h : AH} {rs : Reads} (hh : hold T h rs = true) {i : Nat} {rd : RD} {v : AV} (hm : (i, rd, v) ∈ rs) : rdA T h rd = some v := by
  unfold hold at hh
  have := List.all_eq_true.1 hh _ hm
  simp only at this
  split at this
  · rename_i u hu
    rw [hu, same_sound 8 u v this]
  · cases this

section pick
variable {L : List Nat} {es : List Ent} {t0 : TM} {h0 : AH} {tf : TM} {hf : AH} {rsf : Reads} {μ0 : Mu} {w0 : World} {listed : Array Bool} {f : Frame} {w : World} {A B : List Ent} {tA : TM} {HA : AH} {RA : Reads} {μ : Mu}

theorem Inv.hold (iv : Inv P T ρ fl ops es t0 h0 tf hf rsf μ0 w0 listed f w A B tA HA RA μ) (hh : hold T hf rsf = true) : Ex.hold T HA RA = true := by
  cases B with
  | nil =>
    obtain ⟨_, h1, h2⟩ := iv.trB
    rw [← h1, ← h2]
    exact hh
  | cons a B' =>
    obtain ⟨q1, q2, rs1, q3, q4⟩ := iv.trB
    have hk := iv.head a B' rfl
    obtain ⟨_, ⟨_, _, _, hr⟩ | ⟨_, hr⟩⟩ := q3
    · cases hq : kindOf T a.o <;> rw [hq] at hk hr <;> first | cases hk | skip
      rw [← q2]
      exact hr.1
    · cases hq : kindOf T a.o <;> rw [hq] at hk hr <;> first | cases hk | skip
      rw [← q2]
      exact hr.1

/-- What the picked operation sees. -/
theorem sees (ho : Ord T ops L) (hes : es.map (·.i) = L) (tr : Tr P T ρ fl ops es t0 h0 [] tf hf rsf) {e : Ent} {pre post : List Ent} (hsp : es = pre ++ e :: post) (hcl : ClosedX ops listed) (hrd : ReadyX ops listed e.i) :
    (∀ k ∈ namesOf ops e.o, (foldX listed es t0.L)[k]? = e.tmps.at k) ∧ foldX (listed.setIfInBounds e.i true) es t0.L = setTmpL (foldX listed es t0.L) e.o.dst e.v := by
  have hL : L = pre.map (·.i) ++ e.i :: post.map (·.i) := by rw [← hes, hsp]; simp
  have hoper := tr.oper
  have hpre : ∀ x ∈ pre, x.i ≠ e.i := fun x hx hxe => ho.nodup _ _ _ hL (by rw [← hxe]; exact List.mem_map_of_mem hx)
  have hpostL : ∀ x ∈ post, ∃ p q, L = (pre.map (·.i) ++ e.i :: p) ++ x.i :: q := fun x hx => by
    obtain ⟨p, q, rfl⟩ := List.append_of_mem hx
    exact ⟨p.map (·.i), q.map (·.i), by rw [hL]; simp⟩
  have hpost : ∀ x ∈ post, x.i ≠ e.i := fun x hx hxe => by
    obtain ⟨p, q, h⟩ := hpostL x hx
    exact ho.nodup _ _ _ h (by rw [hxe]; simp)
  have heo : ops[e.i]? = some e.o := hoper e (by rw [hsp]; simp)
  have cpre : ∀ k ∈ namesOf ops e.o, ∀ x ∈ pre, x.o.dst = some k → on listed x.i := fun k hk x hx hd => by
    have hxo := hoper x (by rw [hsp]; simp [hx])
    rcases ho.tmps e.i x.i e.o x.o k heo hxo hd hk with h | h | h
    · exact absurd h.symm (hpre x hx)
    · exact hrd.before hcl h
    · exfalso
      obtain ⟨p, q, rfl⟩ := List.append_of_mem hx
      have h2 : L = p.map (·.i) ++ x.i :: (q.map (·.i) ++ e.i :: post.map (·.i)) := by rw [hL]; simp
      have := ho.before h h2
      exact ho.nodup _ _ _ hL (by simp; left; simpa using this)
  have cpost : ∀ k ∈ namesOf ops e.o, ∀ x ∈ post, x.o.dst = some k → ¬ on listed x.i := fun k hk x hx hd hon => by
    have hxo := hoper x (by rw [hsp]; simp [hx])
    rcases ho.tmps e.i x.i e.o x.o k heo hxo hd hk with h | h | h
    · exact hpost x hx h.symm
    · obtain ⟨p, q, h2⟩ := hpostL x hx
      have := ho.before h hL
      exact ho.nodup _ _ _ h2 (by simp only [List.mem_append]; exact .inl this)
    · exact hrd.2.1 (hcl.before h hon)
  have het : e.tmps.L = foldA pre t0.L := by
    have tr2 := tr
    rw [hsp] at tr2
    obtain ⟨tm, hm, rm, q1, q2⟩ := tr2.split
    rw [← q1.tmps, q2.1]
  refine ⟨fun k hk => ?_, ?_⟩
  · rw [hsp, foldX_append, ← TL_at, het]
    simp only [foldX]
    have hn : ¬ listed.getD e.i false = true := hrd.2.1
    rw [if_neg hn, foldX_none post _ (cpost k hk)]
    exact fold_get pre t0.L t0.L rfl rfl (cpre k hk)
  · rw [hsp]
    exact foldX_set hrd.1 hrd.2.1 hpre hpost (fun x hx hon k hk hd => cpost k (by simp [namesOf, hk]) x hx hd hon)

theorem mem_operands {o : Oper} {t : Tmp} (hx : Operand.tmp t ∈ o.op.operands) : t ∈ namesOf ops o := by
  unfold namesOf
  simp only [List.mem_append, List.mem_filterMap]
  exact .inl (.inr ⟨.tmp t, by simpa using hx, rfl⟩)

theorem agree_of {o : Oper} {t1 t2 : TM} (hk : ∀ k ∈ namesOf ops o, t1.at k = t2.at k) : Agree o t1 t2 ∧ wantedA ops t1 o = wantedA ops t2 o := by
  refine ⟨fun x hx => ?_, wantedA_congr fun j want d hg hd => hk d ?_⟩
  · cases x with
    | tmp t =>
      have := hk t (mem_operands hx)
      simp only [evalA, List.getD_eq_getElem?_getD, this]
    | _ => rfl
  · unfold namesOf
    simp only [List.mem_append]
    right
    rw [hg]
    simp [hd]

/-- One operation more. -/
theorem one_pick (hT : TT.Sound P T) (ho : Ord T ops L) (hes : es.map (·.i) = L) (tr : Tr P T ρ fl ops es t0 h0 [] tf hf rsf) (hh : Ex.hold T hf rsf = true) (hr0 : HR P ρ fl μ0 h0 w0) {i : Nat} {r : List Nat} {l : List Item} {cs : List Frame}
    (iv : Inv P T ρ fl ops es t0 h0 tf hf rsf μ0 w0 listed f w A B tA HA RA μ) (hcl : ClosedX ops listed) (hrd : ReadyX ops listed i) (hm : f.mode = .run) (ht : f.todo = .inRegion ops (i :: r) :: l) :
    ∃ v' w' A' B' tA' HA' RA' μ', Steps P (lone f cs w) (lone (f.finish v') cs w') ∧ Inv P T ρ fl ops es t0 h0 tf hf rsf μ0 w0 (listed.setIfInBounds i true) (f.finish v') w' A' B' tA' HA' RA' μ' := by
  have hiL : i ∈ L := ho.all i hrd.2.2.1
  rw [← hes, List.mem_map] at hiL
  obtain ⟨e, he, rfl⟩ := hiL
  obtain ⟨pre, post, hsp⟩ := List.append_of_mem he
  obtain ⟨hsee, hfold⟩ := sees ho hes tr hsp hcl hrd
  obtain ⟨hag, hwt⟩ := agree_of (t1 := tmOf (foldX listed es t0.L)) (t2 := e.tmps) (fun k hk => by rw [tmOf_at]; exact hsee k hk)
  have hXL : rels ρ μ w (tmOf (foldX listed es t0.L)).L f.tmps.toList := by rw [tmOf_L]; exact iv.tmps
  have heo : ops[e.i]? = some e.o := tr.oper e he
  have henv : EnvR ρ μ w (tmOf (foldX listed es t0.L)) f.eval := envR_of hXL (fun t => by simp [Frame.eval]) (fun _ => rfl) (fun _ => rfl)
  have hwant : ∀ b, wantedA ops e.tmps e.o = some b → Region.wanted e.o (yielded ops f.tmps) = b := fun b hb => wantedA_sound hXL (by rw [hwt]; exact hb)
  have hL : L = pre.map (·.i) ++ e.i :: post.map (·.i) := by rw [← hes, hsp]; simp
  have uniq : ∀ x ∈ es, x.i = e.i → x = e := fun x hx hxe => by
    rw [hsp] at hx
    simp only [List.mem_append, List.mem_cons] at hx
    rcases hx with hx | rfl | hx
    · exact absurd (show e.i ∈ pre.map (·.i) by rw [← hxe]; exact List.mem_map_of_mem hx) (ho.nodup _ _ _ hL)
    · rfl
    · obtain ⟨p, q, rfl⟩ := List.append_of_mem hx
      exact absurd (show x.i ∈ pre.map (·.i) ++ e.i :: p.map (·.i) by rw [hxe]; simp) (ho.nodup (pre.map (·.i) ++ e.i :: p.map (·.i)) x.i (q.map (·.i)) (by rw [hL]; simp))
  have hons : ∀ j, on (listed.setIfInBounds e.i true) j ↔ on listed j ∨ j = e.i := fun j => on_set hrd.1
  -- the temporaries behind the operation
  have fin : ∀ {μ1 : Mu} {w1 : World} {v' : Value}, More μ μ1 → Grows w w1 → rel ρ μ1 w1 e.v v' → rels ρ μ1 w1 (foldX (listed.setIfInBounds e.i true) es t0.L) (f.finish v').tmps.toList := by
    intro μ1 w1 v' h1 h2 h3
    rw [hfold, finish_region ht heo]
    exact setTmpL_rels (rels.mono h1 h2 _ _ iv.tmps) h3
  cases hact : actK (kindOf T e.o) with
  | true =>
    -- an act: the first one of B
    have heB : e ∈ B := by
      have : e ∈ A ++ B := by rw [← iv.cut]; exact he
      rcases List.mem_append.1 this with h | h
      · exact absurd (iv.actsA e h hact) hrd.2.1
      · exact h
    cases hB : B with
    | nil => rw [hB] at heB; cases heB
    | cons a B' =>
      have hha := iv.head a B' hB
      have hae : a = e := by
        rw [hB] at heB
        cases heB with
        | head => rfl
        | tail _ hmem =>
          exfalso
          obtain ⟨p, q, rfl⟩ := List.append_of_mem hmem
          have h2 : L = (A.map (·.i) ++ a.i :: p.map (·.i)) ++ e.i :: q.map (·.i) := by rw [← hes, iv.cut, hB]; simp
          have hao : ops[a.i]? = some a.o := tr.oper a (by rw [iv.cut, hB]; simp)
          have := ho.acts _ _ _ h2 a.i (by simp) (by rw [isAct_eq hao]; exact hha)
          exact iv.actsB a (by rw [hB]; simp) hha (hrd.before hcl this)
      subst hae
      have trB := iv.trB
      rw [hB] at trB
      obtain ⟨q1, q2, rs1, q3, q4⟩ := trB
      -- the step itself
      have step : ∃ μ1 w1 v', Eff P ρ fl μ HA w μ1 a.h1 w1 ∧ rel ρ μ1 w1 a.v v' ∧ Steps P (lone f cs w) (lone (f.finish v') cs w1) ∧ rs1 = keep ops a.i RA := by
        obtain ⟨_, ⟨hw, hv, hh1, hr⟩ | ⟨hw, hr⟩⟩ := q3
        · cases hq : kindOf T a.o <;> rw [hq] at hact hr <;> first | cases hact | skip
          refine ⟨μ, w, undef, by rw [hh1, q2]; exact Eff.refl iv.eff.hr, by rw [hv]; exact rel_undef, .one (step_unwanted hm ht heo (hwant false hw)), hr.2⟩
        · cases hq : kindOf T a.o <;> rw [hq] at hact hr <;> first | cases hact | skip
          obtain ⟨_, hr2, hrun⟩ := hr
          obtain ⟨μ1, w1, v', r1, r2, r3⟩ := hrun (tmOf (foldX listed es t0.L)) (fun x hx => (hag x hx).symm) μ w f cs ops a.i r l (by rw [q2]; exact iv.eff.hr) henv hm ht heo (hwant true hw)
          exact ⟨μ1, w1, v', by rw [← q2]; exact r1, r2, r3, hr2⟩
      obtain ⟨μ1, w1, v', r1, r2, r3, r4⟩ := step
      subst r4
      obtain ⟨Sg, B2, tS, HS, RS, exs, s1, s2, s3, s4, s5, s6, s7, s8, s9, s10⟩ := seg hT B' _ _ _ q4
      have hlen := r1.len
      have hSn : HS.n = a.h1.n + exs.length := by rw [← L_n, s6, List.length_append, L_n]
      have hSat : ∀ b, b < a.h1.n → HS.at b = a.h1.at b := fun b hb => by rw [← L_at, s6, List.getElem?_append_left (by rw [L_n]; exact hb), L_at]
      refine ⟨v', w1, A ++ a :: Sg, B2, tS, HS, RS, μ1, r3, ?_, ?_, s3, ?_, ?_, s5, ?_, fin r1.more r1.grows r2, ?_, ?_, ?_⟩
      · rw [iv.cut, hB, s1]; simp
      · exact iv.trA.join ⟨q1, q2, _, q3, s2⟩
      · intro x hx hk
        rw [hons]
        simp only [List.mem_append, List.mem_cons] at hx
        rcases hx with hx | rfl | hx
        · exact .inl (iv.actsA x hx hk)
        · exact .inr rfl
        · rw [s4 x hx] at hk; cases hk
      · intro x hx hk hon
        rw [hons] at hon
        have hxB : x ∈ B' := by rw [s1]; simp [hx]
        rcases hon with hon | hon
        · exact iv.actsB x (by rw [hB]; simp [hxB]) hk hon
        · have hxa := uniq x (by rw [iv.cut, hB]; simp [hxB]) hon
          subst hxa
          obtain ⟨p, q, hpq⟩ := List.append_of_mem hxB
          refine ho.nodup (A.map (·.i) ++ x.i :: p.map (·.i)) x.i (q.map (·.i)) (by rw [← hes, iv.cut, hB, hpq]; simp) (by simp)
      · exact (iv.eff.trans hr0 r1).extend s6
      · intro x hx hp
        simp only [List.mem_append, List.mem_cons] at hx
        rcases hx with hx | rfl | hx
        · obtain ⟨p1, p2, p3⟩ := iv.pend x hx hp
          refine ⟨p1, by omega, fun hn => ?_⟩
          have hn0 : ¬ on listed x.i := fun hon => hn ((hons _).2 (.inl hon))
          obtain ⟨p4, ab, p5, p6⟩ := p3 hn0
          refine ⟨?_, ab, p5, ?_⟩
          · cases hq : μ1 x.h.n with
            | none => rfl
            | some y => exact absurd (r1.new _ _ p4 hq) (by omega)
          · rw [hSat _ (by omega), r1.keep _ p2 p4]
            exact p6
        · exfalso
          have := hp.1
          rw [this] at hact
          cases hact
        · obtain ⟨p1, p2, ab, p3, p4⟩ := s7 x hx hp
          have := iv.eff.len
          refine ⟨by omega, p2, fun _ => ⟨?_, ab, p3, p4⟩⟩
          cases hq : μ1 x.h.n with
          | none => rfl
          | some y => exact absurd (r1.hr.dom _ _ hq) (by omega)
      · intro x hx y hy hpx hpy hl
        simp only [List.mem_append, List.mem_cons] at hx hy
        have notact : ∀ z : Ent, Pend T ops z → z ≠ a := fun z hz hza => by
          subst hza
          rw [hz.1] at hact
          cases hact
        rcases hx with hx | hx | hx
        · rcases hy with hy | hy | hy
          · exact iv.dist x hx y hy hpx hpy hl
          · exact absurd hy (notact y hpy)
          · have h1 := (iv.pend x hx hpx).2.1
            have h2 := (s7 y hy hpy).1
            omega
        · exact absurd hx (notact x hpx)
        · rcases hy with hy | hy | hy
          · have h1 := (iv.pend y hy hpy).2.1
            have h2 := (s7 x hx hpx).1
            omega
          · exact absurd hy (notact y hpy)
          · exact s8 x hx y hy hpx hpy hl
      · intro x hx rd hxr hn
        simp only [List.mem_append, List.mem_cons] at hx
        have hn0 : ¬ on listed x.i := fun hon => hn ((hons _).2 (.inl hon))
        rcases hx with hx | rfl | hx
        · have h1 := iv.reads x hx rd hxr hn0
          refine s9 _ ?_
          unfold keep
          rw [List.mem_filter]
          refine ⟨h1, ?_⟩
          have hxo := tr.oper x (by rw [iv.cut]; simp [hx])
          have hxl := (Array.getElem?_eq_some_iff.1 hxo).1
          cases hq : waits ops.size (mat ops) a.i x.i with
          | false => simp [hq]
          | true => exact absurd (hrd.before hcl (ho.waits _ _ hxl hq)) hn0
        · rw [hxr.1] at hact; cases hact
        · exact s10 x hx rd hxr
  | false =>
    -- no act: it lies in A
    have heA : e ∈ A := by
      have : e ∈ A ++ B := by rw [← iv.cut]; exact he
      rcases List.mem_append.1 this with h | h
      · exact h
      · exfalso
        cases hB : B with
        | nil => rw [hB] at h; cases h
        | cons a B' =>
          have hha := iv.head a B' hB
          rw [hB] at h
          cases h with
          | head => rw [hha] at hact; cases hact
          | tail _ hmem =>
            obtain ⟨p, q, rfl⟩ := List.append_of_mem hmem
            have h2 : L = (A.map (·.i) ++ a.i :: p.map (·.i)) ++ e.i :: q.map (·.i) := by rw [← hes, iv.cut, hB]; simp
            have hao : ops[a.i]? = some a.o := tr.oper a (by rw [iv.cut, hB]; simp)
            have := ho.acts _ _ _ h2 a.i (by simp) (by rw [isAct_eq hao]; exact hha)
            exact iv.actsB a (by rw [hB]; simp) hha (hrd.before hcl this)
    -- the step that the abstract machine took
    obtain ⟨rs0, rs1, hstep⟩ : ∃ rs0 rs1, StepR P T ρ fl ops e rs0 rs1 := by
      have tr2 := tr
      rw [hsp] at tr2
      obtain ⟨tm, hm', rm, _, _, _, rs1, q, _⟩ := tr2.split
      exact ⟨rm, rs1, q⟩
    -- the invariant, the heap as it was
    have go : ∀ (μ1 : Mu) (w1 : World) (v' : Value), Eff P ρ fl μ0 h0 w0 μ1 HA w1 → More μ μ1 → Grows w w1 → rel ρ μ1 w1 e.v v' → (∀ x ∈ A, Pend T ops x → x.i ≠ e.i → ¬ on listed x.i → μ x.h.n = none → μ1 x.h.n = none) → Steps P (lone f cs w) (lone (f.finish v') cs w1) →
        ∃ v' w' A' B' tA' HA' RA' μ', Steps P (lone f cs w) (lone (f.finish v') cs w') ∧ Inv P T ρ fl ops es t0 h0 tf hf rsf μ0 w0 (listed.setIfInBounds e.i true) (f.finish v') w' A' B' tA' HA' RA' μ' := fun μ1 w1 v' h1 h2 h3 h4 h5 h6 => by
      refine ⟨v', w1, A, B, tA, HA, RA, μ1, h6, iv.cut, iv.trA, iv.trB, fun x hx hk => (hons _).2 (.inl (iv.actsA x hx hk)), fun x hx hk hon => ?_, iv.head, h1, fin h2 h3 h4, fun x hx hp => ?_, iv.dist, fun x hx rd hxr hn => iv.reads x hx rd hxr (fun hon => hn ((hons _).2 (.inl hon)))⟩
      · rw [hons] at hon
        rcases hon with hon | hon
        · exact iv.actsB x hx hk hon
        · have := uniq x (by rw [iv.cut]; simp [hx]) hon
          subst this
          rw [hact] at hk
          cases hk
      · obtain ⟨p1, p2, p3⟩ := iv.pend x hx hp
        refine ⟨p1, p2, fun hn => ?_⟩
        have hn0 : ¬ on listed x.i := fun hon => hn ((hons _).2 (.inl hon))
        obtain ⟨p4, p5⟩ := p3 hn0
        exact ⟨h5 x hx hp (fun hxe => hn ((hons _).2 (.inr hxe))) hn0 p4, p5⟩
    -- an operation that leaves the heap as it was
    have calm : ∀ (h9 : AH), aop P T e.o e.tmps HA = some (.val e.v, HA) → wantedA ops e.tmps e.o = some true →
        ∃ v' w' A' B' tA' HA' RA' μ', Steps P (lone f cs w) (lone (f.finish v') cs w') ∧ Inv P T ρ fl ops es t0 h0 tf hf rsf μ0 w0 (listed.setIfInBounds e.i true) (f.finish v') w' A' B' tA' HA' RA' μ' := fun _ ha hw => by
      have ha2 : aop P T e.o (tmOf (foldX listed es t0.L)) HA = some (.val e.v, HA) := by rw [aop_congr hag]; exact ha
      obtain ⟨μ1, w1, v', q1, q2, q3⟩ := aop_sound hT iv.eff.hr henv ha2
      refine go μ1 w1 v' (iv.eff.trans hr0 q2) q2.more q2.grows q3 (fun x hx hp _ _ hn => ?_) (.one (step_value hm ht heo (hwant true hw) (.inr (not_defer ha2 (fun _ _ => by simp))) q1))
      cases hq : μ1 x.h.n with
      | none => rfl
      | some y => exact absurd (q2.new _ _ hn hq) (by have := (iv.pend x hx hp).2.1; omega)
    obtain ⟨_, ⟨hw, hv, hh1, hr⟩ | ⟨hw, hr⟩⟩ := id hstep
    · exact go μ w undef iv.eff (More.refl μ) (Grows.refl w) (by rw [hv]; exact rel_undef) (fun _ _ _ _ _ hn => hn) (.one (step_unwanted hm ht heo (hwant false hw)))
    · cases hk : kindOf T e.o with
      | acts => rw [hk] at hact; cases hact
      | still =>
        rw [hk] at hr
        exact calm HA ((still_any hk hr.1).2 HA) hw
      | reads =>
        rw [hk] at hr
        obtain ⟨ha, hrr⟩ := hr
        rcases hrr with ⟨rd, h1, _⟩ | ⟨h1, h2, _⟩
        · have hmem := iv.reads e heA rd ⟨hk, hw, h1⟩ hrd.2.1
          exact calm HA (read_late hk ha h1 (hold_mem (iv.hold hh) hmem)).2 hw
        · exact calm HA ((read_lit hk ha h1 h2).2 HA) hw
      | alloc =>
        rw [hk] at hr
        obtain ⟨p1, p2, p3⟩ := iv.pend e heA ⟨hk, hw⟩
        obtain ⟨p4, ab, p5, p6⟩ := p3 hrd.2.1
        obtain ⟨mk, ab', m1, m2, m3⟩ := alloc_any hT hk (show aop P T e.o (tmOf (foldX listed es t0.L)) e.h = some (.val e.v, e.h1) by rw [aop_congr hag]; exact hr.1)
        obtain rfl : ab = ab' := by
          have := congrArg (fun h : AH => h.at e.h.n) (p5.symm.trans m2)
          simp only [at_push_n] at this
          exact Option.some.inj this
        have m1 : e.v = mk e.h.n := by simpa using m1
        obtain ⟨m4, m5, m6⟩ := m3
        obtain ⟨ob, v', n1, n2, n3⟩ := m6 ρ μ w f.eval henv
        have hlate := Eff.late hr0 iv.eff p1 p4 p6 n2
        refine go _ _ v' hlate (more_up p4) (grows_alloc w ob) (by rw [m1]; exact n3 _ _ _ (up_same _ _ _)) (fun x hx hp hne _ hn => ?_) (.one (step_value hm ht heo (hwant true hw) (.inr (not_defer (m4 HA) (fun _ _ => by simp))) (.inl n1)))
        rw [up_ne (fun hl => hne (iv.dist x hx e heA hp ⟨hk, hw⟩ hl))]
        exact hn

end pick

end Go.Proofs.YtfchbkmegicfoaaGreat.Ex
