/- What both Crc come to, for the abstract machine. -/
import Derived.Test.YtfchbkmegicfoaaGreatExe
import Derived.Test.YtfchbkmegicfoaaGreatCrc2
set_option linter.unusedSimpArgs false
set_option linter.unusedVariables false
namespace Go.Proofs.YtfchbkmegicfoaaGreat.Ex
open Go Go.RowKit

def bytesOf (h : AH) : AV → Option (List UInt8)
  | .lit (.slice none 0 0) => some []
  | .sl b off len _ => bytesAt h b off len
  | _ => none
def isL (v : Value) : Option AV → Bool
  | some (.lit u) => scalEq u v
  | _ => false
def freshE (l : List AV) : Bool := isL (.int .u32 0) l[0]? && isL (.int .i32 0) l[1]? && isL (.int .i64 0) l[259]? && Nat.beq l.length 260
def apartOf (b : Nat) : AV → Bool
  | .sl c _ _ _ => !Nat.beq b c
  | _ => true
def sCrc : List AV → AH → Option (AV × AH)
  | [.ptr b 0, x], h => match bytesOf h x, getB h b with
    | some bs, some (l, e) => bif freshE l && Nat.beq e 252 && apartOf b x && Nat.ble bs.length 1000000 then some (.lit (.int .u32 (crcN bs)), h.put b .gone) else none
    | _, _ => none
  | _, _ => none
def sCrcR : List AV → AH → Option (AV × AH)
  | [x], h => match bytesOf h x with
    | some bs => bif Nat.ble bs.length 1000000 then some (.lit (.int .u32 (crcN bs)), h) else none
    | _ => none
  | _, _ => none
def S0 : Sums := fun f => bif Nat.beq f 90 then some sCrc else bif Nat.beq f 139 then some sCrcR else none

variable {P : Program} {ρ : Nat → Value} {fl : Nat}

/-- A block is given up: nothing is known of its content any more. -/
theorem EffL.kept {μ : Mu} {h : List AB} {w w' : World} (hr : HRL P ρ fl μ h w) {b r base : Nat} {ab : AB} (hb : μ b = some (r, base)) (hab : h[b]? = some ab) (hl : live ab = true) (hk : Kept (· = r) w w')
    (hrow : ∀ (cur : Array Value) (e : TypeId) (fz : Nat × Nat), w.heap[r]? = some (.cells cur e fz) → ∃ cur' e' fz', w'.heap[r]? = some (.cells cur' e' fz') ∧ cur'.size = cur.size) (hin : ∃ o, w'.heap[r]? = some o) :
    EffL P ρ fl μ h w μ (h.set b .gone) w' := by
  have hlt := (List.getElem?_eq_some_iff.1 hab).1
  have hg : Grows w w' := fun k cur e fz hc => by
    by_cases hkr : k = r
    · subst hkr; exact hrow cur e fz hc
    · exact ⟨cur, e, fz, by rw [hk.block k (lt_in hc) hkr]; exact hc, rfl⟩
  have hgone : ∀ (c : Nat) (ac : AB), (h.set b .gone)[c]? = some ac → live ac = true → c ≠ b ∧ h[c]? = some ac := fun c ac hc hlv => by
    by_cases hcb : b = c
    · subst hcb
      rw [List.getElem?_set_self hlt] at hc
      obtain rfl := Option.some.inj hc
      cases hlv
    · rw [List.getElem?_set_ne hcb] at hc
      exact ⟨Ne.symm hcb, hc⟩
  refine ⟨More.refl μ, by simp, fun c x h1 h2 => (by rw [h1] at h2; cases h2), fun c hc hn => ?_, fun c hc => ?_, hg, hk.size, fun c r' base' h1 h2 => (by rw [h1] at h2; cases h2), fun k hk2 hno => ?_, ⟨hk.tape, hk.os, hk.output⟩, ?_⟩
  · rw [List.getElem?_set_ne (fun e => by rw [e, hn] at hb; cases hb)]
  · by_cases hcb : b = c
    · subst hcb; rw [List.getElem?_set_self hlt]
    · rw [List.getElem?_set_ne hcb]; exact hc
  · exact hk.block k hk2 (fun e => by subst e; rw [hno b base ab hb hab] at hl; cases hl)
  · refine ⟨Nat.le_trans hr.floor hk.size, fun c x hc => by rw [List.length_set]; exact hr.dom c x hc, fun c r' base' ac hc hac => ?_, fun c c' r' b1 b2 a1 a2 h1 h2 h3 h4 h5 h6 => ?_⟩
    · have hdom := hr.dom c _ hc
      obtain ⟨q1, q2, o, q3, q4⟩ := hr.obj c r' base' _ hc (List.getElem?_eq_getElem hdom)
      refine ⟨q1, Nat.lt_of_lt_of_le q2 hk.size, ?_⟩
      cases hlv : live ac with
      | false =>
        rw [live_false hlv]
        by_cases hrr : r' = r
        · subst hrr
          obtain ⟨o2, ho2⟩ := hin
          exact ⟨o2, ho2, trivial⟩
        · exact ⟨o, by rw [hk.block r' q2 hrr]; exact q3, trivial⟩
      | true =>
        obtain ⟨n1, n2⟩ := hgone c ac hac hlv
        have hne : r' ≠ r := fun e => by
          subst e
          exact n1 (hr.inj c b r' base' base ac ab hc hb n2 hab hlv hl)
        obtain ⟨_, _, o2, p3, p4⟩ := hr.obj c r' base' ac hc n2
        exact ⟨o2, by rw [hk.block r' q2 hne]; exact p3, p4.mono (More.refl μ) hg⟩
    · obtain ⟨_, n2⟩ := hgone c a1 h3 h5
      obtain ⟨_, n4⟩ := hgone c' a2 h4 h6
      exact hr.inj c c' r' b1 b2 a1 a2 h1 h2 n2 n4 h5 h6

theorem Eff.kept {μ : Mu} {h : AH} {w w' : World} (hr : HR P ρ fl μ h w) {b r base : Nat} {ab : AB} (hb : μ b = some (r, base)) (hab : h.at b = some ab) (hl : live ab = true) (hk : Kept (· = r) w w')
    (hrow : ∀ (cur : Array Value) (e : TypeId) (fz : Nat × Nat), w.heap[r]? = some (.cells cur e fz) → ∃ cur' e' fz', w'.heap[r]? = some (.cells cur' e' fz') ∧ cur'.size = cur.size) (hin : ∃ o, w'.heap[r]? = some o) :
    Eff P ρ fl μ h w μ (h.put b .gone) w' := by
  unfold Eff
  rw [L_put]
  exact EffL.kept hr hb (by rw [L_at]; exact hab) hl hk hrow hin

theorem bytesOf_reads {μ : Mu} {h : AH} {w : World} {x : AV} {v : Value} {bs : List UInt8} (hr : HR P ρ fl μ h w) (hv : rel ρ μ w x v) (hb : bytesOf h x = some bs) :
    ∃ g, Go.Proofs.YtfchbkmegicfoaaGreat.Reads w 1 v bs.length (bs.map bv) g ∧ ∀ k, g = some k → ∃ b off len cap base ab, x = .sl b off len cap ∧ μ b = some (k, base) ∧ h.at b = some ab ∧ live ab = true := by
  unfold bytesOf at hb
  split at hb
  · obtain rfl := Option.some.inj hb
    obtain rfl := rel_lit_inv hv
    exact ⟨none, ⟨by simp, .inl ⟨none, 0, rfl, rfl⟩⟩, fun k hk => by cases hk⟩
  · rename_i b off len cap
    obtain ⟨r, base, q1, q2, q3⟩ := bytesAt_reads hr hv hb
    rw [← q2] at q3
    refine ⟨some r, q3, fun k hk => ?_⟩
    obtain rfl := Option.some.inj hk
    have : ∃ ab, h.at b = some ab ∧ live ab = true := by
      unfold bytesAt getR at hb
      cases hq : h.at b with
      | none => rw [hq] at hb; cases hb
      | some ab => rw [hq] at hb; cases ab <;> first | exact ⟨_, rfl, rfl⟩ | cases hb
    obtain ⟨ab, p1, p2⟩ := this
    exact ⟨b, off, len, cap, base, ab, rfl, q1, p1, p2⟩
  · cases hb

theorem isL_inv {μ : Mu} {w : World} {l : List AV} {cur : Array Value} {base i : Nat} {v : Value} (hw : window ρ μ w base l cur) (hl : isL v l[i]? = true) : cur[base + i]? = some v := by
  unfold isL at hl
  split at hl
  · rename_i u hu
    obtain ⟨v', h1, h2⟩ := hw.2 i _ hu
    rw [h1, rel_lit_inv h2, scalEq_sound hl]
  · cases hl

theorem big_engine : bigT Tryz.prog 252 = true := by decide +kernel

theorem sums_ok (ρ : Nat → Value) (fl : Nat) : SumsOK Tryz.prog ρ fl S0 := by
  intro f g args h v h' hs hg μ w args' hr ha
  unfold S0 at hs
  cases h1 : Nat.beq f 90 with
  | true =>
    rw [h1] at hs
    obtain rfl := Option.some.inj hs
    obtain rfl := Nat.eq_of_beq_eq_true h1
    unfold sCrc at hg
    split at hg
    case h_2 => cases hg
    rename_i b x
    split at hg
    case h_2 => cases hg
    rename_i bs l e hbs hgb
    generalize hc : (freshE l && Nat.beq e 252 && apartOf b x && Nat.ble bs.length 1000000) = cb at hg
    cases cb with
    | false => cases hg
    | true =>
    simp only [Bool.and_eq_true] at hc
    obtain ⟨⟨⟨c1, c2⟩, c3⟩, c4⟩ := hc
    simp only [cond_true, Option.some.injEq, Prod.mk.injEq] at hg
    obtain ⟨rfl, rfl⟩ := hg
    obtain rfl := Nat.eq_of_beq_eq_true c2
    have c4 := Nat.ble_eq.mp c4
    obtain ⟨vp, vs, rfl, r1, r2⟩ := rels_cons_inv ha
    obtain ⟨vx, vs2, rfl, r3, r4⟩ := rels_cons_inv r2
    obtain rfl := rels_nil_inv r4
    obtain ⟨r, base, m1, rfl⟩ := rel_ptr_inv r1
    obtain ⟨cur, k1, k2, k3⟩ := getB_sound hr m1 hgb
    obtain ⟨rfl, k4⟩ := k3 big_engine
    simp only [freshE, Bool.and_eq_true] at c1
    obtain ⟨⟨⟨f1, f2⟩, f3⟩, f4⟩ := c1
    have f4 := Nat.eq_of_beq_eq_true f4
    have g1 := isL_inv k2 f1
    have g2 := isL_inv k2 f2
    have g3 := isL_inv k2 f3
    rw [Nat.zero_add] at g1 g2 g3
    obtain ⟨gx, p1, p2⟩ := bytesOf_reads hr r3 hbs
    have hx0 := (getB_R hgb).1
    refine (crc_c2 (e := r) ⟨k1, by rw [k4, f4]⟩ g1 g2 g3 p1 (fun k hk hkr => ?_) (by omega)).mono fun y w' hy => ?_
    · obtain ⟨b2, off, len, cap, base2, ab, rfl, n1, n2, n3⟩ := p2 k hk
      subst hkr
      have := hr.inj b b2 k 0 base2 _ ab m1 n1 hx0 n2 rfl n3
      subst this
      simp [apartOf] at c3
    · obtain ⟨rfl, hk, cs', he⟩ := hy
      refine ⟨μ, .int .u32 (crcN bs), rfl, Eff.kept hr m1 hx0 rfl hk (fun cur2 e2 fz2 hc2 => ?_) ⟨_, he.heap⟩, rel_lit rfl⟩
      rw [k1] at hc2
      obtain ⟨rfl, rfl, rfl⟩ := Obj.cells.inj (Option.some.inj hc2)
      exact ⟨cs', _, _, he.heap, by rw [he.size, k4, f4]⟩
  | false =>
    rw [h1] at hs
    simp only [cond_false] at hs
    cases h2 : Nat.beq f 139 with
    | false => rw [h2] at hs; cases hs
    | true =>
      rw [h2] at hs
      obtain rfl := Option.some.inj hs
      obtain rfl := Nat.eq_of_beq_eq_true h2
      unfold sCrcR at hg
      split at hg
      case h_2 => cases hg
      rename_i x
      split at hg
      case h_2 => cases hg
      rename_i bs hbs
      cases c4 : Nat.ble bs.length 1000000 with
      | false => rw [c4] at hg; cases hg
      | true =>
        rw [c4] at hg
        have c4 := Nat.ble_eq.mp c4
        simp only [cond_true, Option.some.injEq, Prod.mk.injEq] at hg
        obtain ⟨rfl, rfl⟩ := hg
        obtain ⟨vx, vs, rfl, r3, r4⟩ := rels_cons_inv ha
        obtain rfl := rels_nil_inv r4
        obtain ⟨gx, p1, p2⟩ := bytesOf_reads hr r3 hbs
        refine (crcRef_c p1 (by omega)).mono fun y w' hy => ?_
        obtain ⟨rfl, rfl⟩ := hy
        exact ⟨μ, .int .u32 (crcN bs), rfl, Eff.refl hr, rel_lit rfl⟩

end Go.Proofs.YtfchbkmegicfoaaGreat.Ex
