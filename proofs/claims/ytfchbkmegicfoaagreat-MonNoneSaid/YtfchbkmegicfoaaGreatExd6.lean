/- Regions that draw their order: temporaries and blocks, whatever the order. -/
import Derived.Test.YtfchbkmegicfoaaGreatExd5
set_option linter.unusedSimpArgs false
set_option linter.unusedVariables false
namespace Go.Proofs.YtfchbkmegicfoaaGreat.Ex
open Go Go.RowKit

variable {P : Program} {T : TT} {S : Sums} {ρ : Nat → Value} {fl : Nat} {ops : Array Oper} {h : AH}

def setTmpL (t : List AV) (d : Option Tmp) (v : AV) : List AV := match d with
  | some k => t.set k v
  | none => t

theorem setTmp_L (t : TM) (d : Option Tmp) (v : AV) : (setTmp t d v).L = setTmpL t.L d v := by
  cases d with
  | none => rfl
  | some k => exact TL_set _ _ _

theorem setTmpL_rels {μ : Mu} {w : World} {tmps : List AV} {rt : Array Value} {d : Option Tmp} {a : AV} {v : Value} (ht : rels ρ μ w tmps rt.toList) (hv : rel ρ μ w a v) : rels ρ μ w (setTmpL tmps d a) (match d with | some d => rt.setIfInBounds d v | none => rt).toList := by
  cases d with
  | none => exact ht
  | some d => simp only [setTmpL, Array.toList_setIfInBounds]; exact rels_set d ht hv

theorem setTmpL_length (t : List AV) (d : Option Tmp) (v : AV) : (setTmpL t d v).length = t.length := by cases d <;> simp [setTmpL]

theorem setTmpL_ne {t : List AV} {d : Option Tmp} {v : AV} {k : Nat} (hd : d ≠ some k) : (setTmpL t d v)[k]? = t[k]? := by
  cases d with
  | none => rfl
  | some j => exact List.getElem?_set_ne (fun e => hd (by rw [e]))

theorem setTmpL_get {t1 t2 : List AV} {d : Option Tmp} {v : AV} {k : Nat} (hl : t1.length = t2.length) (hk : t1[k]? = t2[k]?) : (setTmpL t1 d v)[k]? = (setTmpL t2 d v)[k]? := by
  cases d with
  | none => exact hk
  | some j =>
    simp only [setTmpL, List.getElem?_set, hl, hk]

theorem setTmpL_comm {t : List AV} {d1 d2 : Option Tmp} {v1 v2 : AV} (hd : ∀ d, d1 = some d → d2 ≠ some d) : setTmpL (setTmpL t d1 v1) d2 v2 = setTmpL (setTmpL t d2 v2) d1 v1 := by
  cases d1 with
  | none => rfl
  | some i =>
    cases d2 with
    | none => rfl
    | some j => exact List.set_comm _ _ (fun e => hd i rfl (by rw [e]))

def foldX (listed : Array Bool) : List Ent → List AV → List AV
  | [], t => t
  | e :: r, t => foldX listed r (if listed.getD e.i false = true then setTmpL t e.o.dst e.v else t)

def foldA : List Ent → List AV → List AV
  | [], t => t
  | e :: r, t => foldA r (setTmpL t e.o.dst e.v)

theorem foldX_append (listed : Array Bool) : ∀ (a b : List Ent) (t : List AV), foldX listed (a ++ b) t = foldX listed b (foldX listed a t)
  | [], _, _ => rfl
  | e :: r, b, t => foldX_append listed r b _

theorem fold_get {listed : Array Bool} {k : Nat} : ∀ (es : List Ent) (t1 t2 : List AV), t1.length = t2.length → t1[k]? = t2[k]? → (∀ x ∈ es, x.o.dst = some k → on listed x.i) → (foldX listed es t1)[k]? = (foldA es t2)[k]?
  | [], _, _, _, hk, _ => hk
  | e :: r, t1, t2, hl, hk, hx => by
    simp only [foldX, foldA]
    split
    · exact fold_get r _ _ (by rw [setTmpL_length, setTmpL_length, hl]) (setTmpL_get hl hk) (fun x hm => hx x (by simp [hm]))
    · rename_i hn
      have : e.o.dst ≠ some k := fun hd => hn (hx e (by simp) hd)
      exact fold_get r _ _ (by rw [setTmpL_length, hl]) (by rw [setTmpL_ne this, hk]) (fun x hm => hx x (by simp [hm]))

theorem foldX_none {listed : Array Bool} {k : Nat} : ∀ (es : List Ent) (t : List AV), (∀ x ∈ es, x.o.dst = some k → ¬ on listed x.i) → (foldX listed es t)[k]? = t[k]?
  | [], _, _ => rfl
  | e :: r, t, hx => by
    simp only [foldX]
    rw [foldX_none r _ (fun x hm => hx x (by simp [hm]))]
    split
    · rename_i hon
      exact setTmpL_ne (fun hd => hx e (by simp) hd hon)
    · rfl

theorem foldX_same {l1 l2 : Array Bool} : ∀ (es : List Ent) (t : List AV), (∀ x ∈ es, l1.getD x.i false = l2.getD x.i false) → foldX l1 es t = foldX l2 es t
  | [], _, _ => rfl
  | e :: r, t, hx => by
    simp only [foldX]
    rw [hx e (by simp)]
    exact foldX_same r _ (fun x hm => hx x (by simp [hm]))

theorem foldX_put {listed : Array Bool} {d : Option Tmp} {v : AV} : ∀ (es : List Ent) (t : List AV), (∀ x ∈ es, on listed x.i → ∀ k, d = some k → x.o.dst ≠ some k) → foldX listed es (setTmpL t d v) = setTmpL (foldX listed es t) d v
  | [], _, _ => rfl
  | e :: r, t, hx => by
    simp only [foldX]
    rw [← foldX_put r _ (fun x hm => hx x (by simp [hm]))]
    congr 1
    split
    · rename_i hon
      exact setTmpL_comm (fun k hk => hx e (by simp) hon k hk)
    · rfl

theorem foldX_set {listed : Array Bool} {e : Ent} {pre post : List Ent} {t : List AV} (hi : e.i < listed.size) (hn : ¬ on listed e.i) (h1 : ∀ x ∈ pre, x.i ≠ e.i) (h2 : ∀ x ∈ post, x.i ≠ e.i)
    (h3 : ∀ x ∈ post, on listed x.i → ∀ k, e.o.dst = some k → x.o.dst ≠ some k) : foldX (listed.setIfInBounds e.i true) (pre ++ e :: post) t = setTmpL (foldX listed (pre ++ e :: post) t) e.o.dst e.v := by
  rw [foldX_append, foldX_append]
  simp only [foldX]
  have e1 : (listed.setIfInBounds e.i true).getD e.i false = true := by simp [hi]
  have hn' : ¬ listed.getD e.i false = true := hn
  rw [if_pos e1, if_neg hn']
  rw [foldX_same (l1 := listed.setIfInBounds e.i true) (l2 := listed) pre t (fun x hx => getD_set_ne false (Ne.symm (h1 x hx)))]
  rw [foldX_same (l1 := listed.setIfInBounds e.i true) (l2 := listed) post _ (fun x hx => getD_set_ne false (Ne.symm (h2 x hx)))]
  exact foldX_put post _ h3

theorem foldX_false {n : Nat} : ∀ (es : List Ent) (t : List AV), foldX (Array.replicate n false) es t = t
  | [], _ => rfl
  | e :: r, t => by
    simp only [foldX]
    rw [if_neg, foldX_false r t]
    simp only [Array.getD_eq_getD_getElem?, Array.getElem?_replicate]
    split <;> simp

theorem foldX_all {listed : Array Bool} : ∀ (es : List Ent) (t : List AV), (∀ x ∈ es, on listed x.i) → foldX listed es t = foldA es t
  | [], _, _ => rfl
  | e :: r, t, hx => by
    simp only [foldX, foldA]
    have hn' : listed.getD e.i false = true := hx e (by simp)
    rw [if_pos hn']
    exact foldX_all r _ (fun x hm => hx x (by simp [hm]))

theorem Tr.tmps : ∀ {es : List Ent} {t t' : TM} {h h' : AH} {rs rs' : Reads}, Tr P T ρ fl ops es t h rs t' h' rs' → t'.L = foldA es t.L
  | [], _, _, _, _, _, _, tr => by rw [tr.1]; rfl
  | e :: r, _, _, _, _, _, _, tr => by
    obtain ⟨_, _, _, _, h4⟩ := tr
    rw [Tr.tmps (es := r) h4, setTmp_L]
    rfl

theorem Tr.split : ∀ {a b : List Ent} {t t' : TM} {h h' : AH} {rs rs' : Reads}, Tr P T ρ fl ops (a ++ b) t h rs t' h' rs' → ∃ tm hm rm, Tr P T ρ fl ops a t h rs tm hm rm ∧ Tr P T ρ fl ops b tm hm rm t' h' rs'
  | [], b, t, t', h, h', rs, rs', tr => ⟨t, h, rs, ⟨rfl, rfl, rfl⟩, tr⟩
  | e :: r, b, t, t', h, h', rs, rs', tr => by
    obtain ⟨h1, h2, rs1, h3, h4⟩ := tr
    obtain ⟨tm, hm, rm, q1, q2⟩ := Tr.split h4
    exact ⟨tm, hm, rm, ⟨h1, h2, rs1, h3, q1⟩, q2⟩

theorem Tr.join : ∀ {a b : List Ent} {t tm t' : TM} {h hm h' : AH} {rs rm rs' : Reads}, Tr P T ρ fl ops a t h rs tm hm rm → Tr P T ρ fl ops b tm hm rm t' h' rs' → Tr P T ρ fl ops (a ++ b) t h rs t' h' rs'
  | [], b, _, _, _, _, _, _, _, _, _, ha, hb => by
    obtain ⟨rfl, rfl, rfl⟩ := ha
    exact hb
  | e :: r, b, _, _, _, _, _, _, _, _, _, ha, hb => by
    obtain ⟨h1, h2, rs1, h3, h4⟩ := ha
    exact ⟨h1, h2, rs1, h3, Tr.join h4 hb⟩

/-! Between two acts. -/

def Pend (T : TT) (ops : Array Oper) (e : Ent) : Prop := kindOf T e.o = .alloc ∧ wantedA ops e.tmps e.o = some true

theorem rest_step (hT : TT.Sound P T) {e : Ent} {rs rs1 : Reads} (hs : StepR P T ρ fl ops e rs rs1) (hna : actK (kindOf T e.o) = false) :
    ((Pend T ops e ∧ ∃ ab, e.h1 = e.h.push ab) ∨ (¬ Pend T ops e ∧ e.h1 = e.h)) ∧ (∀ x ∈ rs, x ∈ rs1) ∧ (∀ rd, kindOf T e.o = .reads → wantedA ops e.tmps e.o = some true → rdOf e.o e.tmps = some rd → (e.i, rd, e.v) ∈ rs1) := by
  obtain ⟨ho, ⟨hw, hv, hh, hr⟩ | ⟨hw, hr⟩⟩ := hs
  · have hnp : ¬ Pend T ops e := fun hp => by rw [hp.2] at hw; cases hw
    refine ⟨.inr ⟨hnp, hh⟩, ?_, fun rd _ hw2 _ => by rw [hw2] at hw; cases hw⟩
    cases hk : kindOf T e.o with
    | acts => rw [hk] at hna; cases hna
    | _ => rw [hk] at hr; subst hr; exact fun x hx => hx
  · cases hk : kindOf T e.o with
    | acts => rw [hk] at hna; cases hna
    | still =>
      rw [hk] at hr
      obtain ⟨ha, rfl⟩ := hr
      exact ⟨.inr ⟨fun hp => (by have := hp.1; rw [hk] at this; cases this), (still_any hk ha).1⟩, fun x hx => hx, fun rd hh => by cases hh⟩
    | alloc =>
      rw [hk] at hr
      obtain ⟨ha, rfl⟩ := hr
      obtain ⟨mk, ab, _, h2, _⟩ := alloc_any hT hk ha
      exact ⟨.inl ⟨⟨hk, hw⟩, ab, h2⟩, fun x hx => hx, fun rd hh => by cases hh⟩
    | reads =>
      rw [hk] at hr
      obtain ⟨ha, hr⟩ := hr
      have hnp : ¬ Pend T ops e := fun hp => by have := hp.1; rw [hk] at this; cases this
      rcases hr with ⟨rd, h1, rfl⟩ | ⟨h1, h2, rfl⟩
      · refine ⟨.inr ⟨hnp, ?_⟩, fun x hx => by simp [hx], fun rd' _ _ h2 => ?_⟩
        · obtain ⟨ds, op, ty, pos, after, guard⟩ := id e.o
          exact read_same hk ha
        · rw [h1] at h2
          obtain rfl := Option.some.inj h2
          simp
      · exact ⟨.inr ⟨hnp, (read_lit hk ha h1 h2).1⟩, fun x hx => hx, fun rd' _ _ h3 => by rw [h1] at h3; cases h3⟩

end Go.Proofs.YtfchbkmegicfoaaGreat.Ex
