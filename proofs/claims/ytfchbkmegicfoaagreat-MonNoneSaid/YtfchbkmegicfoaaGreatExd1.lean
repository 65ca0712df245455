/- Regions that draw their order: operations that hang on no memory, reads, new blocks. -/
import Derived.Test.YtfchbkmegicfoaaGreatExd
set_option linter.unusedSimpArgs false
set_option linter.unusedVariables false
namespace Go.Proofs.YtfchbkmegicfoaaGreat.Ex
open Go Go.RowKit

variable {P : Program} {T : TT} {ρ : Nat → Value} {fl : Nat} {μ μ' : Mu} {h : AH} {w w' : World} {tmps : TM} {o : Oper} {n : AN} {h1 : AH}

def ind (x : AR) (h : AH) : AR := x.map fun p => (p.1, h)

theorem ind_orLit {k1 k2 : Unit → AR} (hk : k1 () = ind (k2 ()) h) : orLit P o tmps h k1 = ind (orLit P o tmps .nil k2) h := by
  unfold orLit
  split
  · rfl
  · exact hk

theorem ind_val (x : Option AV) : val h x = ind (val .nil x) h := by cases x <;> rfl

theorem ind_same {op : BinOp} {t : TypeId} {x y : Operand} : aSame T tmps h op t x y = ind (aSame T tmps .nil op t x y) h := by
  unfold aSame
  split
  · split <;> rfl
  · rfl

theorem ind_slice1 {t : TypeId} {x : AV} {lo hi mx : Option Nat} : aSlice1 T h t x lo hi mx = ind (aSlice1 T .nil t x lo hi mx) h := by
  unfold aSlice1
  split
  · split
    · cases capFits _ _ <;> rfl
    · rfl
  · split
    · cases Nat.ble _ _ <;> rfl
    · rfl
  · rfl

theorem conv1_still {src dst : TypeId} {x : AV} (hk : (match und T src, und T dst with
    | some (.slice _), some .string => Kind.reads
    | some .string, some (.slice _) | some (.slice _), some (.slice _) => .acts
    | _, _ => .still) = .still) : aConv1 T h src dst x = none := by
  unfold aConv1
  split
  · rename_i hs hd; rw [hs, hd] at hk; cases hk
  · rename_i hs hd; rw [hs, hd] at hk; cases hk
  · rename_i hs hd; rw [hs, hd] at hk; cases hk
  · rfl

/-- What is still hangs on no memory. -/
theorem still_ind (hk : kindOf T o = .still) : aop P T o tmps h = ind (aop P T o tmps .nil) h := by
  obtain ⟨dst, op, ty, pos, after, guard⟩ := o
  cases op <;> simp only [kindOf, reduceCtorEq] at hk <;> simp only [aop]
  case move x => exact ind_val _
  case assign x => exact ind_val _
  case pick c a b =>
    simp only [aPick]
    split
    · exact ind_val _
    · rfl
  case build t ps =>
    simp only [aBuild]
    split
    · exact ind_val _
    · rfl
  case nilCheck x =>
    simp only [aNilCheck]
    split <;> first | rfl | exact ind_orLit rfl
  case binOp op t x y yt =>
    simp only [aBin]
    split
    · exact ind_orLit ind_same
    · unfold ofPV
      split
      · cases ofScal _ <;> rfl
      · cases ofVal _ <;> rfl
      · rfl
    · exact ind_val _
    · exact ind_orLit ind_same
  case unOp op t x =>
    simp only [aUn]
    split
    · unfold ofPV
      split
      · cases ofScal _ <;> rfl
      · cases ofVal _ <;> rfl
      · rfl
    · rfl
  case convert src dst x =>
    simp only [aConvert]
    split
    · split
      · rfl
      · exact ind_orLit rfl
    · exact ind_orLit (by rw [conv1_still hk, conv1_still hk]; rfl)
    · rfl
  case makeInterface t x =>
    simp only [aMakeInterface]
    split <;> rfl
  case makeFunc f a b =>
    simp only [aMakeFunc]
    split
    · cases notYield f <;> rfl
    · rfl
  case slice t x lo hi mx =>
    simp only [aSlice]
    refine ind_orLit ?_
    split
    · exact ind_slice1
    · rfl
  case fieldAddr t x i =>
    simp only [aFieldAddr]
    split
    · split
      · split <;> rfl
      · rfl
    · rfl
  case field t x i =>
    simp only [aField]
    split
    · split
      · exact ind_val _
      · rfl
    · rfl
  case indexAddr t x ix =>
    simp only [aIndexAddr]
    split
    · split
      · split <;> rfl
      · rfl
    · split
      · split <;> rfl
      · rfl
    · rfl
  case index t x ix =>
    simp only [aIndex]
    refine ind_orLit ?_
    split
    · split
      · split
        · exact ind_val _
        · rfl
      · rfl
    · rfl
  case typeAssert x xt t ok =>
    simp only [aAssert]
    split
    · split
      · split
        · split <;> rfl
        · rfl
      · cases Nat.beq _ _
        · cases ok <;> rfl
        · rfl
    · cases ok <;> rfl
    · rfl
  case extract x i =>
    simp only [aExtract]
    split
    · exact ind_val _
    · rfl
  case call c =>
    obtain ⟨callee, args, at'⟩ := c
    cases callee with
    | value f => cases hk
    | invoke r name => cases hk
    | builtin b =>
      have key : b = .len ∨ b = .min ∨ b = .max := by cases b <;> simp at hk ⊢
      rcases key with rfl | rfl | rfl
      · simp only [aCall, aBuiltin]
        split
        case h_4 => split <;> rfl
        case h_5 =>
          rename_i b1 t1 r1 hb1 ha1 ht1
          split
          · rename_i hu hb
            exfalso
            have h3 : at'[0]? = some t1 := by rw [← Array.getElem?_toList, ht1]; rfl
            simp only [h3, Option.bind_some, hu] at hk
            cases hk
          · split
            · rename_i hu hb
              exfalso
              have h3 : at'[0]? = some t1 := by rw [← Array.getElem?_toList, ht1]; rfl
              simp only [h3, Option.bind_some, hu] at hk
              cases hk
            · rfl
        all_goals first | rfl | exact ind_orLit rfl | (rename_i hb _ _; cases hb) | (rename_i hb; cases hb)
      · simp only [aCall, aBuiltin]
        exact ind_orLit rfl
      · simp only [aCall, aBuiltin]
        exact ind_orLit rfl

theorem still_any (hk : kindOf T o = .still) (ha : aop P T o tmps h = some (n, h1)) : h1 = h ∧ ∀ h2, aop P T o tmps h2 = some (n, h2) := by
  rw [still_ind hk] at ha
  cases hq : aop P T o tmps .nil with
  | none => rw [hq] at ha; cases ha
  | some p =>
    rw [hq] at ha
    simp only [ind, Option.map_some, Option.some.injEq, Prod.mk.injEq] at ha
    obtain ⟨rfl, rfl⟩ := ha
    exact ⟨rfl, fun h2 => by rw [still_ind hk, hq]; rfl⟩

/-! Reads. -/

theorem orLit_lit {k : Unit → AR} (hl : litOp P o tmps = some n) : orLit P o tmps h k = some (n, h) := by
  unfold orLit
  rw [hl]

theorem litOp_none {x : Operand} {a : AV} (hx : x ∈ o.op.operands) (ha : evalA tmps x = some a) (hn : toVal a = none) : litOp P o tmps = none := by
  have : litAll tmps o.op.operands.toList = false := by
    have hx' : x ∈ o.op.operands.toList := by simpa using hx
    generalize o.op.operands.toList = l at hx'
    induction l with
    | nil => cases hx'
    | cons y r ih =>
      simp only [litAll]
      cases hx' with
      | head => rw [ha]; simp [hn]
      | tail _ hm =>
        split
        · rw [ih hm, Bool.and_false]
        · rfl
  unfold litOp
  rw [this, Bool.and_false]
  rfl

/-- A read's kind. -/
theorem reads_cases (hk : kindOf T o = .reads) : (∃ t a, o.op = .load t a) ∨ (∃ t m k ok, o.op = .lookup t m k ok) ∨ (∃ src dst x e, o.op = .convert src dst x ∧ und T src = some (.slice e) ∧ und T dst = some .string) ∨
    ∃ c t k e, o.op = .call c ∧ c.callee = .builtin .len ∧ c.argTypes[0]? = some t ∧ und T t = some (.map k e) := by
  unfold kindOf at hk
  split at hk <;> try cases hk
  case h_22 t a ho => exact .inl ⟨t, a, ho⟩
  case h_23 t m k ok ho => exact .inr (.inl ⟨t, m, k, ok, ho⟩)
  case h_24 src dst x ho =>
    split at hk <;> try cases hk
    rename_i e h1 h2
    exact .inr (.inr (.inl ⟨src, dst, x, e, ho, h1, h2⟩))
  case h_25 c ho =>
    split at hk <;> try cases hk
    rename_i hc
    split at hk <;> try cases hk
    rename_i k e hm
    obtain ⟨t, h1, h2⟩ := Option.bind_eq_some_iff.1 hm
    exact .inr (.inr (.inr ⟨c, t, k, e, ho, hc, h1, h2⟩))

/-- A read done later. -/
theorem read_late {rd : RD} {u : AV} (hk : kindOf T o = .reads) (ha : aop P T o tmps h = some (n, h1)) (hr : rdOf o tmps = some rd) {h2 : AH} (hu : rdA T h2 rd = some u) : h1 = h ∧ aop P T o tmps h2 = some (.val u, h2) := by
  obtain ⟨ds, op, ty, pos, after, guard⟩ := o
  rcases reads_cases hk with ⟨t, a, ho⟩ | ⟨t, m, k, ok, ho⟩ | ⟨src, dst, x, e, ho, e1, e2⟩ | ⟨c, t, k, e, ho, hc, e1, e2⟩
  · simp only at ho
    subst ho
    simp only [rdOf] at hr
    split at hr
    case h_2 => cases hr
    rename_i b off hx
    obtain rfl := Option.some.inj hr
    simp only [rdA] at hu
    simp only [aop, aLoad, hx] at ha ⊢
    obtain ⟨_, _, _, rfl⟩ := val_some ha
    exact ⟨rfl, by simp [hu, val]⟩
  · simp only at ho
    subst ho
    simp only [rdOf] at hr
    split at hr
    case h_2 => cases hr
    rename_i m' k' hm hk'
    obtain rfl := Option.some.inj hr
    simp only [rdA] at hu
    simp only [aop, aLookup, hm, hk'] at ha ⊢
    obtain ⟨_, _, _, rfl⟩ := val_some ha
    exact ⟨rfl, by simp [hu, val]⟩
  · simp only at ho
    subst ho
    simp only [rdOf] at hr
    split at hr
    case h_2 => cases hr
    rename_i b off len cap hx
    obtain rfl := Option.some.inj hr
    simp only [rdA] at hu
    have hl : litOp P ⟨ds, .convert src dst x, ty, pos, after, guard⟩ tmps = none := litOp_none (x := x) (by simp [Op.operands]) hx rfl
    simp only [aop, aConvert, hx, orLit, hl, aConv1, e1, e2] at ha ⊢
    split at ha
    case h_2 => cases ha
    rename_i he
    obtain ⟨_, _, _, rfl⟩ := val_some ha
    exact ⟨rfl, by simp [he, hu, val]⟩
  · simp only at ho
    subst ho
    simp only [rdOf] at hr
    split at hr
    case h_2 => cases hr
    rename_i b hx
    obtain rfl := Option.some.inj hr
    simp only [rdA] at hu
    split at hu
    case h_2 => cases hu
    rename_i es cl hb
    obtain rfl := Option.some.inj hu
    obtain ⟨rest, ht⟩ : ∃ rest, c.argTypes.toList = t :: rest := by
      rw [← Array.getElem?_toList] at e1
      cases hq : c.argTypes.toList with
      | nil => rw [hq] at e1; cases e1
      | cons y r => rw [hq] at e1; exact ⟨r, by simp only [List.getElem?_cons_zero, Option.some.injEq] at e1; rw [e1]⟩
    simp only [aop, aCall, hc, aBuiltin, hx, ht, e2] at ha ⊢
    rw [hb]
    refine ⟨?_, rfl⟩
    split at ha
    · simp only [Option.some.injEq, Prod.mk.injEq] at ha
      exact ha.2.symm
    · cases ha

theorem conv1_same {src dst e : TypeId} {v : AV} {y : AN × AH} (e1 : und T src = some (.slice e)) (e2 : und T dst = some .string) (hy : aConv1 T h src dst v = some y) : y.2 = h := by
  unfold aConv1 at hy
  rw [e1, e2] at hy
  cases v with
  | sl b off len cap =>
    simp only at hy
    split at hy
    · obtain ⟨n', h'⟩ := y
      obtain ⟨_, _, _, rfl⟩ := val_some hy
      rfl
    · cases hy
  | _ => cases hy

/-- A read changes no heap. -/
theorem read_same (hk : kindOf T o = .reads) (ha : aop P T o tmps h = some (n, h1)) : h1 = h := by
  obtain ⟨ds, op, ty, pos, after, guard⟩ := o
  rcases reads_cases hk with ⟨t, a, ho⟩ | ⟨t, m, k, ok, ho⟩ | ⟨src, dst, x, e, ho, e1, e2⟩ | ⟨c, t, k, e, ho, hc, e1, e2⟩
  · simp only at ho
    subst ho
    simp only [aop, aLoad] at ha
    split at ha
    · obtain ⟨_, _, _, rfl⟩ := val_some ha
      rfl
    · cases ha
  · simp only at ho
    subst ho
    simp only [aop, aLookup] at ha
    split at ha
    · obtain ⟨_, _, _, rfl⟩ := val_some ha
      rfl
    · cases ha
  · simp only at ho
    subst ho
    simp only [aop, aConvert] at ha
    have key : ∀ {kk : Unit → AR}, (∀ x, kk () = some x → x.2 = h) → orLit P ⟨ds, .convert src dst x, ty, pos, after, guard⟩ tmps h kk = some (n, h1) → h1 = h := fun {kk} hkk hor => by
      unfold orLit at hor
      split at hor
      · simp only [Option.some.injEq, Prod.mk.injEq] at hor
        exact hor.2.symm
      · exact hkk _ hor
    split at ha
    · simp only [e1, e2] at ha
      exact key (fun x hx => by cases hx) ha
    · exact key (fun y hy => conv1_same e1 e2 hy) ha
    · cases ha
  · simp only at ho
    subst ho
    obtain ⟨rest, ht⟩ : ∃ rest, c.argTypes.toList = t :: rest := by
      rw [← Array.getElem?_toList] at e1
      cases hq : c.argTypes.toList with
      | nil => rw [hq] at e1; cases e1
      | cons y r => rw [hq] at e1; exact ⟨r, by simp only [List.getElem?_cons_zero, Option.some.injEq] at e1; rw [e1]⟩
    simp only [aop, aCall, hc, aBuiltin, ht] at ha
    split at ha
    case h_4 => simp_all
    case h_5 =>
      split at ha
      · simp only [Option.some.injEq, Prod.mk.injEq] at ha
        exact ha.2.symm
      · cases ha
    all_goals first
      | (unfold orLit at ha
         split at ha
         · simp only [Option.some.injEq, Prod.mk.injEq] at ha
           exact ha.2.symm
         · cases ha)
      | simp_all

/-- A read of plain operands. -/
theorem read_lit (hk : kindOf T o = .reads) (ha : aop P T o tmps h = some (n, h1)) (hr : rdOf o tmps = none) (hl : (litOp P o tmps).isSome = true) : h1 = h ∧ ∀ h2, aop P T o tmps h2 = some (n, h2) := by
  obtain ⟨ds, op, ty, pos, after, guard⟩ := o
  obtain ⟨m, hm⟩ := Option.isSome_iff_exists.1 hl
  rcases reads_cases hk with ⟨t, a, ho⟩ | ⟨t, m, k, ok, ho⟩ | ⟨src, dst, x, e, ho, e1, e2⟩ | ⟨c, t, k, e, ho, hc, e1, e2⟩
  · simp only at ho
    subst ho
    simp only [rdOf] at hr
    simp only [aop, aLoad] at ha
    split at hr
    · cases hr
    · rename_i hno
      split at ha
      · rename_i b off hx
        exact absurd hx (hno b off)
      · cases ha
  · simp only at ho
    subst ho
    simp only [rdOf] at hr
    simp only [aop, aLookup] at ha
    split at hr
    · cases hr
    · rename_i hno
      split at ha
      · rename_i m' k' h1 h2
        exact absurd h2 (hno m' k' h1)
      · cases ha
  · simp only at ho
    subst ho
    have key : ∀ h2, aConvert P T ⟨ds, .convert src dst x, ty, pos, after, guard⟩ tmps h2 src dst x = some (m, h2) := fun h2 => by
      simp only [aop, aConvert] at ha ⊢
      split
      · simp only [e1, e2]
        exact orLit_lit hm
      · exact orLit_lit hm
      · rename_i hx
        rw [hx] at ha
        cases ha
    simp only [aop] at ha ⊢
    rw [key] at ha
    simp only [Option.some.injEq, Prod.mk.injEq] at ha
    obtain ⟨rfl, rfl⟩ := ha
    exact ⟨rfl, key⟩
  · simp only at ho
    subst ho
    obtain ⟨rest, ht⟩ : ∃ rest, c.argTypes.toList = t :: rest := by
      rw [← Array.getElem?_toList] at e1
      cases hq : c.argTypes.toList with
      | nil => rw [hq] at e1; cases e1
      | cons y r => rw [hq] at e1; exact ⟨r, by simp only [List.getElem?_cons_zero, Option.some.injEq] at e1; rw [e1]⟩
    simp only [rdOf] at hr
    have key : ∀ h2, aCall P T ⟨ds, .call c, ty, pos, after, guard⟩ tmps h2 c = some (m, h2) := fun h2 => by
      simp only [aop, aCall, hc, aBuiltin, ht] at ha ⊢
      split
      case h_4 => simp_all
      case h_5 => simp_all
      all_goals first | exact orLit_lit hm | simp_all
    simp only [aop] at ha ⊢
    rw [key] at ha
    simp only [Option.some.injEq, Prod.mk.injEq] at ha
    obtain ⟨rfl, rfl⟩ := ha
    exact ⟨rfl, key⟩

end Go.Proofs.YtfchbkmegicfoaaGreat.Ex
