/- The abstract machine's operations, held against the model's: numbers, conversions, slices, parts. -/
import Derived.Test.YtfchbkmegicfoaaGreatExq
import Derived.Laws.IdiomStrings
import Derived.Laws.MakeOwn
set_option linter.unusedSimpArgs false
set_option linter.unusedVariables false
namespace Go.Proofs.YtfchbkmegicfoaaGreat.Ex
open Go Go.RowKit

variable {P : Program} {T : TT} {ρ : Nat → Value} {fl : Nat} {μ : Mu} {h : AH} {w : World} {tmps : TM} {ev : Operand → Value} {o : Oper} {n : AN} {h' : AH}

theorem rel_lit_scal {u v : Value} (hh : rel ρ μ w (.lit u) v) : scal v = true := by unfold rel at hh; rw [hh.1]; exact hh.2

theorem ofPV_sound {s : Sem Value} {r : Result Next} (hr : HR P ρ fl μ h w) (ha : ofPV h (pur P s) = some (n, h')) (hrun : r = ((s.run P w).andThen fun v w' => .ok (.value v) w')) : OpOK P ρ fl μ h w r n h' := by
  cases hp : pur P s with
  | none => rw [hp] at ha; cases ha
  | some pr =>
    rw [hp] at ha
    have hs := pur_run s pr hp w
    cases pr with
    | ok v =>
      simp only [ofPV, Option.map_eq_some_iff, Prod.mk.injEq] at ha
      obtain ⟨a, h1, rfl, rfl⟩ := ha
      exact valOK_here hr (by rw [hrun, hs]; rfl) (ofScal_rel h1)
    | pan v =>
      simp only [ofPV, Option.map_eq_some_iff, Prod.mk.injEq] at ha
      obtain ⟨a, h1, rfl, rfl⟩ := ha
      exact ⟨rfl, v, by rw [hrun, hs]; rfl, ofVal_rel h1⟩

theorem cmpB_sound {op : BinOp} {a b u f : Bool} {c m : Int} {r : Bool} {t : TypeId} (hc : cmpB op b a u f = some r) (hb : b = true → m < c) (ha : a = true → c < m) (hu : u = true → m ≤ c) (hf : f = true → c ≤ m) :
    (binOp op t (.int .i64 m) (.int .i64 c)).run P w = .ok (.bool r) w := by
  have key : ∀ v : Bool, (binOp op t (.int .i64 m) (.int .i64 c)) = .pure (.bool v) → v = r → (binOp op t (.int .i64 m) (.int .i64 c)).run P w = .ok (.bool r) w := fun v e1 e2 => by rw [e1, e2]; rfl
  cases op <;> simp only [cmpB, reduceCtorEq] at hc
  case eql => 
    refine key (m == c) (by simp [binOp, Op.intCmp]; rfl) ?_
    cases b <;> cases a <;> simp at hc hb ha ⊢ <;> subst hc <;> simp <;> omega
  case neq =>
    refine key (m != c) (by simp [binOp, Op.intCmp]; rfl) ?_
    cases b <;> cases a <;> simp at hc hb ha ⊢ <;> subst hc <;> simp <;> omega
  case lss =>
    refine key (decide (m < c)) (by simp [binOp, Op.intCmp]; rfl) ?_
    cases b <;> cases f <;> simp at hc hb hf ⊢ <;> subst hc <;> simp <;> omega
  case leq =>
    refine key (decide (m ≤ c)) (by simp [binOp, Op.intCmp]; rfl) ?_
    cases u <;> cases a <;> simp at hc hu ha ⊢ <;> subst hc <;> simp <;> omega
  case gtr =>
    refine key (decide (m > c)) (by simp [binOp, Op.intCmp]; rfl) ?_
    cases u <;> cases a <;> simp at hc hu ha ⊢ <;> subst hc <;> simp <;> omega
  case geq =>
    refine key (decide (m ≥ c)) (by simp [binOp, Op.intCmp]; rfl) ?_
    cases b <;> cases f <;> simp at hc hb hf ⊢ <;> subst hc <;> simp <;> omega

theorem cmpR_sound {op : BinOp} {lo hi : Option Int} {c m : Int} {r : Bool} {t : TypeId} (hc : cmpR op lo hi c = some r) (hlo : ∀ a, lo = some a → a ≤ m) (hhi : ∀ b, hi = some b → m ≤ b) :
    (binOp op t (.int .i64 m) (.int .i64 c)).run P w = .ok (.bool r) w := by
  refine cmpB_sound hc (fun h => ?_) (fun h => ?_) (fun h => ?_) (fun h => ?_)
  · cases hi <;> simp [ltO] at h; have := hhi _ rfl; omega
  · cases lo <;> simp [gtO] at h; have := hlo _ rfl; omega
  · cases hi <;> simp [ltO] at h; have := hhi _ rfl; omega
  · cases lo <;> simp [gtO] at h; have := hlo _ rfl; omega

theorem op_bin {op : BinOp} {t ty : TypeId} {x y : Operand} (hT : TT.Sound P T) (hr : HR P ρ fl μ h w) (he : EnvR ρ μ w tmps ev) (ho : o.op = .binOp op t x y ty) (ha : aBin P T o tmps h op t x y = some (n, h')) :
    OpOK P ρ fl μ h w ((execOp ev o).run P w) n h' := by
  unfold aBin at ha
  split at ha
  · exact orLit_sound hr he ha fun hk => op_same hT hr he ho hk
  · rename_i a b hne hx hy
    have h1 := he x _ hx
    have h2 := he y _ hy
    have e1 := rel_lit_inv h1
    have e2 := rel_lit_inv h2
    have hs := rel_lit_scal h1
    refine ofPV_sound hr ha ?_
    rw [← e1, ← e2]
    simp only [execOp, ho, Sem.run_bind]
    rw [eqGuard_run (fun hh => by
      rw [e1] at hh
      exact hne hh.1) (fun cs hcs => by rw [hcs] at hs; cases hs)]
    simp only [Result.andThen_ok]
    rfl
  · rename_i i lo hi c hx hy
    have h1 := he x _ hx
    have e2 := rel_lit_inv (he y _ hy)
    unfold rel at h1
    obtain ⟨_, m, e1, hlo, hhi⟩ := h1
    simp only [val, Option.map_eq_some_iff, Prod.mk.injEq] at ha
    obtain ⟨a, ⟨r, hc, rfl⟩, rfl, rfl⟩ := ha
    refine valOK_here hr ?_ (rel_lit (v := .bool r) rfl)
    simp only [execOp, ho, Sem.run_bind]
    rw [eqGuard_run (fun hh => by rw [e1] at hh; cases hh.1) (fun cs hcs => by rw [e1] at hcs; cases hcs)]
    simp only [Result.andThen_ok]
    rw [e1, e2, cmpR_sound hc hlo hhi]
    rfl
  · exact orLit_sound hr he ha fun hk => op_same hT hr he ho hk

theorem op_un {op : UnOp} {t : TypeId} {x : Operand} (hr : HR P ρ fl μ h w) (he : EnvR ρ μ w tmps ev) (ho : o.op = .unOp op t x) (ha : aUn P tmps h op x = some (n, h')) :
    OpOK P ρ fl μ h w ((execOp ev o).run P w) n h' := by
  unfold aUn at ha
  split at ha
  · rename_i a hx
    have e1 := rel_lit_inv (he x _ hx)
    refine ofPV_sound hr ha ?_
    rw [← e1]
    simp only [execOp, ho, Sem.run_bind]
    rfl
  · cases ha

theorem rel_sl_inv {b off len : Nat} {cap : Cap} {v : Value} (hh : rel ρ μ w (.sl b off len cap) v) : ∃ r base o c, μ b = some (r, base) ∧ v = .slice (some ⟨r, o, none⟩) len c ∧ (c = 0 ∨ o = base + off) ∧ capRel w r (base + off) len cap c := by unfold rel at hh; exact hh

theorem capRel_le {r o' len c : Nat} {cap : Cap} (hh : capRel w r o' len cap c) : len ≤ c ∧ c ≤ maxLen := by
  cases cap with
  | kn k => obtain ⟨rfl, h2, h3⟩ := hh; exact ⟨h2, h3⟩
  | un z => exact ⟨hh.1, hh.2.1⟩

theorem bytesA_some : ∀ {l : List AV} {bs : List UInt8} {vs : List Value}, bytesA l = some bs → rels ρ μ w l vs → vs = bs.map bv
  | [], bs, vs, hb, hv => by
    simp only [bytesA, Option.some.injEq] at hb
    subst hb
    rw [rels_nil_inv hv]
    rfl
  | x :: r, bs, vs, hb, hv => by
    unfold bytesA at hb
    split at hb
    · rename_i hnil; cases hnil
    · rename_i k r' heq
      obtain ⟨rfl, rfl⟩ := List.cons.inj heq
      cases hk : Nat.blt k 256 with
      | false => rw [hk] at hb; cases hb
      | true =>
        rw [hk] at hb
        simp only [cond_true, Option.map_eq_some_iff] at hb
        obtain ⟨bs', h1, rfl⟩ := hb
        obtain ⟨v, vs', rfl, h2, h3⟩ := rels_cons_inv hv
        have hk2 : k < 256 := Nat.blt_eq.mp hk
        rw [rel_lit_inv h2, bytesA_some h1 h3, List.map_cons]
        congr 1
        unfold bv
        congr 1
        simp
        omega
    · cases hb

/-- The bytes of a slice, read. -/
theorem bytesAt_reads {b off len : Nat} {cap : Cap} {v : Value} {bs : List UInt8} (hr : HR P ρ fl μ h w) (hv : rel ρ μ w (.sl b off len cap) v) (hb : bytesAt h b off len = some bs) :
    ∃ r base, μ b = some (r, base) ∧ bs.length = len ∧ Reads w 1 v len (bs.map bv) (some r) := by
  obtain ⟨r, base, o', c, h1, rfl, h2, h3⟩ := rel_sl_inv hv
  obtain ⟨h4, h5⟩ := capRel_le h3
  unfold bytesAt at hb
  split at hb
  case h_2 => cases hb
  rename_i l hg
  split at hb
  case h_2 => cases hb
  rename_i cs hc
  obtain ⟨cur, e, fz, k1, k2⟩ := getR_sound hr h1 hg
  obtain ⟨vs, k3, k4, k5, k6, k7⟩ := cut_sound k2 hc
  obtain rfl := bytesA_some hb k3
  have hlen : bs.length = len := by simpa using k4
  refine ⟨r, base, h1, hlen, by simp [hlen], ?_⟩
  by_cases hc0 : len = 0
  · exact .inl ⟨_, c, by rw [hc0], hc0⟩
  · refine .inr ⟨r, o', c, rfl, rfl, h4, h5, fun j hj => ?_⟩
    obtain rfl : o' = base + off := h2.resolve_left (by omega)
    rw [cell_in k1, List.getElem?_eq_getElem hj]
    exact k7 j _ (List.getElem?_eq_getElem hj)

theorem freeze_one {r : Nat} {cur : Array Value} {e : TypeId} {fz : Nat × Nat} (hg : w.heap[r]? = some (.cells cur e fz)) (k m : Nat) : One r w (w.freeze ⟨r, k, none⟩ m) ∧ ∃ fz', (w.freeze ⟨r, k, none⟩ m).heap[r]? = some (.cells cur e fz') := by
  unfold World.freeze
  split
  · exact ⟨⟨rfl, fun _ _ => rfl, Grows.refl w, ⟨rfl, rfl, rfl⟩⟩, fz, hg⟩
  · obtain ⟨a, b⟩ := fz
    have key : ∀ j, j ≠ r → (w.heap.modify r fun
        | .cells c elem (lo, hi) => .cells c elem (if lo == hi then (k, k + m) else (min lo k, max hi (k + m)))
        | o => o)[j]? = w.heap[j]? := fun j hj => by rw [Array.getElem?_modify, if_neg (Ne.symm hj)]
    refine ⟨⟨by simp, key, fun j cur' e' fz' hj => ?_, ⟨rfl, rfl, rfl⟩⟩, (if a == b then (k, k + m) else (min a k, max b (k + m))), by simp [Array.getElem?_modify, hg]⟩
    by_cases hjr : j = r
    · subst hjr
      rw [hg] at hj
      obtain ⟨rfl, rfl, rfl⟩ := Obj.cells.inj (Option.some.inj hj)
      exact ⟨cur, e, _, by simp [Array.getElem?_modify, hg]; rfl, rfl⟩
    · exact ⟨cur', e', fz', by show (w.heap.modify r _)[j]? = _; rw [Array.getElem?_modify, if_neg (Ne.symm hjr)]; exact hj, rfl⟩

theorem byteCells_rels (s : ByteArray) (rest : Array Value) : window ρ μ w 0 (byteCells s) (s.data.map (fun b => Value.int .u8 b.toNat) ++ rest) := by
  refine ⟨by simp [byteCells], fun i x hx => ?_⟩
  unfold byteCells at hx
  rw [List.getElem?_map] at hx
  cases hb : s.data.toList[i]? with
  | none => rw [hb] at hx; cases hx
  | some b =>
    rw [hb] at hx
    simp only [Option.map_some, Option.some.injEq] at hx
    subst hx
    rw [Array.getElem?_toList] at hb
    have hlt := (Array.getElem?_eq_some_iff.1 hb).1
    refine ⟨.int .u8 b.toNat, ?_, rel_lit rfl⟩
    rw [Nat.zero_add, Array.getElem?_append_left (by simpa using hlt), Array.getElem?_map, hb]
    rfl

theorem aConv1_sound {src dst : TypeId} {a : AV} {x : Value} (hT : TT.Sound P T) (hr : HR P ρ fl μ h w) (hx : rel ρ μ w a x) (ha : aConv1 T h src dst a = some (n, h')) {r : Result Next}
    (hrun : r = (((convert src dst x).run P w).andThen fun v w' => .ok (.value v) w')) : OpOK P ρ fl μ h w r n h' := by
  unfold aConv1 at ha
  split at ha
  · rename_i e b off len cap hs hd
    split at ha
    case h_2 => cases ha
    rename_i he
    obtain ⟨y, hy, rfl, rfl⟩ := val_some ha
    simp only [Option.map_eq_some_iff] at hy
    obtain ⟨bs, hb, rfl⟩ := hy
    obtain ⟨r1, base, h1, h2, h3⟩ := bytesAt_reads hr hx hb
    refine valOK_here hr (v' := .string ⟨bs.toArray⟩) ?_ (rel_lit rfl)
    rw [hrun, h3.string_run (und_P hT hs) (und_P hT he) (und_P hT hd)]
    rfl
  · rename_i e0 e b off len cap hs hd
    split at ha
    case isFalse => cases ha
    rename_i hsd
    obtain rfl : src = dst := by simpa using hsd
    split at ha
    case h_2 => cases ha
    rename_i l e' he hg
    simp only [Option.some.injEq, Prod.mk.injEq] at ha
    obtain ⟨rfl, rfl⟩ := ha
    obtain ⟨r1, base, o', c, h1, rfl, h2, h3⟩ := rel_sl_inv hx
    obtain ⟨cur, k1, k2, _⟩ := getB_sound hr h1 hg
    obtain ⟨f1, fz', f2⟩ := freeze_one k1 cur.size 1
    have heff := Eff.upd hr h1 (getB_R hg).1 rfl f1 f2 (ab' := .frz l e') ⟨cur, fz', rfl, k2.1, fun i x hi => by
      obtain ⟨v, q1, q2⟩ := k2.2 i x hi
      exact ⟨v, q1, rel.mono (More.refl μ) f1.grows _ _ q2⟩⟩
    refine ⟨μ, _, .slice (some ⟨r1, o', none⟩) len c, .inl ?_, heff, rel.mono (More.refl μ) f1.grows _ _ hx⟩
    have hsh : w.shape? r1 = some (e', cur.size) := by simp [World.shape?, k1]
    have hcv : (convert src src (.slice (some ⟨r1, o', none⟩) len c)).run P w = .ok (.slice (some ⟨r1, o', none⟩) len c) (w.freeze ⟨r1, cur.size, none⟩ 1) := by
      simp [convert, run_und hT hd, run_und hT he, markStringish, hsh]
    rw [hrun, hcv]
    rfl
  · rename_i e s hs hd
    split at ha
    case h_2 => cases ha
    rename_i he
    cases hlb : Nat.ble s.size 16777216 with
    | false => rw [hlb] at ha; cases ha
    | true =>
    rw [hlb] at ha
    simp only [cond_true, Option.some.injEq, Prod.mk.injEq] at ha
    obtain ⟨rfl, rfl⟩ := ha
    have hlen : s.size ≤ maxLen := by
      have := Nat.ble_eq.mp hlb
      simp only [maxLen]
      omega
    obtain rfl := rel_lit_inv hx
    have hcv := run_bytes_of_string (P := P) w src dst e s (und_P hT hs) (und_P hT hd) (und_P hT he)
    have e1 : Eff P ρ fl μ h w μ h w.drew := Eff.drew hr 1
    have e2 := Eff.alloc e1.hr (ab := .frz (byteCells s) e) (o := .cells (bytesRow s (grownCap w s.size 0 e)) e ((bytesRow s (grownCap w s.size 0 e)).size, (bytesRow s (grownCap w s.size 0 e)).size + 1)) ⟨_, _, rfl, byteCells_rels s _⟩
    have hge := grownCap_ge w s.size 0 e
    have hsz : (bytesRow s (grownCap w s.size 0 e)).size = grownCap w s.size 0 e := by
      have : s.data.size = s.size := rfl
      simp [bytesRow, this]
      omega
    refine ⟨_, _, .slice (some ⟨w.heap.size, 0, none⟩) s.size (grownCap w s.size 0 e), .inl ?_, e1.trans hr e2, ?_⟩
    · rw [hrun, hcv]
      rfl
    · unfold rel
      refine ⟨w.heap.size, 0, 0, _, up_same _ _ _, rfl, .inr rfl, hge, grownCap_le_maxLen w s.size 0 e hlen, by omega, ?_⟩
      refine ⟨_, _, _, heap_alloc_new' w.drew _, ?_⟩
      rw [hsz]
      omega
  · cases ha

end Go.Proofs.YtfchbkmegicfoaaGreat.Ex
