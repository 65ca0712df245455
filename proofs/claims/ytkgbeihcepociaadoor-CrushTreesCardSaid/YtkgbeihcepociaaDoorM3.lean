/- Part 3 of the proof: Exv, Exw, Exm, Exn, Exx, Exy. -/
import Derived.Defers
import Derived.Test.YtkgbeihcepociaaDoorM2
section

set_option linter.unusedSimpArgs false
set_option linter.unusedVariables false
namespace Go.Proofs.YtkgbeihcepociaaDoor.Ex
open Go Go.RowKit
variable {P : Program} {T : TT} {ρ : Nat → Value} {fl : Nat} {μ : Mu} {h : AH} {w : World} {tmps : TM} {ev : Operand → Value} {o : Oper} {n : AN} {h' : AH}
theorem map_inv {b : Nat} {es : List AE} {clock : Nat} {v : Value} (hr : HR P ρ fl μ h w) (hv : rel ρ μ w (.mp b) v) (hb : h.at b = some (.map es clock)) :
    ∃ r res, μ b = some (r, 0) ∧ v = .map (some r) ∧ w.heap[r]? = some (.map res clock) ∧ entsRel ρ μ w es res.toList := by
  unfold rel at hv
  obtain ⟨r, hr1, hv⟩ := hv
  obtain ⟨_, _, ob, o1, o2⟩ := hr.obj b r 0 _ hr1 hb
  obtain ⟨res, rfl, _, o3⟩ := o2
  exact ⟨r, res, hr1, hv, o1, o3⟩
/-- A map's entries are laid anew. -/
theorem map_eff {b r clock clock' : Nat} {es es' : List AE} {res res' : Array MapEntry} (hr : HR P ρ fl μ h w) (hb : μ b = some (r, 0)) (hx : h.at b = some (.map es clock)) (hg : w.heap[r]? = some (.map res clock)) (he : entsRel ρ μ w es' res'.toList) :
    Eff P ρ fl μ h w μ (h.put b (.map es' clock')) { w with heap := w.heap.setIfInBounds r (.map res' clock') } := by
  obtain ⟨h1, h2⟩ := setObj_one hg (.map res' clock') trivial
  exact Eff.upd hr hb hx rfl h1 h2 ⟨res', rfl, rfl, entsRel.mono (More.refl μ) h1.grows he⟩
theorem updateA_sound {t : TypeId} {m k x : AV} {rm rk rx : Value} (hT : TT.Sound P T) (hr : HR P ρ fl μ h w) (hm : rel ρ μ w m rm) (hk : rel ρ μ w k rk) (hx : rel ρ μ w x rx) (hu : updateA T h t m k x = some h') :
    ∃ w', (Instr.mapUpdate t rm rk rx).run P w = .ok () w' ∧ Eff P ρ fl μ h w μ h' w' := by
  unfold updateA at hu
  split at hu
  case h_2 => cases hu
  rename_i b key hkey
  split at hu
  case h_2 => cases hu
  rename_i es clock hb
  obtain ⟨r, res, m1, rfl, m2, m3⟩ := map_inv hr hm hb
  obtain ⟨hkv, hks⟩ := keyOf_rel hkey hk
  subst hkv
  have hgo : (getObj r).run P w = .ok (.map res clock) w := by simp [getObj, Sem.run, m2]
  split at hu
  · rename_i i v hf
    obtain rfl := Option.some.inj hu
    obtain ⟨kt, e, hu1, hck, g, g1, v', rfl, g2, e', g4, g5⟩ := findT_sound hT m3 hf
    obtain ⟨a0, hck⟩ := hck false w
    simp only [Array.getElem?_toList] at g4
    refine ⟨_, ?_, map_eff hr m1 hb m2 (res' := res.modify i fun e => { e with key := rk, val := rx }) ?_⟩
    · have hkt : (Instr.keyThatStays e'.key rk).run P w = .ok rk w := by
        unfold Instr.keyThatStays
        rw [if_pos g5]
        rfl
      simp [Instr.mapUpdate, run_und hT hu1, hgo, hck, g1 w, g4, hkt, run_setObj_map m2]
    · rw [Array.toList_modify]
      exact entsRel_modify i m3 fun a e q => ⟨rfl, hks, hx, q.2.2.2⟩
  · rename_i hf
    obtain rfl := Option.some.inj hu
    obtain ⟨kt, e, hu1, hck, g, g1, rfl⟩ := findT_sound hT m3 hf
    obtain ⟨a0, hck⟩ := hck false w
    refine ⟨_, ?_, map_eff hr m1 hb m2 (res' := res.push { key := rk, val := rx, born := clock }) ?_⟩
    · simp [Instr.mapUpdate, run_und hT hu1, hgo, hck, g1 w, run_setObj_map m2]
    · rw [Array.toList_push]
      exact entsRel_append m3 ⟨_, [], rfl, ⟨rfl, hks, hx, rfl⟩, rfl⟩
  · cases hu
theorem op_update {t : TypeId} {m k x : Operand} (hT : TT.Sound P T) (hr : HR P ρ fl μ h w) (he : EnvR ρ μ w tmps ev) (ho : o.op = .mapUpdate t m k x ∨ o.op = .insert t m k x) (ha : aUpdate T tmps h t m k x = some (n, h')) :
    OpOK P ρ fl μ h w ((execOp ev o).run P w) n h' := by
  unfold aUpdate at ha
  split at ha
  · rename_i am ak ax hm hk hx
    simp only [Option.map_eq_some_iff, Prod.mk.injEq] at ha
    obtain ⟨h1, h2, rfl, rfl⟩ := ha
    obtain ⟨w', q1, q2⟩ := updateA_sound hT hr (he m _ hm) (he k _ hk) (he x _ hx) h2
    refine ⟨μ, w', undef, .inr ⟨?_, rfl⟩, q2, rel_undef⟩
    rcases ho with ho | ho <;> simp [execOp, ho, q1]
  · cases ha
theorem set_same {h : List AB} {b : Nat} {x : AB} (hb : h[b]? = some x) : h.set b x = h := by
  apply List.ext_getElem?
  intro i
  by_cases hi : b = i
  · subst hi
    rw [List.getElem?_set_self (List.getElem?_eq_some_iff.1 hb).1, hb]
  · rw [List.getElem?_set_ne hi]
theorem deleteA_sound {t ty : TypeId} {l : List TypeId} {m k : AV} {rm rk : Value} (hT : TT.Sound P T) (hr : HR P ρ fl μ h w) (hm : rel ρ μ w m rm) (hk : rel ρ μ w k rk) (hu : deleteA T h t m k = some h') :
    ∃ w', (Builtin.delete_ (t :: l).toArray ty #[rm, rk]).run P w = .ok (.tuple #[]) w' ∧ Eff P ρ fl μ h w μ h' w' := by
  unfold deleteA at hu
  split at hu
  · rename_i key hkey
    split at hu
    case h_2 => cases hu
    rename_i g0 hf
    obtain rfl := Option.some.inj hu
    obtain ⟨hkv, hks⟩ := keyOf_rel hkey hk
    subst hkv
    obtain ⟨kt, e, hu1, hck, _⟩ := findT_sound (ρ := ρ) (μ := μ) (w := w) (es := []) (res := []) hT rfl hf
    have h1 := rel_lit_inv hm
    obtain ⟨a0, hck⟩ := hck true w
    refine ⟨w, ?_, Eff.refl hr⟩
    simp [Builtin.delete_, h1, run_und hT hu1, hck]
  · rename_i b key hkey
    split at hu
    case h_2 => cases hu
    rename_i es clock hb
    obtain ⟨r, res, m1, rfl, m2, m3⟩ := map_inv hr hm hb
    obtain ⟨hkv, hks⟩ := keyOf_rel hkey hk
    subst hkv
    have hgo : (getObj r).run P w = .ok (.map res clock) w := by simp [getObj, Sem.run, m2]
    split at hu
    · rename_i i v hf
      obtain rfl := Option.some.inj hu
      obtain ⟨kt, e, hu1, hck, g, g1, v', rfl, g2, e', g4, g5⟩ := findT_sound hT m3 hf
      obtain ⟨a0, hck⟩ := hck res.isEmpty w
      refine ⟨_, ?_, map_eff hr m1 hb m2 (res' := res.eraseIdxIfInBounds i) (clock' := clock) ?_⟩
      · simp [Builtin.delete_, run_und hT hu1, hgo, hck, g1 w, run_setObj_map m2]
      · simp only [Array.getElem?_toList] at g4
        have hlt := (Array.getElem?_eq_some_iff.1 g4).1
        have : (res.eraseIdxIfInBounds i).toList = res.toList.eraseIdx i := by
          unfold Array.eraseIdxIfInBounds
          rw [dif_pos hlt, Array.toList_eraseIdx]
        rw [this]
        exact entsRel_erase i m3
    · rename_i hf
      obtain rfl := Option.some.inj hu
      obtain ⟨kt, e, hu1, hck, g, g1, rfl⟩ := findT_sound hT m3 hf
      obtain ⟨a0, hck⟩ := hck res.isEmpty w
      have := map_eff (es' := es) (res' := res) (clock' := clock) hr m1 hb m2 m3
      refine ⟨_, ?_, this.alike (by rw [L_put]; exact set_same (by rw [L_at]; exact hb))⟩
      simp [Builtin.delete_, run_und hT hu1, hgo, hck, g1 w, run_setObj_map m2]
    · cases hu
  · cases hu
/-! Append and copy. -/
theorem srcD_kind {z : Nat} {tx : TypeId} {dx : TypeDesc} (hu : P.underlying tx = some dx) (hk : isSrcD z dx = true) : ((∃ e', P.underlying tx = some (.slice e')) ∨ P.underlying tx = some .string) := by
  cases dx <;> first | exact .inl ⟨_, hu⟩ | exact .inr hu | cases hk
theorem rels_byteCells (s : ByteArray) : rels ρ μ w (byteCells s) (Go.byteCells s) := by
  unfold byteCells Go.byteCells
  induction s.data.toList with
  | nil => exact rels_nil
  | cons b r ih => exact rels_cons (rel_lit rfl) ih
theorem srcA_sound {z m : Nat} {tx : TypeId} {dx : TypeDesc} {x : AV} {v : Value} {new : List AV} (hT : TT.Sound P T) (hr : HR P ρ fl μ h w) (hd : und T tx = some dx) (hk : isSrcD z dx = true) (hv : rel ρ μ w x v)
    (hl : lenA x = some m) (hs : srcA h z x = some new) (hn : new.length = m * z) (h1 : new.all AV.one = true) :
    ∃ vs, rels ρ μ w new vs ∧ Src P z tx v m vs w := by
  have hu := und_P hT hd
  have hkind := srcD_kind hu hk
  unfold srcA at hs
  split at hs
  · obtain rfl := Option.some.inj hs
    obtain rfl := rel_lit_inv hv
    simp only [lenA, Option.some.injEq] at hl
    subst hl
    exact ⟨[], rels_nil, hkind, fun _ => rfl, run_firstCells_none w z 0 0 0, run_firstCells_none w.drew z 0 0 0, by simp, by simp⟩
  · rename_i s
    cases hz1 : Nat.beq z 1 with
    | false => rw [hz1] at hs; cases hs
    | true =>
    rw [hz1] at hs
    obtain rfl := Nat.eq_of_beq_eq_true hz1
    obtain rfl := Option.some.inj hs
    obtain rfl := rel_lit_inv hv
    simp only [lenA, Option.some.injEq] at hl
    subst hl
    refine ⟨Go.byteCells s, rels_byteCells s, hkind, fun _ => rfl, firstCells_string s w, firstCells_string s w.drew, by rw [byteCells_length, Nat.mul_one], fun u hu => ?_⟩
    obtain ⟨_, _, rfl⟩ := List.mem_map.1 hu
    rfl
  · rename_i b off len cap
    split at hs
    case h_2 => cases hs
    rename_i l hg
    simp only [lenA, Option.some.injEq] at hl
    subst hl
    rcases rel_sl_inv hv with ⟨r, base, o', c, q1, rfl, q2, q3⟩ | ⟨rfl, rfl, ad, rfl⟩
    rotate_left
    · unfold cut at hs
      split at hs
      case isFalse => cases hs
      obtain rfl := Option.some.inj hs
      simp only [Nat.zero_mul, List.take_zero]
      exact ⟨[], rels_nil, hkind, fun _ => rfl, run_firstCells_some w z 0 ad 0 0 [] (by simp) (fun j u hu => by simp at hu), run_firstCells_some w.drew z 0 ad 0 0 [] (by simp) (fun j u hu => by simp at hu), by simp, by simp⟩
    obtain ⟨cur, e, fz, k1, k2⟩ := getR_sound hr q1 hg
    obtain ⟨vs, k3, k4, k5, k6, k7⟩ := cut_sound k2 hs
    have hle := (capRel_le q3).1
    have hcell : ∀ j u, vs[j]? = some u → w.cell? ((⟨r, o', none⟩ : Addr).add j) = some u := fun j u hu => by
      have hj := (List.getElem?_eq_some_iff.1 hu).1
      have : 0 < len := by
        rcases Nat.eq_zero_or_pos len with h0 | h0
        · subst h0; simp only [Nat.zero_mul] at k4; omega
        · exact h0
      obtain rfl : o' = base + off := q2.resolve_left (by omega)
      rw [addr_add, cell_in k1]
      exact k7 j u hu
    exact ⟨vs, k3, hkind, fun _ => rfl, run_firstCells_some w z len _ len c vs k4 hcell, run_firstCells_some w.drew z len _ len c vs k4 (by simpa using hcell), k4, rels_one k3 h1⟩
  · cases hs
theorem window_append {l : List AV} {vs : List Value} {rest : Array Value} (hh : rels ρ μ w l vs) : window ρ μ w 0 l (vs.toArray ++ rest) := by
  refine ⟨by simp; have := rels_length hh; omega, fun i x hx => ?_⟩
  obtain ⟨v, h1, h2⟩ := rels_get hh hx
  refine ⟨v, ?_, h2⟩
  rw [Nat.zero_add, Array.getElem?_append_left (by simpa using (List.getElem?_eq_some_iff.1 h1).1)]
  simpa using h1
theorem size_zeroCells' (z : Array Value) (k : Nat) : (Builtin.zeroCells z k).size = k * z.size := by simp [Builtin.zeroCells]
/-- A new row for an append that finds no room. -/
theorem append_new {t tx ty e : TypeId} {i : TI} {len c m : Nat} {base : Option Addr} {x : Value} {olds news : List AV} {ovs nvs : List Value} (hT : TT.Sound P T) (hr : HR P ρ fl μ h w) (hu : und T t = some (.slice e)) (hi : T e = some i)
    (hzl : i.zero.cells.length = i.size) (hz0 : 0 < i.size) (hbg : bigT P e = false) (hlen : len + m ≤ 4611686018427387904) (hby : (len + m) * i.bytes ≤ 140737488355328) (hold : (Builtin.firstCells i.size len (.slice base len c)).run P w.drew = .ok ovs.toArray w.drew) (ho : rels ρ μ w olds ovs) (hol : ovs.length = len * i.size)
    (hn : rels ρ μ w news nvs) (hs : Src P i.size tx x m nvs w) (hc : c < len + m) :
    valOK P ρ fl μ h w (((Builtin.append_ #[t, tx] ty #[.slice base len c, x]).run P w).andThen fun v w' => .ok (.value v) w') (.sl h.n 0 (len + m) (.un i.size)) (h.push (.cells (olds ++ news) e)) := by
  obtain ⟨info, z, g1, g2, g3, g4, g5⟩ := hT.info e i hi
  have hzr := rel_cells (ofVal1_rel (ρ := ρ) (μ := μ) (w := w) g5)
  have hzs := rels_length hzr
  rw [Array.length_toList] at hzs
  have hmax : len + m ≤ maxLen := by simp only [maxLen]; omega
  rw [← g2] at hold hs
  have hrun := run_append_grow_src (P := P) w t tx ty e info z (und_P hT hu) g1 g4 base len c ovs hold x m nvs hs hc (by simp only [maxLen] at hmax; omega) (growslice_fits hc (by rw [g3]; exact hby))
  have hge := grownCap_ge w (len + m) c e
  have hcm := grownCap_le_maxLen w (len + m) c e hmax
  have e1 : Eff P ρ fl μ h w μ h w.drew := Eff.drew hr 1
  have e2 := Eff.alloc e1.hr (ab := .cells (olds ++ news) e) (o := .cells ((ovs ++ nvs).toArray ++ Builtin.zeroCells z.cells (grownCap w (len + m) c e - (len + m))) e) ⟨_, rfl, window_append (rels_append (rels.mono (More.refl μ) e1.grows _ _ ho) (rels.mono (More.refl μ) e1.grows _ _ hn)), fun hb => by rw [hbg] at hb; cases hb⟩
  refine ⟨_, _, _, .inl (by rw [hrun]; rfl), e1.trans hr e2, ?_⟩
  unfold rel
  refine .inl ⟨w.heap.size, 0, 0, _, up_same _ _ _, rfl, .inr rfl, hge, hcm, hz0, ?_⟩
  refine ⟨_, _, _, heap_alloc_new' w.drew _, ?_⟩
  have hnl := hs.newsLen
  rw [g2] at hnl
  simp only [Array.size_append, List.size_toArray, List.length_append, size_zeroCells', hzs, hzl, hol, hnl]
  rw [← Nat.add_mul, ← Nat.add_mul, Nat.zero_add]
  exact Nat.mul_le_mul_right _ (by omega)
theorem appendA_sound {t tx ty : TypeId} {s x a : AV} {rs rx : Value} (hT : TT.Sound P T) (hr : HR P ρ fl μ h w) (hs : rel ρ μ w s rs) (hx : rel ρ μ w x rx) (ha : appendA T h t tx s x = some (a, h')) :
    valOK P ρ fl μ h w (((Builtin.append_ #[t, tx] ty #[rs, rx]).run P w).andThen fun v w' => .ok (.value v) w') a h' := by
  unfold appendA at ha
  split at ha
  case h_2 => cases ha
  rename_i e dx hu hdx
  split at ha
  case h_2 => cases ha
  rename_i i m k hi hm hk
  generalize hc : (isSrcD i.size dx && Nat.blt 0 i.size && Nat.ble i.size 200 && Nat.beq i.zero.cells.length i.size && Nat.ble (k + m) 4611686018427387904 && Nat.ble ((k + m) * i.bytes) 140737488355328) = cb at ha
  cases cb with
  | false => cases ha
  | true =>
  simp only [Bool.and_eq_true] at hc
  obtain ⟨⟨⟨⟨⟨c1, c2⟩, c6⟩, c3⟩, c4⟩, c5⟩ := hc
  have c6 := Nat.ble_eq.mp c6
  have c2 := Nat.blt_eq.mp c2
  have c3 := Nat.eq_of_beq_eq_true c3
  have c4 := Nat.ble_eq.mp c4
  have c5 := Nat.ble_eq.mp c5
  simp only [cond_true] at ha
  split at ha
  case h_2 => cases ha
  rename_i new hnew
  generalize hc : (Nat.beq new.length (m * i.size) && new.all AV.one) = cb at ha
  cases cb with
  | false => cases ha
  | true =>
  simp only [Bool.and_eq_true] at hc
  have d1 := Nat.eq_of_beq_eq_true hc.1
  simp only [cond_true] at ha
  obtain ⟨vs, v1, v2⟩ := srcA_sound (P := P) (tx := tx) hT hr hdx c1 hx hm hnew d1 hc.2
  obtain ⟨info, z, g1, g2, g3, g4, g5⟩ := hT.info e i hi
  have hbg : bigT P e = false := by
    unfold bigT
    rw [g1, Bool.eq_false_iff]
    intro hb
    have := Nat.blt_eq.mp hb
    simp at this
    omega
  unfold appendB at ha
  split at ha
  · obtain rfl := rel_lit_inv hs
    simp only [lenA, Option.some.injEq] at hk
    subst hk
    cases hm0 : Nat.beq m 0 with
    | true =>
      rw [hm0] at ha
      simp only [cond_true, Option.some.injEq, Prod.mk.injEq] at ha
      obtain ⟨rfl, rfl⟩ := ha
      obtain rfl := Nat.eq_of_beq_eq_true hm0
      have hnil : vs = [] := List.eq_nil_of_length_eq_zero (by rw [rels_length v1, d1]; simp)
      refine valOK_here hr ?_ hs
      have hs2 := v2
      rw [← g2] at hs2
      rcases v2.kind with ⟨e', hkk⟩ | hkk <;> simp [Builtin.append_, run_und hT hu, run_underlying hkk, sizeOf, typeInfo, g1, hs2.len, hs2.cells]
    | false =>
      rw [hm0] at ha
      simp only [cond_false, Option.some.injEq, Prod.mk.injEq] at ha
      obtain ⟨rfl, rfl⟩ := ha
      have hmp : m ≠ 0 := fun hh => by subst hh; simp at hm0
      have := append_new (ty := ty) (c := 0) (base := none) (olds := []) (ovs := []) hT hr hu hi c3 c2 hbg c4 c5 (run_firstCells_none w.drew i.size 0 0 0) rels_nil (by simp) v1 v2 (by omega)
      simpa using this
  · rename_i b off len cap
    rcases rel_sl_inv hs with ⟨r, base, o', c, q1, rfl, q2, q3⟩ | ⟨rfl, rfl, ad, rfl⟩
    rotate_left
    · simp only [lenA, Option.some.injEq] at hk
      subst hk
      cases hm0 : Nat.beq m 0 with
      | true =>
        rw [hm0] at ha
        simp only [cond_true, Option.some.injEq, Prod.mk.injEq] at ha
        obtain ⟨rfl, rfl⟩ := ha
        obtain rfl := Nat.eq_of_beq_eq_true hm0
        have hnil : vs = [] := List.eq_nil_of_length_eq_zero (by rw [rels_length v1, d1]; simp)
        refine valOK_here hr ?_ hs
        have hs2 := v2
        rw [← g2] at hs2
        rcases v2.kind with ⟨e', hkk⟩ | hkk <;> simp [Builtin.append_, run_und hT hu, run_underlying hkk, sizeOf, typeInfo, g1, hs2.len, hs2.cells, hnil, storeCells, Addr.add]
      | false =>
        have hmp : m ≠ 0 := fun hh => by subst hh; simp at hm0
        have hb0 : Nat.ble (0 + m) 0 = false := Bool.eq_false_iff.mpr fun hh => by have := Nat.ble_eq.mp hh; omega
        rw [hm0] at ha
        simp only [cond_false, hb0] at ha
        split at ha
        case h_2 => cases ha
        rename_i l hgR
        split at ha
        case h_2 => cases ha
        rename_i old hcut
        unfold cut at hcut
        split at hcut
        case isFalse => cases hcut
        obtain rfl := Option.some.inj hcut
        simp only [Nat.zero_mul, List.take_zero, Option.some.injEq, Prod.mk.injEq] at ha
        obtain ⟨rfl, rfl⟩ := ha
        exact append_new (ty := ty) (c := 0) (base := some ad) (olds := []) (ovs := []) hT hr hu hi c3 c2 hbg c4 c5 (run_firstCells_some w.drew i.size 0 ad 0 0 [] (by simp) (fun j u hu => by simp at hu)) rels_nil (by simp) v1 v2 (by omega)
    simp only [lenA, Option.some.injEq] at hk
    subst hk
    have hle := capRel_le q3
    cases hm0 : Nat.beq m 0 with
    | true =>
      rw [hm0] at ha
      simp only [cond_true, Option.some.injEq, Prod.mk.injEq] at ha
      obtain ⟨rfl, rfl⟩ := ha
      obtain rfl := Nat.eq_of_beq_eq_true hm0
      have hnil : vs = [] := List.eq_nil_of_length_eq_zero (by rw [rels_length v1, d1]; simp)
      subst hnil
      have hs2 := v2
      rw [← g2] at hs2
      refine valOK_here hr ?_ hs
      rw [run_append_room_src (P := P) w t tx ty e info (und_P hT hu) g1 r o' len c rx 0 [] hs2 (by omega) (fun j hj => by simp at hj) (fun j hj => by simp at hj)]
      rfl
    | false =>
      rw [hm0] at ha
      have hmp : m ≠ 0 := fun hh => by subst hh; simp at hm0
      simp only [cond_false] at ha
      have hvl := rels_length v1
      -- the old elements, read behind a draw
      have oldR : ∀ l old, getR h b = some l → cut l off (len * i.size) = some old → ∃ ovs, rels ρ μ w old ovs ∧ ovs.length = len * i.size ∧ (∀ j u, ovs[j]? = some u → w.cell? ((⟨r, o', none⟩ : Addr).add j) = some u) ∧ (Builtin.firstCells i.size len (.slice (some ⟨r, o', none⟩) len c)).run P w.drew = .ok ovs.toArray w.drew := fun l old hgR hcut => by
        obtain ⟨cur, e0, fz0, k1, k2⟩ := getR_sound hr q1 hgR
        obtain ⟨ovs, p1, p2, p3, p4, p5⟩ := cut_sound k2 hcut
        have hcell : ∀ j u, ovs[j]? = some u → w.cell? ((⟨r, o', none⟩ : Addr).add j) = some u := fun j u hj => by
          have hjl := (List.getElem?_eq_some_iff.1 hj).1
          have : 0 < len := by
            rcases Nat.eq_zero_or_pos len with h0 | h0
            · subst h0; simp only [Nat.zero_mul] at p2; omega
            · exact h0
          obtain rfl : o' = base + off := q2.resolve_left (by omega)
          rw [addr_add, cell_in k1]
          exact p5 j u hj
        exact ⟨ovs, p1, p2, hcell, run_firstCells_some (P := P) w.drew i.size len _ len c ovs p2 (by simpa using hcell)⟩
      cases cap with
      | un z' =>
        simp only at ha
        split at ha
        case h_2 => cases ha
        rename_i l e' hg
        obtain ⟨cur, k1, k2, _⟩ := getB_sound hr q1 hg
        split at ha
        case h_2 => cases ha
        rename_i old hcut
        generalize hcc : (Nat.beq i.size z' && Nat.beq e e') = cb at ha
        cases cb with
        | false => cases ha
        | true =>
        simp only [Bool.and_eq_true] at hcc
        obtain rfl := Nat.eq_of_beq_eq_true hcc.1
        obtain rfl := Nat.eq_of_beq_eq_true hcc.2
        simp only [cond_true, Option.some.injEq, Prod.mk.injEq] at ha
        obtain ⟨rfl, rfl⟩ := ha
        obtain ⟨ovs, p1, p2, p3, p4⟩ := oldR l old (getB_R hg).2 hcut
        have hx0 := (getB_R hg).1
        by_cases hroom : len + m ≤ c
        · obtain rfl : o' = base + off := q2.resolve_left (by omega)
          obtain ⟨_, _, z0, cur2, e2, fz2, y1, y2⟩ := q3
          rw [k1] at y1
          obtain ⟨rfl, rfl, rfl⟩ := Obj.cells.inj (Option.some.inj y1)
          have hsz : (len + m) * i.size ≤ c * i.size := Nat.mul_le_mul_right _ hroom
          rw [Nat.add_mul] at hsz
          have hfit : base + off + len * i.size + vs.length ≤ cur.size := by omega
          have hone := one_setCells k1 (base + off + len * i.size) vs hfit
          obtain ⟨cur', t1, t2, t3⟩ := heap_setCells vs (base + off + len * i.size) w cur k1 hfit
          have hs2 := v2
          rw [← g2] at hs2
          have hrun := run_append_room_src (P := P) w t tx ty e info (und_P hT hu) g1 r (base + off) len c rx m vs hs2 hroom
            (by rw [g2]; intro j hj; rw [cell_in k1, Array.getElem?_eq_getElem (by omega)]; rfl) (by intro j hj; exact frozen_in k1)
          rw [g2] at hrun
          have heff := Eff.move (base' := base + off) (ab' := .cells (old ++ new) e) hr q1 hx0 rfl hone t1 ⟨cur', rfl, ⟨by
              rw [List.length_append, d1, ← rels_length p1, p2, t2]; omega, fun j x hj => by
            rw [t3]
            have hol := rels_length p1
            by_cases hjo : j < old.length
            · rw [List.getElem?_append_left hjo] at hj
              rw [if_neg (by omega)]
              obtain ⟨v, w1, w2⟩ := rels_get p1 hj
              refine ⟨v, ?_, rel.mono (More.refl μ) hone.grows _ _ w2⟩
              have := p3 j v w1
              rw [addr_add, cell_in k1] at this
              exact this
            · rw [List.getElem?_append_right (by omega)] at hj
              obtain ⟨v, w1, w2⟩ := rels_get v1 hj
              have hlt := (List.getElem?_eq_some_iff.1 w1).1
              refine ⟨v, ?_, rel.mono (More.refl μ) hone.grows _ _ w2⟩
              rw [if_pos (by omega), ← w1]
              congr 1
              omega⟩, fun hb => by rw [hbg] at hb; cases hb⟩
          refine ⟨_, _, .slice (some ⟨r, base + off, none⟩) (len + m) c, .inl (by rw [hrun]; rfl), heff, ?_⟩
          unfold rel
          exact .inl ⟨r, base + off, base + off, c, up_same _ _ _, rfl, .inr rfl, hroom, by omega, z0, cur', _, _, t1, by omega⟩
        · have heff : Eff P ρ fl μ h w μ (h.put b .gone) w := Eff.upd hr q1 hx0 rfl ⟨rfl, fun _ _ => rfl, Grows.refl w, ⟨rfl, rfl, rfl⟩⟩ k1 trivial
          have := append_new (ty := ty) hT heff.hr hu hi c3 c2 hbg c4 c5 p4 p1 p2 v1 v2 (by omega)
          rw [n_put] at this
          obtain ⟨μ', w', v', u1, u2, u3⟩ := this
          exact ⟨μ', w', v', u1, heff.trans hr u2, u3⟩
      | kn kc =>
        simp only at ha
        obtain ⟨rfl, _, _⟩ := q3
        cases hroom : Nat.ble (len + m) c with
        | true =>
          rw [hroom] at ha
          simp only [cond_true] at ha
          split at ha
          case h_2 => cases ha
          rename_i l e' hg
          obtain ⟨cur, k1, k2, _⟩ := getB_sound hr q1 hg
          simp only [Option.map_eq_some_iff, Prod.mk.injEq] at ha
          obtain ⟨l', hput, rfl, rfl⟩ := ha
          have hroom := Nat.ble_eq.mp hroom
          obtain rfl : o' = base + off := q2.resolve_left (by omega)
          obtain ⟨f1, f2, f3⟩ := setCells_eff hr q1 hg hput v1
          have hs2 := v2
          rw [← g2] at hs2
          have hrun := run_append_room_src (P := P) w t tx ty e info (und_P hT hu) g1 r (base + off) len c rx m vs hs2 hroom (by rw [g2]; simpa [Nat.add_assoc] using f2) (by rw [g2]; simpa [Nat.add_assoc] using f3)
          refine ⟨μ, _, .slice (some ⟨r, base + off, none⟩) (len + m) c, .inl (by rw [hrun, g2]; simp [Nat.add_assoc]), f1, ?_⟩
          unfold rel
          exact .inl ⟨r, base, base + off, c, q1, rfl, .inr rfl, rfl, hroom, by omega⟩
        | false =>
          rw [hroom] at ha
          simp only [cond_false] at ha
          split at ha
          case h_2 => cases ha
          rename_i l hgR
          split at ha
          case h_2 => cases ha
          rename_i old hcut
          simp only [Option.some.injEq, Prod.mk.injEq] at ha
          obtain ⟨rfl, rfl⟩ := ha
          have hroom : ¬ (len + m ≤ c) := fun hh => by rw [Nat.ble_eq.mpr hh] at hroom; cases hroom
          obtain ⟨ovs, p1, p2, p3, p4⟩ := oldR l old hgR hcut
          exact append_new (ty := ty) hT hr hu hi c3 c2 hbg c4 c5 p4 p1 p2 v1 v2 (by omega)
  · cases ha
end Go.Proofs.YtkgbeihcepociaaDoor.Ex
end

section

set_option linter.unusedSimpArgs false
set_option linter.unusedVariables false
namespace Go.Proofs.YtkgbeihcepociaaDoor.Ex
open Go Go.RowKit
variable {P : Program} {T : TT} {ρ : Nat → Value} {fl : Nat} {μ : Mu} {h : AH} {w : World} {tmps : TM} {ev : Operand → Value} {o : Oper} {n : AN} {h' : AH}
/-- The first k elements of what is copied. -/
theorem srcA_first {z m k : Nat} {x : AV} {v : Value} {new : List AV} (hr : HR P ρ fl μ h w) (hv : rel ρ μ w x v) (hl : lenA x = some m) (hs : srcA h z x = some new) (hn : new.length = m * z) (hk : k ≤ m) :
    ∃ vs, rels ρ μ w new vs ∧ (Builtin.lenOf v).run P w = .ok m w ∧ (Builtin.firstCells z k v).run P w = .ok (vs.take (k * z)).toArray w := by
  unfold srcA at hs
  split at hs
  · obtain rfl := Option.some.inj hs
    obtain rfl := rel_lit_inv hv
    simp only [lenA, Option.some.injEq] at hl
    subst hl
    obtain rfl : k = 0 := by omega
    exact ⟨[], rels_nil, rfl, by simpa using run_firstCells_none (P := P) w z 0 0 0⟩
  · rename_i s
    cases hz1 : Nat.beq z 1 with
    | false => rw [hz1] at hs; cases hs
    | true =>
    rw [hz1] at hs
    obtain rfl := Nat.eq_of_beq_eq_true hz1
    obtain rfl := Option.some.inj hs
    obtain rfl := rel_lit_inv hv
    simp only [lenA, Option.some.injEq] at hl
    subst hl
    refine ⟨Go.byteCells s, rels_byteCells s, rfl, ?_⟩
    simp only [Builtin.firstCells, Sem.run_pure, Nat.mul_one]
    congr 1
    apply Array.ext'
    simp [Go.byteCells, ByteArray.data_extract, List.map_take]
  · rename_i b off len cap
    split at hs
    case h_2 => cases hs
    rename_i l hg
    simp only [lenA, Option.some.injEq] at hl
    subst hl
    rcases rel_sl_inv hv with ⟨r, base, o', c, q1, rfl, q2, q3⟩ | ⟨rfl, rfl, ad, rfl⟩
    rotate_left
    · unfold cut at hs
      split at hs
      case isFalse => cases hs
      obtain rfl := Option.some.inj hs
      obtain rfl : k = 0 := by omega
      simp only [Nat.zero_mul, List.take_zero]
      exact ⟨[], rels_nil, rfl, by simpa using run_firstCells_some (P := P) w z 0 ad 0 0 [] (by simp) (fun j u hu => by simp at hu)⟩
    obtain ⟨cur, e, fz, k1, k2⟩ := getR_sound hr q1 hg
    obtain ⟨vs, k3, k4, k5, k6, k7⟩ := cut_sound k2 hs
    have hle := (capRel_le q3).1
    have hcell : ∀ j u, (vs.take (k * z))[j]? = some u → w.cell? ((⟨r, o', none⟩ : Addr).add j) = some u := fun j u hu => by
      rw [List.getElem?_take] at hu
      split at hu
      case isFalse => cases hu
      have hj := (List.getElem?_eq_some_iff.1 hu).1
      have : 0 < len := by
        rcases Nat.eq_zero_or_pos len with h0 | h0
        · subst h0; simp only [Nat.zero_mul] at k4; omega
        · exact h0
      obtain rfl : o' = base + off := q2.resolve_left (by omega)
      rw [addr_add, cell_in k1]
      exact k7 j u hu
    have hkz : k * z ≤ len * z := Nat.mul_le_mul_right _ hk
    refine ⟨vs, k3, rfl, ?_⟩
    have := run_firstCells_some (P := P) w z k (⟨r, o', none⟩ : Addr) len c (vs.take (k * z)) (by rw [List.length_take]; omega) hcell
    exact this
  · cases hs
theorem copyA_sound {t ty : TypeId} {l : List TypeId} {d x a : AV} {rd rx : Value} (hT : TT.Sound P T) (hr : HR P ρ fl μ h w) (hd : rel ρ μ w d rd) (hx : rel ρ μ w x rx) (ha : copyA T h t d x = some (a, h')) :
    valOK P ρ fl μ h w (((Builtin.copy_ (t :: l).toArray ty #[rd, rx]).run P w).andThen fun v w' => .ok (.value v) w') a h' := by
  unfold copyA at ha
  split at ha
  case h_2 => cases ha
  rename_i e hu
  split at ha
  case h_2 => cases ha
  rename_i z n m hz hn hm
  split at ha
  case h_2 => cases ha
  rename_i cs hcs
  generalize hc : (Nat.beq cs.length (m * z) && cs.all AV.one) = cb at ha
  cases cb with
  | false => cases ha
  | true =>
  simp only [Bool.and_eq_true] at hc
  have d1 := Nat.eq_of_beq_eq_true hc.1
  simp only [cond_true] at ha
  obtain ⟨vs, v1, v2, v3⟩ := srcA_first (P := P) (k := Nat.min m n) hr hx hm hcs d1 (Nat.min_le_left _ _)
  unfold copyB at ha
  split at ha
  · rename_i b off len cap
    simp only [lenA, Option.some.injEq] at hn
    subst hn
    cases hnul : isNul len cap with
    | true =>
      rw [hnul] at ha
      simp only [cond_true, Option.some.injEq, Prod.mk.injEq] at ha
      obtain ⟨rfl, rfl⟩ := ha
      have ⟨hl0, ad, hrd⟩ : len = 0 ∧ ∃ ad, rd = .slice (some ad) 0 0 := by
        cases cap with
        | un zc => cases hnul
        | kn kc =>
          simp only [isNul, Bool.and_eq_true] at hnul
          have hl0 := Nat.eq_of_beq_eq_true hnul.1
          have hc0 := Nat.eq_of_beq_eq_true hnul.2
          refine ⟨hl0, ?_⟩
          rcases rel_sl_inv hd with ⟨r, base, o', c, q1, rfl, q2, q3⟩ | ⟨_, _, ad, rfl⟩
          · obtain ⟨rfl, _, _⟩ := q3
            exact ⟨⟨r, o', none⟩, by rw [hl0, hc0]⟩
          · exact ⟨ad, rfl⟩
      subst hl0 hrd
      refine valOK_here hr (v' := .int .i64 0) ?_ (rel_lit rfl)
      have h0 : Nat.min m 0 = 0 := Nat.min_zero m
      rw [h0] at v3
      simp [Builtin.copy_, run_und hT hu, v2, run_size hT hz, v3, goInt, h0, storeCells]
    | false =>
    rw [hnul] at ha
    simp only [cond_false] at ha
    split at ha
    case h_2 => cases ha
    rename_i l0 e' hg
    simp only [Option.map_eq_some_iff, Prod.mk.injEq] at ha
    obtain ⟨l', hput, rfl, rfl⟩ := ha
    rcases rel_sl_inv hd with ⟨r, base, o', c, q1, rfl, q2, q3⟩ | ⟨rfl, rfl, _⟩
    rotate_left
    · cases hnul
    have hle := (capRel_le q3).1
    obtain ⟨f1, f2, f3⟩ := setCells_eff hr q1 hg hput (rels_take _ v1)
    have hst : (storeCells ⟨r, o', none⟩ (vs.take (Nat.min m len * z))).run P w = .ok () (w.setCells r (base + off) (vs.take (Nat.min m len * z))) := by
      rcases q2 with h0 | rfl
      · have : Nat.min m len = 0 := by
          have := Nat.min_le_right m len
          have h2 : Nat.min m len ≤ len := this
          omega
        rw [this]
        simp [storeCells, World.setCells]
      · have := run_storeCells_cells (P := P) r (base + off) (vs.take (Nat.min m len * z)) 0 w (by simpa using f2) (by simpa using f3) (fun v hv => rels_one v1 hc.2 v (List.mem_of_mem_take hv))
        simpa using this
    refine ⟨μ, _, .int .i64 (Nat.min m len : Nat), .inl ?_, f1, rel_lit rfl⟩
    simp [Builtin.copy_, run_und hT hu, v2, run_size hT hz, v3, hst, goInt]
  · simp only [lenA, Option.some.injEq] at hn
    subst hn
    simp only [Option.some.injEq, Prod.mk.injEq] at ha
    obtain ⟨rfl, rfl⟩ := ha
    obtain rfl := rel_lit_inv hd
    refine valOK_here hr (v' := .int .i64 0) ?_ (rel_lit rfl)
    have h0 : Nat.min m 0 = 0 := Nat.min_zero m
    rw [h0] at v3
    simp [Builtin.copy_, run_und hT hu, v2, run_size hT hz, v3, goInt, h0]
  · cases ha
/-! Calls. -/
theorem method_run {t : TypeId} {name : String} {f : FuncId} (hm : methodA P t name = some f) (v : Value) (k : Nat) (w : World) : (method (k + 1) t v name).run P w = .ok (f, v) w := by
  unfold methodA at hm
  split at hm
  case h_2 => cases hm
  rename_i i hi
  split at hm
  case h_2 => cases hm
  rename_i m hfind
  cases hp : m.path.isEmpty with
  | false => rw [hp] at hm; cases hm
  | true =>
    rw [hp] at hm
    have hpath : m.path.toList = [] := by simpa [Array.isEmpty_iff] using hp
    simp only [cond_true] at hm
    split at hm
    · rename_i g d hg hd
      obtain rfl := Option.some.inj hm
      simp [method, typeInfo, hi, hfind, hpath, follow, hg, receiverAt, run_underlying hd, Place.get]
    · cases hm
    · rename_i g d hnp hg hd
      obtain rfl := Option.some.inj hm
      have hr : ∀ wr, (receiverAt t (.val v) false wr).run P w = .ok v w := fun wr => by
        unfold receiverAt
        rw [Sem.run_bind, run_underlying hd]
        simp only [Result.andThen_ok]
        cases d <;> first | rfl | (exact absurd rfl (hnp _ _ rfl))
      simp [method, typeInfo, hi, hfind, hpath, follow, hg, hr]
    · cases hm
def callOK (P : Program) (ρ : Nat → Value) (μ : Mu) (w : World) (d : Deferred) : AN → Prop
  | .enter g a => ∃ a', rels ρ μ w a a' ∧ ∀ w', (invoke d.target d.args).run P w' = (callFunc g a'.toArray).run P w'
  | .round l a => ∃ rl a', μ l = some (rl, 0) ∧ rels ρ μ w a a' ∧ ∀ w', (invoke d.target d.args).run P w' = (Instr.yield rl a'.toArray).run P w'
  | _ => False
theorem callA_sound {f : AV} {fv : Value} {ys : List AV} {args : List Value} {an : AN} (hf : rel ρ μ w f fv) (hargs : rels ρ μ w ys args) (hc : callA P f ys = some an) :
    ∃ d, (∀ w', (Deferred.ofValue fv args.toArray).run P w' = .ok d w') ∧ (∃ fn c, d.target = .fn fn c) ∧ callOK P ρ μ w d an := by
  unfold callA at hc
  split at hc
  · obtain rfl := Option.some.inj hc
    rename_i g first caps
    unfold rel at hf
    obtain ⟨f', a, b, rfl, h1, h2, h3⟩ := hf
    simp only [fnRel] at h1
    subst h1
    refine ⟨{ target := .fn (.func g) b.toArray, args := a.toArray ++ args.toArray }, fun w' => rfl, ⟨_, _, rfl⟩, a ++ args ++ b, rels_append (rels_append h2 hargs) h3, fun w' => ?_⟩
    simp [invoke]
  · obtain rfl := Option.some.inj hc
    rename_i l
    unfold rel at hf
    obtain ⟨f', a, b, rfl, ⟨rl, h0, rfl⟩, h2, h3⟩ := hf
    obtain rfl := rels_nil_inv h2
    obtain rfl := rels_nil_inv h3
    exact ⟨{ target := .fn (.yield rl) #[], args := #[] ++ args.toArray }, fun w' => rfl, ⟨_, _, rfl⟩, rl, args, h0, hargs, fun w' => by simp [invoke]⟩
  · rename_i name t v
    simp only [Option.map_eq_some_iff] at hc
    obtain ⟨g, hm, rfl⟩ := hc
    unfold rel at hf
    obtain ⟨f', a, b, rfl, h1, h2, h3⟩ := hf
    simp only [fnRel] at h1
    subst h1
    obtain ⟨x, xs, rfl, h4, h5⟩ := rels_cons_inv h2
    obtain rfl := rels_nil_inv h5
    obtain rfl := rels_nil_inv h3
    obtain ⟨u, rfl, hu⟩ := rel_ifc_inv h4
    refine ⟨{ target := .fn (.method name) #[], args := #[.iface t u] ++ args.toArray }, fun w' => rfl, ⟨_, _, rfl⟩, u :: args, rels_cons hu hargs, fun w' => ?_⟩
    obtain ⟨k, hk⟩ : ∃ k, P.types.size + Made.depth = k + 1 := ⟨P.types.size + 99, by simp [Made.depth]⟩
    simp [invoke, callMethod, hk, method_run hm]
  · cases hc
theorem invoke_recv (r : Value) (name : String) (args : Array Value) : (Deferred.ofValue (.func (.method name) #[r] #[]) args) = (pure { target := .fn (.method name) #[], args := #[r] ++ args } : Sem Deferred) := rfl
theorem op_call {c : Call} (hT : TT.Sound P T) (hr : HR P ρ fl μ h w) (he : EnvR ρ μ w tmps ev) (ho : o.op = .call c) (ha : aCall P T o tmps h c = some (n, h')) :
    OpOK P ρ fl μ h w ((execOp ev o).run P w) n h' := by
  unfold aCall at ha
  split at ha
  · rename_i b hb
    obtain ⟨cs, hexec⟩ : ∃ cs, ∀ w', (execOp ev o).run P w' = (builtin b c.argTypes o.type cs (c.args.map ev)).run P w' := ⟨_, fun w' => by
      simp only [execOp, ho, resolve, hb, invoke, Sem.run_bind, Sem.run_pure, Result.andThen_ok]
      rfl⟩
    unfold aBuiltin at ha
    split at ha
    · rename_i s x t tx hargs htypes
      simp only [Option.map_eq_some_iff, Prod.mk.injEq] at ha
      obtain ⟨⟨a, hh⟩, h1, rfl, rfl⟩ := ha
      obtain ⟨v1, l1, e1, r1, r2⟩ := rels_cons_inv (evals_sound he hargs)
      obtain ⟨v2, l2, rfl, r3, r4⟩ := rels_cons_inv r2
      obtain rfl := rels_nil_inv r4
      have hty : c.argTypes = #[t, tx] := by rw [← Array.toArray_toList (xs := c.argTypes), htypes]
      have := appendA_sound (ty := o.type) (P := P) hT hr r1 r3 h1
      rw [hexec, arr_map, e1, hty]
      simpa [builtin, OpOK] using this
    · rename_i s x t rest hargs htypes
      simp only [Option.map_eq_some_iff, Prod.mk.injEq] at ha
      obtain ⟨⟨a, hh⟩, h1, rfl, rfl⟩ := ha
      obtain ⟨v1, l1, e1, r1, r2⟩ := rels_cons_inv (evals_sound he hargs)
      obtain ⟨v2, l2, rfl, r3, r4⟩ := rels_cons_inv r2
      obtain rfl := rels_nil_inv r4
      have hty : c.argTypes = (t :: rest).toArray := by rw [← Array.toArray_toList (xs := c.argTypes), htypes]
      have := copyA_sound (ty := o.type) (P := P) (l := rest) hT hr r1 r3 h1
      rw [hexec, arr_map, e1, hty]
      simpa [builtin, OpOK] using this
    · rename_i m k t rest hargs htypes
      simp only [Option.map_eq_some_iff, Prod.mk.injEq] at ha
      obtain ⟨hh, h1, rfl, rfl⟩ := ha
      obtain ⟨v1, l1, e1, r1, r2⟩ := rels_cons_inv (evals_sound he hargs)
      obtain ⟨v2, l2, rfl, r3, r4⟩ := rels_cons_inv r2
      obtain rfl := rels_nil_inv r4
      have hty : c.argTypes = (t :: rest).toArray := by rw [← Array.toArray_toList (xs := c.argTypes), htypes]
      obtain ⟨w', q1, q2⟩ := deleteA_sound (ty := o.type) (P := P) (l := rest) hT hr r1 r3 h1
      refine ⟨μ, w', .tuple #[], .inl ?_, q2, by unfold rel; exact ⟨[], rfl, rels_nil⟩⟩
      rw [hexec, arr_map, e1, hty]
      simp only [builtin, Sem.run_bind]
      rw [q1]
      rfl
    · rename_i b1 off len cap t rest hargs htypes
      split at ha
      case h_2 => cases ha
      rename_i e hu
      simp only [Option.some.injEq, Prod.mk.injEq] at ha
      obtain ⟨rfl, rfl⟩ := ha
      obtain ⟨v1, l1, e1, r1, r2⟩ := rels_cons_inv (evals_sound he hargs)
      obtain rfl := rels_nil_inv r2
      have hty : c.argTypes = (t :: rest).toArray := by rw [← Array.toArray_toList (xs := c.argTypes), htypes]
      refine valOK_here hr (v' := .int .i64 len) ?_ (rel_lit rfl)
      rw [hexec, arr_map, e1, hty]
      rcases rel_sl_inv r1 with ⟨r, base, o', cc, _, rfl, _⟩ | ⟨rfl, _, ad, rfl⟩ <;> simp [builtin, Builtin.len_, run_und hT hu, goInt]
    · rename_i b1 t rest hargs htypes
      split at ha
      case h_2 => cases ha
      rename_i kt et es clock hu hb1
      simp only [Option.some.injEq, Prod.mk.injEq] at ha
      obtain ⟨rfl, rfl⟩ := ha
      obtain ⟨v1, l1, e1, r1, r2⟩ := rels_cons_inv (evals_sound he hargs)
      obtain rfl := rels_nil_inv r2
      obtain ⟨r, res, m1, rfl, m2, m3⟩ := map_inv hr r1 hb1
      have hty : c.argTypes = (t :: rest).toArray := by rw [← Array.toArray_toList (xs := c.argTypes), htypes]
      have hgo : (getObj r).run P w = .ok (.map res clock) w := by simp [getObj, Sem.run, m2]
      have hlen := entsRel_length m3
      rw [Array.length_toList] at hlen
      refine valOK_here hr (v' := .int .i64 es.length) ?_ (rel_lit rfl)
      rw [hexec, arr_map, e1, hty]
      simp [builtin, Builtin.len_, run_und hT hu, hgo, goInt, hlen]
    · simp only [Option.some.injEq, Prod.mk.injEq] at ha
      obtain ⟨rfl, rfl⟩ := ha
      exact ⟨rfl, by rw [hexec]; rfl⟩
    · exact orLit_sound hr he ha fun hk => by cases hk
  · rename_i f hf
    split at ha
    case h_2 => cases ha
    rename_i fv ys hfv has
    simp only [Option.map_eq_some_iff, Prod.mk.injEq] at ha
    obtain ⟨an, h1, rfl, rfl⟩ := ha
    obtain ⟨d, d1, d2, d3⟩ := callA_sound (he f _ hfv) (evals_sound he has) h1
    have hexec : (execOp ev o).run P w = (invoke d.target d.args).run P w := by
      have := d1 w
      rw [← arr_map] at this
      simp [execOp, ho, resolve, hf, this]
    rw [hexec]
    cases an with
    | enter g a => obtain ⟨a', a1, a2⟩ := d3; exact ⟨rfl, a', a1, a2 w⟩
    | round l a => obtain ⟨rl, a', a0, a1, a2⟩ := d3; exact ⟨rfl, rl, a', a0, a1, a2 w⟩
    | _ => exact d3.elim
  · rename_i r name hf
    split at ha
    case h_2 => cases ha
    rename_i rv ys hrv has
    simp only [Option.map_eq_some_iff, Prod.mk.injEq] at ha
    obtain ⟨an, h1, rfl, rfl⟩ := ha
    have hrel : rel ρ μ w (.fn (.method name) [rv] []) (.func (.method name) #[ev r] #[]) := by
      unfold rel
      exact ⟨.method name, [ev r], [], rfl, rfl, rels_cons (he r _ hrv) rels_nil, rels_nil⟩
    obtain ⟨d, d1, d2, d3⟩ := callA_sound hrel (evals_sound he has) h1
    have hexec : (execOp ev o).run P w = (invoke d.target d.args).run P w := by
      have := d1 w
      rw [← arr_map, invoke_recv] at this
      simp only [Sem.run_pure, Result.ok.injEq, and_true] at this
      subst this
      simp [execOp, ho, resolve, hf]
    rw [hexec]
    cases an with
    | enter g a => obtain ⟨a', a1, a2⟩ := d3; exact ⟨rfl, a', a1, a2 w⟩
    | round l a => obtain ⟨rl, a', a0, a1, a2⟩ := d3; exact ⟨rfl, rl, a', a0, a1, a2 w⟩
    | _ => exact d3.elim
theorem op_defer {c : Call} (hr : HR P ρ fl μ h w) (he : EnvR ρ μ w tmps ev) (ho : o.op = .defer c) (ha : aDefer P tmps h c = some (n, h')) :
    OpOK P ρ fl μ h w ((execOp ev o).run P w) n h' := by
  unfold aDefer at ha
  split at ha
  case h_2 => cases ha
  rename_i f hf
  split at ha
  case h_2 => cases ha
  rename_i fv ys hfv has
  split at ha
  case h_2 => cases ha
  rename_i g a hc
  simp only [Option.some.injEq, Prod.mk.injEq] at ha
  obtain ⟨rfl, rfl⟩ := ha
  obtain ⟨d, d1, d2, a', a1, a2⟩ := callA_sound (he f _ hfv) (evals_sound he has) hc
  refine ⟨rfl, d, a', a1, ?_, d2, a2⟩
  have := d1 w
  rw [← arr_map] at this
  simp [execOp, ho, resolve, hf, this]
theorem op_range {t : TypeId} {x : Operand} (hT : TT.Sound P T) (hr : HR P ρ fl μ h w) (he : EnvR ρ μ w tmps ev) (ho : o.op = .range t x) (ha : aRange T tmps h t x = some (n, h')) :
    OpOK P ρ fl μ h w ((execOp ev o).run P w) n h' := by
  unfold aRange at ha
  split at ha
  · rename_i kt et hu hx
    simp only [Option.some.injEq, Prod.mk.injEq] at ha
    obtain ⟨rfl, rfl⟩ := ha
    have e1 := rel_lit_inv (he x _ hx)
    have ef := Eff.alloc hr (ab := .iter none 0 [] 0) (o := .mapIter none 0 #[] 0) ⟨rfl, none, rfl, rfl⟩
    refine ⟨_, _, .pointer (some ⟨w.heap.size, 0, none⟩), .inl ?_, ef, by unfold rel; exact ⟨w.heap.size, 0, up_same _ _ _, rfl⟩⟩
    simp [execOp, ho, e1, Instr.range, run_und hT hu]
  · rename_i kt et b hu hx
    split at ha
    case h_2 => cases ha
    rename_i es clock hb
    simp only [Option.some.injEq, Prod.mk.injEq] at ha
    obtain ⟨rfl, rfl⟩ := ha
    obtain ⟨r, res, m1, e1, m2, m3⟩ := map_inv hr (he x _ hx) hb
    have hgo : (getObj r).run P w = .ok (.map res clock) w := by simp [getObj, Sem.run, m2]
    have ef := Eff.alloc hr (ab := .iter (some b) clock [] clock) (o := .mapIter (some r) clock #[] clock) ⟨rfl, some r, rfl, r, m1, rfl⟩
    refine ⟨_, _, .pointer (some ⟨w.heap.size, 0, none⟩), .inl ?_, ef, by unfold rel; exact ⟨w.heap.size, 0, up_same _ _ _, rfl⟩⟩
    simp [execOp, ho, e1, Instr.range, run_und hT hu, hgo]
  · cases ha
theorem ents_all {es : List AE} {l : List MapEntry} (q : Nat → Bool) (hh : entsRel ρ μ w es l) : l.all (fun e => q e.born) = es.all (fun e => q e.born) := by
  induction es generalizing l with
  | nil => obtain rfl : l = [] := hh; rfl
  | cons a r ih =>
    obtain ⟨e, es', rfl, ⟨_, _, _, h4⟩, h5⟩ := hh
    rw [List.all_cons, List.all_cons, ih h5, h4]
theorem ents_filter {es : List AE} {l : List MapEntry} (q : Nat → Bool) (hh : entsRel ρ μ w es l) : entsRel ρ μ w (es.filter fun e => q e.born) (l.filter fun e => q e.born) := by
  induction es generalizing l with
  | nil => obtain rfl : l = [] := hh; exact rfl
  | cons a r ih =>
    obtain ⟨e, es', rfl, ⟨h1, h2, h3, h4⟩, h5⟩ := hh
    rw [List.filter_cons, List.filter_cons, h4]
    cases q a.born with
    | true => exact ⟨e, _, rfl, ⟨h1, h2, h3, h4⟩, ih h5⟩
    | false => exact ih h5
theorem nat_beq (a b : Nat) : (a == b) = Nat.beq a b := by
  cases h : Nat.beq a b with
  | true => rw [Nat.eq_of_beq_eq_true h]; simp
  | false => simp; intro e; subst e; simp at h
theorem rel_avKey {k : Value} (hk : keyV k = true) : rel ρ μ w (avKey k) k := by
  unfold keyV at hk
  unfold avKey
  split
  · rename_i cs
    unfold rel
    refine ⟨cs.toList, by simp, ?_⟩
    simp only [List.all_eq_true] at hk
    revert hk
    generalize cs.toList = l
    intro hk
    induction l with
    | nil => exact rels_nil
    | cons a r ih => exact rels_cons (rel_lit (hk a (by simp))) (ih fun x hx => hk x (by simp [hx]))
  · rename_i hn
    refine rel_lit ?_
    revert hk
    cases k <;> first | exact id | exact absurd rfl (hn _)
theorem op_entry {x : Operand} (hr : HR P ρ fl μ h w) (he : EnvR ρ μ w tmps ev) (ho : o.op = .entry x) (ha : aEntry tmps h x = some (n, h')) :
    OpOK P ρ fl μ h w ((execOp ev o).run P w) n h' := by
  unfold aEntry at ha
  split at ha
  case h_2 => cases ha
  rename_i b hx
  obtain ⟨r, base, hb, e1⟩ := rel_ptr_inv (he x _ hx)
  split at ha
  case h_2 => cases ha
  rename_i m since seen stepped hi
  obtain ⟨_, _, ob, p1, rfl, m', rfl, rm, p2, rfl⟩ := hr.obj b r base _ hb hi
  split at ha
  case h_2 => cases ha
  rename_i es clock stamp hm hst
  obtain ⟨_, _, om, p3, res, rfl, _, p4⟩ := hr.obj m rm 0 _ p2 hm
  cases hcl : Nat.beq clock stepped with
  | false => rw [hcl] at ha; cases ha
  | true =>
  rw [hcl] at ha
  obtain rfl := Nat.eq_of_beq_eq_true hcl
  simp only [cond_true] at ha
  split at ha
  case h_2 => cases ha
  rename_i ae hf
  simp only [Option.some.injEq, Prod.mk.injEq] at ha
  obtain ⟨rfl, rfl⟩ := ha
  have hgo : (getObj r).run P w = .ok (.mapIter (some rm) since seen.toArray clock) w := by simp [getObj, Sem.run, p1]
  have hgm : (getObj rm).run P w = .ok (.map res clock) w := by simp [getObj, Sem.run, p3]
  have hfind : ∀ {es : List AE} {l : List MapEntry}, entsRel ρ μ w es l → es.find? (fun e => Nat.beq e.born stamp) = some ae → ∃ e, l.find? (fun e => e.born == stamp) = some e ∧ entRel ρ μ w ae e := by
    intro es
    induction es with
    | nil => intro l _ hf; cases hf
    | cons a r ih =>
      intro l hl hf
      obtain ⟨e, es', rfl, h4, h5⟩ := hl
      rw [List.find?_cons] at hf ⊢
      rw [show (e.born == stamp) = Nat.beq a.born stamp by rw [h4.2.2.2, nat_beq]]
      cases hq : Nat.beq a.born stamp with
      | true => rw [hq] at hf; obtain rfl := Option.some.inj hf; exact ⟨e, rfl, h4⟩
      | false => rw [hq] at hf; exact ih h5 hf
  obtain ⟨e, f1, g1, g2, g3, g4⟩ := hfind p4 hf
  rw [Array.find?_toList] at f1
  refine valOK_here hr (v' := .tuple #[e.key, e.val]) ?_ (by
    unfold rel
    exact ⟨[e.key, e.val], rfl, rels_cons (by rw [g1]; exact rel_avKey g2) (rels_cons g3 rels_nil)⟩)
  have hb2 : seen.toArray.back? = some stamp := by simp [hst]
  simp [execOp, ho, e1, Instr.entry, hgo, hgm, hb2, f1]
theorem op_next {x : Operand} {s : Bool} (hr : HR P ρ fl μ h w) (he : EnvR ρ μ w tmps ev) (ho : o.op = .next x s) (ha : aNext tmps h x s = some (n, h')) :
    OpOK P ρ fl μ h w ((execOp ev o).run P w) n h' := by
  unfold aNext at ha
  split at ha
  case h_2 => cases ha
  rename_i b hx
  obtain ⟨r, base, hb, e1⟩ := rel_ptr_inv (he x _ hx)
  split at ha
  case h_3 => cases ha
  · rename_i si se la hi
    obtain ⟨_, _, ob, p1, rfl, m', rfl, rfl⟩ := hr.obj b r base _ hb hi
    simp only [Option.some.injEq, Prod.mk.injEq] at ha
    obtain ⟨rfl, rfl⟩ := ha
    have hgo : (getObj r).run P w = .ok (.mapIter none si se.toArray la) w := by simp [getObj, Sem.run, p1]
    refine valOK_here hr (v' := .tuple #[.bool false]) ?_ (by unfold rel; exact ⟨[.bool false], rfl, rels_cons (rel_lit rfl) rels_nil⟩)
    simp [execOp, ho, e1, Instr.next, hgo]
  · rename_i m since seen last hi
    obtain ⟨_, _, ob, p1, rfl, m', rfl, rm, p2, rfl⟩ := hr.obj b r base _ hb hi
    split at ha
    case h_2 => cases ha
    rename_i es clock hm
    obtain ⟨_, _, om, p3, res, rfl, _, p4⟩ := hr.obj m rm 0 _ p2 hm
    have hgo : (getObj r).run P w = .ok (.mapIter (some rm) since seen.toArray last) w := by simp [getObj, Sem.run, p1]
    have hgm : (getObj rm).run P w = .ok (.map res clock) w := by simp [getObj, Sem.run, p3]
    cases hc : (!seen.isEmpty && !es.isEmpty && es.all (fun e => decide (e.born ≥ last))) with
    | true => rw [hc] at ha; cases ha
    | false =>
    rw [hc] at ha
    simp only [cond_false] at ha
    have hlen := entsRel_length p4
    have hemp : res.isEmpty = es.isEmpty := by
      rw [Array.length_toList] at hlen
      cases es with
      | nil => simp at hlen; simp [hlen]
      | cons a r => 
        have : res.size ≠ 0 := by rw [hlen]; simp
        simp only [List.isEmpty_cons]
        exact Bool.eq_false_iff.mpr (fun hh => this (by rw [Array.isEmpty_iff] at hh; rw [hh]; rfl))
    have hall : (res.all fun e => decide (e.born ≥ last)) = es.all (fun e => decide (e.born ≥ last)) := by
      rw [← ents_all (fun k => decide (k ≥ last)) p4]
      simp [Array.all_toList]
    have hcond : (!seen.toArray.isEmpty && !res.isEmpty && res.all (fun e => decide (e.born ≥ last))) = false := by
      rw [hemp, hall, ← hc]
      simp
    obtain ⟨left, hleft⟩ : ∃ left, (res.filter fun e => !seen.toArray.contains e.born) = left := ⟨_, rfl⟩
    have hfil : entsRel ρ μ w (es.filter fun e => !seen.contains e.born) left.toList := by
      have h1 := ents_filter (fun k => !seen.contains k) p4
      have h2 : left.toList = res.toList.filter (fun e => !seen.contains e.born) := by
        rw [← hleft, Array.toList_filter]
        simp
      rw [h2]
      exact h1
    generalize hl2 : (es.filter fun e => !seen.contains e.born) = lf at ha hfil
    have hcond' : ¬ ((!seen.toArray.isEmpty && !res.isEmpty && res.all (fun e => decide (e.born ≥ last))) = true) := by rw [hcond]; simp
    split at ha
    · simp only [Option.some.injEq, Prod.mk.injEq] at ha
      obtain ⟨rfl, rfl⟩ := ha
      have h0 : left.toList = [] := hfil
      obtain rfl : left = #[] := by apply Array.ext'; rw [h0]
      refine valOK_here hr (v' := .tuple #[.bool false]) ?_ (by unfold rel; exact ⟨[.bool false], rfl, rels_cons (rel_lit rfl) rels_nil⟩)
      simp only [execOp, ho, e1, Nat.zero_add, Instr.next, Sem.run_bind, hgo, Result.andThen_ok, hgm, if_neg hcond', hleft]
      simp [Question.forced]
    · rename_i ae
      obtain ⟨e, es', h0, ⟨g1, g2, g3, g4⟩, h5⟩ := hfil
      obtain rfl : es' = [] := h5
      obtain rfl : left = #[e] := by apply Array.ext'; rw [h0]
      cases hbs : Nat.blt ae.born since with
      | false => rw [hbs] at ha; cases ha
      | true =>
      rw [hbs] at ha
      simp only [cond_true, Option.some.injEq, Prod.mk.injEq] at ha
      obtain ⟨rfl, rfl⟩ := ha
      have hlt : e.born < since := by rw [g4]; exact Nat.blt_eq.mp hbs
      have hone : One r w { w with heap := w.heap.setIfInBounds r (.mapIter (some rm) since (seen.toArray.push e.born) clock) } := by
        have hr0 : r < w.heap.size := lt_in p1
        refine ⟨by simp, fun k hk => by simp [Array.getElem?_setIfInBounds, Ne.symm hk], fun k cur e' fz hk => ?_, rfl, rfl, rfl⟩
        by_cases hkr : k = r
        · subst hkr; rw [p1] at hk; cases hk
        · exact ⟨cur, e', fz, by simp only [Array.getElem?_setIfInBounds, if_neg (Ne.symm hkr)]; exact hk, rfl⟩
      have hset : (w.heap.setIfInBounds r (.mapIter (some rm) since (seen.toArray.push e.born) clock))[r]? = some (.mapIter (some rm) since (seen.toArray.push e.born) clock) := by
        simp [Array.getElem?_setIfInBounds, lt_in p1]
      have ef := Eff.upd (ab' := .iter (some m) since (seen ++ [ae.born]) clock) hr hb hi rfl hone hset ⟨rfl, some rm, by rw [g4]; simp, rm, p2, rfl⟩
      refine ⟨_, _, .tuple #[.bool true, e.key, e.val], .inl ?_, ef, ?_⟩
      · simp only [execOp, ho, e1, Nat.zero_add, Instr.next, Sem.run_bind, hgo, Result.andThen_ok, hgm, if_neg hcond', hleft]
        have hold : (#[e].filter fun x => decide (x.born < since)) = #[e] := by simp [hlt]
        have hnew : (#[e].filter fun x => decide (x.born ≥ since)) = #[] := by simp; omega
        simp only [hold, hnew]
        simp [Question.forced, setObj, Sem.run, p1]
      · unfold rel
        refine ⟨[.bool true, e.key, e.val], rfl, rels_cons (rel_lit rfl) (rels_cons ?_ (rels_cons (rel.mono ef.more ef.grows _ _ g3) rels_nil))⟩
        rw [g1]
        exact rel_avKey g2
    · cases ha
/-- An operation of the abstract machine is one of the model's. -/
theorem aop_sound (hT : TT.Sound P T) (hr : HR P ρ fl μ h w) (he : EnvR ρ μ w tmps ev) (ha : aop P T o tmps h = some (n, h')) : OpOK P ρ fl μ h w ((execOp ev o).run P w) n h' := by
  unfold aop at ha
  split at ha
  case h_1 x ho => exact op_move hr he (.inl ho) ha
  case h_2 x ho => exact op_move hr he (.inr ho) ha
  case h_3 c a b ho => exact op_pick hr he ho ha
  case h_4 t ho => exact op_alloc hT hr ho ha
  case h_5 t x ho => exact op_box hr he ho ha
  case h_6 t ps ho => exact op_build hT hr he ho ha
  case h_7 t m ps ho => exact op_buildSlice hT hr he ho ha
  case h_8 t a ho => exact op_load hT hr he ho ha
  case h_9 t a x ho => exact op_store hT hr he ho ha
  case h_10 x ho => exact op_nilCheck hr he ho ha
  case h_11 op t x y ty ho => exact op_bin hT hr he ho ha
  case h_12 src dst x ho => exact op_convert hT hr he ho ha
  case h_13 t x ho => exact op_makeInterface hT hr he ho ha
  case h_14 f a b ho => exact op_makeFunc hr he ho ha
  case h_15 t ho =>
    simp only [Option.some.injEq, Prod.mk.injEq] at ha
    obtain ⟨rfl, rfl⟩ := ha
    exact op_makeMap hr ho
  case h_16 t l c ho => exact op_makeSlice hT hr he ho ha
  case h_17 t x lo hi mx ho => exact op_slice hT hr he ho ha
  case h_18 t x i ho => exact op_fieldAddr hT hr he ho ha
  case h_19 t x i ho => exact op_field hT hr he ho ha
  case h_20 t x ix ho => exact op_indexAddr hT hr he ho ha
  case h_21 t x ix ho => exact op_index hT hr he ho ha
  case h_22 t m k ok ho => exact op_lookup hT hr he ho ha
  case h_23 t m k x ho => exact op_update hT hr he (.inl ho) ha
  case h_24 t m k x ho => exact op_update hT hr he (.inr ho) ha
  case h_25 x i ho => exact op_extract hr he ho ha
  case h_26 t x ho => exact op_range hT hr he ho ha
  case h_27 x s ho => exact op_next hr he ho ha
  case h_28 x ho => exact op_entry hr he ho ha
  case h_29 x xt t ok ho => exact op_assert hT hr he ho ha
  case h_30 x ho => exact op_panic hr he ho ha
  case h_31 c ho => exact op_call hT hr he ho ha
  case h_32 c ho => exact op_defer hr he ho ha
  case h_33 op t x ho => exact op_un hr he ho ha
  case h_34 => cases ha
end Go.Proofs.YtkgbeihcepociaaDoor.Ex
end

section

set_option linter.unusedSimpArgs false
set_option linter.unusedVariables false
namespace Go.Proofs.YtkgbeihcepociaaDoor.Ex
open Go
/-- A read that may be done later. -/
inductive RD where
  | load (t : TypeId) (b off : Nat)
  | look (t : TypeId) (m k : AV) (ok : Bool)
  | str (b off len : Nat)
  | mlen (b : Nat)
def rdA (T : TT) (h : AH) : RD → Option AV
  | .load t b off => loadA T h t b off
  | .look t m k ok => lookupA T h t m k ok
  | .str b off len => (bytesAt h b off len).map fun bs => .lit (.string ⟨bs.toArray⟩)
  | .mlen b => match (h.at b) with
    | some (.map es _) => some (.lit (.int .i64 es.length))
    | _ => none
def scalEq : Value → Value → Bool
  | .bool a, .bool b => a == b
  | .int k a, .int k' b => k == k' && a == b
  | .string a, .string b => a.data.toList == b.data.toList
  | .pointer none, .pointer none | .slice none 0 0, .slice none 0 0 | .map none, .map none | .nilFunc, .nilFunc | .nilIface, .nilIface => true
  | _, _ => false
def capEq : Cap → Cap → Bool
  | .kn a, .kn b => a == b
  | .un a, .un b => a == b
  | _, _ => false
def fnEq : Fn → Fn → Bool
  | .func a, .func b => Nat.beq a b
  | .yield a, .yield b => Nat.beq a b
  | _, _ => false
def AV.same : Nat → AV → AV → Bool
  | _, .lit a, .lit b => scalEq a b
  | _, .ptr a i, .ptr b j => a == b && i == j
  | _, .sl a i n c, .sl b j m d => a == b && i == j && n == m && capEq c d
  | _, .mp a, .mp b => a == b
  | _, .ext a, .ext b => a == b
  | n + 1, .agg l, .agg m => l.length == m.length && (l.zip m).all fun (x, y) => AV.same n x y
  | n + 1, .tup l, .tup m => l.length == m.length && (l.zip m).all fun (x, y) => AV.same n x y
  | n + 1, .ifc t v, .ifc u w => t == u && AV.same n v w
  | n + 1, .fn f a b, .fn g c d => fnEq f g && ((a.length == c.length && (a.zip c).all fun (x, y) => AV.same n x y) && (b.length == d.length && (b.zip d).all fun (x, y) => AV.same n x y))
  | _, .rng a l h, .rng b l' h' => (a == b && l == l') && h == h'
  | _, _, _ => false
inductive AI where
  | code (c : Code)
  | blk (id : Nat)
  | lp (body : Code)
  | sc (body : Code)
  | reg (ops : Array Oper) (todo : List Nat)
  | regD (ops : Array Oper) (todo : List Nat) (reads : List (Nat × RD × AV))
  | endRF (l : Nat)
  | beginRound
inductive ADI where
  | call (f : FuncId) (args : List AV)
  | coll (b : Nat)
abbrev Chain := List (AV × Bool)
inductive Mode where
  | ret
  | pan (chain : Chain)
structure AFr where
  fn : FuncId
  tmps : TM
  todo : List AI
  defers : List ADI
  cm : Option Mode
  roundOf : Option Nat
inductive End where
  | ret (v : AV)
  | pan (chain : Chain)
inductive Task where
  | call (f : FuncId) (args : List AV) (cm : Option Mode)
  | body (fr : AFr)
  | unwind (fr : AFr) (m : Mode)
  | round (l : Nat) (args : List AV)
inductive Out where
  | ended (e : End) (cm : Option Mode)
  | left (jump : Option Code) (fr : AFr)
  | raised (chain : Chain) (fr : AFr)
def exitA (id : Nat) : List AI → Option (List AI)
  | .blk id' :: k => if id' = id then some k else exitA id k
  | _ :: k => exitA id k
  | [] => none
def gotoA (l : Nat) : List AI → Option (List AI)
  | .sc body :: k => match findLabel body l with
    | some rest => some (.code rest :: .sc body :: k)
    | none => gotoA l k
  | _ :: k => gotoA l k
  | [] => none
def settleA : Mode → Mode
  | .pan ((_, true) :: _) => .ret
  | m => m
def raisedA (m : Mode) (c : Chain) : Mode := match m with
  | .pan old => .pan (c ++ old)
  | .ret => .pan c
def recoverA : Option Mode → AV × Option Mode
  | some (.pan ((v, false) :: r)) => (v, some (.pan ((v, true) :: r)))
  | m => (.lit .nilIface, m)
def setTmp (tmps : TM) (d : Option Tmp) (v : AV) : TM := match d with
  | some t => tmps.set t v
  | none => tmps
/-- Is an operation wanted? -/
def wantedA (ops : Array Oper) (tmps : TM) (o : Oper) : Option Bool := match o.guard with
  | none => some true
  | some (j, want) => match (ops[j]?).bind (·.dst) with
    | some d => match tmps.at d with
      | some (.lit (.bool b)) => some (b == want)
      | some (.tup []) => some false
      | _ => none
    | none => none
def resultsA (T : TT) (h : AH) (tmps : TM) : List ResultVar → Option (List AV)
  | [] => some []
  | .tmp t :: r => (resultsA T h tmps r).map ((tmps.at t).getD aundef :: ·)
  | .cell a t :: r => match (tmps.at a).getD aundef, resultsA T h tmps r with
    | .ptr b off, some l => (loadA T h t b off).map (· :: l)
    | _, _ => none
def oneOf : List AV → AV
  | [v] => v
  | l => .tup l
def setParams (tmps : TM) : List Tmp → List AV → TM
  | t :: ts, v :: vs => setParams (tmps.set t v) ts vs
  | _, _ => tmps
/-- Drawn regions: the transitive ground of each operation, as a list of flags. -/
inductive Kind where
  | still   -- depends on no memory, touches none
  | alloc
  | reads
  | acts
def kindOf (T : TT) (o : Oper) : Kind := match o.op with
  | .move _ | .assign _ | .pick .. | .build .. | .nilCheck _ | .binOp .. | .unOp .. | .makeInterface .. | .makeFunc .. | .slice .. | .fieldAddr .. | .field .. | .indexAddr .. | .index .. | .typeAssert .. | .extract .. => .still
  | .alloc _ | .box .. | .buildSlice .. | .makeSlice .. | .makeMap .. => .alloc
  | .load .. | .lookup .. => .reads
  | .convert src dst _ => match und T src, und T dst with
    | some (.slice _), some .string => .reads
    | some .string, some (.slice _) | some (.slice _), some (.slice _) => .acts
    | _, _ => .still
  | .call c => match c.callee with
    | .builtin .len => match (c.argTypes[0]?).bind (und T) with
      | some (.map _ _) => .reads
      | _ => .still
    | .builtin .min | .builtin .max => .still
    | _ => .acts
  | _ => .acts
/-- For which operations does one wait, by however many steps: bits. M: the rows (of n bits each) of the operations ahead of it. -/
def rowOf (n M : Nat) : List Edge → Nat → Nat
  | [], acc => acc
  | e :: r, acc => rowOf n M r (bif Region.binds .any e then acc ||| (1 <<< e.on) ||| ((M >>> (n * e.on)) &&& (2 ^ n - 1)) else acc)
def matOf (n : Nat) : List Oper → Nat → Nat → Nat
  | [], _, M => M
  | o :: r, i, M => matOf n r (i + 1) (M ||| (rowOf n M o.after.toList 0 <<< (n * i)))
/-- The region's order: one number. -/
def mat (ops : Array Oper) : Nat := matOf ops.size ops.toList 0 0
def waits (n M i k : Nat) : Bool := Nat.beq ((M >>> (n * i + k)) % 2) 1
def isAct (T : TT) (ops : Array Oper) (i : Nat) : Bool := match ops[i]? with
  | some o => match kindOf T o with
    | .acts => true
    | _ => false
  | none => false
def actsOf (T : TT) : List Oper → Nat → List Nat
  | [], _ => []
  | o :: r, i => match kindOf T o with
    | .acts => i :: actsOf T r (i + 1)
    | _ => actsOf T r (i + 1)
def restOf (T : TT) : List Oper → Nat → List Nat
  | [], _ => []
  | o :: r, i => match kindOf T o with
    | .acts => restOf T r (i + 1)
    | _ => i :: restOf T r (i + 1)
def stageOf (n M : Nat) (i : Nat) : List Nat → Nat
  | [] => 0
  | e :: r => bif waits n M i e then stageOf n M i r + 1 else stageOf n M i r
def namesOf (ops : Array Oper) (o : Oper) : List Tmp := o.dst.toList ++ (o.op.operands.toList.filterMap fun | .tmp t => some t | _ => none) ++ (match o.guard with
  | some (j, _) => ((ops[j]?).bind (·.dst)).toList
  | none => [])
/-- Whoever writes a temporary that operation i names stands before it or behind it. -/
def tmpOk (n M i : Nat) (ts : List Tmp) : List Oper → Nat → Bool
  | [], _ => true
  | o :: r, j => (match o.dst with
    | some d => !ts.contains d || Nat.beq i j || waits n M i j || waits n M j i
    | none => true) && tmpOk n M i ts r (j + 1)
def tmpsOk (n M : Nat) (ops : Array Oper) : List Oper → Nat → Bool
  | [], _ => true
  | o :: r, i => tmpOk n M i (namesOf ops o) ops.toList 0 && tmpsOk n M ops r (i + 1)
def atStage (n M : Nat) (acts : List Nat) (j : Nat) : List Nat → List Nat
  | [] => []
  | i :: r => bif Nat.beq (stageOf n M i acts) j then i :: atStage n M acts j r else atStage n M acts j r
def canon (n M : Nat) (acts rest : List Nat) : Nat → List Nat → List Nat
  | j, [] => atStage n M acts j rest
  | j, e :: r => atStage n M acts j rest ++ e :: canon n M acts rest (j + 1) r
def orderD (T : TT) (ops : Array Oper) : List Nat := canon ops.size (mat ops) (actsOf T ops.toList 0) (restOf T ops.toList 0) 0 (actsOf T ops.toList 0)
/-- What an operation waits for at once, as a mask. -/
def predMask : List Edge → Nat → Nat
  | [], acc => acc
  | e :: r, acc => predMask r (bif Region.binds .any e then acc ||| (1 <<< e.on) else acc)
/-- Is it an order in which all operations may be done, each once, and does each wait for the act ahead of it? -/
def linOk (T : TT) (ops : Array Oper) (n M : Nat) : List Nat → Nat → Option Nat → Bool
  | [], done, _ => Nat.beq done (2 ^ n - 1)
  | i :: r, done, last => match ops[i]? with
    | some o => Nat.beq (predMask o.after.toList 0 &&& done) (predMask o.after.toList 0) && Nat.beq ((done >>> i) % 2) 0 && (match last with | some a => waits n M i a | none => true) &&
        linOk T ops n M r (done ||| (1 <<< i)) (bif isAct T ops i then some i else last)
    | none => false
def okD (T : TT) (ops : Array Oper) : Bool := linOk T ops ops.size (mat ops) (orderD T ops) 0 none && tmpsOk ops.size (mat ops) ops ops.toList 0
/-- The read that an operation is. -/
def rdOf (o : Oper) (tmps : TM) : Option RD := match o.op with
  | .load t a => match evalA tmps a with
    | some (.ptr b off) => some (.load t b off)
    | _ => none
  | .lookup t m k ok => match evalA tmps m, evalA tmps k with
    | some m, some k => some (.look t m k ok)
    | _, _ => none
  | .convert _ _ x => match evalA tmps x with
    | some (.sl b off len _) => some (.str b off len)
    | _ => none
  | .call c => match evals tmps c.args.toList with
    | some [.mp b] => some (.mlen b)
    | _ => none
  | _ => none
def hold (T : TT) (h : AH) (reads : List (Nat × RD × AV)) : Bool := reads.all fun (_, r, v) => match rdA T h r with
  | some u => AV.same 8 u v
  | none => false
abbrev Sums := FuncId → Option (List AV → AH → Option (AV × AH))
abbrev Rec := Task → AH → Option (Out × AH)
section
variable (P : Program) (T : TT) (S : Sums) (rec : Rec)
def goOn (fr : AFr) (k : List AI) (h : AH) : Option (Out × AH) := rec (.body { fr with todo := k }) h
def xCall1 (cm : Option Mode) : Option (Out × AH) → Option (Out × AH)
  | some (.left none fr, h) | some (.left (some .ret) fr, h) => rec (.unwind fr .ret) h
  | some (.raised c fr, h) => rec (.unwind fr (.pan c)) h
  | _ => none
def xCall (f : FuncId) (args : List AV) (cm : Option Mode) (h : AH) : Option (Out × AH) := match P.funcs[f]? with
  | some fn => match fn.body with
    | some c => match S f, cm with
      | some g, none => (g args h).map fun (v, h') => (.ended (.ret v) none, h')
      | some _, some _ => none
      | none, _ => xCall1 rec cm (rec (.body { fn := f, tmps := TM.ofL args (fn.ntmps - args.length), todo := [.code c], defers := [], cm, roundOf := none }) h)
    | none => none
  | none => none
def xUnwind1 (fr : AFr) (ds : List ADI) : Option (Out × AH) → Option (Out × AH)
  | some (.ended (.ret _) (some m), h) => rec (.unwind { fr with defers := ds } (settleA m)) h
  | some (.ended (.pan c) (some m), h) => rec (.unwind { fr with defers := ds } (raisedA m c)) h
  | _ => none
def xResults (fr : AFr) (h : AH) : Option (Out × AH) := match P.funcs[fr.fn]? with
  | some fn => (resultsA T h fr.tmps fn.results.toList).map fun l => (.ended (.ret (oneOf l)) fr.cm, h)
  | none => none
def xUnwind (fr : AFr) (m : Mode) (h : AH) : Option (Out × AH) := match fr.defers with
  | [] => match m with
    | .ret => xResults P T fr h
    | .pan c => match P.funcs[fr.fn]? with
      | some _ => some (.ended (.pan c) fr.cm, h)
      | none => none
  | .coll b :: ds => match (h.at b) with
    | some .defd => rec (.unwind { fr with defers := ds } m) (h.put b .gone)
    | _ => none
  | .call f args :: ds => xUnwind1 rec fr ds (rec (.call f args (some m)) h)
def xRound1 (l : Nat) : Option (Out × AH) → Option (Out × AH)
  | some (.left jump _, h) => match (h.at l) with
    | some (.loop lo) => some (.ended (.ret (.lit (.bool jump.isNone))) none, h.put l (.loop { lo with state := if jump.isNone then .ready else .done, pending := jump }))
    | _ => none
  | some (.raised c fr, h) => if fr.defers.isEmpty && (P.funcs[fr.fn]?).isSome then some (.ended (.pan c) none, h) else none
  | _ => none
def xRound (l : Nat) (args : List AV) (h : AH) : Option (Out × AH) := match (h.at l) with
  | some (.loop lo) => if args.length = lo.params.length then
      xRound1 P l (rec (.body { fn := lo.fn, tmps := setParams lo.tmps lo.params args, todo := [.code lo.assign, .beginRound, .code lo.body], defers := [], cm := none, roundOf := some l }) h)
    else none
  | _ => none
def xRange1 (fr : AFr) (k : List AI) (d l : Nat) : Option (Out × AH) → Option (Out × AH)
  | some (.ended (.ret _) _, h) => rec (.body { fr with todo := .endRF l :: k, defers := .coll d :: fr.defers }) h
  | some (.ended (.pan c) _, h) => some (.raised c { fr with defers := .coll d :: fr.defers }, h)
  | _ => none
def xRange (fr : AFr) (k : List AI) (h : AH) (f : Operand) (params : Array Tmp) (assign body : Code) : Option (Out × AH) := match fr.roundOf, evalA fr.tmps f with
  | none, some fv => match callA P fv [.fn (.yield (h.n + 1)) [] []] with
    | some (.enter g args) => xRange1 rec fr k h.n (h.n + 1) (rec (.call g args none) ((h.push .defd).push (.loop { state := .ready, pending := none, fn := fr.fn, tmps := fr.tmps, params := params.toList, assign, body })))
    | _ => none
  | _, _ => none
def xBegin (fr : AFr) (k : List AI) (h : AH) : Option (Out × AH) := match fr.roundOf with
  | some l => match (h.at l) with
    | some (.loop lo) => match lo.state with
      | .ready => goOn rec fr k (h.put l (.loop { lo with state := .busy }))
      | _ => none
    | _ => none
  | none => none
def xEnd (fr : AFr) (l : Nat) (k : List AI) (h : AH) : Option (Out × AH) := match (h.at l) with
  | some (.loop lo) => match lo.state with
    | .busy => none
    | _ => goOn rec fr ((lo.pending.map AI.code).toList ++ k) (h.put l (.loop { lo with state := .exhausted }))
  | _ => none
/-- An operation is done: its value is laid, and the frame goes on with the item 'it'. -/
def fin (fr : AFr) (o : Oper) (it : AI) (k : List AI) (v : AV) (h : AH) : Option (Out × AH) :=
  rec (.body { fr with tmps := setTmp fr.tmps o.dst v, todo := it :: k }) h
def xCalled (fr : AFr) (o : Oper) (it : AI) (k : List AI) : Option (Out × AH) → Option (Out × AH)
  | some (.ended (.ret v) _, h) => fin rec fr o it k v h
  | some (.ended (.pan c) _, h) => some (.raised c fr, h)
  | _ => none
def xOp (fr : AFr) (o : Oper) (it : AI) (k : List AI) : AR → Option (Out × AH)
  | some (.val v, h) => fin rec fr o it k v h
  | some (.enter f args, h) => xCalled rec fr o it k (rec (.call f args none) h)
  | some (.round l args, h) => xCalled rec fr o it k (rec (.round l args) h)
  | some (.defer f args, h) => if fr.roundOf.isSome then none else fin rec { fr with defers := .call f args :: fr.defers } o it k aundef h
  | some (.recover, h) => if fr.roundOf.isSome then none else fin rec { fr with cm := (recoverA fr.cm).2 } o it k (recoverA fr.cm).1 h
  | some (.pan v, h) => some (.raised [(v, false)] fr, h)
  | none => none
def xReg (fr : AFr) (ops : Array Oper) (i : Nat) (r : List Nat) (k : List AI) (h : AH) : Option (Out × AH) := match ops[i]? with
  | some o => match wantedA ops fr.tmps o with
    | some true => xOp rec fr o (.reg ops r) k (aop P T o fr.tmps h)
    | some false => fin rec fr o (.reg ops r) k aundef h
    | none => none
  | none => none
def xCalledD (fr : AFr) (o : Oper) (it : AI) (k : List AI) : Option (Out × AH) → Option (Out × AH)
  | some (.ended (.ret v) _, h) => fin rec fr o it k v h
  | _ => none
def xOpD (fr : AFr) (ops : Array Oper) (i : Nat) (o : Oper) (r : List Nat) (reads : List (Nat × RD × AV)) (k : List AI) (x : AR) : Option (Out × AH) := match kindOf T o with
  | .acts => match x with
    | some (.val v, h) => fin rec fr o (.regD ops r reads) k v h
    | some (.enter f args, h) => xCalledD rec fr o (.regD ops r reads) k (rec (.call f args none) h)
    | some (.round l args, h) => xCalledD rec fr o (.regD ops r reads) k (rec (.round l args) h)
    | _ => none
  | .reads => match x with
    | some (.val v, h) => match rdOf o fr.tmps with
      | some rd => fin rec fr o (.regD ops r ((i, rd, v) :: reads)) k v h
      | none => bif (litOp P o fr.tmps).isSome then fin rec fr o (.regD ops r reads) k v h else none
    | _ => none
  | _ => match x with
    | some (.val v, h) => fin rec fr o (.regD ops r reads) k v h
    | _ => none
def xRegD1 (fr : AFr) (ops : Array Oper) (i : Nat) (o : Oper) (r : List Nat) (reads : List (Nat × RD × AV)) (k : List AI) (h : AH) : Option (Out × AH) :=
  match wantedA ops fr.tmps o with
  | some true => xOpD P T rec fr ops i o r reads k (aop P T o fr.tmps h)
  | some false => fin rec fr o (.regD ops r reads) k aundef h
  | none => none
def xRegD (fr : AFr) (ops : Array Oper) (i : Nat) (r : List Nat) (reads : List (Nat × RD × AV)) (k : List AI) (h : AH) : Option (Out × AH) := match ops[i]? with
  | some o => if isAct T ops i then (if hold T h reads then xRegD1 P T rec fr ops i o r (reads.filter fun (j, _, _) => !waits ops.size (mat ops) i j) k h else none) else xRegD1 P T rec fr ops i o r reads k h
  | none => none
def xCond (fr : AFr) (c : Operand) (t e : Code) (k : List AI) (h : AH) : Option (Out × AH) := match evalA fr.tmps c with
  | some (.lit (.bool b)) => goOn rec fr (.code (bif b then t else e) :: k) h
  | _ => none
def xExit (fr : AFr) (id : Nat) (k : List AI) (h : AH) : Option (Out × AH) := match exitA id k with
  | some k' => goOn rec fr k' h
  | none => some (.left (some (.exit id)) fr, h)
def xGoto (fr : AFr) (l : Nat) (k : List AI) (h : AH) : Option (Out × AH) := match gotoA l k with
  | some k' => goOn rec fr k' h
  | none => none
def xRegion (fr : AFr) (ops : Array Oper) (draw : Bool) (k : List AI) (h : AH) : Option (Out × AH) :=
  bif draw then (bif okD T ops then goOn rec fr (.regD ops (orderD T ops) [] :: k) h else none) else goOn rec fr (.reg ops (List.range ops.size) :: k) h
def xCode (fr : AFr) (k : List AI) (h : AH) : Code → Option (Out × AH)
  | .ret => some (.left (some .ret) fr, h)
  | .skip | .label _ => goOn rec fr k h
  | .seq a b => goOn rec fr (.code a :: .code b :: k) h
  | .cond c t e => xCond rec fr c t e k h
  | .block id c => goOn rec fr (.code c :: .blk id :: k) h
  | .loop c => goOn rec fr (.code c :: .lp c :: k) h
  | .scope c => goOn rec fr (.code c :: .sc c :: k) h
  | .exit id => xExit rec fr id k h
  | .rangeFunc f params assign body => xRange P rec fr k h f params assign body
  | .region _ ops draw => xRegion T rec fr ops draw k h
  | .goto l => xGoto rec fr l k h
  | .refuse _ => none
def xItem (fr : AFr) (k : List AI) (h : AH) : AI → Option (Out × AH)
  | .code c => xCode P T rec fr k h c
  | .blk _ | .sc _ => goOn rec fr k h
  | .lp c => goOn rec fr (.code c :: .lp c :: k) h
  | .reg _ [] => goOn rec fr k h
  | .reg ops (i :: r) => xReg P T rec fr ops i r k h
  | .regD _ [] reads => if hold T h reads then goOn rec fr k h else none
  | .regD ops (i :: r) reads => xRegD P T rec fr ops i r reads k h
  | .beginRound => xBegin rec fr k h
  | .endRF l => xEnd rec fr l k h
def xBody (fr : AFr) (h : AH) : Option (Out × AH) := match fr.todo with
  | [] => some (.left none fr, h)
  | it :: k => xItem P T rec fr k h it
def xStep : Rec
  | .call f args cm, h => xCall P S rec f args cm h
  | .body fr, h => xBody P T rec fr h
  | .unwind fr m, h => xUnwind P T rec fr m h
  | .round l args, h => xRound P rec l args h
end
def ex (P : Program) (T : TT) (S : Sums) (n : Nat) : Rec := Nat.rec (motive := fun _ => Rec) (fun _ _ => none) (fun _ r => xStep P T S r) n
end Go.Proofs.YtkgbeihcepociaaDoor.Ex
end

section

set_option linter.unusedSimpArgs false
set_option linter.unusedVariables false
namespace Go.Proofs.YtkgbeihcepociaaDoor.Ex
open Go Go.RowKit
variable {P : Program} {T : TT} {S : Sums} {ρ : Nat → Value} {fl : Nat} {μ μ' : Mu} {h : AH} {w w' : World}
def chainR (ρ : Nat → Value) (μ : Mu) (w : World) : Chain → List PanicEntry → Prop
  | [], l => l = []
  | (a, b) :: r, l => ∃ v l', l = { v, recovered := b, goexit := false } :: l' ∧ rel ρ μ w a v ∧ chainR ρ μ w r l'
def modeR (ρ : Nat → Value) (μ : Mu) (w : World) : Mode → FrameMode → Prop
  | .ret, m => m = .returning
  | .pan c, m => ∃ c', m = .panicking c' ∧ chainR ρ μ w c c'
def itemR (μ : Mu) : AI → Item → Prop
  | .code c, i => i = .code c
  | .blk id, i => i = .inBlock id
  | .lp c, i => i = .inLoop c
  | .sc c, i => i = .inScope c
  | .reg ops l, i => i = .inRegion ops l
  | .regD .., _ => False
  | .endRF l, i => ∃ r, μ l = some (r, 0) ∧ i = .endRangeFunc r
  | .beginRound, i => i = .beginRound
def itemsR (μ : Mu) : List AI → List Item → Prop
  | [], l => l = []
  | a :: r, l => ∃ i l', l = i :: l' ∧ itemR μ a i ∧ itemsR μ r l'
def defR (P : Program) (ρ : Nat → Value) (μ : Mu) (w : World) : ADI → Deferred → Prop
  | .call f args, d => (∃ fn c, d.target = .fn fn c) ∧ ∃ args', rels ρ μ w args args' ∧ ∀ w', (invoke d.target d.args).run P w' = (callFunc f args'.toArray).run P w'
  | .coll b, d => ∃ r, μ b = some (r, 0) ∧ d = { target := .collected r, args := #[] }
def defsR (P : Program) (ρ : Nat → Value) (μ : Mu) (w : World) : List ADI → List Deferred → Prop
  | [], l => l = []
  | a :: r, l => ∃ d l', l = d :: l' ∧ defR P ρ μ w a d ∧ defsR P ρ μ w r l'
def roundR (μ : Mu) : Option Nat → Option Nat → Prop
  | none, r => r = none
  | some l, r => ∃ k, μ l = some (k, 0) ∧ r = some k
def kindC : Option Mode → CallKind
  | none => .normal
  | some _ => .deferred
structure FrU (P : Program) (ρ : Nat → Value) (μ : Mu) (w : World) (fr : AFr) (f : Frame) : Prop where
  fn : f.fn = fr.fn
  tmps : rels ρ μ w fr.tmps.L f.tmps.toList
  defers : defsR P ρ μ w fr.defers f.defers
  kind : f.kind = kindC fr.cm
  round : roundR μ fr.roundOf f.roundOf
  rc : fr.roundOf.isSome = true → fr.cm = none
structure FrB (P : Program) (ρ : Nat → Value) (μ : Mu) (w : World) (fr : AFr) (f : Frame) : Prop where
  u : FrU P ρ μ w fr f
  todo : itemsR μ fr.todo f.todo
  mode : f.mode = .run
def cmR (ρ : Nat → Value) (μ : Mu) (w : World) : Option Mode → List Frame → Prop
  | none, _ => True
  | some m, cs => ∃ c r, cs = c :: r ∧ modeR ρ μ w m c.mode
def csTo (ρ : Nat → Value) (μ : Mu) (w : World) : Option Mode → List Frame → List Frame → Prop
  | none, cs, cs' => cs' = cs
  | some m, cs, cs' => ∃ c r mo, cs = c :: r ∧ cs' = { c with mode := mo } :: r ∧ modeR ρ μ w m mo
/-! More is known later. -/
theorem chainR.mono (hm : More μ μ') (hg : Grows w w') : ∀ {c : Chain} {l : List PanicEntry}, chainR ρ μ w c l → chainR ρ μ' w' c l
  | [], l, hh => hh
  | (a, b) :: r, l, hh => by
    obtain ⟨v, l', h1, h2, h3⟩ := hh
    exact ⟨v, l', h1, rel.mono hm hg _ _ h2, h3.mono hm hg⟩
theorem modeR.mono (hm : More μ μ') (hg : Grows w w') {m : Mode} {x : FrameMode} (hh : modeR ρ μ w m x) : modeR ρ μ' w' m x := by
  cases m with
  | ret => exact hh
  | pan c => obtain ⟨c', h1, h2⟩ := hh; exact ⟨c', h1, h2.mono hm hg⟩
theorem itemR.mono (hm : More μ μ') {a : AI} {i : Item} (hh : itemR μ a i) : itemR μ' a i := by
  cases a <;> first | exact hh | (obtain ⟨r, h1, h2⟩ := hh; exact ⟨r, hm _ _ h1, h2⟩)
theorem itemsR.mono (hm : More μ μ') : ∀ {l : List AI} {l' : List Item}, itemsR μ l l' → itemsR μ' l l'
  | [], l', hh => hh
  | a :: r, l', hh => by
    obtain ⟨i, l2, h1, h2, h3⟩ := hh
    exact ⟨i, l2, h1, h2.mono hm, h3.mono hm⟩
theorem defR.mono (hm : More μ μ') (hg : Grows w w') {a : ADI} {d : Deferred} (hh : defR P ρ μ w a d) : defR P ρ μ' w' a d := by
  cases a with
  | call f args => obtain ⟨h1, args', h2, h3⟩ := hh; exact ⟨h1, args', rels.mono hm hg _ _ h2, h3⟩
  | coll b => obtain ⟨r, h1, h2⟩ := hh; exact ⟨r, hm _ _ h1, h2⟩
theorem defsR.mono (hm : More μ μ') (hg : Grows w w') : ∀ {l : List ADI} {l' : List Deferred}, defsR P ρ μ w l l' → defsR P ρ μ' w' l l'
  | [], l', hh => hh
  | a :: r, l', hh => by
    obtain ⟨d, l2, h1, h2, h3⟩ := hh
    exact ⟨d, l2, h1, h2.mono hm hg, h3.mono hm hg⟩
theorem roundR.mono (hm : More μ μ') {a r : Option Nat} (hh : roundR μ a r) : roundR μ' a r := by
  cases a with
  | none => exact hh
  | some l => obtain ⟨k, h1, h2⟩ := hh; exact ⟨k, hm _ _ h1, h2⟩
theorem FrU.mono (hm : More μ μ') (hg : Grows w w') {fr : AFr} {f : Frame} (hh : FrU P ρ μ w fr f) : FrU P ρ μ' w' fr f :=
  ⟨hh.fn, rels.mono hm hg _ _ hh.tmps, hh.defers.mono hm hg, hh.kind, hh.round.mono hm, hh.rc⟩
theorem FrB.mono (hm : More μ μ') (hg : Grows w w') {fr : AFr} {f : Frame} (hh : FrB P ρ μ w fr f) : FrB P ρ μ' w' fr f :=
  ⟨hh.u.mono hm hg, hh.todo.mono hm, hh.mode⟩
theorem cmR.mono (hm : More μ μ') (hg : Grows w w') {cm : Option Mode} {cs : List Frame} (hh : cmR ρ μ w cm cs) : cmR ρ μ' w' cm cs := by
  cases cm with
  | none => trivial
  | some m => obtain ⟨c, r, h1, h2⟩ := hh; exact ⟨c, r, h1, h2.mono hm hg⟩
theorem csTo.mono (hm : More μ μ') (hg : Grows w w') {cm : Option Mode} {cs cs' : List Frame} (hh : csTo ρ μ w cm cs cs') : csTo ρ μ' w' cm cs cs' := by
  cases cm with
  | none => exact hh
  | some m => obtain ⟨c, r, mo, h1, h2, h3⟩ := hh; exact ⟨c, r, mo, h1, h2, h3.mono hm hg⟩
theorem csTo.refl {cm : Option Mode} {cs : List Frame} (hh : cmR ρ μ w cm cs) : csTo ρ μ w cm cs cs := by
  cases cm with
  | none => rfl
  | some m => obtain ⟨c, r, h1, h2⟩ := hh; exact ⟨c, r, c.mode, h1, h1, h2⟩
theorem csTo.cmR {cm : Option Mode} {cs cs' : List Frame} (hh : csTo ρ μ w cm cs cs') : cmR ρ μ w cm cs' := by
  cases cm with
  | none => trivial
  | some m => obtain ⟨c, r, mo, h1, h2, h3⟩ := hh; exact ⟨_, r, h2, h3⟩
theorem csTo.trans {cm cm' : Option Mode} {cs cs1 cs2 : List Frame} (ha : csTo ρ μ w cm cs cs1) (hb : csTo ρ μ' w' cm' cs1 cs2) (hs : cm'.isSome = cm.isSome) : csTo ρ μ' w' cm' cs cs2 := by
  cases cm with
  | none =>
    cases cm' with
    | none =>
      have h1 : cs1 = cs := ha
      rw [← h1]
      exact hb
    | some m => cases hs
  | some m0 =>
    cases cm' with
    | none => cases hs
    | some m =>
      obtain ⟨c, r, mo, rfl, rfl, h3⟩ := ha
      obtain ⟨c', r', mo', h4, rfl, h6⟩ := hb
      obtain ⟨rfl, rfl⟩ := List.cons.inj h4
      exact ⟨c, r, mo', rfl, rfl, h6⟩
/-! What a task's outcome says of the real machine. -/
def Same (fr fr' : AFr) : Prop := fr'.fn = fr.fn ∧ fr'.roundOf = fr.roundOf ∧ fr'.cm.isSome = fr.cm.isSome
theorem Same.refl (fr : AFr) : Same fr fr := ⟨rfl, rfl, rfl⟩
theorem Same.trans {a b c : AFr} (h1 : Same a b) (h2 : Same b c) : Same a c := ⟨h2.1.trans h1.1, h2.2.1.trans h1.2.1, h2.2.2.trans h1.2.2⟩
def leftAt : Option Code → List Item → Prop
  | none, l => l = []
  | some .ret, l => ∃ k, l = .code .ret :: k
  | some (.exit id), l => ∃ k, l = .code (.exit id) :: k ∧ exitTo id k = none
  | _, _ => False
def endR (P : Program) (ρ : Nat → Value) (μ : Mu) (w : World) (g : FuncId) (kind : CallKind) (f : Frame) : End → Prop
  | .ret v => f.fn = g ∧ f.defers = [] ∧ f.kind = kind ∧ f.mode = .returning ∧ ∃ fn v', P.funcs[g]? = some fn ∧ (results fn f.tmps).run P w = .ok v' w ∧ rel ρ μ w v v'
  | .pan c => f.fn = g ∧ f.defers = [] ∧ f.kind = kind ∧ ∃ c' fn, f.mode = .panicking c' ∧ P.funcs[g]? = some fn ∧ chainR ρ μ w c c'
def roundEnd (P : Program) (ρ : Nat → Value) (μ : Mu) (w : World) (m : Machine) (c : Frame) (cs : List Frame) : End → Prop
  | .ret v => ∃ v', rel ρ μ w v v' ∧ Steps P m (lone (c.finish v') cs w)
  | .pan ch => ∃ ch', chainR ρ μ w ch ch' ∧ Steps P m (lone (c.raise ch') cs w)
def outR (P : Program) (ρ : Nat → Value) (fl : Nat) (fr : AFr) (h : AH) (h' : AH) (out : Out) : Prop := ∀ μ w f cs, HR P ρ fl μ h w → FrB P ρ μ w fr f → cmR ρ μ w fr.cm cs → match out with
  | .left j fr' => Same fr fr' ∧ ∃ μ' w' f' cs', Eff P ρ fl μ h w μ' h' w' ∧ Steps P (lone f cs w) (lone f' cs' w') ∧ FrU P ρ μ' w' fr' f' ∧ f'.mode = .run ∧ leftAt j f'.todo ∧ csTo ρ μ' w' fr'.cm cs cs'
  | .raised c fr' => Same fr fr' ∧ ∃ μ' w' f' cs' c', Eff P ρ fl μ h w μ' h' w' ∧ Steps P (lone f cs w) (lone f' cs' w') ∧ FrU P ρ μ' w' fr' f' ∧ f'.mode = .panicking c' ∧ chainR ρ μ' w' c c' ∧ csTo ρ μ' w' fr'.cm cs cs'
  | .ended .. => False
def TaskOK (P : Program) (ρ : Nat → Value) (fl : Nat) : Task → AH → Out → AH → Prop
  | .body fr, h, out, h' => outR P ρ fl fr h h' out
  | .call g args cm, h, .ended e cm', h' => (∃ fn c, P.funcs[g]? = some fn ∧ fn.body = some c) ∧ ∀ μ w cs args', HR P ρ fl μ h w → rels ρ μ w args args' → cmR ρ μ w cm cs → cm'.isSome = cm.isSome ∧
      ∃ μ' w' f' cs', Eff P ρ fl μ h w μ' h' w' ∧ Steps P (lone (Frame.enter P g args'.toArray (kindC cm)) cs w) (lone f' cs' w') ∧ endR P ρ μ' w' g (kindC cm) f' e ∧ csTo ρ μ' w' cm' cs cs'
  | .call .., _, _, _ => False
  | .unwind fr m, h, .ended e cm', h' => fr.roundOf = none → ∀ μ w f cs, HR P ρ fl μ h w → FrU P ρ μ w fr f → modeR ρ μ w m f.mode → cmR ρ μ w fr.cm cs → cm'.isSome = fr.cm.isSome ∧
      ∃ μ' w' f' cs', Eff P ρ fl μ h w μ' h' w' ∧ Steps P (lone f cs w) (lone f' cs' w') ∧ endR P ρ μ' w' fr.fn (kindC fr.cm) f' e ∧ csTo ρ μ' w' cm' cs cs'
  | .unwind .., _, _, _ => False
  | .round l args, h, .ended e cm', h' => cm' = none ∧ ∀ μ w c cs args' rl, HR P ρ fl μ h w → μ l = some (rl, 0) → rels ρ μ w args args' →
      ∃ g tmps asg body, (Instr.yield rl args'.toArray).run P w = .ok (.round rl g tmps asg body) w ∧
      ∃ μ' w', Eff P ρ fl μ h w μ' h' w' ∧ roundEnd P ρ μ' w' (lone (Frame.round rl g tmps asg body .normal) (c :: cs) w) c cs e
  | .round .., _, _, _ => False
def RecOK (P : Program) (ρ : Nat → Value) (fl : Nat) (rec : Rec) : Prop := ∀ t h out h', rec t h = some (out, h') → TaskOK P ρ fl t h out h'
/-! One step of a body. -/
theorem outR.pre {fr fr1 : AFr} {h1 h' : AH} {out : Out} (hs : Same fr fr1)
    (hstep : ∀ μ w f cs, HR P ρ fl μ h w → FrB P ρ μ w fr f → cmR ρ μ w fr.cm cs → ∃ μ1 w1 f1 cs1, Eff P ρ fl μ h w μ1 h1 w1 ∧ Steps P (lone f cs w) (lone f1 cs1 w1) ∧ FrB P ρ μ1 w1 fr1 f1 ∧ csTo ρ μ1 w1 fr1.cm cs cs1)
    (ho : outR P ρ fl fr1 h1 h' out) : outR P ρ fl fr h h' out := by
  intro μ w f cs hr hf hc
  obtain ⟨μ1, w1, f1, cs1, e1, st1, b1, c1⟩ := hstep μ w f cs hr hf hc
  have ho := ho μ1 w1 f1 cs1 e1.hr b1 c1.cmR
  cases out with
  | ended e cm => exact ho
  | left j fr' =>
    obtain ⟨s1, μ2, w2, f2, cs2, e2, st2, b2, m2, l2, c2⟩ := ho
    exact ⟨hs.trans s1, μ2, w2, f2, cs2, e1.trans hr e2, st1.trans st2, b2, m2, l2, c1.trans c2 s1.2.2⟩
  | raised c fr' =>
    obtain ⟨s1, μ2, w2, f2, cs2, c', e2, st2, b2, m2, l2, c2⟩ := ho
    exact ⟨hs.trans s1, μ2, w2, f2, cs2, c', e1.trans hr e2, st1.trans st2, b2, m2, l2, c1.trans c2 s1.2.2⟩
theorem FrU.todo {fr : AFr} {f : Frame} (hu : FrU P ρ μ w fr f) (a : List AI) (b : List Item) : FrU P ρ μ w { fr with todo := a } { f with todo := b } :=
  ⟨hu.fn, hu.tmps, hu.defers, hu.kind, hu.round, hu.rc⟩
/-- A step that changes the list alone. -/
theorem outR.go {fr : AFr} {k : List AI} {h' : AH} {out : Out}
    (hstep : ∀ μ w f cs, HR P ρ fl μ h w → FrB P ρ μ w fr f → ∃ b, itemsR μ k b ∧ step P (lone f cs w) = .next (lone { f with todo := b } cs w))
    (ho : outR P ρ fl { fr with todo := k } h h' out) : outR P ρ fl fr h h' out :=
  outR.pre (fr1 := { fr with todo := k }) ⟨rfl, rfl, rfl⟩ (fun μ w f cs hr hf hc => by
    obtain ⟨b, h1, h2⟩ := hstep μ w f cs hr hf
    exact ⟨μ, w, _, cs, Eff.refl hr, .one h2, ⟨hf.u.todo k b, h1, hf.mode⟩, csTo.refl hc⟩) ho
theorem exitA_some {id : Nat} : ∀ {k k' : List AI} {l : List Item}, itemsR μ k l → exitA id k = some k' → ∃ l', exitTo id l = some l' ∧ itemsR μ k' l'
  | [], k', l, hl, he => by cases he
  | a :: r, k', l, hl, he => by
    obtain ⟨i, l', rfl, h1, h2⟩ := hl
    cases a <;> simp only [itemR] at h1 <;> first
      | (subst h1; simp only [exitA] at he; simp only [exitTo]; first
          | (split at he
             · rename_i hid; obtain rfl := Option.some.inj he; exact ⟨l', by simp [hid], h2⟩
             · rename_i hid; obtain ⟨l2, e1, e2⟩ := exitA_some h2 he; exact ⟨l2, by simp [hid, e1], e2⟩)
          | exact exitA_some h2 he)
      | exact h1.elim
      | (obtain ⟨r', _, rfl⟩ := h1; simp only [exitA] at he; simp only [exitTo]; exact exitA_some h2 he)
theorem gotoA_some {n : Nat} : ∀ {k k' : List AI} {l : List Item}, itemsR μ k l → gotoA n k = some k' → ∃ l', gotoIn n l = some l' ∧ itemsR μ k' l'
  | [], k', l, hl, he => by cases he
  | a :: r, k', l, hl, he => by
    obtain ⟨i, l', rfl, h1, h2⟩ := hl
    cases a <;> simp only [itemR] at h1 <;> first
      | (subst h1; simp only [gotoA] at he; simp only [gotoIn]; first
          | (split at he
             · rename_i rest hid; obtain rfl := Option.some.inj he; rw [hid]; exact ⟨_, rfl, _, _, rfl, rfl, _, _, rfl, rfl, h2⟩
             · rename_i hid; obtain ⟨l2, e1, e2⟩ := gotoA_some h2 he; exact ⟨l2, by simp [hid, e1], e2⟩)
          | exact gotoA_some h2 he)
      | exact h1.elim
      | (obtain ⟨r', _, rfl⟩ := h1; simp only [gotoA] at he; simp only [gotoIn]; exact gotoA_some h2 he)
theorem exitA_none {id : Nat} : ∀ {k : List AI} {l : List Item}, itemsR μ k l → exitA id k = none → exitTo id l = none
  | [], l, hl, he => by obtain rfl : l = [] := hl; rfl
  | a :: r, l, hl, he => by
    obtain ⟨i, l', rfl, h1, h2⟩ := hl
    cases a <;> simp only [itemR] at h1 <;> first
      | (subst h1; simp only [exitA] at he; simp only [exitTo]; first
          | (split at he
             · cases he
             · rename_i hid; simp [hid, exitA_none h2 he])
          | exact exitA_none h2 he)
      | exact h1.elim
      | (obtain ⟨r', _, rfl⟩ := h1; simp only [exitA] at he; simp only [exitTo]; exact exitA_none h2 he)
end Go.Proofs.YtkgbeihcepociaaDoor.Ex
end

section

set_option linter.unusedSimpArgs false
set_option linter.unusedVariables false
namespace Go.Proofs.YtkgbeihcepociaaDoor.Ex
open Go Go.RowKit
variable {P : Program} {T : TT} {S : Sums} {ρ : Nat → Value} {fl : Nat} {μ μ' : Mu} {h : AH} {w w' : World}
theorem frame_env {fr : AFr} {f : Frame} (hu : FrU P ρ μ w fr f) : EnvR ρ μ w fr.tmps f.eval :=
  envR_of hu.tmps (fun t => by simp [Frame.eval]) (fun _ => rfl) (fun _ => rfl)
theorem wantedA_sound {ops : Array Oper} {tmps : TM} {rt : Array Value} {o : Oper} {b : Bool} (ht : rels ρ μ w tmps.L rt.toList) (hw : wantedA ops tmps o = some b) : Region.wanted o (yielded ops rt) = b := by
  unfold wantedA at hw
  unfold Region.wanted
  cases hg : o.guard with
  | none => rw [hg] at hw; exact Option.some.inj hw
  | some p =>
    obtain ⟨j, want⟩ := p
    rw [hg] at hw
    simp only at hw ⊢
    split at hw
    case h_2 => cases hw
    rename_i d hd
    split at hw
    · rename_i c hc
      obtain rfl := Option.some.inj hw
      obtain ⟨v, h1, h2⟩ := rels_get ht ((TL_at _ _).trans hc)
      obtain rfl := rel_bool_inv h2
      rw [Array.getElem?_toList] at h1
      simp [yielded, hd, h1]
    · rename_i hc
      obtain rfl := Option.some.inj hw
      obtain ⟨v, h1, h2⟩ := rels_get ht ((TL_at _ _).trans hc)
      obtain ⟨l', rfl, _⟩ := rel_tup_inv h2
      rw [Array.getElem?_toList] at h1
      simp [yielded, hd, h1]
    · cases hw
section steps
variable {f : Frame} {cs : List Frame} {ops : Array Oper} {i : Nat} {r : List Nat} {l : List Item} {o : Oper}
theorem stepG_oper (hm : f.mode = .run) (ht : f.todo = .inRegion ops (i :: r) :: l) (ho : ops[i]? = some o) (hw : Region.wanted o (yielded ops f.tmps) = true) (hd : f.roundOf = none ∨ ∀ c, o.op ≠ .defer c) :
    stepG P true { frame := f, callers := cs, status := .running, dying := none } w = stepG.apply P true f cs none (execOp f.eval o) w := by
  rcases hd with hd | hd
  · simp [stepG, stepG.exec, stepG.oper, Frame.oper?, hm, ht, ho, hw, hd]
  · cases hro : f.roundOf with
    | none => simp [stepG, stepG.exec, stepG.oper, Frame.oper?, hm, ht, ho, hw, hro]
    | some rl =>
      simp only [stepG, hm, stepG.exec, ht, ho, Option.map_some, hw, Option.getD_some, if_true, stepG.oper, Frame.oper?, hro]
      split <;> first | rfl | (rename_i heq1 heq2; exact absurd heq2 (hd _)) | (rename_i heq; exact absurd heq (hd _))
variable (hm : f.mode = .run) (ht : f.todo = .inRegion ops (i :: r) :: l) (ho : ops[i]? = some o) (hw : Region.wanted o (yielded ops f.tmps) = true) (hd : f.roundOf = none ∨ ∀ c, o.op ≠ .defer c)
include hm ht ho hw hd
theorem step_value {v : Value} (hr : (execOp f.eval o).run P w = .ok (.value v) w' ∨ ((execOp f.eval o).run P w = .ok .skip w' ∧ v = undef)) : step P (lone f cs w) = .next (lone (f.finish v) cs w') := by
  rcases hr with hr | ⟨hr, rfl⟩ <;> exact step_lone_go (by rw [stepG_oper hm ht ho hw hd]; simp [stepG.apply, hr])
theorem step_enter {g : FuncId} {args : Array Value} (hr : (execOp f.eval o).run P w = .ok (.enter g args) w') : step P (lone f cs w) = .next (lone (Frame.enter P g args .normal) (f :: cs) w') :=
  step_lone_go (by rw [stepG_oper hm ht ho hw hd]; simp [stepG.apply, hr, ht])
theorem step_round {rl : Nat} {g : FuncId} {tmps : Array Value} {a b : Code} (hr : (execOp f.eval o).run P w = .ok (.round rl g tmps a b) w') : step P (lone f cs w) = .next (lone (Frame.round rl g tmps a b .normal) (f :: cs) w') :=
  step_lone_go (by rw [stepG_oper hm ht ho hw hd]; simp [stepG.apply, hr, ht])
theorem step_deferred {d : Deferred} (hr : (execOp f.eval o).run P w = .ok (.defer d) w') : step P (lone f cs w) = .next (lone ({ f with defers := d :: f.defers }.finish undef) cs w') :=
  step_lone_go (by rw [stepG_oper hm ht ho hw hd]; simp [stepG.apply, hr])
theorem step_panic {v : Value} (hr : (execOp f.eval o).run P w = .halt (.panic v) w') : step P (lone f cs w) = .next (lone (f.raise [{ v, recovered := false }]) cs w') :=
  step_lone_go (by rw [stepG_oper hm ht ho hw hd]; simp [stepG.apply, hr])
theorem step_recover_some {v : Value} {cs' : List Frame} (hro : f.roundOf = none) (hr : (execOp f.eval o).run P w = .ok .recover w') (htr : tryRecover f cs = some (v, cs')) : step P (lone f cs w) = .next (lone (f.finish v) cs' w') :=
  step_lone_go (by rw [stepG_oper hm ht ho hw hd]; simp [stepG.apply, hr, hro, htr])
theorem step_recover_none (hro : f.roundOf = none) (hr : (execOp f.eval o).run P w = .ok .recover w') (htr : tryRecover f cs = none) : step P (lone f cs w) = .next (lone (f.finish .nilIface) cs w') :=
  step_lone_go (by rw [stepG_oper hm ht ho hw hd]; simp [stepG.apply, hr, hro, htr])
end steps
theorem step_unwanted {f : Frame} {cs : List Frame} {ops : Array Oper} {i : Nat} {r : List Nat} {l : List Item} {o : Oper} (hm : f.mode = .run) (ht : f.todo = .inRegion ops (i :: r) :: l) (ho : ops[i]? = some o) (hw : Region.wanted o (yielded ops f.tmps) = false) :
    step P (lone f cs w) = .next (lone (f.finish undef) cs w) :=
  step_lone_go (by simp [stepG, stepG.exec, hm, ht, ho, hw])
theorem finish_region {f : Frame} {ops : Array Oper} {i : Nat} {r : List Nat} {l : List Item} {o : Oper} (ht : f.todo = .inRegion ops (i :: r) :: l) (ho : ops[i]? = some o) (v : Value) :
    f.finish v = { f with tmps := (match o.dst with | some d => f.tmps.setIfInBounds d v | none => f.tmps), todo := .inRegion ops r :: l } := by
  simp only [Frame.finish, ht, ho, Option.bind_some]
  cases o.dst <;> rfl
theorem setTmp_rels {tmps : TM} {rt : Array Value} {d : Option Tmp} {a : AV} {v : Value} (ht : rels ρ μ w tmps.L rt.toList) (hv : rel ρ μ w a v) : rels ρ μ w (setTmp tmps d a).L (match d with | some d => rt.setIfInBounds d v | none => rt).toList := by
  cases d with
  | none => exact ht
  | some d => simp only [setTmp, Array.toList_setIfInBounds, TL_set]; exact rels_set d ht hv
/-- A frame in which an operation is done. -/
theorem FrU.fin {fr : AFr} {f : Frame} {ops : Array Oper} {i : Nat} {r : List Nat} {l : List Item} {o : Oper} {a : AV} {v : Value} (hu : FrU P ρ μ w fr f) (ht : f.todo = .inRegion ops (i :: r) :: l) (ho : ops[i]? = some o) (hv : rel ρ μ w a v) (k : List AI) :
    FrU P ρ μ w { fr with tmps := setTmp fr.tmps o.dst a, todo := k } (f.finish v) := by
  rw [finish_region ht ho]
  exact ⟨hu.fn, setTmp_rels hu.tmps hv, hu.defers, hu.kind, hu.round, hu.rc⟩
theorem FrB.fin {fr : AFr} {f : Frame} {ops : Array Oper} {i : Nat} {r : List Nat} {l : List Item} {k : List AI} {o : Oper} {a : AV} {v : Value} (hu : FrU P ρ μ w fr f) (hm : f.mode = .run) (ht : f.todo = .inRegion ops (i :: r) :: l) (hk : itemsR μ k l) (ho : ops[i]? = some o) (hv : rel ρ μ w a v) :
    FrB P ρ μ w { fr with tmps := setTmp fr.tmps o.dst a, todo := .reg ops r :: k } (f.finish v) := by
  refine ⟨hu.fin ht ho hv _, ?_, ?_⟩
  · rw [finish_region ht ho]
    exact ⟨_, l, rfl, rfl, hk⟩
  · rw [finish_region ht ho]
    exact hm
/-! A frame is left. -/
theorem leave_ret_n {g : FuncId} {f c : Frame} {cs : List Frame} {v : AV} (he : endR P ρ μ w g .normal f (.ret v)) : ∃ v', rel ρ μ w v v' ∧ step P (lone f (c :: cs) w) = .next (lone (c.finish v') cs w) := by
  obtain ⟨h1, h2, h3, h4, fn, v', h5, h6, h7⟩ := he
  subst h1
  exact ⟨v', h7, step_lone_go (by simp [stepG, unwind, doReturn, h2, h3, h4, h5, h6])⟩
theorem chain_noexit : ∀ {c : Chain} {l : List PanicEntry}, chainR ρ μ w c l → l.dropWhile (!·.goexit) = []
  | [], l, hh => by obtain rfl : l = [] := hh; rfl
  | (a, b) :: r, l, hh => by
    obtain ⟨v, l', rfl, _, h3⟩ := hh
    rw [List.dropWhile_cons_of_pos (by simp)]
    exact chain_noexit h3
theorem leave_ret_d {g : FuncId} {f c : Frame} {cs : List Frame} {v : AV} {m : Mode} (he : endR P ρ μ w g .deferred f (.ret v)) (hm : modeR ρ μ w m c.mode) :
    ∃ mo, modeR ρ μ w (settleA m) mo ∧ step P (lone f (c :: cs) w) = .next (lone { c with mode := mo } cs w) := by
  obtain ⟨h1, h2, h3, h4, fn, v', h5, h6, h7⟩ := he
  subst h1
  obtain ⟨cfn, ctmps, ctodo, cdefers, cmode, ckind, cround⟩ := c
  simp only at hm
  cases m with
  | ret =>
    have hm : cmode = .returning := hm
    subst hm
    exact ⟨.returning, rfl, step_lone_go (by simp [stepG, unwind, doReturn, h2, h3, h4, h5, h6])⟩
  | pan ch =>
    obtain ⟨c', e1, e2⟩ := hm
    subst e1
    cases ch with
    | nil =>
      obtain rfl : c' = [] := e2
      exact ⟨.panicking [], ⟨[], rfl, rfl⟩, step_lone_go (by simp [stepG, unwind, doReturn, h2, h3, h4, h5, h6])⟩
    | cons p r =>
      obtain ⟨a, b⟩ := p
      obtain ⟨u, l', rfl, e3, e4⟩ := e2
      cases b with
      | true =>
        have := chain_noexit e4
        exact ⟨.returning, rfl, step_lone_go (by simp [stepG, unwind, doReturn, h2, h3, h4, h5, h6, this])⟩
      | false =>
        exact ⟨_, ⟨_, rfl, u, l', rfl, e3, e4⟩, step_lone_go (by simp [stepG, unwind, doReturn, h2, h3, h4, h5, h6])⟩
theorem leave_pan {g : FuncId} {k : CallKind} {f c : Frame} {cs : List Frame} {ch : Chain} (he : endR P ρ μ w g k f (.pan ch)) : ∃ ch', chainR ρ μ w ch ch' ∧ step P (lone f (c :: cs) w) = .next (lone (c.raise ch') cs w) := by
  obtain ⟨h1, h2, h3, c', fn, h4, h5, h6⟩ := he
  subst h1
  exact ⟨c', h6, step_lone_go (by simp [stepG, unwind, Frame.catches, h2, h4, h5])⟩
theorem chainR_append {a b : Chain} {l m : List PanicEntry} (h1 : chainR ρ μ w a l) (h2 : chainR ρ μ w b m) : chainR ρ μ w (a ++ b) (l ++ m) := by
  induction a generalizing l with
  | nil => obtain rfl : l = [] := h1; exact h2
  | cons p r ih =>
    obtain ⟨x, y⟩ := p
    obtain ⟨v, l', rfl, h3, h4⟩ := h1
    exact ⟨v, l' ++ m, rfl, h3, ih h4⟩
theorem raise_mode {m : Mode} {c : Frame} {ch : Chain} {ch' : List PanicEntry} (hm : modeR ρ μ w m c.mode) (hc : chainR ρ μ w ch ch') : ∃ mo, c.raise ch' = { c with mode := mo } ∧ modeR ρ μ w (raisedA m ch) mo := by
  cases m with
  | ret =>
    have hm : c.mode = .returning := hm
    exact ⟨.panicking ch', by simp [Frame.raise, hm], ch', rfl, hc⟩
  | pan old =>
    obtain ⟨c', e1, e2⟩ := hm
    exact ⟨.panicking (ch' ++ c'), by simp [Frame.raise, e1], _, rfl, chainR_append hc e2⟩
theorem raise_run {c : Frame} {ch' : List PanicEntry} (hm : c.mode = .run) : c.raise ch' = { c with mode := .panicking ch' } := by simp [Frame.raise, hm]
def NoNG (P : Program) : Prop := ∀ (f : FuncId) (fn : Func), P.funcs[f]? = some fn → (fn.name == "runtime.NumGoroutine") = false
theorem callFunc_run (hNG : NoNG P) {g : FuncId} {fn : Func} {c : Code} (hf : P.funcs[g]? = some fn) (hb : fn.body = some c) (args : Array Value) (w : World) : (callFunc g args).run P w = .ok (.enter g args) w := by
  have : ¬ fn.name = "runtime.NumGoroutine" := by simpa using hNG g fn hf
  simp [callFunc, hf, hb, this]
end Go.Proofs.YtkgbeihcepociaaDoor.Ex
end

section

set_option linter.unusedSimpArgs false
set_option linter.unusedVariables false
namespace Go.Proofs.YtkgbeihcepociaaDoor.Ex
open Go Go.RowKit
variable {P : Program} {T : TT} {S : Sums} {ρ : Nat → Value} {fl : Nat} {μ μ' : Mu} {h : AH} {w w' : World} {rec : Rec}
theorem roundEnd.of_steps {m m1 : Machine} {c : Frame} {cs : List Frame} {e : End} (hs : Steps P m m1) (hh : roundEnd P ρ μ w m1 c cs e) : roundEnd P ρ μ w m c cs e := by
  cases e with
  | ret v => obtain ⟨v', h1, h2⟩ := hh; exact ⟨v', h1, hs.trans h2⟩
  | pan ch => obtain ⟨ch', h1, h2⟩ := hh; exact ⟨ch', h1, hs.trans h2⟩
/-- A call by an operation: the callee has come back. -/
theorem call_back (hNG : NoNG P) (hrec : RecOK P ρ fl rec) {g : FuncId} {args : List AV} {e : End} {cm : Option Mode} {h1 : AH} (hc : rec (.call g args none) h = some (.ended e cm, h1))
    {μ : Mu} {w : World} (hr : HR P ρ fl μ h w) {args' : List Value} (ha : rels ρ μ w args args') (c : Frame) (cs : List Frame) :
    (callFunc g args'.toArray).run P w = .ok (.enter g args'.toArray) w ∧ ∃ μ1 w1, Eff P ρ fl μ h w μ1 h1 w1 ∧ roundEnd P ρ μ1 w1 (lone (Frame.enter P g args'.toArray .normal) (c :: cs) w) c cs e := by
  obtain ⟨⟨fn, b, h3, h4⟩, h5⟩ := hrec _ _ _ _ hc
  refine ⟨callFunc_run hNG h3 h4 _ w, ?_⟩
  obtain ⟨h2, μ1, w1, f1, cs1, q1, q2, q3, q4⟩ := h5 μ w (c :: cs) args' hr ha trivial
  cases cm with
  | some m => cases h2
  | none =>
    have q4 : cs1 = c :: cs := q4
    subst q4
    refine ⟨μ1, w1, q1, ?_⟩
    cases e with
    | ret v =>
      obtain ⟨v', s1, s2⟩ := leave_ret_n q3 (c := c) (cs := cs)
      exact ⟨v', s1, q2.trans (.one s2)⟩
    | pan ch =>
      obtain ⟨ch', s1, s2⟩ := leave_pan q3 (c := c) (cs := cs)
      exact ⟨ch', s1, q2.trans (.one s2)⟩
section op
variable {fr : AFr} {ops : Array Oper} {i : Nat} {r : List Nat} {k : List AI} {o : Oper} {out : Out} {h' : AH}
theorem todo_reg (hfr : fr.todo = .reg ops (i :: r) :: k) {f : Frame} (hf : FrB P ρ μ w fr f) : ∃ l, f.todo = .inRegion ops (i :: r) :: l ∧ itemsR μ k l := by
  have := hf.todo
  rw [hfr] at this
  obtain ⟨it, l, h1, h2, h3⟩ := this
  simp only [itemR] at h2
  subst h2
  exact ⟨l, h1, h3⟩
/-- Behind a call by an operation. -/
theorem called_ok (hrec : RecOK P ρ fl rec) (hfr : fr.todo = .reg ops (i :: r) :: k) (ho : ops[i]? = some o) {e : End} {cm : Option Mode} {h2 : AH} (hx : xCalled rec fr o (.reg ops r) k (some (.ended e cm, h2)) = some (out, h'))
    (hgo : ∀ μ w f cs, HR P ρ fl μ h w → FrB P ρ μ w fr f → ∃ μ1 w1, Eff P ρ fl μ h w μ1 h2 w1 ∧ roundEnd P ρ μ1 w1 (lone f cs w) f cs e) : outR P ρ fl fr h h' out := by
  cases e with
  | ret v =>
    simp only [xCalled, fin] at hx
    refine outR.pre (fr1 := { fr with tmps := setTmp fr.tmps o.dst v, todo := .reg ops r :: k }) ⟨rfl, rfl, rfl⟩ (fun μ w f cs hr hf hc => ?_) (hrec _ _ _ _ hx)
    obtain ⟨μ1, w1, q1, v', q2, q3⟩ := hgo μ w f cs hr hf
    obtain ⟨l, t1, t2⟩ := todo_reg hfr hf
    exact ⟨μ1, w1, _, cs, q1, q3, FrB.fin (hf.u.mono q1.more q1.grows) hf.mode t1 (t2.mono q1.more) ho q2, csTo.refl (hc.mono q1.more q1.grows)⟩
  | pan c =>
    simp only [xCalled, Option.some.injEq, Prod.mk.injEq] at hx
    obtain ⟨rfl, rfl⟩ := hx
    refine fun μ w f cs hr hf hc => ⟨Same.refl fr, ?_⟩
    obtain ⟨μ1, w1, q1, ch', q2, q3⟩ := hgo μ w f cs hr hf
    rw [raise_run hf.mode] at q3
    have hu := hf.u.mono q1.more q1.grows
    exact ⟨μ1, w1, _, cs, ch', q1, q3, ⟨hu.fn, hu.tmps, hu.defers, hu.kind, hu.round, hu.rc⟩, rfl, q2, csTo.refl (hc.mono q1.more q1.grows)⟩
theorem aop_defer {tmps : TM} {n : AN} {c : Call} (ho : o.op = .defer c) (ha : aop P T o tmps h = some (n, h')) : ∃ g a, n = .defer g a := by
  unfold aop at ha
  rw [ho] at ha
  simp only at ha
  unfold aDefer at ha
  split at ha
  case h_2 => cases ha
  split at ha
  case h_2 => cases ha
  split at ha
  case h_2 => cases ha
  simp only [Option.some.injEq, Prod.mk.injEq] at ha
  exact ⟨_, _, ha.1.symm⟩
theorem not_defer {tmps : TM} {n : AN} (ha : aop P T o tmps h = some (n, h')) (hn : ∀ g a, n ≠ .defer g a) : ∀ c, o.op ≠ .defer c := fun c hc => by
  obtain ⟨g, a, rfl⟩ := aop_defer hc ha
  exact hn g a rfl
theorem tryRecover_ok {cm : Option Mode} {f : Frame} {cs : List Frame} (hk : f.kind = kindC cm) (hc : cmR ρ μ w cm cs) :
    (tryRecover f cs = none ∧ recoverA cm = (.lit .nilIface, cm)) ∨ ∃ v cs', tryRecover f cs = some (v, cs') ∧ rel ρ μ w (recoverA cm).1 v ∧ csTo ρ μ w (recoverA cm).2 cs cs' := by
  cases cm with
  | none => exact .inl ⟨by simp only [kindC] at hk; simp [tryRecover, hk], rfl⟩
  | some m =>
    obtain ⟨c, r, rfl, hm⟩ := hc
    simp only [kindC] at hk
    cases m with
    | ret =>
      have hm : c.mode = .returning := hm
      exact .inl ⟨by simp [tryRecover, hk, hm], rfl⟩
    | pan ch =>
      obtain ⟨c', e1, e2⟩ := hm
      cases ch with
      | nil =>
        obtain rfl : c' = [] := e2
        exact .inl ⟨by simp [tryRecover, hk, e1], rfl⟩
      | cons p rest =>
        obtain ⟨a, b⟩ := p
        obtain ⟨u, l', rfl, e3, e4⟩ := e2
        cases b with
        | true => exact .inl ⟨by simp [tryRecover, hk, e1], rfl⟩
        | false => exact .inr ⟨u, _, by simp [tryRecover, hk, e1], e3, c, r, _, rfl, rfl, _, rfl, u, l', rfl, e3, e4⟩
theorem recoverA_some (cm : Option Mode) : (recoverA cm).2.isSome = cm.isSome := by
  unfold recoverA
  split <;> rfl
theorem xOp_ok (hT : TT.Sound P T) (hNG : NoNG P) (hrec : RecOK P ρ fl rec) (hfr : fr.todo = .reg ops (i :: r) :: k) (ho : ops[i]? = some o) (hwant : wantedA ops fr.tmps o = some true)
    (hx : xOp rec fr o (.reg ops r) k (aop P T o fr.tmps h) = some (out, h')) : outR P ρ fl fr h h' out := by
  have hopsound : ∀ {n : AN} {h1 : AH}, aop P T o fr.tmps h = some (n, h1) → ∀ {μ w f}, HR P ρ fl μ h w → FrB P ρ μ w fr f → OpOK P ρ fl μ h w ((execOp f.eval o).run P w) n h1 := by
    intro n h1 ha μ w f hr hf
    exact aop_sound hT hr (frame_env hf.u) ha
  have hwt : ∀ {μ w f}, FrB P ρ μ w fr f → Region.wanted o (yielded ops f.tmps) = true := by
    intro μ w f hf
    exact wantedA_sound hf.u.tmps hwant
  cases har : aop P T o fr.tmps h with
  | none => rw [har] at hx; cases hx
  | some p =>
    obtain ⟨n, h1⟩ := p
    rw [har] at hx
    cases n with
    | val a =>
      simp only [xOp, fin] at hx
      refine outR.pre (fr1 := { fr with tmps := setTmp fr.tmps o.dst a, todo := .reg ops r :: k }) ⟨rfl, rfl, rfl⟩ (fun μ w f cs hr hf hc => ?_) (hrec _ _ _ _ hx)
      obtain ⟨l, t1, t2⟩ := todo_reg hfr hf
      obtain ⟨μ1, w1, v', q1, q2, q3⟩ := hopsound har hr hf
      exact ⟨μ1, w1, _, cs, q2, .one (step_value hf.mode t1 ho (hwt hf) (.inr (not_defer har (fun _ _ => by simp))) q1), FrB.fin (hf.u.mono q2.more q2.grows) hf.mode t1 (t2.mono q2.more) ho q3, csTo.refl (hc.mono q2.more q2.grows)⟩
    | enter g args =>
      simp only [xOp] at hx
      cases hcall : rec (.call g args none) h1 with
      | none => rw [hcall] at hx; cases hx
      | some p =>
        obtain ⟨out1, h2⟩ := p
        cases out1 with
        | left j fr' => have := hrec _ _ _ _ hcall; exact this.elim
        | raised c fr' => have := hrec _ _ _ _ hcall; exact this.elim
        | ended e cm =>
          rw [hcall] at hx
          refine called_ok hrec hfr ho hx (fun μ w f cs hr hf => ?_)
          obtain ⟨l, t1, t2⟩ := todo_reg hfr hf
          obtain ⟨rfl, args', q1, q2⟩ := hopsound har hr hf
          obtain ⟨s1, μ1, w1, s2, s3⟩ := call_back hNG hrec hcall hr q1 f cs
          rw [s1] at q2
          exact ⟨μ1, w1, s2, s3.of_steps (.one (step_enter hf.mode t1 ho (hwt hf) (.inr (not_defer har (fun _ _ => by simp))) q2))⟩
    | round l0 args =>
      simp only [xOp] at hx
      cases hcall : rec (.round l0 args) h1 with
      | none => rw [hcall] at hx; cases hx
      | some p =>
        obtain ⟨out1, h2⟩ := p
        cases out1 with
        | left j fr' => have := hrec _ _ _ _ hcall; exact this.elim
        | raised c fr' => have := hrec _ _ _ _ hcall; exact this.elim
        | ended e cm =>
          rw [hcall] at hx
          refine called_ok hrec hfr ho hx (fun μ w f cs hr hf => ?_)
          obtain ⟨l, t1, t2⟩ := todo_reg hfr hf
          obtain ⟨rfl, rl, args', q0, q1, q2⟩ := hopsound har hr hf
          obtain ⟨_, s0⟩ := hrec _ _ _ _ hcall
          obtain ⟨g, tm, asg, body, s1, μ1, w1, s2, s3⟩ := s0 μ w f cs args' rl hr q0 q1
          rw [s1] at q2
          exact ⟨μ1, w1, s2, s3.of_steps (.one (step_round hf.mode t1 ho (hwt hf) (.inr (not_defer har (fun _ _ => by simp))) q2))⟩
    | defer g args =>
      simp only [xOp, fin] at hx
      split at hx
      · cases hx
      · rename_i hro
        refine outR.pre (fr1 := { fr with defers := .call g args :: fr.defers, tmps := setTmp fr.tmps o.dst aundef, todo := .reg ops r :: k }) ⟨rfl, rfl, rfl⟩ (fun μ w f cs hr hf hc => ?_) (hrec _ _ _ _ hx)
        obtain ⟨l, t1, t2⟩ := todo_reg hfr hf
        obtain ⟨rfl, d, args', q1, q2, q3, q4⟩ := hopsound har hr hf
        have hron : f.roundOf = none := by
          have := hf.u.round
          cases hq : fr.roundOf with
          | none => rw [hq] at this; exact this
          | some x => rw [hq] at hro; exact absurd rfl hro
        refine ⟨μ, w, _, cs, Eff.refl hr, .one (step_deferred hf.mode t1 ho (hwt hf) (.inl hron) q2), ?_, csTo.refl hc⟩
        exact FrB.fin (fr := { fr with defers := .call g args :: fr.defers }) (f := { f with defers := d :: f.defers }) ⟨hf.u.fn, hf.u.tmps, ⟨d, _, rfl, ⟨q3, args', q1, q4⟩, hf.u.defers⟩, hf.u.kind, hf.u.round, hf.u.rc⟩ hf.mode t1 t2 ho rel_undef
    | recover =>
      simp only [xOp, fin] at hx
      split at hx
      · cases hx
      · rename_i hro
        refine outR.pre (fr1 := { fr with cm := (recoverA fr.cm).2, tmps := setTmp fr.tmps o.dst (recoverA fr.cm).1, todo := .reg ops r :: k }) ⟨rfl, rfl, recoverA_some fr.cm⟩ (fun μ w f cs hr hf hc => ?_) (hrec _ _ _ _ hx)
        obtain ⟨l, t1, t2⟩ := todo_reg hfr hf
        obtain ⟨rfl, q2⟩ := hopsound har hr hf
        have hrn : fr.roundOf = none := by
          cases hq : fr.roundOf with
          | none => rfl
          | some x => rw [hq] at hro; exact absurd rfl hro
        have hron : f.roundOf = none := by
          have := hf.u.round
          rw [hrn] at this
          exact this
        have hkind : f.kind = kindC (recoverA fr.cm).2 := by
          have h1 := recoverA_some fr.cm
          rw [hf.u.kind]
          cases hq : fr.cm <;> cases hq2 : (recoverA fr.cm).2 <;> simp_all [kindC]
        have fin2 : ∀ v, rel ρ μ w (recoverA fr.cm).1 v → FrB P ρ μ w { fr with cm := (recoverA fr.cm).2, tmps := setTmp fr.tmps o.dst (recoverA fr.cm).1, todo := .reg ops r :: k } (f.finish v) := fun v hv =>
          FrB.fin (fr := { fr with cm := (recoverA fr.cm).2 }) ⟨hf.u.fn, hf.u.tmps, hf.u.defers, hkind, hf.u.round, fun hh => by
            have hh : fr.roundOf.isSome = true := hh
            rw [hrn] at hh
            cases hh⟩ hf.mode t1 t2 ho hv
        rcases tryRecover_ok hf.u.kind hc with ⟨e1, e2⟩ | ⟨v, cs', e1, e2, e3⟩
        · have e3 : (recoverA fr.cm).1 = .lit .nilIface := by rw [e2]
          have e4 : (recoverA fr.cm).2 = fr.cm := by rw [e2]
          refine ⟨μ, w, _, cs, Eff.refl hr, .one (step_recover_none hf.mode t1 ho (hwt hf) (.inl hron) hron q2 e1), fin2 .nilIface (by rw [e3]; exact rel_lit rfl), ?_⟩
          show csTo ρ μ w (recoverA fr.cm).2 cs cs
          rw [e4]
          exact csTo.refl hc
        · exact ⟨μ, w, _, cs', Eff.refl hr, .one (step_recover_some hf.mode t1 ho (hwt hf) (.inl hron) hron q2 e1), fin2 v e2, e3⟩
    | pan v =>
      simp only [xOp, Option.some.injEq, Prod.mk.injEq] at hx
      obtain ⟨rfl, rfl⟩ := hx
      refine fun μ w f cs hr hf hc => ⟨Same.refl fr, ?_⟩
      obtain ⟨l, t1, t2⟩ := todo_reg hfr hf
      obtain ⟨rfl, v', q1, q2⟩ := hopsound har hr hf
      have hst := step_panic (cs := cs) hf.mode t1 ho (hwt hf) (.inr (not_defer har (fun _ _ => by simp))) q1
      rw [raise_run hf.mode] at hst
      have hu := hf.u
      exact ⟨μ, w, _, cs, [{ v := v', recovered := false }], Eff.refl hr, .one hst, ⟨hu.fn, hu.tmps, hu.defers, hu.kind, hu.round, hu.rc⟩, rfl, ⟨v', [], rfl, q2, rfl⟩, csTo.refl hc⟩
theorem xReg_ok (hT : TT.Sound P T) (hNG : NoNG P) (hrec : RecOK P ρ fl rec) (hfr : fr.todo = .reg ops (i :: r) :: k) (hx : xReg P T rec fr ops i r k h = some (out, h')) : outR P ρ fl fr h h' out := by
  unfold xReg at hx
  split at hx
  case h_2 => cases hx
  rename_i o ho
  split at hx
  · rename_i hwant
    exact xOp_ok hT hNG hrec hfr ho hwant hx
  · rename_i hwant
    simp only [fin] at hx
    refine outR.pre (fr1 := { fr with tmps := setTmp fr.tmps o.dst aundef, todo := .reg ops r :: k }) ⟨rfl, rfl, rfl⟩ (fun μ w f cs hr hf hc => ?_) (hrec _ _ _ _ hx)
    obtain ⟨l, t1, t2⟩ := todo_reg hfr hf
    exact ⟨μ, w, _, cs, Eff.refl hr, .one (step_unwanted hf.mode t1 ho (wantedA_sound hf.u.tmps hwant)), FrB.fin hf.u hf.mode t1 t2 ho rel_undef, csTo.refl hc⟩
  · cases hx
end op
end Go.Proofs.YtkgbeihcepociaaDoor.Ex
end
