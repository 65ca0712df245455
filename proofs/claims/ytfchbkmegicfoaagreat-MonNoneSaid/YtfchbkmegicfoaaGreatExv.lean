/- The abstract machine's operations, held against the model's: maps written, append, copy, calls; all of them. -/
import Derived.Test.YtfchbkmegicfoaaGreatExu
set_option linter.unusedSimpArgs false
set_option linter.unusedVariables false
namespace Go.Proofs.YtfchbkmegicfoaaGreat.Ex
open Go Go.RowKit

variable {P : Program} {T : TT} {ρ : Nat → Value} {fl : Nat} {μ : Mu} {h : AH} {w : World} {tmps : TM} {ev : Operand → Value} {o : Oper} {n : AN} {h' : AH}

theorem map_inv {b : Nat} {es : List AE} {clock : Nat} {v : Value} (hr : HR P ρ fl μ h w) (hv : rel ρ μ w (.mp b) v) (hb : h.at b = some (.map es clock)) :
    ∃ r res, μ b = some (r, 0) ∧ v = .map (some r) ∧ w.heap[r]? = some (.map res clock) ∧ entsRel ρ μ w es res.toList := by
  unfold rel at hv
  obtain ⟨r, hr1, hv⟩ := hv
  obtain ⟨_, _, ob, o1, o2⟩ := hr.obj b r 0 _ hr1 hb
  obtain ⟨res, rfl, _, o3⟩ := o2
  exact ⟨r, res, hr1, hv, o1, o3⟩

/-- A map's entries are laid anew. -/
theorem map_eff {b r clock clock' : Nat} {es es' : List AE} {res res' : Array MapEntry} (hr : HR P ρ fl μ h w) (hb : μ b = some (r, 0)) (hx : h.at b = some (.map es clock)) (hg : w.heap[r]? = some (.map res clock)) (he : entsRel ρ μ w es' res'.toList) :
    Eff P ρ fl μ h w μ (h.put b (.map es' clock')) { w with heap := w.heap.setIfInBounds r (.map res' clock') } := by
  obtain ⟨h1, h2⟩ := setObj_one hg (.map res' clock') trivial
  exact Eff.upd hr hb hx rfl h1 h2 ⟨res', rfl, rfl, entsRel.mono (More.refl μ) h1.grows he⟩

theorem updateA_sound {t : TypeId} {m k x : AV} {rm rk rx : Value} (hT : TT.Sound P T) (hr : HR P ρ fl μ h w) (hm : rel ρ μ w m rm) (hk : rel ρ μ w k rk) (hx : rel ρ μ w x rx) (hu : updateA T h t m k x = some h') :
    ∃ w', (Instr.mapUpdate t rm rk rx).run P w = .ok () w' ∧ Eff P ρ fl μ h w μ h' w' := by
  unfold updateA at hu
  split at hu
  case h_2 => cases hu
  rename_i b key hkey
  split at hu
  case h_2 => cases hu
  rename_i es clock hb
  obtain ⟨r, res, m1, rfl, m2, m3⟩ := map_inv hr hm hb
  obtain ⟨hkv, hks⟩ := keyOf_rel hkey hk
  subst hkv
  have hgo : (getObj r).run P w = .ok (.map res clock) w := by simp [getObj, Sem.run, m2]
  split at hu
  · rename_i i v hf
    obtain rfl := Option.some.inj hu
    obtain ⟨kt, e, hu1, hck, g, g1, v', rfl, g2, e', g4, g5⟩ := findT_sound hT m3 hf
    obtain ⟨a0, hck⟩ := hck false w
    simp only [Array.getElem?_toList] at g4
    refine ⟨_, ?_, map_eff hr m1 hb m2 (res' := res.modify i fun e => { e with key := rk, val := rx }) ?_⟩
    · have hkt : (Instr.keyThatStays e'.key rk).run P w = .ok rk w := by
        unfold Instr.keyThatStays
        rw [if_pos g5]
        rfl
      simp [Instr.mapUpdate, run_und hT hu1, hgo, hck, g1 w, g4, hkt, run_setObj_map m2]
    · rw [Array.toList_modify]
      exact entsRel_modify i m3 fun a e q => ⟨rfl, hks, hx, q.2.2.2⟩
  · rename_i hf
    obtain rfl := Option.some.inj hu
    obtain ⟨kt, e, hu1, hck, g, g1, rfl⟩ := findT_sound hT m3 hf
    obtain ⟨a0, hck⟩ := hck false w
    refine ⟨_, ?_, map_eff hr m1 hb m2 (res' := res.push { key := rk, val := rx, born := clock }) ?_⟩
    · simp [Instr.mapUpdate, run_und hT hu1, hgo, hck, g1 w, run_setObj_map m2]
    · rw [Array.toList_push]
      exact entsRel_append m3 ⟨_, [], rfl, ⟨rfl, hks, hx, rfl⟩, rfl⟩
  · cases hu

theorem op_update {t : TypeId} {m k x : Operand} (hT : TT.Sound P T) (hr : HR P ρ fl μ h w) (he : EnvR ρ μ w tmps ev) (ho : o.op = .mapUpdate t m k x ∨ o.op = .insert t m k x) (ha : aUpdate T tmps h t m k x = some (n, h')) :
    OpOK P ρ fl μ h w ((execOp ev o).run P w) n h' := by
  unfold aUpdate at ha
  split at ha
  · rename_i am ak ax hm hk hx
    simp only [Option.map_eq_some_iff, Prod.mk.injEq] at ha
    obtain ⟨h1, h2, rfl, rfl⟩ := ha
    obtain ⟨w', q1, q2⟩ := updateA_sound hT hr (he m _ hm) (he k _ hk) (he x _ hx) h2
    refine ⟨μ, w', undef, .inr ⟨?_, rfl⟩, q2, rel_undef⟩
    rcases ho with ho | ho <;> simp [execOp, ho, q1]
  · cases ha

theorem set_same {h : List AB} {b : Nat} {x : AB} (hb : h[b]? = some x) : h.set b x = h := by
  apply List.ext_getElem?
  intro i
  by_cases hi : b = i
  · subst hi
    rw [List.getElem?_set_self (List.getElem?_eq_some_iff.1 hb).1, hb]
  · rw [List.getElem?_set_ne hi]

theorem deleteA_sound {t ty : TypeId} {l : List TypeId} {m k : AV} {rm rk : Value} (hT : TT.Sound P T) (hr : HR P ρ fl μ h w) (hm : rel ρ μ w m rm) (hk : rel ρ μ w k rk) (hu : deleteA T h t m k = some h') :
    ∃ w', (Builtin.delete_ (t :: l).toArray ty #[rm, rk]).run P w = .ok (.tuple #[]) w' ∧ Eff P ρ fl μ h w μ h' w' := by
  unfold deleteA at hu
  split at hu
  · rename_i key hkey
    split at hu
    case h_2 => cases hu
    rename_i g0 hf
    obtain rfl := Option.some.inj hu
    obtain ⟨hkv, hks⟩ := keyOf_rel hkey hk
    subst hkv
    obtain ⟨kt, e, hu1, hck, _⟩ := findT_sound (ρ := ρ) (μ := μ) (w := w) (es := []) (res := []) hT rfl hf
    have h1 := rel_lit_inv hm
    obtain ⟨a0, hck⟩ := hck true w
    refine ⟨w, ?_, Eff.refl hr⟩
    simp [Builtin.delete_, h1, run_und hT hu1, hck]
  · rename_i b key hkey
    split at hu
    case h_2 => cases hu
    rename_i es clock hb
    obtain ⟨r, res, m1, rfl, m2, m3⟩ := map_inv hr hm hb
    obtain ⟨hkv, hks⟩ := keyOf_rel hkey hk
    subst hkv
    have hgo : (getObj r).run P w = .ok (.map res clock) w := by simp [getObj, Sem.run, m2]
    split at hu
    · rename_i i v hf
      obtain rfl := Option.some.inj hu
      obtain ⟨kt, e, hu1, hck, g, g1, v', rfl, g2, e', g4, g5⟩ := findT_sound hT m3 hf
      obtain ⟨a0, hck⟩ := hck res.isEmpty w
      refine ⟨_, ?_, map_eff hr m1 hb m2 (res' := res.eraseIdxIfInBounds i) (clock' := clock) ?_⟩
      · simp [Builtin.delete_, run_und hT hu1, hgo, hck, g1 w, run_setObj_map m2]
      · simp only [Array.getElem?_toList] at g4
        have hlt := (Array.getElem?_eq_some_iff.1 g4).1
        have : (res.eraseIdxIfInBounds i).toList = res.toList.eraseIdx i := by
          unfold Array.eraseIdxIfInBounds
          rw [dif_pos hlt, Array.toList_eraseIdx]
        rw [this]
        exact entsRel_erase i m3
    · rename_i hf
      obtain rfl := Option.some.inj hu
      obtain ⟨kt, e, hu1, hck, g, g1, rfl⟩ := findT_sound hT m3 hf
      obtain ⟨a0, hck⟩ := hck res.isEmpty w
      have := map_eff (es' := es) (res' := res) (clock' := clock) hr m1 hb m2 m3
      refine ⟨_, ?_, this.alike (by rw [L_put]; exact set_same (by rw [L_at]; exact hb))⟩
      simp [Builtin.delete_, run_und hT hu1, hgo, hck, g1 w, run_setObj_map m2]
    · cases hu
  · cases hu

/-! Append and copy. -/

theorem srcD_kind {z : Nat} {tx : TypeId} {dx : TypeDesc} (hu : P.underlying tx = some dx) (hk : isSrcD z dx = true) : ((∃ e', P.underlying tx = some (.slice e')) ∨ P.underlying tx = some .string) := by
  cases dx <;> first | exact .inl ⟨_, hu⟩ | exact .inr hu | cases hk

theorem rels_byteCells (s : ByteArray) : rels ρ μ w (byteCells s) (Go.byteCells s) := by
  unfold byteCells Go.byteCells
  induction s.data.toList with
  | nil => exact rels_nil
  | cons b r ih => exact rels_cons (rel_lit rfl) ih

theorem srcA_sound {z m : Nat} {tx : TypeId} {dx : TypeDesc} {x : AV} {v : Value} {new : List AV} (hT : TT.Sound P T) (hr : HR P ρ fl μ h w) (hd : und T tx = some dx) (hk : isSrcD z dx = true) (hv : rel ρ μ w x v)
    (hl : lenA x = some m) (hs : srcA h z x = some new) (hn : new.length = m * z) (h1 : new.all AV.one = true) :
    ∃ vs, rels ρ μ w new vs ∧ Src P z tx v m vs w := by
  have hu := und_P hT hd
  have hkind := srcD_kind hu hk
  unfold srcA at hs
  split at hs
  · obtain rfl := Option.some.inj hs
    obtain rfl := rel_lit_inv hv
    simp only [lenA, Option.some.injEq] at hl
    subst hl
    exact ⟨[], rels_nil, hkind, fun _ => rfl, run_firstCells_none w z 0 0 0, run_firstCells_none w.drew z 0 0 0, by simp, by simp⟩
  · rename_i s
    cases hz1 : Nat.beq z 1 with
    | false => rw [hz1] at hs; cases hs
    | true =>
    rw [hz1] at hs
    obtain rfl := Nat.eq_of_beq_eq_true hz1
    obtain rfl := Option.some.inj hs
    obtain rfl := rel_lit_inv hv
    simp only [lenA, Option.some.injEq] at hl
    subst hl
    refine ⟨Go.byteCells s, rels_byteCells s, hkind, fun _ => rfl, firstCells_string s w, firstCells_string s w.drew, by rw [byteCells_length, Nat.mul_one], fun u hu => ?_⟩
    obtain ⟨_, _, rfl⟩ := List.mem_map.1 hu
    rfl
  · rename_i b off len cap
    split at hs
    case h_2 => cases hs
    rename_i l hg
    simp only [lenA, Option.some.injEq] at hl
    subst hl
    obtain ⟨r, base, o', c, q1, rfl, q2, q3⟩ := rel_sl_inv hv
    obtain ⟨cur, e, fz, k1, k2⟩ := getR_sound hr q1 hg
    obtain ⟨vs, k3, k4, k5, k6, k7⟩ := cut_sound k2 hs
    have hle := (capRel_le q3).1
    have hcell : ∀ j u, vs[j]? = some u → w.cell? ((⟨r, o', none⟩ : Addr).add j) = some u := fun j u hu => by
      have hj := (List.getElem?_eq_some_iff.1 hu).1
      have : 0 < len := by
        rcases Nat.eq_zero_or_pos len with h0 | h0
        · subst h0; simp only [Nat.zero_mul] at k4; omega
        · exact h0
      obtain rfl : o' = base + off := q2.resolve_left (by omega)
      rw [addr_add, cell_in k1]
      exact k7 j u hu
    exact ⟨vs, k3, hkind, fun _ => rfl, run_firstCells_some w z len _ len c vs k4 hcell, run_firstCells_some w.drew z len _ len c vs k4 (by simpa using hcell), k4, rels_one k3 h1⟩
  · cases hs

theorem window_append {l : List AV} {vs : List Value} {rest : Array Value} (hh : rels ρ μ w l vs) : window ρ μ w 0 l (vs.toArray ++ rest) := by
  refine ⟨by simp; have := rels_length hh; omega, fun i x hx => ?_⟩
  obtain ⟨v, h1, h2⟩ := rels_get hh hx
  refine ⟨v, ?_, h2⟩
  rw [Nat.zero_add, Array.getElem?_append_left (by simpa using (List.getElem?_eq_some_iff.1 h1).1)]
  simpa using h1

theorem size_zeroCells' (z : Array Value) (k : Nat) : (Builtin.zeroCells z k).size = k * z.size := by simp [Builtin.zeroCells]

/-- A new row for an append that finds no room. -/
theorem append_new {t tx ty e : TypeId} {i : TI} {len c m : Nat} {base : Option Addr} {x : Value} {olds news : List AV} {ovs nvs : List Value} (hT : TT.Sound P T) (hr : HR P ρ fl μ h w) (hu : und T t = some (.slice e)) (hi : T e = some i)
    (hzl : i.zero.cells.length = i.size) (hz0 : 0 < i.size) (hbg : bigT P e = false) (hlen : len + m ≤ 16777216) (hby : (len + m) * i.bytes ≤ 140737488355328) (hold : (Builtin.firstCells i.size len (.slice base len c)).run P w.drew = .ok ovs.toArray w.drew) (ho : rels ρ μ w olds ovs) (hol : ovs.length = len * i.size)
    (hn : rels ρ μ w news nvs) (hs : Src P i.size tx x m nvs w) (hc : c < len + m) :
    valOK P ρ fl μ h w (((Builtin.append_ #[t, tx] ty #[.slice base len c, x]).run P w).andThen fun v w' => .ok (.value v) w') (.sl h.n 0 (len + m) (.un i.size)) (h.push (.cells (olds ++ news) e)) := by
  obtain ⟨info, z, g1, g2, g3, g4, g5⟩ := hT.info e i hi
  have hzr := rel_cells (ofVal1_rel (ρ := ρ) (μ := μ) (w := w) g5)
  have hzs := rels_length hzr
  rw [Array.length_toList] at hzs
  have hmax : len + m ≤ maxLen := by simp only [maxLen]; omega
  rw [← g2] at hold hs
  have hrun := run_append_grow_src (P := P) w t tx ty e info z (und_P hT hu) g1 g4 base len c ovs hold x m nvs hs hc (by simp only [maxLen] at hmax; omega) (growslice_fits hc (by rw [g3]; exact hby))
  have hge := grownCap_ge w (len + m) c e
  have hcm := grownCap_le_maxLen w (len + m) c e hmax
  have e1 : Eff P ρ fl μ h w μ h w.drew := Eff.drew hr 1
  have e2 := Eff.alloc e1.hr (ab := .cells (olds ++ news) e) (o := .cells ((ovs ++ nvs).toArray ++ Builtin.zeroCells z.cells (grownCap w (len + m) c e - (len + m))) e) ⟨_, rfl, window_append (rels_append (rels.mono (More.refl μ) e1.grows _ _ ho) (rels.mono (More.refl μ) e1.grows _ _ hn)), fun hb => by rw [hbg] at hb; cases hb⟩
  refine ⟨_, _, _, .inl (by rw [hrun]; rfl), e1.trans hr e2, ?_⟩
  unfold rel
  refine ⟨w.heap.size, 0, 0, _, up_same _ _ _, rfl, .inr rfl, hge, hcm, hz0, ?_⟩
  refine ⟨_, _, _, heap_alloc_new' w.drew _, ?_⟩
  have hnl := hs.newsLen
  rw [g2] at hnl
  simp only [Array.size_append, List.size_toArray, List.length_append, size_zeroCells', hzs, hzl, hol, hnl]
  rw [← Nat.add_mul, ← Nat.add_mul, Nat.zero_add]
  exact Nat.mul_le_mul_right _ (by omega)

theorem appendA_sound {t tx ty : TypeId} {s x a : AV} {rs rx : Value} (hT : TT.Sound P T) (hr : HR P ρ fl μ h w) (hs : rel ρ μ w s rs) (hx : rel ρ μ w x rx) (ha : appendA T h t tx s x = some (a, h')) :
    valOK P ρ fl μ h w (((Builtin.append_ #[t, tx] ty #[rs, rx]).run P w).andThen fun v w' => .ok (.value v) w') a h' := by
  unfold appendA at ha
  split at ha
  case h_2 => cases ha
  rename_i e dx hu hdx
  split at ha
  case h_2 => cases ha
  rename_i i m k hi hm hk
  generalize hc : (isSrcD i.size dx && Nat.blt 0 i.size && Nat.ble i.size 200 && Nat.beq i.zero.cells.length i.size && Nat.ble (k + m) 16777216 && Nat.ble ((k + m) * i.bytes) 140737488355328) = cb at ha
  cases cb with
  | false => cases ha
  | true =>
  simp only [Bool.and_eq_true] at hc
  obtain ⟨⟨⟨⟨⟨c1, c2⟩, c6⟩, c3⟩, c4⟩, c5⟩ := hc
  have c6 := Nat.ble_eq.mp c6
  have c2 := Nat.blt_eq.mp c2
  have c3 := Nat.eq_of_beq_eq_true c3
  have c4 := Nat.ble_eq.mp c4
  have c5 := Nat.ble_eq.mp c5
  simp only [cond_true] at ha
  split at ha
  case h_2 => cases ha
  rename_i new hnew
  generalize hc : (Nat.beq new.length (m * i.size) && new.all AV.one) = cb at ha
  cases cb with
  | false => cases ha
  | true =>
  simp only [Bool.and_eq_true] at hc
  have d1 := Nat.eq_of_beq_eq_true hc.1
  simp only [cond_true] at ha
  obtain ⟨vs, v1, v2⟩ := srcA_sound (P := P) (tx := tx) hT hr hdx c1 hx hm hnew d1 hc.2
  obtain ⟨info, z, g1, g2, g3, g4, g5⟩ := hT.info e i hi
  have hbg : bigT P e = false := by
    unfold bigT
    rw [g1, Bool.eq_false_iff]
    intro hb
    have := Nat.blt_eq.mp hb
    simp at this
    omega
  unfold appendB at ha
  split at ha
  · obtain rfl := rel_lit_inv hs
    simp only [lenA, Option.some.injEq] at hk
    subst hk
    cases hm0 : Nat.beq m 0 with
    | true =>
      rw [hm0] at ha
      simp only [cond_true, Option.some.injEq, Prod.mk.injEq] at ha
      obtain ⟨rfl, rfl⟩ := ha
      obtain rfl := Nat.eq_of_beq_eq_true hm0
      have hnil : vs = [] := List.eq_nil_of_length_eq_zero (by rw [rels_length v1, d1]; simp)
      refine valOK_here hr ?_ hs
      have hs2 := v2
      rw [← g2] at hs2
      rcases v2.kind with ⟨e', hkk⟩ | hkk <;> simp [Builtin.append_, run_und hT hu, run_underlying hkk, sizeOf, typeInfo, g1, hs2.len, hs2.cells]
    | false =>
      rw [hm0] at ha
      simp only [cond_false, Option.some.injEq, Prod.mk.injEq] at ha
      obtain ⟨rfl, rfl⟩ := ha
      have hmp : m ≠ 0 := fun hh => by subst hh; simp at hm0
      have := append_new (ty := ty) (c := 0) (base := none) (olds := []) (ovs := []) hT hr hu hi c3 c2 hbg c4 c5 (run_firstCells_none w.drew i.size 0 0 0) rels_nil (by simp) v1 v2 (by omega)
      simpa using this
  · rename_i b off len cap
    obtain ⟨r, base, o', c, q1, rfl, q2, q3⟩ := rel_sl_inv hs
    simp only [lenA, Option.some.injEq] at hk
    subst hk
    have hle := capRel_le q3
    cases hm0 : Nat.beq m 0 with
    | true =>
      rw [hm0] at ha
      simp only [cond_true, Option.some.injEq, Prod.mk.injEq] at ha
      obtain ⟨rfl, rfl⟩ := ha
      obtain rfl := Nat.eq_of_beq_eq_true hm0
      have hnil : vs = [] := List.eq_nil_of_length_eq_zero (by rw [rels_length v1, d1]; simp)
      subst hnil
      have hs2 := v2
      rw [← g2] at hs2
      refine valOK_here hr ?_ hs
      rw [run_append_room_src (P := P) w t tx ty e info (und_P hT hu) g1 r o' len c rx 0 [] hs2 (by omega) (fun j hj => by simp at hj) (fun j hj => by simp at hj)]
      rfl
    | false =>
      rw [hm0] at ha
      have hmp : m ≠ 0 := fun hh => by subst hh; simp at hm0
      simp only [cond_false] at ha
      split at ha
      case h_2 => cases ha
      rename_i l e' hg
      obtain ⟨cur, k1, k2, _⟩ := getB_sound hr q1 hg
      have hvl := rels_length v1
      -- the old elements, read behind a draw
      have oldR : ∀ old, cut l off (len * i.size) = some old → ∃ ovs, rels ρ μ w old ovs ∧ ovs.length = len * i.size ∧ (∀ j u, ovs[j]? = some u → w.cell? ((⟨r, o', none⟩ : Addr).add j) = some u) ∧ (Builtin.firstCells i.size len (.slice (some ⟨r, o', none⟩) len c)).run P w.drew = .ok ovs.toArray w.drew := fun old hcut => by
        obtain ⟨ovs, p1, p2, p3, p4, p5⟩ := cut_sound k2 hcut
        have hcell : ∀ j u, ovs[j]? = some u → w.cell? ((⟨r, o', none⟩ : Addr).add j) = some u := fun j u hj => by
          have hjl := (List.getElem?_eq_some_iff.1 hj).1
          have : 0 < len := by
            rcases Nat.eq_zero_or_pos len with h0 | h0
            · subst h0; simp only [Nat.zero_mul] at p2; omega
            · exact h0
          obtain rfl : o' = base + off := q2.resolve_left (by omega)
          rw [addr_add, cell_in k1]
          exact p5 j u hj
        exact ⟨ovs, p1, p2, hcell, run_firstCells_some (P := P) w.drew i.size len _ len c ovs p2 (by simpa using hcell)⟩
      split at ha
      · rename_i old z' hcut
        generalize hcc : (Nat.beq i.size z' && Nat.beq e e') = cb at ha
        cases cb with
        | false => cases ha
        | true =>
        simp only [Bool.and_eq_true] at hcc
        obtain rfl := Nat.eq_of_beq_eq_true hcc.1
        obtain rfl := Nat.eq_of_beq_eq_true hcc.2
        simp only [cond_true, Option.some.injEq, Prod.mk.injEq] at ha
        obtain ⟨rfl, rfl⟩ := ha
        obtain ⟨ovs, p1, p2, p3, p4⟩ := oldR old hcut
        have hx0 := (getB_R hg).1
        by_cases hroom : len + m ≤ c
        · obtain rfl : o' = base + off := q2.resolve_left (by omega)
          obtain ⟨_, _, z0, cur2, e2, fz2, y1, y2⟩ := q3
          rw [k1] at y1
          obtain ⟨rfl, rfl, rfl⟩ := Obj.cells.inj (Option.some.inj y1)
          have hsz : (len + m) * i.size ≤ c * i.size := Nat.mul_le_mul_right _ hroom
          rw [Nat.add_mul] at hsz
          have hfit : base + off + len * i.size + vs.length ≤ cur.size := by omega
          have hone := one_setCells k1 (base + off + len * i.size) vs hfit
          obtain ⟨cur', t1, t2, t3⟩ := heap_setCells vs (base + off + len * i.size) w cur k1 hfit
          have hs2 := v2
          rw [← g2] at hs2
          have hrun := run_append_room_src (P := P) w t tx ty e info (und_P hT hu) g1 r (base + off) len c rx m vs hs2 hroom
            (by rw [g2]; intro j hj; rw [cell_in k1, Array.getElem?_eq_getElem (by omega)]; rfl) (by intro j hj; exact frozen_in k1)
          rw [g2] at hrun
          have heff := Eff.move (base' := base + off) (ab' := .cells (old ++ new) e) hr q1 hx0 rfl hone t1 ⟨cur', rfl, ⟨by
              rw [List.length_append, d1, ← rels_length p1, p2, t2]; omega, fun j x hj => by
            rw [t3]
            have hol := rels_length p1
            by_cases hjo : j < old.length
            · rw [List.getElem?_append_left hjo] at hj
              rw [if_neg (by omega)]
              obtain ⟨v, w1, w2⟩ := rels_get p1 hj
              refine ⟨v, ?_, rel.mono (More.refl μ) hone.grows _ _ w2⟩
              have := p3 j v w1
              rw [addr_add, cell_in k1] at this
              exact this
            · rw [List.getElem?_append_right (by omega)] at hj
              obtain ⟨v, w1, w2⟩ := rels_get v1 hj
              have hlt := (List.getElem?_eq_some_iff.1 w1).1
              refine ⟨v, ?_, rel.mono (More.refl μ) hone.grows _ _ w2⟩
              rw [if_pos (by omega), ← w1]
              congr 1
              omega⟩, fun hb => by rw [hbg] at hb; cases hb⟩
          refine ⟨_, _, .slice (some ⟨r, base + off, none⟩) (len + m) c, .inl (by rw [hrun]; rfl), heff, ?_⟩
          unfold rel
          exact ⟨r, base + off, base + off, c, up_same _ _ _, rfl, .inr rfl, hroom, by omega, z0, cur', _, _, t1, by omega⟩
        · have heff : Eff P ρ fl μ h w μ (h.put b .gone) w := Eff.upd hr q1 hx0 rfl ⟨rfl, fun _ _ => rfl, Grows.refl w, ⟨rfl, rfl, rfl⟩⟩ k1 trivial
          have := append_new (ty := ty) hT heff.hr hu hi c3 c2 hbg c4 c5 p4 p1 p2 v1 v2 (by omega)
          rw [n_put] at this
          obtain ⟨μ', w', v', u1, u2, u3⟩ := this
          exact ⟨μ', w', v', u1, heff.trans hr u2, u3⟩
      · rename_i old kc hcut
        obtain ⟨rfl, _, _⟩ := q3
        cases hroom : Nat.ble (len + m) c with
        | true =>
          rw [hroom] at ha
          simp only [cond_true, Option.map_eq_some_iff, Prod.mk.injEq] at ha
          obtain ⟨l', hput, rfl, rfl⟩ := ha
          have hroom := Nat.ble_eq.mp hroom
          obtain rfl : o' = base + off := q2.resolve_left (by omega)
          obtain ⟨f1, f2, f3⟩ := setCells_eff hr q1 hg hput v1
          have hs2 := v2
          rw [← g2] at hs2
          have hrun := run_append_room_src (P := P) w t tx ty e info (und_P hT hu) g1 r (base + off) len c rx m vs hs2 hroom (by rw [g2]; simpa [Nat.add_assoc] using f2) (by rw [g2]; simpa [Nat.add_assoc] using f3)
          refine ⟨μ, _, .slice (some ⟨r, base + off, none⟩) (len + m) c, .inl (by rw [hrun, g2]; simp [Nat.add_assoc]), f1, ?_⟩
          unfold rel
          exact ⟨r, base, base + off, c, q1, rfl, .inr rfl, rfl, hroom, by omega⟩
        | false =>
          rw [hroom] at ha
          simp only [cond_false, Option.some.injEq, Prod.mk.injEq] at ha
          obtain ⟨rfl, rfl⟩ := ha
          have hroom : ¬ (len + m ≤ c) := fun hh => by rw [Nat.ble_eq.mpr hh] at hroom; cases hroom
          obtain ⟨ovs, p1, p2, p3, p4⟩ := oldR old hcut
          exact append_new (ty := ty) hT hr hu hi c3 c2 hbg c4 c5 p4 p1 p2 v1 v2 (by omega)
      · cases ha
  · cases ha

end Go.Proofs.YtfchbkmegicfoaaGreat.Ex
