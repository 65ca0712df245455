/- The walk of the law MonNone. -/
import Derived.Test.YtfchbkmegicfoaaGreatMonNoneRun
set_option linter.unusedSimpArgs false
set_option linter.unusedVariables false
namespace Go.Proofs.YtfchbkmegicfoaaGreat
open Go.RowKit Go.ChangeShapes Go.WideShapes Go.ChangeAt

theorem msg_cells : Tryz.prog.cellsOf 48 = 46 := by kernel_rfl

def envM (cs : Array Value) (id n : Int) : Nat → Value := fun i => if i = 46 then .int .i64 id else if i = 47 then .int .i64 n else cs.toList.getD i default

theorem run_one {W : World} {cs : Array Value} {id n : Int} {a b : Ex.AV} (hx : monRun a b) (h1 : cs.size = 46) (h2 : ∀ (i : Nat) (u : Value), cs[i]? = some u → u.oneCell' = true)
    (ha : Ex.rel (envM cs id n) (fun _ => none) W a (.int .i64 id)) (hb : Ex.rel (envM cs id n) (fun _ => none) W b (.int .i64 n)) :
    Calls Tryz.prog 3 #[.agg cs, .int .i64 id, .int .i64 n] W fun e w' => e = .returned (.bool true) ∧ Below W.heap.size W w' := by
  obtain ⟨h', hx⟩ := Ex.isTrue_inv hx
  have hr : Ex.rels (envM cs id n) (fun _ => none) W [.agg ((List.range' 0 46).map .ext), a, b] [.agg cs, .int .i64 id, .int .i64 n] := by
    refine Ex.rels_cons ?_ (Ex.rels_cons ha (Ex.rels_cons hb Ex.rels_nil))
    unfold Ex.rel
    refine ⟨cs.toList, by simp, Ex.rels_exts 46 0 cs.toList (by simpa using h1) fun i v hv => ⟨?_, h2 i v (by simpa using hv)⟩⟩
    have hlt : i < 46 := by have := (List.getElem?_eq_some_iff.1 hv).1; simp at this; omega
    rw [Nat.zero_add, envM, if_neg (by omega), if_neg (by omega), List.getD_eq_getElem?_getD, hv]
    rfl
  refine (Ex.ex_calls Ex.tab_sound Ex.noNG follows_mixed (Ex.sums_ok1 _ _) hx hr).mono fun e w' hy => ?_
  obtain ⟨v', μ', rfl, hb, hv⟩ := hy
  exact ⟨by rw [Ex.rel_bool_inv hv], hb⟩

theorem rel_rng {ρ : Nat → Value} {W : World} {i : Nat} {n : Int} {lo hi : Option Int} (h : ρ i = .int .i64 n) (h1 : ∀ a, lo = some a → a ≤ n) (h2 : ∀ b, hi = some b → n ≤ b) : Ex.rel ρ (fun _ => none) W (.rng i lo hi) (.int .i64 n) := by
  unfold Ex.rel
  exact ⟨h.symm, n, rfl, h1, h2⟩

theorem rel_int {ρ : Nat → Value} {W : World} (n : Int) : Ex.rel ρ (fun _ => none) W (.lit (.int .i64 n)) (.int .i64 n) := Ex.rel_lit rfl

set_option maxRecDepth 100000 in
theorem monNone_walk {W : World} {base : Nat} {v0 v1 v2 : Value} {A0 A1 A2 A3 : Prop} (k0 : Value.okWide Tryz.prog W .any base 48 v0) (_ : A0) (k1 : Value.okWide Tryz.prog W .any base 3 v1) (_ : A1) (k2 : Value.okWide Tryz.prog W .any base 3 v2) (_ : A2) (_ : A3) :
    Calls Tryz.prog 3 #[v0, v1, v2] W fun e w' => e = .returned (.bool true) ∧ Below W.heap.size W w' := by
  obtain ⟨cs, rfl, h1, h2⟩ := Ex.okWide_agg Tryz.underlying48 rfl k0
  rw [msg_cells] at h1
  obtain ⟨id, rfl⟩ := okWide_int Tryz.underlying3 k1
  obtain ⟨n, rfl⟩ := okWide_int Tryz.underlying3 k2
  have e46 : envM cs id n 46 = .int .i64 id := rfl
  have e47 : envM cs id n 47 = .int .i64 n := rfl
  have x46 : Ex.rel (envM cs id n) (fun _ => none) W (.ext 46) (.int .i64 id) := by unfold Ex.rel; exact ⟨rfl, rfl⟩
  by_cases hlo : n ≤ 0
  · exact run_one monRun_lo h1 h2 x46 (rel_rng e47 (fun a h => by cases h) (fun b h => by cases h; exact hlo))
  by_cases hhi : 6 ≤ n
  · exact run_one monRun_hi h1 h2 x46 (rel_rng e47 (fun a h => by cases h; exact hhi) (fun b h => by cases h))
  have hn : n = 1 ∨ n = 2 ∨ n = 3 ∨ n = 4 ∨ n = 5 := by omega
  by_cases hneg : id ≤ -1
  · rcases hn with rfl | rfl | rfl | rfl | rfl
    · exact run_one monRun_1lo h1 h2 (rel_rng e46 (fun a h => by cases h) (fun b h => by cases h; exact hneg)) (rel_int 1)
    · exact run_one monRun_2lo h1 h2 (rel_rng e46 (fun a h => by cases h) (fun b h => by cases h; exact hneg)) (rel_int 2)
    · exact run_one monRun_3lo h1 h2 (rel_rng e46 (fun a h => by cases h) (fun b h => by cases h; exact hneg)) (rel_int 3)
    · exact run_one monRun_4lo h1 h2 (rel_rng e46 (fun a h => by cases h) (fun b h => by cases h; exact hneg)) (rel_int 4)
    · exact run_one monRun_5lo h1 h2 (rel_rng e46 (fun a h => by cases h) (fun b h => by cases h; exact hneg)) (rel_int 5)
  rcases hn with rfl | rfl | rfl | rfl | rfl
  · by_cases hge : 1 ≤ id
    · exact run_one monRun_1hi h1 h2 (rel_rng e46 (fun a h => by cases h; exact hge) (fun b h => by cases h)) (rel_int 1)
    have hi : id = 0 := by omega
    obtain rfl := hi
    exact run_one monRun_1_0 h1 h2 (rel_int 0) (rel_int 1)
  · by_cases hge : 2 ≤ id
    · exact run_one monRun_2hi h1 h2 (rel_rng e46 (fun a h => by cases h; exact hge) (fun b h => by cases h)) (rel_int 2)
    have hi : id = 0 ∨ id = 1 := by omega
    rcases hi with rfl | rfl
    · exact run_one monRun_2_0 h1 h2 (rel_int 0) (rel_int 2)
    · exact run_one monRun_2_1 h1 h2 (rel_int 1) (rel_int 2)
  · by_cases hge : 3 ≤ id
    · exact run_one monRun_3hi h1 h2 (rel_rng e46 (fun a h => by cases h; exact hge) (fun b h => by cases h)) (rel_int 3)
    have hi : id = 0 ∨ id = 1 ∨ id = 2 := by omega
    rcases hi with rfl | rfl | rfl
    · exact run_one monRun_3_0 h1 h2 (rel_int 0) (rel_int 3)
    · exact run_one monRun_3_1 h1 h2 (rel_int 1) (rel_int 3)
    · exact run_one monRun_3_2 h1 h2 (rel_int 2) (rel_int 3)
  · by_cases hge : 4 ≤ id
    · exact run_one monRun_4hi h1 h2 (rel_rng e46 (fun a h => by cases h; exact hge) (fun b h => by cases h)) (rel_int 4)
    have hi : id = 0 ∨ id = 1 ∨ id = 2 ∨ id = 3 := by omega
    rcases hi with rfl | rfl | rfl | rfl
    · exact run_one monRun_4_0 h1 h2 (rel_int 0) (rel_int 4)
    · exact run_one monRun_4_1 h1 h2 (rel_int 1) (rel_int 4)
    · exact run_one monRun_4_2 h1 h2 (rel_int 2) (rel_int 4)
    · exact run_one monRun_4_3 h1 h2 (rel_int 3) (rel_int 4)
  · by_cases hge : 5 ≤ id
    · exact run_one monRun_5hi h1 h2 (rel_rng e46 (fun a h => by cases h; exact hge) (fun b h => by cases h)) (rel_int 5)
    have hi : id = 0 ∨ id = 1 ∨ id = 2 ∨ id = 3 ∨ id = 4 := by omega
    rcases hi with rfl | rfl | rfl | rfl | rfl
    · exact run_one monRun_5_0 h1 h2 (rel_int 0) (rel_int 5)
    · exact run_one monRun_5_1 h1 h2 (rel_int 1) (rel_int 5)
    · exact run_one monRun_5_2 h1 h2 (rel_int 2) (rel_int 5)
    · exact run_one monRun_5_3 h1 h2 (rel_int 3) (rel_int 5)
    · exact run_one monRun_5_4 h1 h2 (rel_int 4) (rel_int 5)

end Go.Proofs.YtfchbkmegicfoaaGreat
