/- Part 5 of the proof: Mg1, Mga, Eq, Mgq, Mgb, Abs, Open, Opa, Opb, Jn, Mop. -/
import Derived.Laws.StructEq
import Derived.Test.YtopeilhdddiapaaGreatDoorRows
import Derived.ProofKit
import Derived.OpenShut
import Derived.ShutString
import Derived.ChangeOld
import Derived.SizedLaws
import Derived.ChangeMaps5
import Derived.Test.YtopeilhdddiapaaGreatDoorM4
open Nat renaming reduceAdd → zrA, reduceSub → zrS, reduceMul → zrM, reduceLT → zrL, reduceEqDiff → zrE, reduceLeDiff → zrD, reduceShiftRight → zrR, reduceMod → zrO
open Int renaming reduceLE → ziE, reduceLT → ziL, reduceToNat → ziN
section
/- Names of sets: what is good (both sides). -/
set_option linter.unusedSimpArgs false
set_option linter.unusedVariables false
set_option maxRecDepth 10000
set_option maxHeartbeats 4000000
namespace Go.Proofs.YtopeilhdddiapaaGreatDoor.Ex
open Go

def gB (c : UInt8) : Bool := decide (97 ≤ (c.toNat : Int)) && decide ((c.toNat : Int) ≤ 122) || (decide (65 ≤ (c.toNat : Int)) && decide ((c.toNat : Int) ≤ 90)) || (decide (48 ≤ (c.toNat : Int)) && decide ((c.toNat : Int) ≤ 57)) || ((c.toNat : Int) == 46) || ((c.toNat : Int) == 95) || ((c.toNat : Int) == 45)
def mGood (l : List UInt8) : Bool := l.all gB && (decide (1 ≤ (l.length : Int)) && decide ((l.length : Int) ≤ 40))
theorem mGood_bad {l : List UInt8} {c : UInt8} {i : Nat} (h : l[i]? = some c) (hb : gB c = false) : mGood l = false := by
  unfold mGood
  have : l.all gB = false := by
    rw [List.all_eq_false]
    exact ⟨c, List.mem_of_getElem? h, by rw [hb]; simp⟩
  rw [this]
  rfl
theorem take_all {l : List UInt8} {c : UInt8} {i : Nat} (h : l[i]? = some c) (ha : (l.take i).all gB = true) (hb : gB c = true) : (l.take (i + 1)).all gB = true := by
  obtain ⟨h1, h2⟩ := List.getElem?_eq_some_iff.1 h
  rw [List.take_succ_eq_append_getElem h1, h2, List.all_append, ha]
  simp [hb]
theorem mgood_x {H : AH} {l : List UInt8} (hl : l.length ≤ 4611686018427387000) : WC Tryz.prog (tabOf Tryz.prog NT0) S0 10 [.lit (.string ⟨l.toArray⟩)] H fun r h' => r = .lit (.bool (mGood l)) ∧ h' = H := by
  refine WC_fn Tryz.func10 rfl rfl ?_
  obtain ⟨n, hN⟩ : ∃ n, n = l.length := ⟨_, rfl⟩
  simp only [core, zrA, zrS, zrM, zrL, zrE, reduceCtorEq, zrD, ziE, ziL, ziN, Tryz.ntmps10, a_slen, isStrV_lit, strV_lit, ← hN]
  refine WB_for n (fun i t h => h = H ∧ (l.take i).all gB = true ∧ t.n = 56 ∧ t.get 0 = .lit (.string ⟨l.toArray⟩) ∧ t.get 6 = .lit (.int .i64 n) ∧ t.get 7 = .lit (.int .i64 i)) ?_ ?_ _ _ ?_
  · rintro i t h hlt hc ⟨rfl, hall, hn, g0, g6, g7⟩ ih
    have hwi := wrap_succ (n := n) hlt (by omega)
    obtain ⟨c, hcl⟩ : ∃ c, l[i]? = some c := ⟨_, List.getElem?_eq_getElem (by omega)⟩
    obtain ⟨b1, hb1⟩ : ∃ b, decide (97 ≤ (c.toNat : Int)) = b := ⟨_, rfl⟩
    obtain ⟨b2, hb2⟩ : ∃ b, decide ((c.toNat : Int) ≤ 122) = b := ⟨_, rfl⟩
    obtain ⟨b3, hb3⟩ : ∃ b, decide (65 ≤ (c.toNat : Int)) = b := ⟨_, rfl⟩
    obtain ⟨b4, hb4⟩ : ∃ b, decide ((c.toNat : Int) ≤ 90) = b := ⟨_, rfl⟩
    obtain ⟨b5, hb5⟩ : ∃ b, decide (48 ≤ (c.toNat : Int)) = b := ⟨_, rfl⟩
    obtain ⟨b6, hb6⟩ : ∃ b, decide ((c.toNat : Int) ≤ 57) = b := ⟨_, rfl⟩
    obtain ⟨b7, hb7⟩ : ∃ b, ((c.toNat : Int) == 46) = b := ⟨_, rfl⟩
    obtain ⟨b8, hb8⟩ : ∃ b, ((c.toNat : Int) == 95) = b := ⟨_, rfl⟩
    obtain ⟨b9, hb9⟩ : ∃ b, ((c.toNat : Int) == 45) = b := ⟨_, rfl⟩
    simp only [core, zrA, zrS, zrM, zrL, zrE, reduceCtorEq, zrD, ziE, ziL, ziN, hn, g0, g6, g7, hlt, hc, a_slen, a_six, isStrV_lit, strV_lit, ← hN, six_int, hcl, Int.toNat_natCast, Int.natCast_nonneg, hwi, aundef, hb1, hb2, hb3, hb4, hb5, hb6, hb7, hb8, hb9]
    cases b1 with
    | true =>
      try simp only [core, zrA, zrS, zrM, zrL, zrE, reduceCtorEq, zrD, ziE, ziL, ziN, hn, g0, g6, g7, hlt, hc, a_slen, a_six, isStrV_lit, strV_lit, ← hN, six_int, hcl, Int.toNat_natCast, Int.natCast_nonneg, hwi, aundef, hb1, hb2, hb3, hb4, hb5, hb6, hb7, hb8, hb9]
      cases b2 with
      | true =>
        try simp only [core, zrA, zrS, zrM, zrL, zrE, reduceCtorEq, zrD, ziE, ziL, ziN, hn, g0, g6, g7, hlt, hc, a_slen, a_six, isStrV_lit, strV_lit, ← hN, six_int, hcl, Int.toNat_natCast, Int.natCast_nonneg, hwi, aundef, hb1, hb2, hb3, hb4, hb5, hb6, hb7, hb8, hb9]
        refine ih _ _ ⟨rfl, take_all hcl hall (by simp [gB, hb1, hb2, hb3, hb4, hb5, hb6, hb7, hb8, hb9]), ?_⟩
        simp only [core, zrA, zrS, zrM, zrL, zrE, reduceCtorEq, zrD, ziE, ziL, ziN, hn, g0, g6, g7]
      | false =>
        try simp only [core, zrA, zrS, zrM, zrL, zrE, reduceCtorEq, zrD, ziE, ziL, ziN, hn, g0, g6, g7, hlt, hc, a_slen, a_six, isStrV_lit, strV_lit, ← hN, six_int, hcl, Int.toNat_natCast, Int.natCast_nonneg, hwi, aundef, hb1, hb2, hb3, hb4, hb5, hb6, hb7, hb8, hb9]
        cases b3 with
        | true =>
          try simp only [core, zrA, zrS, zrM, zrL, zrE, reduceCtorEq, zrD, ziE, ziL, ziN, hn, g0, g6, g7, hlt, hc, a_slen, a_six, isStrV_lit, strV_lit, ← hN, six_int, hcl, Int.toNat_natCast, Int.natCast_nonneg, hwi, aundef, hb1, hb2, hb3, hb4, hb5, hb6, hb7, hb8, hb9]
          cases b4 with
          | true =>
            try simp only [core, zrA, zrS, zrM, zrL, zrE, reduceCtorEq, zrD, ziE, ziL, ziN, hn, g0, g6, g7, hlt, hc, a_slen, a_six, isStrV_lit, strV_lit, ← hN, six_int, hcl, Int.toNat_natCast, Int.natCast_nonneg, hwi, aundef, hb1, hb2, hb3, hb4, hb5, hb6, hb7, hb8, hb9]
            refine ih _ _ ⟨rfl, take_all hcl hall (by simp [gB, hb1, hb2, hb3, hb4, hb5, hb6, hb7, hb8, hb9]), ?_⟩
            simp only [core, zrA, zrS, zrM, zrL, zrE, reduceCtorEq, zrD, ziE, ziL, ziN, hn, g0, g6, g7]
          | false =>
            try simp only [core, zrA, zrS, zrM, zrL, zrE, reduceCtorEq, zrD, ziE, ziL, ziN, hn, g0, g6, g7, hlt, hc, a_slen, a_six, isStrV_lit, strV_lit, ← hN, six_int, hcl, Int.toNat_natCast, Int.natCast_nonneg, hwi, aundef, hb1, hb2, hb3, hb4, hb5, hb6, hb7, hb8, hb9]
            cases b5 with
            | true =>
              try simp only [core, zrA, zrS, zrM, zrL, zrE, reduceCtorEq, zrD, ziE, ziL, ziN, hn, g0, g6, g7, hlt, hc, a_slen, a_six, isStrV_lit, strV_lit, ← hN, six_int, hcl, Int.toNat_natCast, Int.natCast_nonneg, hwi, aundef, hb1, hb2, hb3, hb4, hb5, hb6, hb7, hb8, hb9]
              cases b6 with
              | true =>
                try simp only [core, zrA, zrS, zrM, zrL, zrE, reduceCtorEq, zrD, ziE, ziL, ziN, hn, g0, g6, g7, hlt, hc, a_slen, a_six, isStrV_lit, strV_lit, ← hN, six_int, hcl, Int.toNat_natCast, Int.natCast_nonneg, hwi, aundef, hb1, hb2, hb3, hb4, hb5, hb6, hb7, hb8, hb9]
                refine ih _ _ ⟨rfl, take_all hcl hall (by simp [gB, hb1, hb2, hb3, hb4, hb5, hb6, hb7, hb8, hb9]), ?_⟩
                simp only [core, zrA, zrS, zrM, zrL, zrE, reduceCtorEq, zrD, ziE, ziL, ziN, hn, g0, g6, g7]
              | false =>
                try simp only [core, zrA, zrS, zrM, zrL, zrE, reduceCtorEq, zrD, ziE, ziL, ziN, hn, g0, g6, g7, hlt, hc, a_slen, a_six, isStrV_lit, strV_lit, ← hN, six_int, hcl, Int.toNat_natCast, Int.natCast_nonneg, hwi, aundef, hb1, hb2, hb3, hb4, hb5, hb6, hb7, hb8, hb9]
                cases b7 with
                | true =>
                  try simp only [core, zrA, zrS, zrM, zrL, zrE, reduceCtorEq, zrD, ziE, ziL, ziN, hn, g0, g6, g7, hlt, hc, a_slen, a_six, isStrV_lit, strV_lit, ← hN, six_int, hcl, Int.toNat_natCast, Int.natCast_nonneg, hwi, aundef, hb1, hb2, hb3, hb4, hb5, hb6, hb7, hb8, hb9]
                  refine ih _ _ ⟨rfl, take_all hcl hall (by simp [gB, hb1, hb2, hb3, hb4, hb5, hb6, hb7, hb8, hb9]), ?_⟩
                  simp only [core, zrA, zrS, zrM, zrL, zrE, reduceCtorEq, zrD, ziE, ziL, ziN, hn, g0, g6, g7]
                | false =>
                  try simp only [core, zrA, zrS, zrM, zrL, zrE, reduceCtorEq, zrD, ziE, ziL, ziN, hn, g0, g6, g7, hlt, hc, a_slen, a_six, isStrV_lit, strV_lit, ← hN, six_int, hcl, Int.toNat_natCast, Int.natCast_nonneg, hwi, aundef, hb1, hb2, hb3, hb4, hb5, hb6, hb7, hb8, hb9]
                  cases b8 with
                  | true =>
                    try simp only [core, zrA, zrS, zrM, zrL, zrE, reduceCtorEq, zrD, ziE, ziL, ziN, hn, g0, g6, g7, hlt, hc, a_slen, a_six, isStrV_lit, strV_lit, ← hN, six_int, hcl, Int.toNat_natCast, Int.natCast_nonneg, hwi, aundef, hb1, hb2, hb3, hb4, hb5, hb6, hb7, hb8, hb9]
                    refine ih _ _ ⟨rfl, take_all hcl hall (by simp [gB, hb1, hb2, hb3, hb4, hb5, hb6, hb7, hb8, hb9]), ?_⟩
                    simp only [core, zrA, zrS, zrM, zrL, zrE, reduceCtorEq, zrD, ziE, ziL, ziN, hn, g0, g6, g7]
                  | false =>
                    try simp only [core, zrA, zrS, zrM, zrL, zrE, reduceCtorEq, zrD, ziE, ziL, ziN, hn, g0, g6, g7, hlt, hc, a_slen, a_six, isStrV_lit, strV_lit, ← hN, six_int, hcl, Int.toNat_natCast, Int.natCast_nonneg, hwi, aundef, hb1, hb2, hb3, hb4, hb5, hb6, hb7, hb8, hb9]
                    cases b9 with
                    | true =>
                      try simp only [core, zrA, zrS, zrM, zrL, zrE, reduceCtorEq, zrD, ziE, ziL, ziN, hn, g0, g6, g7, hlt, hc, a_slen, a_six, isStrV_lit, strV_lit, ← hN, six_int, hcl, Int.toNat_natCast, Int.natCast_nonneg, hwi, aundef, hb1, hb2, hb3, hb4, hb5, hb6, hb7, hb8, hb9]
                      refine ih _ _ ⟨rfl, take_all hcl hall (by simp [gB, hb1, hb2, hb3, hb4, hb5, hb6, hb7, hb8, hb9]), ?_⟩
                      simp only [core, zrA, zrS, zrM, zrL, zrE, reduceCtorEq, zrD, ziE, ziL, ziN, hn, g0, g6, g7]
                    | false =>
                      try simp only [core, zrA, zrS, zrM, zrL, zrE, reduceCtorEq, zrD, ziE, ziL, ziN, hn, g0, g6, g7, hlt, hc, a_slen, a_six, isStrV_lit, strV_lit, ← hN, six_int, hcl, Int.toNat_natCast, Int.natCast_nonneg, hwi, aundef, hb1, hb2, hb3, hb4, hb5, hb6, hb7, hb8, hb9]
                      rw [mGood_bad hcl (by simp [gB, hb1, hb2, hb3, hb4, hb5, hb6, hb7, hb8, hb9])]
            | false =>
              try simp only [core, zrA, zrS, zrM, zrL, zrE, reduceCtorEq, zrD, ziE, ziL, ziN, hn, g0, g6, g7, hlt, hc, a_slen, a_six, isStrV_lit, strV_lit, ← hN, six_int, hcl, Int.toNat_natCast, Int.natCast_nonneg, hwi, aundef, hb1, hb2, hb3, hb4, hb5, hb6, hb7, hb8, hb9]
              cases b7 with
              | true =>
                try simp only [core, zrA, zrS, zrM, zrL, zrE, reduceCtorEq, zrD, ziE, ziL, ziN, hn, g0, g6, g7, hlt, hc, a_slen, a_six, isStrV_lit, strV_lit, ← hN, six_int, hcl, Int.toNat_natCast, Int.natCast_nonneg, hwi, aundef, hb1, hb2, hb3, hb4, hb5, hb6, hb7, hb8, hb9]
                refine ih _ _ ⟨rfl, take_all hcl hall (by simp [gB, hb1, hb2, hb3, hb4, hb5, hb6, hb7, hb8, hb9]), ?_⟩
                simp only [core, zrA, zrS, zrM, zrL, zrE, reduceCtorEq, zrD, ziE, ziL, ziN, hn, g0, g6, g7]
              | false =>
                try simp only [core, zrA, zrS, zrM, zrL, zrE, reduceCtorEq, zrD, ziE, ziL, ziN, hn, g0, g6, g7, hlt, hc, a_slen, a_six, isStrV_lit, strV_lit, ← hN, six_int, hcl, Int.toNat_natCast, Int.natCast_nonneg, hwi, aundef, hb1, hb2, hb3, hb4, hb5, hb6, hb7, hb8, hb9]
                cases b8 with
                | true =>
                  try simp only [core, zrA, zrS, zrM, zrL, zrE, reduceCtorEq, zrD, ziE, ziL, ziN, hn, g0, g6, g7, hlt, hc, a_slen, a_six, isStrV_lit, strV_lit, ← hN, six_int, hcl, Int.toNat_natCast, Int.natCast_nonneg, hwi, aundef, hb1, hb2, hb3, hb4, hb5, hb6, hb7, hb8, hb9]
                  refine ih _ _ ⟨rfl, take_all hcl hall (by simp [gB, hb1, hb2, hb3, hb4, hb5, hb6, hb7, hb8, hb9]), ?_⟩
                  simp only [core, zrA, zrS, zrM, zrL, zrE, reduceCtorEq, zrD, ziE, ziL, ziN, hn, g0, g6, g7]
                | false =>
                  try simp only [core, zrA, zrS, zrM, zrL, zrE, reduceCtorEq, zrD, ziE, ziL, ziN, hn, g0, g6, g7, hlt, hc, a_slen, a_six, isStrV_lit, strV_lit, ← hN, six_int, hcl, Int.toNat_natCast, Int.natCast_nonneg, hwi, aundef, hb1, hb2, hb3, hb4, hb5, hb6, hb7, hb8, hb9]
                  cases b9 with
                  | true =>
                    try simp only [core, zrA, zrS, zrM, zrL, zrE, reduceCtorEq, zrD, ziE, ziL, ziN, hn, g0, g6, g7, hlt, hc, a_slen, a_six, isStrV_lit, strV_lit, ← hN, six_int, hcl, Int.toNat_natCast, Int.natCast_nonneg, hwi, aundef, hb1, hb2, hb3, hb4, hb5, hb6, hb7, hb8, hb9]
                    refine ih _ _ ⟨rfl, take_all hcl hall (by simp [gB, hb1, hb2, hb3, hb4, hb5, hb6, hb7, hb8, hb9]), ?_⟩
                    simp only [core, zrA, zrS, zrM, zrL, zrE, reduceCtorEq, zrD, ziE, ziL, ziN, hn, g0, g6, g7]
                  | false =>
                    try simp only [core, zrA, zrS, zrM, zrL, zrE, reduceCtorEq, zrD, ziE, ziL, ziN, hn, g0, g6, g7, hlt, hc, a_slen, a_six, isStrV_lit, strV_lit, ← hN, six_int, hcl, Int.toNat_natCast, Int.natCast_nonneg, hwi, aundef, hb1, hb2, hb3, hb4, hb5, hb6, hb7, hb8, hb9]
                    rw [mGood_bad hcl (by simp [gB, hb1, hb2, hb3, hb4, hb5, hb6, hb7, hb8, hb9])]
        | false =>
          try simp only [core, zrA, zrS, zrM, zrL, zrE, reduceCtorEq, zrD, ziE, ziL, ziN, hn, g0, g6, g7, hlt, hc, a_slen, a_six, isStrV_lit, strV_lit, ← hN, six_int, hcl, Int.toNat_natCast, Int.natCast_nonneg, hwi, aundef, hb1, hb2, hb3, hb4, hb5, hb6, hb7, hb8, hb9]
          cases b5 with
          | true =>
            try simp only [core, zrA, zrS, zrM, zrL, zrE, reduceCtorEq, zrD, ziE, ziL, ziN, hn, g0, g6, g7, hlt, hc, a_slen, a_six, isStrV_lit, strV_lit, ← hN, six_int, hcl, Int.toNat_natCast, Int.natCast_nonneg, hwi, aundef, hb1, hb2, hb3, hb4, hb5, hb6, hb7, hb8, hb9]
            cases b6 with
            | true =>
              try simp only [core, zrA, zrS, zrM, zrL, zrE, reduceCtorEq, zrD, ziE, ziL, ziN, hn, g0, g6, g7, hlt, hc, a_slen, a_six, isStrV_lit, strV_lit, ← hN, six_int, hcl, Int.toNat_natCast, Int.natCast_nonneg, hwi, aundef, hb1, hb2, hb3, hb4, hb5, hb6, hb7, hb8, hb9]
              refine ih _ _ ⟨rfl, take_all hcl hall (by simp [gB, hb1, hb2, hb3, hb4, hb5, hb6, hb7, hb8, hb9]), ?_⟩
              simp only [core, zrA, zrS, zrM, zrL, zrE, reduceCtorEq, zrD, ziE, ziL, ziN, hn, g0, g6, g7]
            | false =>
              try simp only [core, zrA, zrS, zrM, zrL, zrE, reduceCtorEq, zrD, ziE, ziL, ziN, hn, g0, g6, g7, hlt, hc, a_slen, a_six, isStrV_lit, strV_lit, ← hN, six_int, hcl, Int.toNat_natCast, Int.natCast_nonneg, hwi, aundef, hb1, hb2, hb3, hb4, hb5, hb6, hb7, hb8, hb9]
              cases b7 with
              | true =>
                try simp only [core, zrA, zrS, zrM, zrL, zrE, reduceCtorEq, zrD, ziE, ziL, ziN, hn, g0, g6, g7, hlt, hc, a_slen, a_six, isStrV_lit, strV_lit, ← hN, six_int, hcl, Int.toNat_natCast, Int.natCast_nonneg, hwi, aundef, hb1, hb2, hb3, hb4, hb5, hb6, hb7, hb8, hb9]
                refine ih _ _ ⟨rfl, take_all hcl hall (by simp [gB, hb1, hb2, hb3, hb4, hb5, hb6, hb7, hb8, hb9]), ?_⟩
                simp only [core, zrA, zrS, zrM, zrL, zrE, reduceCtorEq, zrD, ziE, ziL, ziN, hn, g0, g6, g7]
              | false =>
                try simp only [core, zrA, zrS, zrM, zrL, zrE, reduceCtorEq, zrD, ziE, ziL, ziN, hn, g0, g6, g7, hlt, hc, a_slen, a_six, isStrV_lit, strV_lit, ← hN, six_int, hcl, Int.toNat_natCast, Int.natCast_nonneg, hwi, aundef, hb1, hb2, hb3, hb4, hb5, hb6, hb7, hb8, hb9]
                cases b8 with
                | true =>
                  try simp only [core, zrA, zrS, zrM, zrL, zrE, reduceCtorEq, zrD, ziE, ziL, ziN, hn, g0, g6, g7, hlt, hc, a_slen, a_six, isStrV_lit, strV_lit, ← hN, six_int, hcl, Int.toNat_natCast, Int.natCast_nonneg, hwi, aundef, hb1, hb2, hb3, hb4, hb5, hb6, hb7, hb8, hb9]
                  refine ih _ _ ⟨rfl, take_all hcl hall (by simp [gB, hb1, hb2, hb3, hb4, hb5, hb6, hb7, hb8, hb9]), ?_⟩
                  simp only [core, zrA, zrS, zrM, zrL, zrE, reduceCtorEq, zrD, ziE, ziL, ziN, hn, g0, g6, g7]
                | false =>
                  try simp only [core, zrA, zrS, zrM, zrL, zrE, reduceCtorEq, zrD, ziE, ziL, ziN, hn, g0, g6, g7, hlt, hc, a_slen, a_six, isStrV_lit, strV_lit, ← hN, six_int, hcl, Int.toNat_natCast, Int.natCast_nonneg, hwi, aundef, hb1, hb2, hb3, hb4, hb5, hb6, hb7, hb8, hb9]
                  cases b9 with
                  | true =>
                    try simp only [core, zrA, zrS, zrM, zrL, zrE, reduceCtorEq, zrD, ziE, ziL, ziN, hn, g0, g6, g7, hlt, hc, a_slen, a_six, isStrV_lit, strV_lit, ← hN, six_int, hcl, Int.toNat_natCast, Int.natCast_nonneg, hwi, aundef, hb1, hb2, hb3, hb4, hb5, hb6, hb7, hb8, hb9]
                    refine ih _ _ ⟨rfl, take_all hcl hall (by simp [gB, hb1, hb2, hb3, hb4, hb5, hb6, hb7, hb8, hb9]), ?_⟩
                    simp only [core, zrA, zrS, zrM, zrL, zrE, reduceCtorEq, zrD, ziE, ziL, ziN, hn, g0, g6, g7]
                  | false =>
                    try simp only [core, zrA, zrS, zrM, zrL, zrE, reduceCtorEq, zrD, ziE, ziL, ziN, hn, g0, g6, g7, hlt, hc, a_slen, a_six, isStrV_lit, strV_lit, ← hN, six_int, hcl, Int.toNat_natCast, Int.natCast_nonneg, hwi, aundef, hb1, hb2, hb3, hb4, hb5, hb6, hb7, hb8, hb9]
                    rw [mGood_bad hcl (by simp [gB, hb1, hb2, hb3, hb4, hb5, hb6, hb7, hb8, hb9])]
          | false =>
            try simp only [core, zrA, zrS, zrM, zrL, zrE, reduceCtorEq, zrD, ziE, ziL, ziN, hn, g0, g6, g7, hlt, hc, a_slen, a_six, isStrV_lit, strV_lit, ← hN, six_int, hcl, Int.toNat_natCast, Int.natCast_nonneg, hwi, aundef, hb1, hb2, hb3, hb4, hb5, hb6, hb7, hb8, hb9]
            cases b7 with
            | true =>
              try simp only [core, zrA, zrS, zrM, zrL, zrE, reduceCtorEq, zrD, ziE, ziL, ziN, hn, g0, g6, g7, hlt, hc, a_slen, a_six, isStrV_lit, strV_lit, ← hN, six_int, hcl, Int.toNat_natCast, Int.natCast_nonneg, hwi, aundef, hb1, hb2, hb3, hb4, hb5, hb6, hb7, hb8, hb9]
              refine ih _ _ ⟨rfl, take_all hcl hall (by simp [gB, hb1, hb2, hb3, hb4, hb5, hb6, hb7, hb8, hb9]), ?_⟩
              simp only [core, zrA, zrS, zrM, zrL, zrE, reduceCtorEq, zrD, ziE, ziL, ziN, hn, g0, g6, g7]
            | false =>
              try simp only [core, zrA, zrS, zrM, zrL, zrE, reduceCtorEq, zrD, ziE, ziL, ziN, hn, g0, g6, g7, hlt, hc, a_slen, a_six, isStrV_lit, strV_lit, ← hN, six_int, hcl, Int.toNat_natCast, Int.natCast_nonneg, hwi, aundef, hb1, hb2, hb3, hb4, hb5, hb6, hb7, hb8, hb9]
              cases b8 with
              | true =>
                try simp only [core, zrA, zrS, zrM, zrL, zrE, reduceCtorEq, zrD, ziE, ziL, ziN, hn, g0, g6, g7, hlt, hc, a_slen, a_six, isStrV_lit, strV_lit, ← hN, six_int, hcl, Int.toNat_natCast, Int.natCast_nonneg, hwi, aundef, hb1, hb2, hb3, hb4, hb5, hb6, hb7, hb8, hb9]
                refine ih _ _ ⟨rfl, take_all hcl hall (by simp [gB, hb1, hb2, hb3, hb4, hb5, hb6, hb7, hb8, hb9]), ?_⟩
                simp only [core, zrA, zrS, zrM, zrL, zrE, reduceCtorEq, zrD, ziE, ziL, ziN, hn, g0, g6, g7]
              | false =>
                try simp only [core, zrA, zrS, zrM, zrL, zrE, reduceCtorEq, zrD, ziE, ziL, ziN, hn, g0, g6, g7, hlt, hc, a_slen, a_six, isStrV_lit, strV_lit, ← hN, six_int, hcl, Int.toNat_natCast, Int.natCast_nonneg, hwi, aundef, hb1, hb2, hb3, hb4, hb5, hb6, hb7, hb8, hb9]
                cases b9 with
                | true =>
                  try simp only [core, zrA, zrS, zrM, zrL, zrE, reduceCtorEq, zrD, ziE, ziL, ziN, hn, g0, g6, g7, hlt, hc, a_slen, a_six, isStrV_lit, strV_lit, ← hN, six_int, hcl, Int.toNat_natCast, Int.natCast_nonneg, hwi, aundef, hb1, hb2, hb3, hb4, hb5, hb6, hb7, hb8, hb9]
                  refine ih _ _ ⟨rfl, take_all hcl hall (by simp [gB, hb1, hb2, hb3, hb4, hb5, hb6, hb7, hb8, hb9]), ?_⟩
                  simp only [core, zrA, zrS, zrM, zrL, zrE, reduceCtorEq, zrD, ziE, ziL, ziN, hn, g0, g6, g7]
                | false =>
                  try simp only [core, zrA, zrS, zrM, zrL, zrE, reduceCtorEq, zrD, ziE, ziL, ziN, hn, g0, g6, g7, hlt, hc, a_slen, a_six, isStrV_lit, strV_lit, ← hN, six_int, hcl, Int.toNat_natCast, Int.natCast_nonneg, hwi, aundef, hb1, hb2, hb3, hb4, hb5, hb6, hb7, hb8, hb9]
                  rw [mGood_bad hcl (by simp [gB, hb1, hb2, hb3, hb4, hb5, hb6, hb7, hb8, hb9])]
    | false =>
      try simp only [core, zrA, zrS, zrM, zrL, zrE, reduceCtorEq, zrD, ziE, ziL, ziN, hn, g0, g6, g7, hlt, hc, a_slen, a_six, isStrV_lit, strV_lit, ← hN, six_int, hcl, Int.toNat_natCast, Int.natCast_nonneg, hwi, aundef, hb1, hb2, hb3, hb4, hb5, hb6, hb7, hb8, hb9]
      cases b3 with
      | true =>
        try simp only [core, zrA, zrS, zrM, zrL, zrE, reduceCtorEq, zrD, ziE, ziL, ziN, hn, g0, g6, g7, hlt, hc, a_slen, a_six, isStrV_lit, strV_lit, ← hN, six_int, hcl, Int.toNat_natCast, Int.natCast_nonneg, hwi, aundef, hb1, hb2, hb3, hb4, hb5, hb6, hb7, hb8, hb9]
        cases b4 with
        | true =>
          try simp only [core, zrA, zrS, zrM, zrL, zrE, reduceCtorEq, zrD, ziE, ziL, ziN, hn, g0, g6, g7, hlt, hc, a_slen, a_six, isStrV_lit, strV_lit, ← hN, six_int, hcl, Int.toNat_natCast, Int.natCast_nonneg, hwi, aundef, hb1, hb2, hb3, hb4, hb5, hb6, hb7, hb8, hb9]
          refine ih _ _ ⟨rfl, take_all hcl hall (by simp [gB, hb1, hb2, hb3, hb4, hb5, hb6, hb7, hb8, hb9]), ?_⟩
          simp only [core, zrA, zrS, zrM, zrL, zrE, reduceCtorEq, zrD, ziE, ziL, ziN, hn, g0, g6, g7]
        | false =>
          try simp only [core, zrA, zrS, zrM, zrL, zrE, reduceCtorEq, zrD, ziE, ziL, ziN, hn, g0, g6, g7, hlt, hc, a_slen, a_six, isStrV_lit, strV_lit, ← hN, six_int, hcl, Int.toNat_natCast, Int.natCast_nonneg, hwi, aundef, hb1, hb2, hb3, hb4, hb5, hb6, hb7, hb8, hb9]
          cases b5 with
          | true =>
            try simp only [core, zrA, zrS, zrM, zrL, zrE, reduceCtorEq, zrD, ziE, ziL, ziN, hn, g0, g6, g7, hlt, hc, a_slen, a_six, isStrV_lit, strV_lit, ← hN, six_int, hcl, Int.toNat_natCast, Int.natCast_nonneg, hwi, aundef, hb1, hb2, hb3, hb4, hb5, hb6, hb7, hb8, hb9]
            cases b6 with
            | true =>
              try simp only [core, zrA, zrS, zrM, zrL, zrE, reduceCtorEq, zrD, ziE, ziL, ziN, hn, g0, g6, g7, hlt, hc, a_slen, a_six, isStrV_lit, strV_lit, ← hN, six_int, hcl, Int.toNat_natCast, Int.natCast_nonneg, hwi, aundef, hb1, hb2, hb3, hb4, hb5, hb6, hb7, hb8, hb9]
              refine ih _ _ ⟨rfl, take_all hcl hall (by simp [gB, hb1, hb2, hb3, hb4, hb5, hb6, hb7, hb8, hb9]), ?_⟩
              simp only [core, zrA, zrS, zrM, zrL, zrE, reduceCtorEq, zrD, ziE, ziL, ziN, hn, g0, g6, g7]
            | false =>
              try simp only [core, zrA, zrS, zrM, zrL, zrE, reduceCtorEq, zrD, ziE, ziL, ziN, hn, g0, g6, g7, hlt, hc, a_slen, a_six, isStrV_lit, strV_lit, ← hN, six_int, hcl, Int.toNat_natCast, Int.natCast_nonneg, hwi, aundef, hb1, hb2, hb3, hb4, hb5, hb6, hb7, hb8, hb9]
              cases b7 with
              | true =>
                try simp only [core, zrA, zrS, zrM, zrL, zrE, reduceCtorEq, zrD, ziE, ziL, ziN, hn, g0, g6, g7, hlt, hc, a_slen, a_six, isStrV_lit, strV_lit, ← hN, six_int, hcl, Int.toNat_natCast, Int.natCast_nonneg, hwi, aundef, hb1, hb2, hb3, hb4, hb5, hb6, hb7, hb8, hb9]
                refine ih _ _ ⟨rfl, take_all hcl hall (by simp [gB, hb1, hb2, hb3, hb4, hb5, hb6, hb7, hb8, hb9]), ?_⟩
                simp only [core, zrA, zrS, zrM, zrL, zrE, reduceCtorEq, zrD, ziE, ziL, ziN, hn, g0, g6, g7]
              | false =>
                try simp only [core, zrA, zrS, zrM, zrL, zrE, reduceCtorEq, zrD, ziE, ziL, ziN, hn, g0, g6, g7, hlt, hc, a_slen, a_six, isStrV_lit, strV_lit, ← hN, six_int, hcl, Int.toNat_natCast, Int.natCast_nonneg, hwi, aundef, hb1, hb2, hb3, hb4, hb5, hb6, hb7, hb8, hb9]
                cases b8 with
                | true =>
                  try simp only [core, zrA, zrS, zrM, zrL, zrE, reduceCtorEq, zrD, ziE, ziL, ziN, hn, g0, g6, g7, hlt, hc, a_slen, a_six, isStrV_lit, strV_lit, ← hN, six_int, hcl, Int.toNat_natCast, Int.natCast_nonneg, hwi, aundef, hb1, hb2, hb3, hb4, hb5, hb6, hb7, hb8, hb9]
                  refine ih _ _ ⟨rfl, take_all hcl hall (by simp [gB, hb1, hb2, hb3, hb4, hb5, hb6, hb7, hb8, hb9]), ?_⟩
                  simp only [core, zrA, zrS, zrM, zrL, zrE, reduceCtorEq, zrD, ziE, ziL, ziN, hn, g0, g6, g7]
                | false =>
                  try simp only [core, zrA, zrS, zrM, zrL, zrE, reduceCtorEq, zrD, ziE, ziL, ziN, hn, g0, g6, g7, hlt, hc, a_slen, a_six, isStrV_lit, strV_lit, ← hN, six_int, hcl, Int.toNat_natCast, Int.natCast_nonneg, hwi, aundef, hb1, hb2, hb3, hb4, hb5, hb6, hb7, hb8, hb9]
                  cases b9 with
                  | true =>
                    try simp only [core, zrA, zrS, zrM, zrL, zrE, reduceCtorEq, zrD, ziE, ziL, ziN, hn, g0, g6, g7, hlt, hc, a_slen, a_six, isStrV_lit, strV_lit, ← hN, six_int, hcl, Int.toNat_natCast, Int.natCast_nonneg, hwi, aundef, hb1, hb2, hb3, hb4, hb5, hb6, hb7, hb8, hb9]
                    refine ih _ _ ⟨rfl, take_all hcl hall (by simp [gB, hb1, hb2, hb3, hb4, hb5, hb6, hb7, hb8, hb9]), ?_⟩
                    simp only [core, zrA, zrS, zrM, zrL, zrE, reduceCtorEq, zrD, ziE, ziL, ziN, hn, g0, g6, g7]
                  | false =>
                    try simp only [core, zrA, zrS, zrM, zrL, zrE, reduceCtorEq, zrD, ziE, ziL, ziN, hn, g0, g6, g7, hlt, hc, a_slen, a_six, isStrV_lit, strV_lit, ← hN, six_int, hcl, Int.toNat_natCast, Int.natCast_nonneg, hwi, aundef, hb1, hb2, hb3, hb4, hb5, hb6, hb7, hb8, hb9]
                    rw [mGood_bad hcl (by simp [gB, hb1, hb2, hb3, hb4, hb5, hb6, hb7, hb8, hb9])]
          | false =>
            try simp only [core, zrA, zrS, zrM, zrL, zrE, reduceCtorEq, zrD, ziE, ziL, ziN, hn, g0, g6, g7, hlt, hc, a_slen, a_six, isStrV_lit, strV_lit, ← hN, six_int, hcl, Int.toNat_natCast, Int.natCast_nonneg, hwi, aundef, hb1, hb2, hb3, hb4, hb5, hb6, hb7, hb8, hb9]
            cases b7 with
            | true =>
              try simp only [core, zrA, zrS, zrM, zrL, zrE, reduceCtorEq, zrD, ziE, ziL, ziN, hn, g0, g6, g7, hlt, hc, a_slen, a_six, isStrV_lit, strV_lit, ← hN, six_int, hcl, Int.toNat_natCast, Int.natCast_nonneg, hwi, aundef, hb1, hb2, hb3, hb4, hb5, hb6, hb7, hb8, hb9]
              refine ih _ _ ⟨rfl, take_all hcl hall (by simp [gB, hb1, hb2, hb3, hb4, hb5, hb6, hb7, hb8, hb9]), ?_⟩
              simp only [core, zrA, zrS, zrM, zrL, zrE, reduceCtorEq, zrD, ziE, ziL, ziN, hn, g0, g6, g7]
            | false =>
              try simp only [core, zrA, zrS, zrM, zrL, zrE, reduceCtorEq, zrD, ziE, ziL, ziN, hn, g0, g6, g7, hlt, hc, a_slen, a_six, isStrV_lit, strV_lit, ← hN, six_int, hcl, Int.toNat_natCast, Int.natCast_nonneg, hwi, aundef, hb1, hb2, hb3, hb4, hb5, hb6, hb7, hb8, hb9]
              cases b8 with
              | true =>
                try simp only [core, zrA, zrS, zrM, zrL, zrE, reduceCtorEq, zrD, ziE, ziL, ziN, hn, g0, g6, g7, hlt, hc, a_slen, a_six, isStrV_lit, strV_lit, ← hN, six_int, hcl, Int.toNat_natCast, Int.natCast_nonneg, hwi, aundef, hb1, hb2, hb3, hb4, hb5, hb6, hb7, hb8, hb9]
                refine ih _ _ ⟨rfl, take_all hcl hall (by simp [gB, hb1, hb2, hb3, hb4, hb5, hb6, hb7, hb8, hb9]), ?_⟩
                simp only [core, zrA, zrS, zrM, zrL, zrE, reduceCtorEq, zrD, ziE, ziL, ziN, hn, g0, g6, g7]
              | false =>
                try simp only [core, zrA, zrS, zrM, zrL, zrE, reduceCtorEq, zrD, ziE, ziL, ziN, hn, g0, g6, g7, hlt, hc, a_slen, a_six, isStrV_lit, strV_lit, ← hN, six_int, hcl, Int.toNat_natCast, Int.natCast_nonneg, hwi, aundef, hb1, hb2, hb3, hb4, hb5, hb6, hb7, hb8, hb9]
                cases b9 with
                | true =>
                  try simp only [core, zrA, zrS, zrM, zrL, zrE, reduceCtorEq, zrD, ziE, ziL, ziN, hn, g0, g6, g7, hlt, hc, a_slen, a_six, isStrV_lit, strV_lit, ← hN, six_int, hcl, Int.toNat_natCast, Int.natCast_nonneg, hwi, aundef, hb1, hb2, hb3, hb4, hb5, hb6, hb7, hb8, hb9]
                  refine ih _ _ ⟨rfl, take_all hcl hall (by simp [gB, hb1, hb2, hb3, hb4, hb5, hb6, hb7, hb8, hb9]), ?_⟩
                  simp only [core, zrA, zrS, zrM, zrL, zrE, reduceCtorEq, zrD, ziE, ziL, ziN, hn, g0, g6, g7]
                | false =>
                  try simp only [core, zrA, zrS, zrM, zrL, zrE, reduceCtorEq, zrD, ziE, ziL, ziN, hn, g0, g6, g7, hlt, hc, a_slen, a_six, isStrV_lit, strV_lit, ← hN, six_int, hcl, Int.toNat_natCast, Int.natCast_nonneg, hwi, aundef, hb1, hb2, hb3, hb4, hb5, hb6, hb7, hb8, hb9]
                  rw [mGood_bad hcl (by simp [gB, hb1, hb2, hb3, hb4, hb5, hb6, hb7, hb8, hb9])]
      | false =>
        try simp only [core, zrA, zrS, zrM, zrL, zrE, reduceCtorEq, zrD, ziE, ziL, ziN, hn, g0, g6, g7, hlt, hc, a_slen, a_six, isStrV_lit, strV_lit, ← hN, six_int, hcl, Int.toNat_natCast, Int.natCast_nonneg, hwi, aundef, hb1, hb2, hb3, hb4, hb5, hb6, hb7, hb8, hb9]
        cases b5 with
        | true =>
          try simp only [core, zrA, zrS, zrM, zrL, zrE, reduceCtorEq, zrD, ziE, ziL, ziN, hn, g0, g6, g7, hlt, hc, a_slen, a_six, isStrV_lit, strV_lit, ← hN, six_int, hcl, Int.toNat_natCast, Int.natCast_nonneg, hwi, aundef, hb1, hb2, hb3, hb4, hb5, hb6, hb7, hb8, hb9]
          cases b6 with
          | true =>
            try simp only [core, zrA, zrS, zrM, zrL, zrE, reduceCtorEq, zrD, ziE, ziL, ziN, hn, g0, g6, g7, hlt, hc, a_slen, a_six, isStrV_lit, strV_lit, ← hN, six_int, hcl, Int.toNat_natCast, Int.natCast_nonneg, hwi, aundef, hb1, hb2, hb3, hb4, hb5, hb6, hb7, hb8, hb9]
            refine ih _ _ ⟨rfl, take_all hcl hall (by simp [gB, hb1, hb2, hb3, hb4, hb5, hb6, hb7, hb8, hb9]), ?_⟩
            simp only [core, zrA, zrS, zrM, zrL, zrE, reduceCtorEq, zrD, ziE, ziL, ziN, hn, g0, g6, g7]
          | false =>
            try simp only [core, zrA, zrS, zrM, zrL, zrE, reduceCtorEq, zrD, ziE, ziL, ziN, hn, g0, g6, g7, hlt, hc, a_slen, a_six, isStrV_lit, strV_lit, ← hN, six_int, hcl, Int.toNat_natCast, Int.natCast_nonneg, hwi, aundef, hb1, hb2, hb3, hb4, hb5, hb6, hb7, hb8, hb9]
            cases b7 with
            | true =>
              try simp only [core, zrA, zrS, zrM, zrL, zrE, reduceCtorEq, zrD, ziE, ziL, ziN, hn, g0, g6, g7, hlt, hc, a_slen, a_six, isStrV_lit, strV_lit, ← hN, six_int, hcl, Int.toNat_natCast, Int.natCast_nonneg, hwi, aundef, hb1, hb2, hb3, hb4, hb5, hb6, hb7, hb8, hb9]
              refine ih _ _ ⟨rfl, take_all hcl hall (by simp [gB, hb1, hb2, hb3, hb4, hb5, hb6, hb7, hb8, hb9]), ?_⟩
              simp only [core, zrA, zrS, zrM, zrL, zrE, reduceCtorEq, zrD, ziE, ziL, ziN, hn, g0, g6, g7]
            | false =>
              try simp only [core, zrA, zrS, zrM, zrL, zrE, reduceCtorEq, zrD, ziE, ziL, ziN, hn, g0, g6, g7, hlt, hc, a_slen, a_six, isStrV_lit, strV_lit, ← hN, six_int, hcl, Int.toNat_natCast, Int.natCast_nonneg, hwi, aundef, hb1, hb2, hb3, hb4, hb5, hb6, hb7, hb8, hb9]
              cases b8 with
              | true =>
                try simp only [core, zrA, zrS, zrM, zrL, zrE, reduceCtorEq, zrD, ziE, ziL, ziN, hn, g0, g6, g7, hlt, hc, a_slen, a_six, isStrV_lit, strV_lit, ← hN, six_int, hcl, Int.toNat_natCast, Int.natCast_nonneg, hwi, aundef, hb1, hb2, hb3, hb4, hb5, hb6, hb7, hb8, hb9]
                refine ih _ _ ⟨rfl, take_all hcl hall (by simp [gB, hb1, hb2, hb3, hb4, hb5, hb6, hb7, hb8, hb9]), ?_⟩
                simp only [core, zrA, zrS, zrM, zrL, zrE, reduceCtorEq, zrD, ziE, ziL, ziN, hn, g0, g6, g7]
              | false =>
                try simp only [core, zrA, zrS, zrM, zrL, zrE, reduceCtorEq, zrD, ziE, ziL, ziN, hn, g0, g6, g7, hlt, hc, a_slen, a_six, isStrV_lit, strV_lit, ← hN, six_int, hcl, Int.toNat_natCast, Int.natCast_nonneg, hwi, aundef, hb1, hb2, hb3, hb4, hb5, hb6, hb7, hb8, hb9]
                cases b9 with
                | true =>
                  try simp only [core, zrA, zrS, zrM, zrL, zrE, reduceCtorEq, zrD, ziE, ziL, ziN, hn, g0, g6, g7, hlt, hc, a_slen, a_six, isStrV_lit, strV_lit, ← hN, six_int, hcl, Int.toNat_natCast, Int.natCast_nonneg, hwi, aundef, hb1, hb2, hb3, hb4, hb5, hb6, hb7, hb8, hb9]
                  refine ih _ _ ⟨rfl, take_all hcl hall (by simp [gB, hb1, hb2, hb3, hb4, hb5, hb6, hb7, hb8, hb9]), ?_⟩
                  simp only [core, zrA, zrS, zrM, zrL, zrE, reduceCtorEq, zrD, ziE, ziL, ziN, hn, g0, g6, g7]
                | false =>
                  try simp only [core, zrA, zrS, zrM, zrL, zrE, reduceCtorEq, zrD, ziE, ziL, ziN, hn, g0, g6, g7, hlt, hc, a_slen, a_six, isStrV_lit, strV_lit, ← hN, six_int, hcl, Int.toNat_natCast, Int.natCast_nonneg, hwi, aundef, hb1, hb2, hb3, hb4, hb5, hb6, hb7, hb8, hb9]
                  rw [mGood_bad hcl (by simp [gB, hb1, hb2, hb3, hb4, hb5, hb6, hb7, hb8, hb9])]
        | false =>
          try simp only [core, zrA, zrS, zrM, zrL, zrE, reduceCtorEq, zrD, ziE, ziL, ziN, hn, g0, g6, g7, hlt, hc, a_slen, a_six, isStrV_lit, strV_lit, ← hN, six_int, hcl, Int.toNat_natCast, Int.natCast_nonneg, hwi, aundef, hb1, hb2, hb3, hb4, hb5, hb6, hb7, hb8, hb9]
          cases b7 with
          | true =>
            try simp only [core, zrA, zrS, zrM, zrL, zrE, reduceCtorEq, zrD, ziE, ziL, ziN, hn, g0, g6, g7, hlt, hc, a_slen, a_six, isStrV_lit, strV_lit, ← hN, six_int, hcl, Int.toNat_natCast, Int.natCast_nonneg, hwi, aundef, hb1, hb2, hb3, hb4, hb5, hb6, hb7, hb8, hb9]
            refine ih _ _ ⟨rfl, take_all hcl hall (by simp [gB, hb1, hb2, hb3, hb4, hb5, hb6, hb7, hb8, hb9]), ?_⟩
            simp only [core, zrA, zrS, zrM, zrL, zrE, reduceCtorEq, zrD, ziE, ziL, ziN, hn, g0, g6, g7]
          | false =>
            try simp only [core, zrA, zrS, zrM, zrL, zrE, reduceCtorEq, zrD, ziE, ziL, ziN, hn, g0, g6, g7, hlt, hc, a_slen, a_six, isStrV_lit, strV_lit, ← hN, six_int, hcl, Int.toNat_natCast, Int.natCast_nonneg, hwi, aundef, hb1, hb2, hb3, hb4, hb5, hb6, hb7, hb8, hb9]
            cases b8 with
            | true =>
              try simp only [core, zrA, zrS, zrM, zrL, zrE, reduceCtorEq, zrD, ziE, ziL, ziN, hn, g0, g6, g7, hlt, hc, a_slen, a_six, isStrV_lit, strV_lit, ← hN, six_int, hcl, Int.toNat_natCast, Int.natCast_nonneg, hwi, aundef, hb1, hb2, hb3, hb4, hb5, hb6, hb7, hb8, hb9]
              refine ih _ _ ⟨rfl, take_all hcl hall (by simp [gB, hb1, hb2, hb3, hb4, hb5, hb6, hb7, hb8, hb9]), ?_⟩
              simp only [core, zrA, zrS, zrM, zrL, zrE, reduceCtorEq, zrD, ziE, ziL, ziN, hn, g0, g6, g7]
            | false =>
              try simp only [core, zrA, zrS, zrM, zrL, zrE, reduceCtorEq, zrD, ziE, ziL, ziN, hn, g0, g6, g7, hlt, hc, a_slen, a_six, isStrV_lit, strV_lit, ← hN, six_int, hcl, Int.toNat_natCast, Int.natCast_nonneg, hwi, aundef, hb1, hb2, hb3, hb4, hb5, hb6, hb7, hb8, hb9]
              cases b9 with
              | true =>
                try simp only [core, zrA, zrS, zrM, zrL, zrE, reduceCtorEq, zrD, ziE, ziL, ziN, hn, g0, g6, g7, hlt, hc, a_slen, a_six, isStrV_lit, strV_lit, ← hN, six_int, hcl, Int.toNat_natCast, Int.natCast_nonneg, hwi, aundef, hb1, hb2, hb3, hb4, hb5, hb6, hb7, hb8, hb9]
                refine ih _ _ ⟨rfl, take_all hcl hall (by simp [gB, hb1, hb2, hb3, hb4, hb5, hb6, hb7, hb8, hb9]), ?_⟩
                simp only [core, zrA, zrS, zrM, zrL, zrE, reduceCtorEq, zrD, ziE, ziL, ziN, hn, g0, g6, g7]
              | false =>
                try simp only [core, zrA, zrS, zrM, zrL, zrE, reduceCtorEq, zrD, ziE, ziL, ziN, hn, g0, g6, g7, hlt, hc, a_slen, a_six, isStrV_lit, strV_lit, ← hN, six_int, hcl, Int.toNat_natCast, Int.natCast_nonneg, hwi, aundef, hb1, hb2, hb3, hb4, hb5, hb6, hb7, hb8, hb9]
                rw [mGood_bad hcl (by simp [gB, hb1, hb2, hb3, hb4, hb5, hb6, hb7, hb8, hb9])]
  · rintro t h hc ⟨rfl, hall, hn, g0, g6, g7⟩
    have ha : l.all gB = true := by rw [hN, List.take_length] at hall; exact hall
    have he : mGood l = (decide (1 ≤ (n : Int)) && decide ((n : Int) ≤ 40)) := by unfold mGood; rw [ha, hN]; rfl
    have hne : ∀ (P : Program) (e : TypeId), pur P (binOp .neq e (Value.string ⟨l.toArray⟩) (Value.string ⟨#[]⟩)) = some (.ok (Value.bool (!(l == [])))) := fun P e => pur_sne (b := [])
    rw [he]
    cases n with
    | zero =>
      have h0 : l = [] := List.length_eq_zero_iff.1 hN.symm
      have hq : (!(l == ([] : List UInt8))) = false := by rw [h0]; rfl
      simp only [core, zrA, zrS, zrM, zrL, zrE, reduceCtorEq, zrD, ziE, ziL, ziN, hn, g0, g6, g7, hc, a_slen, isStrV_lit, strV_lit, ← hN, hne, hq, aundef]
      try simp
    | succ n =>
      have h0 : l ≠ [] := fun h => by rw [h] at hN; cases hN
      have hq : (!(l == ([] : List UInt8))) = true := by cases l with | nil => exact absurd rfl h0 | cons a r => rfl
      simp only [core, zrA, zrS, zrM, zrL, zrE, reduceCtorEq, zrD, ziE, ziL, ziN, hn, g0, g6, g7, hc, a_slen, isStrV_lit, strV_lit, ← hN, hne, hq, aundef]
      try simp
      try omega
  · refine ⟨rfl, by simp, ?_⟩
    simp only [core, zrA, zrS, zrM, zrL, zrE, reduceCtorEq, zrD, ziE, ziL, ziN]
    (repeat' apply And.intro) <;> first | rfl | trivial
theorem rgood_x {H : AH} {l : List UInt8} (hl : l.length ≤ 4611686018427387000) : WC Tryz.prog (tabOf Tryz.prog NT0) S0 11 [.lit (.string ⟨l.toArray⟩)] H fun r h' => r = .lit (.bool (mGood l)) ∧ h' = H := by
  refine WC_fn Tryz.func11 rfl rfl ?_
  obtain ⟨n, hN⟩ : ∃ n, n = l.length := ⟨_, rfl⟩
  simp only [core, zrA, zrS, zrM, zrL, zrE, reduceCtorEq, zrD, ziE, ziL, ziN, Tryz.ntmps11, a_slen, isStrV_lit, strV_lit, ← hN]
  refine WB_for n (fun i t h => h = H ∧ (l.take i).all gB = true ∧ t.n = 57 ∧ t.get 0 = .lit (.string ⟨l.toArray⟩) ∧ t.get 3 = .lit (.int .i64 i)) ?_ ?_ _ _ ?_
  · rintro i t h hlt hc ⟨rfl, hall, hn, g0, g3⟩ ih
    have hwi := wrap_succ (n := n) hlt (by omega)
    obtain ⟨c, hcl⟩ : ∃ c, l[i]? = some c := ⟨_, List.getElem?_eq_getElem (by omega)⟩
    obtain ⟨b1, hb1⟩ : ∃ b, decide (97 ≤ (c.toNat : Int)) = b := ⟨_, rfl⟩
    obtain ⟨b2, hb2⟩ : ∃ b, decide ((c.toNat : Int) ≤ 122) = b := ⟨_, rfl⟩
    obtain ⟨b3, hb3⟩ : ∃ b, decide (65 ≤ (c.toNat : Int)) = b := ⟨_, rfl⟩
    obtain ⟨b4, hb4⟩ : ∃ b, decide ((c.toNat : Int) ≤ 90) = b := ⟨_, rfl⟩
    obtain ⟨b5, hb5⟩ : ∃ b, decide (48 ≤ (c.toNat : Int)) = b := ⟨_, rfl⟩
    obtain ⟨b6, hb6⟩ : ∃ b, decide ((c.toNat : Int) ≤ 57) = b := ⟨_, rfl⟩
    obtain ⟨b7, hb7⟩ : ∃ b, ((c.toNat : Int) == 46) = b := ⟨_, rfl⟩
    obtain ⟨b8, hb8⟩ : ∃ b, ((c.toNat : Int) == 95) = b := ⟨_, rfl⟩
    obtain ⟨b9, hb9⟩ : ∃ b, ((c.toNat : Int) == 45) = b := ⟨_, rfl⟩
    simp only [core, zrA, zrS, zrM, zrL, zrE, reduceCtorEq, zrD, ziE, ziL, ziN, hn, g0, g3, hlt, hc, a_slen, a_six, isStrV_lit, strV_lit, ← hN, six_int, hcl, Int.toNat_natCast, Int.natCast_nonneg, hwi, aundef, hb1, hb2, hb3, hb4, hb5, hb6, hb7, hb8, hb9]
    cases b1 with
    | true =>
      try simp only [core, zrA, zrS, zrM, zrL, zrE, reduceCtorEq, zrD, ziE, ziL, ziN, hn, g0, g3, hlt, hc, a_slen, a_six, isStrV_lit, strV_lit, ← hN, six_int, hcl, Int.toNat_natCast, Int.natCast_nonneg, hwi, aundef, hb1, hb2, hb3, hb4, hb5, hb6, hb7, hb8, hb9]
      cases b2 with
      | true =>
        try simp only [core, zrA, zrS, zrM, zrL, zrE, reduceCtorEq, zrD, ziE, ziL, ziN, hn, g0, g3, hlt, hc, a_slen, a_six, isStrV_lit, strV_lit, ← hN, six_int, hcl, Int.toNat_natCast, Int.natCast_nonneg, hwi, aundef, hb1, hb2, hb3, hb4, hb5, hb6, hb7, hb8, hb9]
        refine ih _ _ ⟨rfl, take_all hcl hall (by simp [gB, hb1, hb2, hb3, hb4, hb5, hb6, hb7, hb8, hb9]), ?_⟩
        simp only [core, zrA, zrS, zrM, zrL, zrE, reduceCtorEq, zrD, ziE, ziL, ziN, hn, g0, g3]
      | false =>
        try simp only [core, zrA, zrS, zrM, zrL, zrE, reduceCtorEq, zrD, ziE, ziL, ziN, hn, g0, g3, hlt, hc, a_slen, a_six, isStrV_lit, strV_lit, ← hN, six_int, hcl, Int.toNat_natCast, Int.natCast_nonneg, hwi, aundef, hb1, hb2, hb3, hb4, hb5, hb6, hb7, hb8, hb9]
        cases b3 with
        | true =>
          try simp only [core, zrA, zrS, zrM, zrL, zrE, reduceCtorEq, zrD, ziE, ziL, ziN, hn, g0, g3, hlt, hc, a_slen, a_six, isStrV_lit, strV_lit, ← hN, six_int, hcl, Int.toNat_natCast, Int.natCast_nonneg, hwi, aundef, hb1, hb2, hb3, hb4, hb5, hb6, hb7, hb8, hb9]
          cases b4 with
          | true =>
            try simp only [core, zrA, zrS, zrM, zrL, zrE, reduceCtorEq, zrD, ziE, ziL, ziN, hn, g0, g3, hlt, hc, a_slen, a_six, isStrV_lit, strV_lit, ← hN, six_int, hcl, Int.toNat_natCast, Int.natCast_nonneg, hwi, aundef, hb1, hb2, hb3, hb4, hb5, hb6, hb7, hb8, hb9]
            refine ih _ _ ⟨rfl, take_all hcl hall (by simp [gB, hb1, hb2, hb3, hb4, hb5, hb6, hb7, hb8, hb9]), ?_⟩
            simp only [core, zrA, zrS, zrM, zrL, zrE, reduceCtorEq, zrD, ziE, ziL, ziN, hn, g0, g3]
          | false =>
            try simp only [core, zrA, zrS, zrM, zrL, zrE, reduceCtorEq, zrD, ziE, ziL, ziN, hn, g0, g3, hlt, hc, a_slen, a_six, isStrV_lit, strV_lit, ← hN, six_int, hcl, Int.toNat_natCast, Int.natCast_nonneg, hwi, aundef, hb1, hb2, hb3, hb4, hb5, hb6, hb7, hb8, hb9]
            cases b5 with
            | true =>
              try simp only [core, zrA, zrS, zrM, zrL, zrE, reduceCtorEq, zrD, ziE, ziL, ziN, hn, g0, g3, hlt, hc, a_slen, a_six, isStrV_lit, strV_lit, ← hN, six_int, hcl, Int.toNat_natCast, Int.natCast_nonneg, hwi, aundef, hb1, hb2, hb3, hb4, hb5, hb6, hb7, hb8, hb9]
              cases b6 with
              | true =>
                try simp only [core, zrA, zrS, zrM, zrL, zrE, reduceCtorEq, zrD, ziE, ziL, ziN, hn, g0, g3, hlt, hc, a_slen, a_six, isStrV_lit, strV_lit, ← hN, six_int, hcl, Int.toNat_natCast, Int.natCast_nonneg, hwi, aundef, hb1, hb2, hb3, hb4, hb5, hb6, hb7, hb8, hb9]
                refine ih _ _ ⟨rfl, take_all hcl hall (by simp [gB, hb1, hb2, hb3, hb4, hb5, hb6, hb7, hb8, hb9]), ?_⟩
                simp only [core, zrA, zrS, zrM, zrL, zrE, reduceCtorEq, zrD, ziE, ziL, ziN, hn, g0, g3]
              | false =>
                try simp only [core, zrA, zrS, zrM, zrL, zrE, reduceCtorEq, zrD, ziE, ziL, ziN, hn, g0, g3, hlt, hc, a_slen, a_six, isStrV_lit, strV_lit, ← hN, six_int, hcl, Int.toNat_natCast, Int.natCast_nonneg, hwi, aundef, hb1, hb2, hb3, hb4, hb5, hb6, hb7, hb8, hb9]
                cases b7 with
                | true =>
                  try simp only [core, zrA, zrS, zrM, zrL, zrE, reduceCtorEq, zrD, ziE, ziL, ziN, hn, g0, g3, hlt, hc, a_slen, a_six, isStrV_lit, strV_lit, ← hN, six_int, hcl, Int.toNat_natCast, Int.natCast_nonneg, hwi, aundef, hb1, hb2, hb3, hb4, hb5, hb6, hb7, hb8, hb9]
                  refine ih _ _ ⟨rfl, take_all hcl hall (by simp [gB, hb1, hb2, hb3, hb4, hb5, hb6, hb7, hb8, hb9]), ?_⟩
                  simp only [core, zrA, zrS, zrM, zrL, zrE, reduceCtorEq, zrD, ziE, ziL, ziN, hn, g0, g3]
                | false =>
                  try simp only [core, zrA, zrS, zrM, zrL, zrE, reduceCtorEq, zrD, ziE, ziL, ziN, hn, g0, g3, hlt, hc, a_slen, a_six, isStrV_lit, strV_lit, ← hN, six_int, hcl, Int.toNat_natCast, Int.natCast_nonneg, hwi, aundef, hb1, hb2, hb3, hb4, hb5, hb6, hb7, hb8, hb9]
                  cases b8 with
                  | true =>
                    try simp only [core, zrA, zrS, zrM, zrL, zrE, reduceCtorEq, zrD, ziE, ziL, ziN, hn, g0, g3, hlt, hc, a_slen, a_six, isStrV_lit, strV_lit, ← hN, six_int, hcl, Int.toNat_natCast, Int.natCast_nonneg, hwi, aundef, hb1, hb2, hb3, hb4, hb5, hb6, hb7, hb8, hb9]
                    refine ih _ _ ⟨rfl, take_all hcl hall (by simp [gB, hb1, hb2, hb3, hb4, hb5, hb6, hb7, hb8, hb9]), ?_⟩
                    simp only [core, zrA, zrS, zrM, zrL, zrE, reduceCtorEq, zrD, ziE, ziL, ziN, hn, g0, g3]
                  | false =>
                    try simp only [core, zrA, zrS, zrM, zrL, zrE, reduceCtorEq, zrD, ziE, ziL, ziN, hn, g0, g3, hlt, hc, a_slen, a_six, isStrV_lit, strV_lit, ← hN, six_int, hcl, Int.toNat_natCast, Int.natCast_nonneg, hwi, aundef, hb1, hb2, hb3, hb4, hb5, hb6, hb7, hb8, hb9]
                    cases b9 with
                    | true =>
                      try simp only [core, zrA, zrS, zrM, zrL, zrE, reduceCtorEq, zrD, ziE, ziL, ziN, hn, g0, g3, hlt, hc, a_slen, a_six, isStrV_lit, strV_lit, ← hN, six_int, hcl, Int.toNat_natCast, Int.natCast_nonneg, hwi, aundef, hb1, hb2, hb3, hb4, hb5, hb6, hb7, hb8, hb9]
                      refine ih _ _ ⟨rfl, take_all hcl hall (by simp [gB, hb1, hb2, hb3, hb4, hb5, hb6, hb7, hb8, hb9]), ?_⟩
                      simp only [core, zrA, zrS, zrM, zrL, zrE, reduceCtorEq, zrD, ziE, ziL, ziN, hn, g0, g3]
                    | false =>
                      try simp only [core, zrA, zrS, zrM, zrL, zrE, reduceCtorEq, zrD, ziE, ziL, ziN, hn, g0, g3, hlt, hc, a_slen, a_six, isStrV_lit, strV_lit, ← hN, six_int, hcl, Int.toNat_natCast, Int.natCast_nonneg, hwi, aundef, hb1, hb2, hb3, hb4, hb5, hb6, hb7, hb8, hb9]
                      rw [mGood_bad hcl (by simp [gB, hb1, hb2, hb3, hb4, hb5, hb6, hb7, hb8, hb9])]
            | false =>
              try simp only [core, zrA, zrS, zrM, zrL, zrE, reduceCtorEq, zrD, ziE, ziL, ziN, hn, g0, g3, hlt, hc, a_slen, a_six, isStrV_lit, strV_lit, ← hN, six_int, hcl, Int.toNat_natCast, Int.natCast_nonneg, hwi, aundef, hb1, hb2, hb3, hb4, hb5, hb6, hb7, hb8, hb9]
              cases b7 with
              | true =>
                try simp only [core, zrA, zrS, zrM, zrL, zrE, reduceCtorEq, zrD, ziE, ziL, ziN, hn, g0, g3, hlt, hc, a_slen, a_six, isStrV_lit, strV_lit, ← hN, six_int, hcl, Int.toNat_natCast, Int.natCast_nonneg, hwi, aundef, hb1, hb2, hb3, hb4, hb5, hb6, hb7, hb8, hb9]
                refine ih _ _ ⟨rfl, take_all hcl hall (by simp [gB, hb1, hb2, hb3, hb4, hb5, hb6, hb7, hb8, hb9]), ?_⟩
                simp only [core, zrA, zrS, zrM, zrL, zrE, reduceCtorEq, zrD, ziE, ziL, ziN, hn, g0, g3]
              | false =>
                try simp only [core, zrA, zrS, zrM, zrL, zrE, reduceCtorEq, zrD, ziE, ziL, ziN, hn, g0, g3, hlt, hc, a_slen, a_six, isStrV_lit, strV_lit, ← hN, six_int, hcl, Int.toNat_natCast, Int.natCast_nonneg, hwi, aundef, hb1, hb2, hb3, hb4, hb5, hb6, hb7, hb8, hb9]
                cases b8 with
                | true =>
                  try simp only [core, zrA, zrS, zrM, zrL, zrE, reduceCtorEq, zrD, ziE, ziL, ziN, hn, g0, g3, hlt, hc, a_slen, a_six, isStrV_lit, strV_lit, ← hN, six_int, hcl, Int.toNat_natCast, Int.natCast_nonneg, hwi, aundef, hb1, hb2, hb3, hb4, hb5, hb6, hb7, hb8, hb9]
                  refine ih _ _ ⟨rfl, take_all hcl hall (by simp [gB, hb1, hb2, hb3, hb4, hb5, hb6, hb7, hb8, hb9]), ?_⟩
                  simp only [core, zrA, zrS, zrM, zrL, zrE, reduceCtorEq, zrD, ziE, ziL, ziN, hn, g0, g3]
                | false =>
                  try simp only [core, zrA, zrS, zrM, zrL, zrE, reduceCtorEq, zrD, ziE, ziL, ziN, hn, g0, g3, hlt, hc, a_slen, a_six, isStrV_lit, strV_lit, ← hN, six_int, hcl, Int.toNat_natCast, Int.natCast_nonneg, hwi, aundef, hb1, hb2, hb3, hb4, hb5, hb6, hb7, hb8, hb9]
                  cases b9 with
                  | true =>
                    try simp only [core, zrA, zrS, zrM, zrL, zrE, reduceCtorEq, zrD, ziE, ziL, ziN, hn, g0, g3, hlt, hc, a_slen, a_six, isStrV_lit, strV_lit, ← hN, six_int, hcl, Int.toNat_natCast, Int.natCast_nonneg, hwi, aundef, hb1, hb2, hb3, hb4, hb5, hb6, hb7, hb8, hb9]
                    refine ih _ _ ⟨rfl, take_all hcl hall (by simp [gB, hb1, hb2, hb3, hb4, hb5, hb6, hb7, hb8, hb9]), ?_⟩
                    simp only [core, zrA, zrS, zrM, zrL, zrE, reduceCtorEq, zrD, ziE, ziL, ziN, hn, g0, g3]
                  | false =>
                    try simp only [core, zrA, zrS, zrM, zrL, zrE, reduceCtorEq, zrD, ziE, ziL, ziN, hn, g0, g3, hlt, hc, a_slen, a_six, isStrV_lit, strV_lit, ← hN, six_int, hcl, Int.toNat_natCast, Int.natCast_nonneg, hwi, aundef, hb1, hb2, hb3, hb4, hb5, hb6, hb7, hb8, hb9]
                    rw [mGood_bad hcl (by simp [gB, hb1, hb2, hb3, hb4, hb5, hb6, hb7, hb8, hb9])]
        | false =>
          try simp only [core, zrA, zrS, zrM, zrL, zrE, reduceCtorEq, zrD, ziE, ziL, ziN, hn, g0, g3, hlt, hc, a_slen, a_six, isStrV_lit, strV_lit, ← hN, six_int, hcl, Int.toNat_natCast, Int.natCast_nonneg, hwi, aundef, hb1, hb2, hb3, hb4, hb5, hb6, hb7, hb8, hb9]
          cases b5 with
          | true =>
            try simp only [core, zrA, zrS, zrM, zrL, zrE, reduceCtorEq, zrD, ziE, ziL, ziN, hn, g0, g3, hlt, hc, a_slen, a_six, isStrV_lit, strV_lit, ← hN, six_int, hcl, Int.toNat_natCast, Int.natCast_nonneg, hwi, aundef, hb1, hb2, hb3, hb4, hb5, hb6, hb7, hb8, hb9]
            cases b6 with
            | true =>
              try simp only [core, zrA, zrS, zrM, zrL, zrE, reduceCtorEq, zrD, ziE, ziL, ziN, hn, g0, g3, hlt, hc, a_slen, a_six, isStrV_lit, strV_lit, ← hN, six_int, hcl, Int.toNat_natCast, Int.natCast_nonneg, hwi, aundef, hb1, hb2, hb3, hb4, hb5, hb6, hb7, hb8, hb9]
              refine ih _ _ ⟨rfl, take_all hcl hall (by simp [gB, hb1, hb2, hb3, hb4, hb5, hb6, hb7, hb8, hb9]), ?_⟩
              simp only [core, zrA, zrS, zrM, zrL, zrE, reduceCtorEq, zrD, ziE, ziL, ziN, hn, g0, g3]
            | false =>
              try simp only [core, zrA, zrS, zrM, zrL, zrE, reduceCtorEq, zrD, ziE, ziL, ziN, hn, g0, g3, hlt, hc, a_slen, a_six, isStrV_lit, strV_lit, ← hN, six_int, hcl, Int.toNat_natCast, Int.natCast_nonneg, hwi, aundef, hb1, hb2, hb3, hb4, hb5, hb6, hb7, hb8, hb9]
              cases b7 with
              | true =>
                try simp only [core, zrA, zrS, zrM, zrL, zrE, reduceCtorEq, zrD, ziE, ziL, ziN, hn, g0, g3, hlt, hc, a_slen, a_six, isStrV_lit, strV_lit, ← hN, six_int, hcl, Int.toNat_natCast, Int.natCast_nonneg, hwi, aundef, hb1, hb2, hb3, hb4, hb5, hb6, hb7, hb8, hb9]
                refine ih _ _ ⟨rfl, take_all hcl hall (by simp [gB, hb1, hb2, hb3, hb4, hb5, hb6, hb7, hb8, hb9]), ?_⟩
                simp only [core, zrA, zrS, zrM, zrL, zrE, reduceCtorEq, zrD, ziE, ziL, ziN, hn, g0, g3]
              | false =>
                try simp only [core, zrA, zrS, zrM, zrL, zrE, reduceCtorEq, zrD, ziE, ziL, ziN, hn, g0, g3, hlt, hc, a_slen, a_six, isStrV_lit, strV_lit, ← hN, six_int, hcl, Int.toNat_natCast, Int.natCast_nonneg, hwi, aundef, hb1, hb2, hb3, hb4, hb5, hb6, hb7, hb8, hb9]
                cases b8 with
                | true =>
                  try simp only [core, zrA, zrS, zrM, zrL, zrE, reduceCtorEq, zrD, ziE, ziL, ziN, hn, g0, g3, hlt, hc, a_slen, a_six, isStrV_lit, strV_lit, ← hN, six_int, hcl, Int.toNat_natCast, Int.natCast_nonneg, hwi, aundef, hb1, hb2, hb3, hb4, hb5, hb6, hb7, hb8, hb9]
                  refine ih _ _ ⟨rfl, take_all hcl hall (by simp [gB, hb1, hb2, hb3, hb4, hb5, hb6, hb7, hb8, hb9]), ?_⟩
                  simp only [core, zrA, zrS, zrM, zrL, zrE, reduceCtorEq, zrD, ziE, ziL, ziN, hn, g0, g3]
                | false =>
                  try simp only [core, zrA, zrS, zrM, zrL, zrE, reduceCtorEq, zrD, ziE, ziL, ziN, hn, g0, g3, hlt, hc, a_slen, a_six, isStrV_lit, strV_lit, ← hN, six_int, hcl, Int.toNat_natCast, Int.natCast_nonneg, hwi, aundef, hb1, hb2, hb3, hb4, hb5, hb6, hb7, hb8, hb9]
                  cases b9 with
                  | true =>
                    try simp only [core, zrA, zrS, zrM, zrL, zrE, reduceCtorEq, zrD, ziE, ziL, ziN, hn, g0, g3, hlt, hc, a_slen, a_six, isStrV_lit, strV_lit, ← hN, six_int, hcl, Int.toNat_natCast, Int.natCast_nonneg, hwi, aundef, hb1, hb2, hb3, hb4, hb5, hb6, hb7, hb8, hb9]
                    refine ih _ _ ⟨rfl, take_all hcl hall (by simp [gB, hb1, hb2, hb3, hb4, hb5, hb6, hb7, hb8, hb9]), ?_⟩
                    simp only [core, zrA, zrS, zrM, zrL, zrE, reduceCtorEq, zrD, ziE, ziL, ziN, hn, g0, g3]
                  | false =>
                    try simp only [core, zrA, zrS, zrM, zrL, zrE, reduceCtorEq, zrD, ziE, ziL, ziN, hn, g0, g3, hlt, hc, a_slen, a_six, isStrV_lit, strV_lit, ← hN, six_int, hcl, Int.toNat_natCast, Int.natCast_nonneg, hwi, aundef, hb1, hb2, hb3, hb4, hb5, hb6, hb7, hb8, hb9]
                    rw [mGood_bad hcl (by simp [gB, hb1, hb2, hb3, hb4, hb5, hb6, hb7, hb8, hb9])]
          | false =>
            try simp only [core, zrA, zrS, zrM, zrL, zrE, reduceCtorEq, zrD, ziE, ziL, ziN, hn, g0, g3, hlt, hc, a_slen, a_six, isStrV_lit, strV_lit, ← hN, six_int, hcl, Int.toNat_natCast, Int.natCast_nonneg, hwi, aundef, hb1, hb2, hb3, hb4, hb5, hb6, hb7, hb8, hb9]
            cases b7 with
            | true =>
              try simp only [core, zrA, zrS, zrM, zrL, zrE, reduceCtorEq, zrD, ziE, ziL, ziN, hn, g0, g3, hlt, hc, a_slen, a_six, isStrV_lit, strV_lit, ← hN, six_int, hcl, Int.toNat_natCast, Int.natCast_nonneg, hwi, aundef, hb1, hb2, hb3, hb4, hb5, hb6, hb7, hb8, hb9]
              refine ih _ _ ⟨rfl, take_all hcl hall (by simp [gB, hb1, hb2, hb3, hb4, hb5, hb6, hb7, hb8, hb9]), ?_⟩
              simp only [core, zrA, zrS, zrM, zrL, zrE, reduceCtorEq, zrD, ziE, ziL, ziN, hn, g0, g3]
            | false =>
              try simp only [core, zrA, zrS, zrM, zrL, zrE, reduceCtorEq, zrD, ziE, ziL, ziN, hn, g0, g3, hlt, hc, a_slen, a_six, isStrV_lit, strV_lit, ← hN, six_int, hcl, Int.toNat_natCast, Int.natCast_nonneg, hwi, aundef, hb1, hb2, hb3, hb4, hb5, hb6, hb7, hb8, hb9]
              cases b8 with
              | true =>
                try simp only [core, zrA, zrS, zrM, zrL, zrE, reduceCtorEq, zrD, ziE, ziL, ziN, hn, g0, g3, hlt, hc, a_slen, a_six, isStrV_lit, strV_lit, ← hN, six_int, hcl, Int.toNat_natCast, Int.natCast_nonneg, hwi, aundef, hb1, hb2, hb3, hb4, hb5, hb6, hb7, hb8, hb9]
                refine ih _ _ ⟨rfl, take_all hcl hall (by simp [gB, hb1, hb2, hb3, hb4, hb5, hb6, hb7, hb8, hb9]), ?_⟩
                simp only [core, zrA, zrS, zrM, zrL, zrE, reduceCtorEq, zrD, ziE, ziL, ziN, hn, g0, g3]
              | false =>
                try simp only [core, zrA, zrS, zrM, zrL, zrE, reduceCtorEq, zrD, ziE, ziL, ziN, hn, g0, g3, hlt, hc, a_slen, a_six, isStrV_lit, strV_lit, ← hN, six_int, hcl, Int.toNat_natCast, Int.natCast_nonneg, hwi, aundef, hb1, hb2, hb3, hb4, hb5, hb6, hb7, hb8, hb9]
                cases b9 with
                | true =>
                  try simp only [core, zrA, zrS, zrM, zrL, zrE, reduceCtorEq, zrD, ziE, ziL, ziN, hn, g0, g3, hlt, hc, a_slen, a_six, isStrV_lit, strV_lit, ← hN, six_int, hcl, Int.toNat_natCast, Int.natCast_nonneg, hwi, aundef, hb1, hb2, hb3, hb4, hb5, hb6, hb7, hb8, hb9]
                  refine ih _ _ ⟨rfl, take_all hcl hall (by simp [gB, hb1, hb2, hb3, hb4, hb5, hb6, hb7, hb8, hb9]), ?_⟩
                  simp only [core, zrA, zrS, zrM, zrL, zrE, reduceCtorEq, zrD, ziE, ziL, ziN, hn, g0, g3]
                | false =>
                  try simp only [core, zrA, zrS, zrM, zrL, zrE, reduceCtorEq, zrD, ziE, ziL, ziN, hn, g0, g3, hlt, hc, a_slen, a_six, isStrV_lit, strV_lit, ← hN, six_int, hcl, Int.toNat_natCast, Int.natCast_nonneg, hwi, aundef, hb1, hb2, hb3, hb4, hb5, hb6, hb7, hb8, hb9]
                  rw [mGood_bad hcl (by simp [gB, hb1, hb2, hb3, hb4, hb5, hb6, hb7, hb8, hb9])]
    | false =>
      try simp only [core, zrA, zrS, zrM, zrL, zrE, reduceCtorEq, zrD, ziE, ziL, ziN, hn, g0, g3, hlt, hc, a_slen, a_six, isStrV_lit, strV_lit, ← hN, six_int, hcl, Int.toNat_natCast, Int.natCast_nonneg, hwi, aundef, hb1, hb2, hb3, hb4, hb5, hb6, hb7, hb8, hb9]
      cases b3 with
      | true =>
        try simp only [core, zrA, zrS, zrM, zrL, zrE, reduceCtorEq, zrD, ziE, ziL, ziN, hn, g0, g3, hlt, hc, a_slen, a_six, isStrV_lit, strV_lit, ← hN, six_int, hcl, Int.toNat_natCast, Int.natCast_nonneg, hwi, aundef, hb1, hb2, hb3, hb4, hb5, hb6, hb7, hb8, hb9]
        cases b4 with
        | true =>
          try simp only [core, zrA, zrS, zrM, zrL, zrE, reduceCtorEq, zrD, ziE, ziL, ziN, hn, g0, g3, hlt, hc, a_slen, a_six, isStrV_lit, strV_lit, ← hN, six_int, hcl, Int.toNat_natCast, Int.natCast_nonneg, hwi, aundef, hb1, hb2, hb3, hb4, hb5, hb6, hb7, hb8, hb9]
          refine ih _ _ ⟨rfl, take_all hcl hall (by simp [gB, hb1, hb2, hb3, hb4, hb5, hb6, hb7, hb8, hb9]), ?_⟩
          simp only [core, zrA, zrS, zrM, zrL, zrE, reduceCtorEq, zrD, ziE, ziL, ziN, hn, g0, g3]
        | false =>
          try simp only [core, zrA, zrS, zrM, zrL, zrE, reduceCtorEq, zrD, ziE, ziL, ziN, hn, g0, g3, hlt, hc, a_slen, a_six, isStrV_lit, strV_lit, ← hN, six_int, hcl, Int.toNat_natCast, Int.natCast_nonneg, hwi, aundef, hb1, hb2, hb3, hb4, hb5, hb6, hb7, hb8, hb9]
          cases b5 with
          | true =>
            try simp only [core, zrA, zrS, zrM, zrL, zrE, reduceCtorEq, zrD, ziE, ziL, ziN, hn, g0, g3, hlt, hc, a_slen, a_six, isStrV_lit, strV_lit, ← hN, six_int, hcl, Int.toNat_natCast, Int.natCast_nonneg, hwi, aundef, hb1, hb2, hb3, hb4, hb5, hb6, hb7, hb8, hb9]
            cases b6 with
            | true =>
              try simp only [core, zrA, zrS, zrM, zrL, zrE, reduceCtorEq, zrD, ziE, ziL, ziN, hn, g0, g3, hlt, hc, a_slen, a_six, isStrV_lit, strV_lit, ← hN, six_int, hcl, Int.toNat_natCast, Int.natCast_nonneg, hwi, aundef, hb1, hb2, hb3, hb4, hb5, hb6, hb7, hb8, hb9]
              refine ih _ _ ⟨rfl, take_all hcl hall (by simp [gB, hb1, hb2, hb3, hb4, hb5, hb6, hb7, hb8, hb9]), ?_⟩
              simp only [core, zrA, zrS, zrM, zrL, zrE, reduceCtorEq, zrD, ziE, ziL, ziN, hn, g0, g3]
            | false =>
              try simp only [core, zrA, zrS, zrM, zrL, zrE, reduceCtorEq, zrD, ziE, ziL, ziN, hn, g0, g3, hlt, hc, a_slen, a_six, isStrV_lit, strV_lit, ← hN, six_int, hcl, Int.toNat_natCast, Int.natCast_nonneg, hwi, aundef, hb1, hb2, hb3, hb4, hb5, hb6, hb7, hb8, hb9]
              cases b7 with
              | true =>
                try simp only [core, zrA, zrS, zrM, zrL, zrE, reduceCtorEq, zrD, ziE, ziL, ziN, hn, g0, g3, hlt, hc, a_slen, a_six, isStrV_lit, strV_lit, ← hN, six_int, hcl, Int.toNat_natCast, Int.natCast_nonneg, hwi, aundef, hb1, hb2, hb3, hb4, hb5, hb6, hb7, hb8, hb9]
                refine ih _ _ ⟨rfl, take_all hcl hall (by simp [gB, hb1, hb2, hb3, hb4, hb5, hb6, hb7, hb8, hb9]), ?_⟩
                simp only [core, zrA, zrS, zrM, zrL, zrE, reduceCtorEq, zrD, ziE, ziL, ziN, hn, g0, g3]
              | false =>
                try simp only [core, zrA, zrS, zrM, zrL, zrE, reduceCtorEq, zrD, ziE, ziL, ziN, hn, g0, g3, hlt, hc, a_slen, a_six, isStrV_lit, strV_lit, ← hN, six_int, hcl, Int.toNat_natCast, Int.natCast_nonneg, hwi, aundef, hb1, hb2, hb3, hb4, hb5, hb6, hb7, hb8, hb9]
                cases b8 with
                | true =>
                  try simp only [core, zrA, zrS, zrM, zrL, zrE, reduceCtorEq, zrD, ziE, ziL, ziN, hn, g0, g3, hlt, hc, a_slen, a_six, isStrV_lit, strV_lit, ← hN, six_int, hcl, Int.toNat_natCast, Int.natCast_nonneg, hwi, aundef, hb1, hb2, hb3, hb4, hb5, hb6, hb7, hb8, hb9]
                  refine ih _ _ ⟨rfl, take_all hcl hall (by simp [gB, hb1, hb2, hb3, hb4, hb5, hb6, hb7, hb8, hb9]), ?_⟩
                  simp only [core, zrA, zrS, zrM, zrL, zrE, reduceCtorEq, zrD, ziE, ziL, ziN, hn, g0, g3]
                | false =>
                  try simp only [core, zrA, zrS, zrM, zrL, zrE, reduceCtorEq, zrD, ziE, ziL, ziN, hn, g0, g3, hlt, hc, a_slen, a_six, isStrV_lit, strV_lit, ← hN, six_int, hcl, Int.toNat_natCast, Int.natCast_nonneg, hwi, aundef, hb1, hb2, hb3, hb4, hb5, hb6, hb7, hb8, hb9]
                  cases b9 with
                  | true =>
                    try simp only [core, zrA, zrS, zrM, zrL, zrE, reduceCtorEq, zrD, ziE, ziL, ziN, hn, g0, g3, hlt, hc, a_slen, a_six, isStrV_lit, strV_lit, ← hN, six_int, hcl, Int.toNat_natCast, Int.natCast_nonneg, hwi, aundef, hb1, hb2, hb3, hb4, hb5, hb6, hb7, hb8, hb9]
                    refine ih _ _ ⟨rfl, take_all hcl hall (by simp [gB, hb1, hb2, hb3, hb4, hb5, hb6, hb7, hb8, hb9]), ?_⟩
                    simp only [core, zrA, zrS, zrM, zrL, zrE, reduceCtorEq, zrD, ziE, ziL, ziN, hn, g0, g3]
                  | false =>
                    try simp only [core, zrA, zrS, zrM, zrL, zrE, reduceCtorEq, zrD, ziE, ziL, ziN, hn, g0, g3, hlt, hc, a_slen, a_six, isStrV_lit, strV_lit, ← hN, six_int, hcl, Int.toNat_natCast, Int.natCast_nonneg, hwi, aundef, hb1, hb2, hb3, hb4, hb5, hb6, hb7, hb8, hb9]
                    rw [mGood_bad hcl (by simp [gB, hb1, hb2, hb3, hb4, hb5, hb6, hb7, hb8, hb9])]
          | false =>
            try simp only [core, zrA, zrS, zrM, zrL, zrE, reduceCtorEq, zrD, ziE, ziL, ziN, hn, g0, g3, hlt, hc, a_slen, a_six, isStrV_lit, strV_lit, ← hN, six_int, hcl, Int.toNat_natCast, Int.natCast_nonneg, hwi, aundef, hb1, hb2, hb3, hb4, hb5, hb6, hb7, hb8, hb9]
            cases b7 with
            | true =>
              try simp only [core, zrA, zrS, zrM, zrL, zrE, reduceCtorEq, zrD, ziE, ziL, ziN, hn, g0, g3, hlt, hc, a_slen, a_six, isStrV_lit, strV_lit, ← hN, six_int, hcl, Int.toNat_natCast, Int.natCast_nonneg, hwi, aundef, hb1, hb2, hb3, hb4, hb5, hb6, hb7, hb8, hb9]
              refine ih _ _ ⟨rfl, take_all hcl hall (by simp [gB, hb1, hb2, hb3, hb4, hb5, hb6, hb7, hb8, hb9]), ?_⟩
              simp only [core, zrA, zrS, zrM, zrL, zrE, reduceCtorEq, zrD, ziE, ziL, ziN, hn, g0, g3]
            | false =>
              try simp only [core, zrA, zrS, zrM, zrL, zrE, reduceCtorEq, zrD, ziE, ziL, ziN, hn, g0, g3, hlt, hc, a_slen, a_six, isStrV_lit, strV_lit, ← hN, six_int, hcl, Int.toNat_natCast, Int.natCast_nonneg, hwi, aundef, hb1, hb2, hb3, hb4, hb5, hb6, hb7, hb8, hb9]
              cases b8 with
              | true =>
                try simp only [core, zrA, zrS, zrM, zrL, zrE, reduceCtorEq, zrD, ziE, ziL, ziN, hn, g0, g3, hlt, hc, a_slen, a_six, isStrV_lit, strV_lit, ← hN, six_int, hcl, Int.toNat_natCast, Int.natCast_nonneg, hwi, aundef, hb1, hb2, hb3, hb4, hb5, hb6, hb7, hb8, hb9]
                refine ih _ _ ⟨rfl, take_all hcl hall (by simp [gB, hb1, hb2, hb3, hb4, hb5, hb6, hb7, hb8, hb9]), ?_⟩
                simp only [core, zrA, zrS, zrM, zrL, zrE, reduceCtorEq, zrD, ziE, ziL, ziN, hn, g0, g3]
              | false =>
                try simp only [core, zrA, zrS, zrM, zrL, zrE, reduceCtorEq, zrD, ziE, ziL, ziN, hn, g0, g3, hlt, hc, a_slen, a_six, isStrV_lit, strV_lit, ← hN, six_int, hcl, Int.toNat_natCast, Int.natCast_nonneg, hwi, aundef, hb1, hb2, hb3, hb4, hb5, hb6, hb7, hb8, hb9]
                cases b9 with
                | true =>
                  try simp only [core, zrA, zrS, zrM, zrL, zrE, reduceCtorEq, zrD, ziE, ziL, ziN, hn, g0, g3, hlt, hc, a_slen, a_six, isStrV_lit, strV_lit, ← hN, six_int, hcl, Int.toNat_natCast, Int.natCast_nonneg, hwi, aundef, hb1, hb2, hb3, hb4, hb5, hb6, hb7, hb8, hb9]
                  refine ih _ _ ⟨rfl, take_all hcl hall (by simp [gB, hb1, hb2, hb3, hb4, hb5, hb6, hb7, hb8, hb9]), ?_⟩
                  simp only [core, zrA, zrS, zrM, zrL, zrE, reduceCtorEq, zrD, ziE, ziL, ziN, hn, g0, g3]
                | false =>
                  try simp only [core, zrA, zrS, zrM, zrL, zrE, reduceCtorEq, zrD, ziE, ziL, ziN, hn, g0, g3, hlt, hc, a_slen, a_six, isStrV_lit, strV_lit, ← hN, six_int, hcl, Int.toNat_natCast, Int.natCast_nonneg, hwi, aundef, hb1, hb2, hb3, hb4, hb5, hb6, hb7, hb8, hb9]
                  rw [mGood_bad hcl (by simp [gB, hb1, hb2, hb3, hb4, hb5, hb6, hb7, hb8, hb9])]
      | false =>
        try simp only [core, zrA, zrS, zrM, zrL, zrE, reduceCtorEq, zrD, ziE, ziL, ziN, hn, g0, g3, hlt, hc, a_slen, a_six, isStrV_lit, strV_lit, ← hN, six_int, hcl, Int.toNat_natCast, Int.natCast_nonneg, hwi, aundef, hb1, hb2, hb3, hb4, hb5, hb6, hb7, hb8, hb9]
        cases b5 with
        | true =>
          try simp only [core, zrA, zrS, zrM, zrL, zrE, reduceCtorEq, zrD, ziE, ziL, ziN, hn, g0, g3, hlt, hc, a_slen, a_six, isStrV_lit, strV_lit, ← hN, six_int, hcl, Int.toNat_natCast, Int.natCast_nonneg, hwi, aundef, hb1, hb2, hb3, hb4, hb5, hb6, hb7, hb8, hb9]
          cases b6 with
          | true =>
            try simp only [core, zrA, zrS, zrM, zrL, zrE, reduceCtorEq, zrD, ziE, ziL, ziN, hn, g0, g3, hlt, hc, a_slen, a_six, isStrV_lit, strV_lit, ← hN, six_int, hcl, Int.toNat_natCast, Int.natCast_nonneg, hwi, aundef, hb1, hb2, hb3, hb4, hb5, hb6, hb7, hb8, hb9]
            refine ih _ _ ⟨rfl, take_all hcl hall (by simp [gB, hb1, hb2, hb3, hb4, hb5, hb6, hb7, hb8, hb9]), ?_⟩
            simp only [core, zrA, zrS, zrM, zrL, zrE, reduceCtorEq, zrD, ziE, ziL, ziN, hn, g0, g3]
          | false =>
            try simp only [core, zrA, zrS, zrM, zrL, zrE, reduceCtorEq, zrD, ziE, ziL, ziN, hn, g0, g3, hlt, hc, a_slen, a_six, isStrV_lit, strV_lit, ← hN, six_int, hcl, Int.toNat_natCast, Int.natCast_nonneg, hwi, aundef, hb1, hb2, hb3, hb4, hb5, hb6, hb7, hb8, hb9]
            cases b7 with
            | true =>
              try simp only [core, zrA, zrS, zrM, zrL, zrE, reduceCtorEq, zrD, ziE, ziL, ziN, hn, g0, g3, hlt, hc, a_slen, a_six, isStrV_lit, strV_lit, ← hN, six_int, hcl, Int.toNat_natCast, Int.natCast_nonneg, hwi, aundef, hb1, hb2, hb3, hb4, hb5, hb6, hb7, hb8, hb9]
              refine ih _ _ ⟨rfl, take_all hcl hall (by simp [gB, hb1, hb2, hb3, hb4, hb5, hb6, hb7, hb8, hb9]), ?_⟩
              simp only [core, zrA, zrS, zrM, zrL, zrE, reduceCtorEq, zrD, ziE, ziL, ziN, hn, g0, g3]
            | false =>
              try simp only [core, zrA, zrS, zrM, zrL, zrE, reduceCtorEq, zrD, ziE, ziL, ziN, hn, g0, g3, hlt, hc, a_slen, a_six, isStrV_lit, strV_lit, ← hN, six_int, hcl, Int.toNat_natCast, Int.natCast_nonneg, hwi, aundef, hb1, hb2, hb3, hb4, hb5, hb6, hb7, hb8, hb9]
              cases b8 with
              | true =>
                try simp only [core, zrA, zrS, zrM, zrL, zrE, reduceCtorEq, zrD, ziE, ziL, ziN, hn, g0, g3, hlt, hc, a_slen, a_six, isStrV_lit, strV_lit, ← hN, six_int, hcl, Int.toNat_natCast, Int.natCast_nonneg, hwi, aundef, hb1, hb2, hb3, hb4, hb5, hb6, hb7, hb8, hb9]
                refine ih _ _ ⟨rfl, take_all hcl hall (by simp [gB, hb1, hb2, hb3, hb4, hb5, hb6, hb7, hb8, hb9]), ?_⟩
                simp only [core, zrA, zrS, zrM, zrL, zrE, reduceCtorEq, zrD, ziE, ziL, ziN, hn, g0, g3]
              | false =>
                try simp only [core, zrA, zrS, zrM, zrL, zrE, reduceCtorEq, zrD, ziE, ziL, ziN, hn, g0, g3, hlt, hc, a_slen, a_six, isStrV_lit, strV_lit, ← hN, six_int, hcl, Int.toNat_natCast, Int.natCast_nonneg, hwi, aundef, hb1, hb2, hb3, hb4, hb5, hb6, hb7, hb8, hb9]
                cases b9 with
                | true =>
                  try simp only [core, zrA, zrS, zrM, zrL, zrE, reduceCtorEq, zrD, ziE, ziL, ziN, hn, g0, g3, hlt, hc, a_slen, a_six, isStrV_lit, strV_lit, ← hN, six_int, hcl, Int.toNat_natCast, Int.natCast_nonneg, hwi, aundef, hb1, hb2, hb3, hb4, hb5, hb6, hb7, hb8, hb9]
                  refine ih _ _ ⟨rfl, take_all hcl hall (by simp [gB, hb1, hb2, hb3, hb4, hb5, hb6, hb7, hb8, hb9]), ?_⟩
                  simp only [core, zrA, zrS, zrM, zrL, zrE, reduceCtorEq, zrD, ziE, ziL, ziN, hn, g0, g3]
                | false =>
                  try simp only [core, zrA, zrS, zrM, zrL, zrE, reduceCtorEq, zrD, ziE, ziL, ziN, hn, g0, g3, hlt, hc, a_slen, a_six, isStrV_lit, strV_lit, ← hN, six_int, hcl, Int.toNat_natCast, Int.natCast_nonneg, hwi, aundef, hb1, hb2, hb3, hb4, hb5, hb6, hb7, hb8, hb9]
                  rw [mGood_bad hcl (by simp [gB, hb1, hb2, hb3, hb4, hb5, hb6, hb7, hb8, hb9])]
        | false =>
          try simp only [core, zrA, zrS, zrM, zrL, zrE, reduceCtorEq, zrD, ziE, ziL, ziN, hn, g0, g3, hlt, hc, a_slen, a_six, isStrV_lit, strV_lit, ← hN, six_int, hcl, Int.toNat_natCast, Int.natCast_nonneg, hwi, aundef, hb1, hb2, hb3, hb4, hb5, hb6, hb7, hb8, hb9]
          cases b7 with
          | true =>
            try simp only [core, zrA, zrS, zrM, zrL, zrE, reduceCtorEq, zrD, ziE, ziL, ziN, hn, g0, g3, hlt, hc, a_slen, a_six, isStrV_lit, strV_lit, ← hN, six_int, hcl, Int.toNat_natCast, Int.natCast_nonneg, hwi, aundef, hb1, hb2, hb3, hb4, hb5, hb6, hb7, hb8, hb9]
            refine ih _ _ ⟨rfl, take_all hcl hall (by simp [gB, hb1, hb2, hb3, hb4, hb5, hb6, hb7, hb8, hb9]), ?_⟩
            simp only [core, zrA, zrS, zrM, zrL, zrE, reduceCtorEq, zrD, ziE, ziL, ziN, hn, g0, g3]
          | false =>
            try simp only [core, zrA, zrS, zrM, zrL, zrE, reduceCtorEq, zrD, ziE, ziL, ziN, hn, g0, g3, hlt, hc, a_slen, a_six, isStrV_lit, strV_lit, ← hN, six_int, hcl, Int.toNat_natCast, Int.natCast_nonneg, hwi, aundef, hb1, hb2, hb3, hb4, hb5, hb6, hb7, hb8, hb9]
            cases b8 with
            | true =>
              try simp only [core, zrA, zrS, zrM, zrL, zrE, reduceCtorEq, zrD, ziE, ziL, ziN, hn, g0, g3, hlt, hc, a_slen, a_six, isStrV_lit, strV_lit, ← hN, six_int, hcl, Int.toNat_natCast, Int.natCast_nonneg, hwi, aundef, hb1, hb2, hb3, hb4, hb5, hb6, hb7, hb8, hb9]
              refine ih _ _ ⟨rfl, take_all hcl hall (by simp [gB, hb1, hb2, hb3, hb4, hb5, hb6, hb7, hb8, hb9]), ?_⟩
              simp only [core, zrA, zrS, zrM, zrL, zrE, reduceCtorEq, zrD, ziE, ziL, ziN, hn, g0, g3]
            | false =>
              try simp only [core, zrA, zrS, zrM, zrL, zrE, reduceCtorEq, zrD, ziE, ziL, ziN, hn, g0, g3, hlt, hc, a_slen, a_six, isStrV_lit, strV_lit, ← hN, six_int, hcl, Int.toNat_natCast, Int.natCast_nonneg, hwi, aundef, hb1, hb2, hb3, hb4, hb5, hb6, hb7, hb8, hb9]
              cases b9 with
              | true =>
                try simp only [core, zrA, zrS, zrM, zrL, zrE, reduceCtorEq, zrD, ziE, ziL, ziN, hn, g0, g3, hlt, hc, a_slen, a_six, isStrV_lit, strV_lit, ← hN, six_int, hcl, Int.toNat_natCast, Int.natCast_nonneg, hwi, aundef, hb1, hb2, hb3, hb4, hb5, hb6, hb7, hb8, hb9]
                refine ih _ _ ⟨rfl, take_all hcl hall (by simp [gB, hb1, hb2, hb3, hb4, hb5, hb6, hb7, hb8, hb9]), ?_⟩
                simp only [core, zrA, zrS, zrM, zrL, zrE, reduceCtorEq, zrD, ziE, ziL, ziN, hn, g0, g3]
              | false =>
                try simp only [core, zrA, zrS, zrM, zrL, zrE, reduceCtorEq, zrD, ziE, ziL, ziN, hn, g0, g3, hlt, hc, a_slen, a_six, isStrV_lit, strV_lit, ← hN, six_int, hcl, Int.toNat_natCast, Int.natCast_nonneg, hwi, aundef, hb1, hb2, hb3, hb4, hb5, hb6, hb7, hb8, hb9]
                rw [mGood_bad hcl (by simp [gB, hb1, hb2, hb3, hb4, hb5, hb6, hb7, hb8, hb9])]
  · rintro t h hc ⟨rfl, hall, hn, g0, g3⟩
    have ha : l.all gB = true := by rw [hN, List.take_length] at hall; exact hall
    have he : mGood l = (decide (1 ≤ (n : Int)) && decide ((n : Int) ≤ 40)) := by unfold mGood; rw [ha, hN]; rfl
    rw [he]
    cases h1 : decide (1 ≤ (n : Int)) <;>
      simp only [core, zrA, zrS, zrM, zrL, zrE, reduceCtorEq, zrD, ziE, ziL, ziN, hn, g0, g3, hc, a_slen, isStrV_lit, strV_lit, ← hN, h1, aundef]
    all_goals try simp
  · refine ⟨rfl, by simp, ?_⟩
    simp only [core, zrA, zrS, zrM, zrL, zrE, reduceCtorEq, zrD, ziE, ziL, ziN]
    (repeat' apply And.intro) <;> first | rfl | trivial
end Go.Proofs.YtopeilhdddiapaaGreatDoor.Ex
end

section
/- The law ManifestNames in the machine. -/
set_option linter.unusedSimpArgs false
set_option linter.unusedVariables false
set_option maxRecDepth 10000
set_option maxHeartbeats 4000000
namespace Go.Proofs.YtopeilhdddiapaaGreatDoor.Ex
open Go

theorem idF_len (a b c : Int) : (idF a b c).length ≤ 100 := by
  unfold idF
  split
  · rename_i h
    obtain ⟨x, rfl, hx⟩ := okI_nat h.1
    obtain ⟨y, rfl, hy⟩ := okI_nat h.2.1
    obtain ⟨z, rfl, hz⟩ := okI_nat h.2.2
    have lx := dig_len (n := x) (by omega)
    have ly := dig_len (n := y) (by omega)
    have lz := dig_len (n := z) (by omega)
    unfold idB
    simp only [List.length_append, List.length_cons, Int.toNat_natCast]
    omega
  · simp
theorem idF_good {a b c : Int} (h : idF a b c ≠ []) : goodIdF (idF a b c) = true := by
  unfold idF at h ⊢
  split at h
  · rename_i h0
    rw [if_pos h0]
    obtain ⟨x, rfl, hx⟩ := okI_nat h0.1
    obtain ⟨y, rfl, hy⟩ := okI_nat h0.2.1
    obtain ⟨z, rfl, hz⟩ := okI_nat h0.2.2
    exact good_id hx hy hz
  · exact absurd rfl h
def idS : Option (List UInt8) → List UInt8
  | some a => a
  | none => []
theorem idV_eq (o : Option (List UInt8)) : idV o = .tup [.lit (.string ⟨(idS o).toArray⟩), .lit (.bool o.isSome)] := by cases o <;> rfl
theorem pur_seq1 {P : Program} {e : TypeId} {a : List UInt8} : pur P (binOp .eql e (Value.string ⟨a.toArray⟩) (Value.string ⟨a.toArray⟩)) = some (.ok (Value.bool true)) := by
  rw [pur_seq, show (a == a) = true by simp]
theorem pur_sne1 {P : Program} {e : TypeId} {a : List UInt8} : pur P (binOp .neq e (Value.string ⟨a.toArray⟩) (Value.string ⟨a.toArray⟩)) = some (.ok (Value.bool false)) := by
  rw [pur_sne, show (a == a) = true by simp]
  rfl
theorem names_m {H : AH} {l o : List UInt8} {a b c : Int} {e : TypeId} (hT : H.at 1 = some (.frz tabL e)) (ha : I64 a) (hl : l.length ≤ 1100000) (ho : o.length ≤ 1100000) :
    WC Tryz.prog (tabOf Tryz.prog NT0) S0 3 [.lit (.string ⟨l.toArray⟩), .agg [.lit (.int .i64 a), .lit (.int .i64 b), .lit (.int .i64 c)], .lit (.string ⟨o.toArray⟩)] H fun r h' => r = .lit (.bool true) := by
  refine WC_fn Tryz.func3 rfl rfl ?_
  have lT := at_lt hT
  obtain ⟨h0, hh0⟩ : ∃ h0, h0 = H.push (.cells [.lit (.int .i64 a), .lit (.int .i64 b), .lit (.int .i64 c)] 22) := ⟨_, rfl⟩
  have e0 : Ext H.n H h0 := hh0 ▸ (Ext.refl _ _).push _ (Nat.le_refl _)
  have X0 : h0.at H.n = some (.cells [.lit (.int .i64 a), .lit (.int .i64 b), .lit (.int .i64 c)] 22) := hh0 ▸ at_push_n _ _
  simp only [core, zrA, zrS, zrM, zrL, zrE, reduceCtorEq, zrD, ziE, ziL, ziN, Tryz.ntmps3, ← hh0]
  refine (idOf_x ho).mono ?_
  rintro _ h1 ⟨E1, rfl⟩
  rw [idV_eq]
  simp only [core, zrA, zrS, zrM, zrL, zrE, reduceCtorEq, zrD, ziE, ziL, ziN]
  refine (idOfR_x ho).mono ?_
  rintro _ h2 ⟨E2, rfl⟩
  rw [idV_eq]
  have E02 := E1.trans (E2.mono E1.1)
  have X2 := (E02.2 _ (at_lt X0)).trans X0
  have LX2 := ld_at (T := tabOf Tryz.prog NT0) X2
  have lX2 := at_lt X2
  have T2 : h2.at 1 = some (.frz tabL e) := (E02.2 _ (Nat.lt_of_lt_of_le lT e0.1)).trans ((e0.2 _ lT).trans hT)
  simp only [core, zrA, zrS, zrM, zrL, zrE, reduceCtorEq, zrD, ziE, ziL, ziN, LX2, lX2]
  refine (id_x T2).mono ?_
  rintro _ h3 ⟨E3, rfl⟩
  have E03 := E02.trans (E3.mono E02.1)
  have X3 := (E03.2 _ (at_lt X0)).trans X0
  have LX3 := ld_at (T := tabOf Tryz.prog NT0) X3
  have lX3 := at_lt X3
  have T3 : h3.at 1 = some (.frz tabL e) := (E3.2 _ (at_lt T2)).trans T2
  obtain ⟨D, hD⟩ : ∃ D, D = idF a b c := ⟨_, rfl⟩
  have hDl : D.length ≤ 100 := hD ▸ idF_len a b c
  have hDg : D ≠ [] → goodIdF D = true := fun h => by rw [hD] at h ⊢; exact idF_good h
  have key : ∀ h, Ext h3.n h3 h → h.at H.n = h3.at H.n := fun h e => e.2 _ lX3
  rw [← hD]
  simp only [core, zrA, zrS, zrM, zrL, zrE, reduceCtorEq, zrD, ziE, ziL, ziN]
  rw [WB_regionD [0, 1, 2, 3, 4, 5, 6, 8, 9, 10, 7, 11, 12, 13] 50212216069072380250976804711912482577604676008074459234304 (by kernel_rfl)]
  have bb : ∀ b : Bool, (b == b) = true := fun b => by cases b <;> rfl
  cases ha0 : decide (0 ≤ a) with
  | false =>
    repeat (first | ((with_reducible refine WDM_cons ?_; simp only [dw1]; try simp only [dw2, zrA, zrM, zrR, zrO, zrE]); simp only [core, zrA, zrS, zrM, zrL, zrE, reduceCtorEq, zrD, ziE, ziL, ziN, cored, LX3, lX3, ha0, aundef]) | simp only [core, zrA, zrS, zrM, zrL, zrE, reduceCtorEq, zrD, ziE, ziL, ziN, cored, LX3, lX3, ha0, aundef])
    obtain ⟨h5, hh5⟩ : ∃ h5, h5 = h3 := ⟨_, rfl⟩
    have E5 : Ext h3.n h3 h5 := hh5 ▸ Ext.refl _ _
    rw [← hh5]
    have E05 := E03.trans (E5.mono E03.1)
    have X5 := (E05.2 _ (at_lt X0)).trans X0
    have LX5 := ld_at (T := tabOf Tryz.prog NT0) X5
    have lX5 := at_lt X5
    refine (mgood_x (by omega)).mono ?_
    rintro _ _ ⟨rfl, q5⟩
    replace q5 := q5.symm
    subst q5
    simp only [core, zrA, zrS, zrM, zrL, zrE, reduceCtorEq, zrD, ziE, ziL, ziN]
    refine (rgood_x (by omega)).mono ?_
    rintro _ _ ⟨rfl, q5⟩
    replace q5 := q5.symm
    subst q5
    simp only [core, zrA, zrS, zrM, zrL, zrE, reduceCtorEq, zrD, ziE, ziL, ziN, bb, LX5, lX5]
    refine (idR_x).mono ?_
    rintro _ h6 ⟨E6, rfl⟩
    rw [← hD]
    simp only [core, zrA, zrS, zrM, zrL, zrE, reduceCtorEq, zrD, ziE, ziL, ziN, pur_seq1]
    refine (goodId_x (by omega)).mono ?_
    rintro _ h7 ⟨E7, rfl⟩
    simp only [core, zrA, zrS, zrM, zrL, zrE, reduceCtorEq, zrD, ziE, ziL, ziN]
    refine (goodIdR_x (by omega)).mono ?_
    rintro _ h8 ⟨E8, rfl⟩
    simp only [core, zrA, zrS, zrM, zrL, zrE, reduceCtorEq, zrD, ziE, ziL, ziN, pur_seq1, bb]
    refine (mname_x (by omega)).mono ?_
    rintro _ _ ⟨rfl, q5⟩
    replace q5 := q5.symm
    subst q5
    simp only [core, zrA, zrS, zrM, zrL, zrE, reduceCtorEq, zrD, ziE, ziL, ziN]
    refine (mnameR_x (by omega)).mono ?_
    rintro _ _ ⟨rfl, q5⟩
    replace q5 := q5.symm
    subst q5
    have q6 : ∀ (P : Program) (e : TypeId), pur P (binOp .eql e (Value.string ⟨D.toArray⟩) (Value.string ⟨#[]⟩)) = some (.ok (.bool (D == []))) := fun P e => pur_seq (b := [])
    cases hd0 : (D == ([] : List UInt8)) with
    | true =>
      simp only [core, zrA, zrS, zrM, zrL, zrE, reduceCtorEq, zrD, ziE, ziL, ziN, pur_seq1, q6, hd0, aundef]
      refine lives25_c ?_
      simp only [core, zrA, zrS, zrM, zrL, zrE, reduceCtorEq, zrD, ziE, ziL, ziN]
      try simp
    | false =>
      have hgd := hDg (by simpa using hd0)
      simp only [core, zrA, zrS, zrM, zrL, zrE, reduceCtorEq, zrD, ziE, ziL, ziN, pur_seq1, q6, hd0, aundef]
      refine (goodId_x (l := D) (by omega)).mono ?_
      rintro _ h9 ⟨E9, rfl⟩
      rw [hgd]
      simp only [core, zrA, zrS, zrM, zrL, zrE, reduceCtorEq, zrD, ziE, ziL, ziN]
      refine lives25_c ?_
      simp only [core, zrA, zrS, zrM, zrL, zrE, reduceCtorEq, zrD, ziE, ziL, ziN]
      try simp
  | true =>
    obtain ⟨n, rfl⟩ := Int.eq_ofNat_of_zero_le (of_decide_eq_true ha0)
    have hn9 : n ≤ 9223372036854775807 := by have := ha.2; omega
    repeat ((with_reducible refine WDM_cons ?_; simp only [dw1]; try simp only [dw2, zrA, zrM, zrR, zrO, zrE]); simp only [core, zrA, zrS, zrM, zrL, zrE, reduceCtorEq, zrD, ziE, ziL, ziN, cored, LX3, lX3, ha0, aundef])
    refine (pname_x T3 (by omega) hn9).mono ?_
    rintro _ _ ⟨rfl, q5⟩
    replace q5 := q5.symm
    subst q5
    repeat ((with_reducible refine WDM_cons ?_; simp only [dw1]; try simp only [dw2, zrA, zrM, zrR, zrO, zrE]); simp only [core, zrA, zrS, zrM, zrL, zrE, reduceCtorEq, zrD, ziE, ziL, ziN, cored, LX3, lX3, ha0, aundef])
    refine (pnameR_x (by omega) hn9).mono ?_
    rintro _ h5 ⟨E5, rfl⟩
    repeat (first | ((with_reducible refine WDM_cons ?_; simp only [dw1]; try simp only [dw2, zrA, zrM, zrR, zrO, zrE]); simp only [core, zrA, zrS, zrM, zrL, zrE, reduceCtorEq, zrD, ziE, ziL, ziN, cored, LX3, lX3, ha0, aundef, pur_sne1]) | simp only [core, zrA, zrS, zrM, zrL, zrE, reduceCtorEq, zrD, ziE, ziL, ziN, cored, LX3, lX3, ha0, aundef, pur_sne1])
    have E05 := E03.trans (E5.mono E03.1)
    have X5 := (E05.2 _ (at_lt X0)).trans X0
    have LX5 := ld_at (T := tabOf Tryz.prog NT0) X5
    have lX5 := at_lt X5
    refine (mgood_x (by omega)).mono ?_
    rintro _ _ ⟨rfl, q5⟩
    replace q5 := q5.symm
    subst q5
    simp only [core, zrA, zrS, zrM, zrL, zrE, reduceCtorEq, zrD, ziE, ziL, ziN]
    refine (rgood_x (by omega)).mono ?_
    rintro _ _ ⟨rfl, q5⟩
    replace q5 := q5.symm
    subst q5
    simp only [core, zrA, zrS, zrM, zrL, zrE, reduceCtorEq, zrD, ziE, ziL, ziN, bb, LX5, lX5]
    refine (idR_x).mono ?_
    rintro _ h6 ⟨E6, rfl⟩
    rw [← hD]
    simp only [core, zrA, zrS, zrM, zrL, zrE, reduceCtorEq, zrD, ziE, ziL, ziN, pur_seq1]
    refine (goodId_x (by omega)).mono ?_
    rintro _ h7 ⟨E7, rfl⟩
    simp only [core, zrA, zrS, zrM, zrL, zrE, reduceCtorEq, zrD, ziE, ziL, ziN]
    refine (goodIdR_x (by omega)).mono ?_
    rintro _ h8 ⟨E8, rfl⟩
    simp only [core, zrA, zrS, zrM, zrL, zrE, reduceCtorEq, zrD, ziE, ziL, ziN, pur_seq1, bb]
    refine (mname_x (by omega)).mono ?_
    rintro _ _ ⟨rfl, q5⟩
    replace q5 := q5.symm
    subst q5
    simp only [core, zrA, zrS, zrM, zrL, zrE, reduceCtorEq, zrD, ziE, ziL, ziN]
    refine (mnameR_x (by omega)).mono ?_
    rintro _ _ ⟨rfl, q5⟩
    replace q5 := q5.symm
    subst q5
    have q6 : ∀ (P : Program) (e : TypeId), pur P (binOp .eql e (Value.string ⟨D.toArray⟩) (Value.string ⟨#[]⟩)) = some (.ok (.bool (D == []))) := fun P e => pur_seq (b := [])
    cases hd0 : (D == ([] : List UInt8)) with
    | true =>
      simp only [core, zrA, zrS, zrM, zrL, zrE, reduceCtorEq, zrD, ziE, ziL, ziN, pur_seq1, q6, hd0, aundef]
      refine lives25_c ?_
      simp only [core, zrA, zrS, zrM, zrL, zrE, reduceCtorEq, zrD, ziE, ziL, ziN]
      try simp
    | false =>
      have hgd := hDg (by simpa using hd0)
      simp only [core, zrA, zrS, zrM, zrL, zrE, reduceCtorEq, zrD, ziE, ziL, ziN, pur_seq1, q6, hd0, aundef]
      refine (goodId_x (l := D) (by omega)).mono ?_
      rintro _ h9 ⟨E9, rfl⟩
      rw [hgd]
      simp only [core, zrA, zrS, zrM, zrL, zrE, reduceCtorEq, zrD, ziE, ziL, ziN]
      refine lives25_c ?_
      simp only [core, zrA, zrS, zrM, zrL, zrE, reduceCtorEq, zrD, ziE, ziL, ziN]
      try simp
end Go.Proofs.YtopeilhdddiapaaGreatDoor.Ex
end

section
/- Two groups compared. -/
set_option linter.unusedSimpArgs false
set_option linter.unusedVariables false
set_option maxRecDepth 10000
namespace Go.Proofs.YtopeilhdddiapaaGreatDoor.Ex
open Go
variable {P : Program}

theorem pur_bind {α β : Type} (s : Sem α) (f : α → Sem β) : pur P (s >>= f) = match pur P s with
    | some (.ok a) => pur P (f a)
    | some (.pan v) => some (.pan v)
    | none => none := by
  induction s with
  | pure a => rfl
  | program k ih => exact ih P
  | mark m k ih => exact ih
  | halt o => cases o <;> rfl
  | _ => rfl
theorem pur_program : pur P program = some (.ok P) := rfl
theorem pur_pure {α : Type} (a : α) : pur P (pure a) = some (.ok a) := rfl
theorem pur_ite {α : Type} {c : Prop} [Decidable c] (a b : Sem α) : pur P (if c then a else b) = if c then pur P a else pur P b := by split <;> rfl
theorem pur_und {t : TypeId} {d : TypeDesc} (h : P.underlying t = some d) : pur P (underlying t) = some (.ok d) := by
  show pur P (match P.underlying t with | some d => pure d | none => stuck "no such type") = _
  rw [h]
  rfl
theorem pur_equalIn_struct (d : Nat) (t : TypeId) (xs ys : Array Value) (ht : P.underlying t = some (.struct (P.fieldsOf t))) (hp : P.stoodInHeld t = false) : pur P (Op.equalIn (d + 1) t (.agg xs) (.agg ys)) = pur P (Op.eqFields d xs ys (P.fieldsOf t).toList) := by
  simp only [Op.equalIn, pur_bind, pur_und ht, pur_program, hp, Bool.false_eq_true, if_false]
  rw [← Array.forIn_toList]
  generalize (P.fieldsOf t).toList = fs
  clear ht
  induction fs with
  | nil => simp [Op.eqFields, pur_pure]
  | cons f fs ih =>
    simp only [List.forIn_cons, Op.eqFields, pur_bind, pur_ite]
    by_cases hn : f.name ≠ "_"
    · simp only [if_pos hn]
      cases pur P (part f.type xs f.offset) with
      | none => rfl
      | some r1 =>
        cases r1 with
        | pan v => rfl
        | ok a =>
          simp only
          cases pur P (part f.type ys f.offset) with
          | none => rfl
          | some r2 =>
            cases r2 with
            | pan v => rfl
            | ok b =>
              simp only
              cases pur P (Op.equalIn d f.type a b) with
              | none => rfl
              | some r3 =>
                cases r3 with
                | pan v => rfl
                | ok r =>
                  cases r
                  · simp [pur_pure]
                  · simp only [Bool.not_true, Bool.false_eq_true, if_false, pur_pure]
                    exact ih
    · simp only [if_neg hn, pur_pure]
      exact ih
theorem pur_equalIn_int (d : Nat) (t : TypeId) (k k' : IntKind) (a b : Int) (h : P.underlying t = some (.int k')) : pur P (Op.equalIn (d + 1) t (.int k a) (.int k b)) = some (.ok (a == b)) := by
  simp only [Op.equalIn, pur_bind, pur_und h]
  simp [pur_pure]

variable {d : Option Tmp} {ty : TypeId} {ps : String} {af : Array Edge} {g : Option (Nat × Bool)} {f : TypeId} {t : TM} {h : AH}
def aBinQ (P : Program) (T : TT) (o : Oper) (t : TM) (h : AH) (op : BinOp) (e : TypeId) (x y : Operand) : AR := aBinR P T o t h op e x y
def eqM (h : AH) (r : AR) : AV → AV → AR
  | .agg [.lit (.int .i64 a), .lit (.int .i64 b)], .agg [.lit (.int .i64 c), .lit (.int .i64 e)] => some (.val (.lit (.bool ((a == c) && (b == e)))), h)
  | _, _ => r
def neM (h : AH) (r : AR) : AV → AV → AR
  | .agg [.lit (.int .i64 a), .lit (.int .i64 b)], .agg [.lit (.int .i64 c), .lit (.int .i64 e)] => some (.val (.lit (.bool (!((a == c) && (b == e))))), h)
  | _, _ => r
theorem eqM_eq {r : AR} {a b c e : Int} : eqM h r (.agg [.lit (.int .i64 a), .lit (.int .i64 b)]) (.agg [.lit (.int .i64 c), .lit (.int .i64 e)]) = some (.val (.lit (.bool ((a == c) && (b == e)))), h) := rfl
theorem neM_eq {r : AR} {a b c e : Int} : neM h r (.agg [.lit (.int .i64 a), .lit (.int .i64 b)]) (.agg [.lit (.int .i64 c), .lit (.int .i64 e)]) = some (.val (.lit (.bool (!((a == c) && (b == e))))), h) := rfl
end Go.Proofs.YtopeilhdddiapaaGreatDoor.Ex
end

section
/- Three numbers compared with three numbers. -/
set_option linter.unusedSimpArgs false
set_option linter.unusedVariables false
set_option maxRecDepth 10000
namespace Go.Proofs.YtopeilhdddiapaaGreatDoor.Ex
open Go

theorem pur_eq3 (a0 a1 a2 b0 b1 b2 : Int) : pur Tryz.prog (Op.equal 22 (.agg #[.int .i64 a0, .int .i64 a1, .int .i64 a2]) (.agg #[.int .i64 b0, .int .i64 b1, .int .i64 b2])) = some (.ok ((a0 == b0) && ((a1 == b1) && (a2 == b2)))) := by
  show pur Tryz.prog (Op.equalIn (9999 + 1) 22 (.agg #[.int .i64 a0, .int .i64 a1, .int .i64 a2]) (.agg #[.int .i64 b0, .int .i64 b1, .int .i64 b2])) = _
  have hu : Tryz.prog.underlying 22 = some (.array 3 3) := Tryz.underlying22
  have hs : pur Tryz.prog (sizeOf 3) = some (.ok 1) := by kernel_rfl
  have p0 : ∀ a0 a1 a2 : Int, pur Tryz.prog (part 3 #[.int .i64 a0, .int .i64 a1, .int .i64 a2] 0) = some (.ok (.int .i64 a0)) := fun a0 a1 a2 => by kernel_rfl
  have p1 : ∀ a0 a1 a2 : Int, pur Tryz.prog (part 3 #[.int .i64 a0, .int .i64 a1, .int .i64 a2] 1) = some (.ok (.int .i64 a1)) := fun a0 a1 a2 => by kernel_rfl
  have p2 : ∀ a0 a1 a2 : Int, pur Tryz.prog (part 3 #[.int .i64 a0, .int .i64 a1, .int .i64 a2] 2) = some (.ok (.int .i64 a2)) := fun a0 a1 a2 => by kernel_rfl
  have qi : ∀ x y : Int, pur Tryz.prog (Op.equalIn 9999 3 (.int .i64 x) (.int .i64 y)) = some (.ok (x == y)) := fun x y => pur_equalIn_int 9998 3 .i64 .i64 x y Tryz.underlying3
  have hr : List.range' 0 3 1 = [0, 1, 2] := rfl
  unfold Op.equalIn
  simp only [pur_bind, pur_und hu, hs, Std.Legacy.Range.forIn_eq_forIn_range', Std.Legacy.Range.size]
  rw [show (List.range' 0 ((3 - 0 + 1 - 1) / 1)) = [0, 1, 2] from rfl]
  simp only [List.forIn_cons, List.forIn_nil, pur_bind, Nat.zero_mul, Nat.one_mul, Nat.mul_one, p0, p1, p2, qi]
  cases h0 : (a0 == b0) <;> cases h1 : (a1 == b1) <;> cases h2 : (a2 == b2) <;> simp only [pur_bind, p0, p1, p2, qi, h0, h1, h2, pur_ite, pur_pure, Bool.not_true, Bool.not_false, Bool.false_eq_true, if_true, if_false, Bool.and_self, Bool.and_true, Bool.and_false, Bool.true_and, Bool.false_and]
section
variable {d : Option Tmp} {ty : TypeId} {ps : String} {af : Array Edge} {g : Option (Nat × Bool)} {f : TypeId} {t : TM} {h : AH}
theorem a_eq3 {i j : Nat} {a0 a1 a2 b0 b1 b2 : Int} (hi : t.get i = .agg [.lit (.int .i64 a0), .lit (.int .i64 a1), .lit (.int .i64 a2)]) (hj : t.get j = .agg [.lit (.int .i64 b0), .lit (.int .i64 b1), .lit (.int .i64 b2)]) :
    aBin Tryz.prog (tabOf Tryz.prog NT0) ⟨d, .binOp .eql 22 (.tmp i) (.tmp j) f, ty, ps, af, g⟩ t h .eql 22 (.tmp i) (.tmp j) = some (.val (.lit (.bool ((a0 == b0) && ((a1 == b1) && (a2 == b2))))), h) := by
  have e1 : evalA t (.tmp i) = some (.agg [.lit (.int .i64 a0), .lit (.int .i64 a1), .lit (.int .i64 a2)]) := by rw [ev_tmp, hi]
  have e2 : evalA t (.tmp j) = some (.agg [.lit (.int .i64 b0), .lit (.int .i64 b1), .lit (.int .i64 b2)]) := by rw [ev_tmp, hj]
  have l1 : litEnv t (.tmp i) = .agg #[.int .i64 a0, .int .i64 a1, .int .i64 a2] := by unfold litEnv; rw [e1]; rfl
  have l2 : litEnv t (.tmp j) = .agg #[.int .i64 b0, .int .i64 b1, .int .i64 b2] := by unfold litEnv; rw [e2]; rfl
  have hl : litOp Tryz.prog ⟨d, .binOp .eql 22 (.tmp i) (.tmp j) f, ty, ps, af, g⟩ t = some (.val (.lit (.bool ((a0 == b0) && ((a1 == b1) && (a2 == b2)))))) := by
    unfold litOp
    rw [if_pos (by
      show (notSelect _ && litAll t [.tmp i, .tmp j]) = true
      simp only [litAll, e1, e2]
      rfl)]
    have : pur Tryz.prog (execOp (litEnv t) ⟨d, .binOp .eql 22 (.tmp i) (.tmp j) f, ty, ps, af, g⟩) = some (.ok (.value (.bool ((a0 == b0) && ((a1 == b1) && (a2 == b2)))))) := by
      show pur Tryz.prog (do pure (Next.value (← (do eqGuard .eql 22 (.tmp i) (.tmp j) (litEnv t (.tmp i)) (litEnv t (.tmp j)); binOp .eql 22 (litEnv t (.tmp i)) (litEnv t (.tmp j)))))) = _
      rw [l1, l2]
      have hg : pur Tryz.prog (eqGuard .eql 22 (.tmp i) (.tmp j) (.agg #[.int .i64 a0, .int .i64 a1, .int .i64 a2]) (.agg #[.int .i64 b0, .int .i64 b1, .int .i64 b2])) = some (.ok ()) := by
        have hm : Tryz.prog.eqGuardType Tryz.prog.depth 22 = false := by kernel_rfl
        simp [eqGuard, pur_bind, pur_program, hm, pur_pure]
      have hb : pur Tryz.prog (binOp .eql 22 (.agg #[.int .i64 a0, .int .i64 a1, .int .i64 a2]) (.agg #[.int .i64 b0, .int .i64 b1, .int .i64 b2])) = some (.ok (.bool ((a0 == b0) && ((a1 == b1) && (a2 == b2))))) := by
        show pur Tryz.prog (do pure (Value.bool (← Op.equal 22 (.agg #[.int .i64 a0, .int .i64 a1, .int .i64 a2]) (.agg #[.int .i64 b0, .int .i64 b1, .int .i64 b2])))) = _
        simp only [pur_bind, pur_eq3, pur_pure]
      simp only [pur_bind, hg, hb, pur_pure]
    rw [this]
    rfl
  unfold aBin
  rw [e1, e2]
  show orLit _ _ _ _ _ = _
  unfold orLit
  rw [hl]
def eqM3 (h : AH) (r : AR) : AV → AV → AR
  | .agg [.lit (.int .i64 a0), .lit (.int .i64 a1), .lit (.int .i64 a2)], .agg [.lit (.int .i64 b0), .lit (.int .i64 b1), .lit (.int .i64 b2)] => some (.val (.lit (.bool ((a0 == b0) && ((a1 == b1) && (a2 == b2))))), h)
  | _, _ => r
theorem eqM3_eq {r : AR} {a0 a1 a2 b0 b1 b2 : Int} : eqM3 h r (.agg [.lit (.int .i64 a0), .lit (.int .i64 a1), .lit (.int .i64 a2)]) (.agg [.lit (.int .i64 b0), .lit (.int .i64 b1), .lit (.int .i64 b2)]) = some (.val (.lit (.bool ((a0 == b0) && ((a1 == b1) && (a2 == b2))))), h) := rfl
theorem a_eqM3 {i j : Nat} : aBinR Tryz.prog (tabOf Tryz.prog NT0) ⟨d, .binOp .eql 22 (.tmp i) (.tmp j) f, ty, ps, af, g⟩ t h .eql 22 (.tmp i) (.tmp j) = eqM3 h (aBinQ Tryz.prog (tabOf Tryz.prog NT0) ⟨d, .binOp .eql 22 (.tmp i) (.tmp j) f, ty, ps, af, g⟩ t h .eql 22 (.tmp i) (.tmp j)) (t.get i) (t.get j) := by
  unfold eqM3
  split
  · rename_i h1 h2
    exact a_eq3 h1 h2
  · rfl
end
end Go.Proofs.YtopeilhdddiapaaGreatDoor.Ex
end

section
/- The law ManifestIds in the machine. -/
set_option linter.unusedSimpArgs false
set_option linter.unusedVariables false
set_option maxRecDepth 10000
set_option maxHeartbeats 4000000
namespace Go.Proofs.YtopeilhdddiapaaGreatDoor.Ex
open Go

theorem idF_form {a b c : Int} (h : idF a b c ≠ []) : ∃ x y z : Nat, a = x ∧ b = y ∧ c = z ∧ x ≤ 2147483647 ∧ y ≤ 2147483647 ∧ z ≤ 2147483647 ∧ idF a b c = idB x y z := by
  unfold idF at h ⊢
  split at h
  · rename_i h0
    rw [if_pos h0]
    obtain ⟨x, rfl, hx⟩ := okI_nat h0.1
    obtain ⟨y, rfl, hy⟩ := okI_nat h0.2.1
    obtain ⟨z, rfl, hz⟩ := okI_nat h0.2.2
    exact ⟨x, y, z, rfl, rfl, rfl, hx, hy, hz, rfl⟩
  · exact absurd rfl h
theorem good_nil : goodIdF [] = false := by decide
theorem ids_m {H : AH} {a b c x y z k : Int} {e : TypeId} (hT : H.at 1 = some (.frz tabL e)) :
    WC Tryz.prog (tabOf Tryz.prog NT0) S0 4 [.agg [.lit (.int .i64 a), .lit (.int .i64 b), .lit (.int .i64 c)], .agg [.lit (.int .i64 x), .lit (.int .i64 y), .lit (.int .i64 z)], .lit (.int .i64 k)] H fun r h' => r = .lit (.bool true) := by
  refine WC_fn Tryz.func4 rfl rfl ?_
  have lT := at_lt hT
  obtain ⟨h0, hh0⟩ : ∃ h0, h0 = (H.push (.cells [.lit (.int .i64 a), .lit (.int .i64 b), .lit (.int .i64 c)] 22)).push (.cells [.lit (.int .i64 x), .lit (.int .i64 y), .lit (.int .i64 z)] 22) := ⟨_, rfl⟩
  have e0 : Ext H.n H h0 := hh0 ▸ ((Ext.refl _ _).push _ (Nat.le_refl _)).push _ (by rw [n_push]; omega)
  have X0 : h0.at H.n = some (.cells [.lit (.int .i64 a), .lit (.int .i64 b), .lit (.int .i64 c)] 22) := hh0 ▸ (at_push_lt _ (by rw [n_push]; omega)).trans (at_push_n _ _)
  have Y0 : h0.at (H.n + 1) = some (.cells [.lit (.int .i64 x), .lit (.int .i64 y), .lit (.int .i64 z)] 22) := by
    have : h0.at (H.push (.cells [.lit (.int .i64 a), .lit (.int .i64 b), .lit (.int .i64 c)] 22)).n = some (.cells [.lit (.int .i64 x), .lit (.int .i64 y), .lit (.int .i64 z)] 22) := hh0 ▸ at_push_n _ _
    rwa [n_push] at this
  have T0 : h0.at 1 = some (.frz tabL e) := (e0.2 _ lT).trans hT
  have LX0 := ld_at (T := tabOf Tryz.prog NT0) X0
  have lX0 := at_lt X0
  have LY0 := ld_at (T := tabOf Tryz.prog NT0) Y0
  have lY0 := at_lt Y0
  simp only [core, zrA, zrS, zrM, zrL, zrE, reduceCtorEq, zrD, ziE, ziL, ziN, Tryz.ntmps4, ← hh0]
  rw [WB_regionD [0, 1, 2, 3, 4, 5, 7, 8, 9, 10, 11, 12, 6, 13, 14, 15] 57894719459769162069146519729585262486985481363297849684705365789180545794048 (by kernel_rfl)]
  repeat ((with_reducible refine WDM_cons ?_; simp only [dw1]; try simp only [dw2, zrA, zrM, zrR, zrO, zrE]); simp only [core, zrA, zrS, zrM, zrL, zrE, reduceCtorEq, zrD, ziE, ziL, ziN, cored, LX0, lX0, LY0, lY0])
  refine (id_x T0).mono ?_
  rintro _ h1 ⟨E1, rfl⟩
  have Y1 := (E1.2 _ lY0).trans Y0
  have X1 := (E1.2 _ lX0).trans X0
  have T1 : h1.at 1 = some (.frz tabL e) := (E1.2 _ (at_lt T0)).trans T0
  have LY1 := ld_at (T := tabOf Tryz.prog NT0) Y1
  have lY1 := at_lt Y1
  repeat ((with_reducible refine WDM_cons ?_; simp only [dw1]; try simp only [dw2, zrA, zrM, zrR, zrO, zrE]); simp only [core, zrA, zrS, zrM, zrL, zrE, reduceCtorEq, zrD, ziE, ziL, ziN, cored, LY1, lY1])
  refine (id_x T1).mono ?_
  rintro _ h2 ⟨E2, rfl⟩
  have Y2 := (E2.2 _ lY1).trans Y1
  have X2 := (E2.2 _ (at_lt X1)).trans X1
  have T2 : h2.at 1 = some (.frz tabL e) := (E2.2 _ (at_lt T1)).trans T1
  have LY2 := ld_at (T := tabOf Tryz.prog NT0) Y2
  have lY2 := at_lt Y2
  have LX2 := ld_at (T := tabOf Tryz.prog NT0) X2
  have lX2 := at_lt X2
  obtain ⟨D, hD⟩ : ∃ D, D = idF a b c := ⟨_, rfl⟩
  obtain ⟨F, hF⟩ : ∃ F, F = idF x y z := ⟨_, rfl⟩
  have hDl : D.length ≤ 100 := hD ▸ idF_len a b c
  have hFl : F.length ≤ 100 := hF ▸ idF_len x y z
  rw [← hD, ← hF]
  have q6 : ∀ (D : List UInt8) (P : Program) (e : TypeId), pur P (binOp .eql e (Value.string ⟨D.toArray⟩) (Value.string ⟨#[]⟩)) = some (.ok (.bool (D == []))) := fun D P e => pur_seq (b := [])
  have bb : ∀ b : Bool, (b == b) = true := fun b => by cases b <;> rfl
  cases d1 : (D == ([] : List UInt8)) with
  | true =>
    repeat (first | ((with_reducible refine WDM_cons ?_; simp only [dw1]; try simp only [dw2, zrA, zrM, zrR, zrO, zrE]); simp only [core, zrA, zrS, zrM, zrL, zrE, reduceCtorEq, zrD, ziE, ziL, ziN, cored, LX2, lX2, LY2, lY2, q6, d1, aundef]) | simp only [core, zrA, zrS, zrM, zrL, zrE, reduceCtorEq, zrD, ziE, ziL, ziN, cored, LX2, lX2, LY2, lY2, q6, d1, aundef])
    refine (goodId_x (l := []) (by simp)).mono ?_
    rintro _ h3 ⟨E3, rfl⟩
    rw [good_nil]
    simp only [core, zrA, zrS, zrM, zrL, zrE, reduceCtorEq, zrD, ziE, ziL, ziN]
    refine lives25_c ?_
    simp only [core, zrA, zrS, zrM, zrL, zrE, reduceCtorEq, zrD, ziE, ziL, ziN]
    try simp
  | false =>
  cases d2 : (F == ([] : List UInt8)) with
  | true =>
    repeat (first | ((with_reducible refine WDM_cons ?_; simp only [dw1]; try simp only [dw2, zrA, zrM, zrR, zrO, zrE]); simp only [core, zrA, zrS, zrM, zrL, zrE, reduceCtorEq, zrD, ziE, ziL, ziN, cored, LX2, lX2, LY2, lY2, q6, d1, d2, aundef]) | simp only [core, zrA, zrS, zrM, zrL, zrE, reduceCtorEq, zrD, ziE, ziL, ziN, cored, LX2, lX2, LY2, lY2, q6, d1, d2, aundef])
    refine (goodId_x (l := []) (by simp)).mono ?_
    rintro _ h3 ⟨E3, rfl⟩
    rw [good_nil]
    simp only [core, zrA, zrS, zrM, zrL, zrE, reduceCtorEq, zrD, ziE, ziL, ziN]
    refine lives25_c ?_
    simp only [core, zrA, zrS, zrM, zrL, zrE, reduceCtorEq, zrD, ziE, ziL, ziN]
    try simp
  | false =>
  have hDne : D ≠ [] := by simpa using d1
  have hFne : F ≠ [] := by simpa using d2
  obtain ⟨a', b', c', rfl, rfl, rfl, la, lb, lc, hDf⟩ := idF_form (hD ▸ hDne)
  obtain ⟨x', y', z', rfl, rfl, rfl, lx, ly, lz, hFf⟩ := idF_form (hF ▸ hFne)
  rw [hDf] at hD
  rw [hFf] at hF
  have hDg : goodIdF D = true := by rw [hD]; exact good_id la lb lc
  have hFg : goodIdF F = true := by rw [hF]; exact good_id lx ly lz
  have hD47 : (47 : UInt8) ∉ D := by rw [hD]; exact id_no
  have hF47 : (47 : UInt8) ∉ F := by rw [hF]; exact id_no
  have hEq : (D == F) = (((a' : Int) == (x' : Int)) && (((b' : Int) == (y' : Int)) && ((c' : Int) == (z' : Int)))) := by
    rw [Bool.eq_iff_iff]
    simp only [beq_iff_eq, Bool.and_eq_true]
    constructor
    · intro h
      rw [hD, hF] at h
      obtain ⟨h1, h2, h3⟩ := id_inj h
      exact ⟨by omega, by omega, by omega⟩
    · rintro ⟨h1, h2, h3⟩
      obtain rfl : a' = x' := by omega
      obtain rfl : b' = y' := by omega
      obtain rfl : c' = z' := by omega
      rw [hD, hF]
  have hqq : ((D == F) == (((a' : Int) == (x' : Int)) && (((b' : Int) == (y' : Int)) && ((c' : Int) == (z' : Int))))) = true := by rw [← hEq]; simp
  have hMN : (D ++ [47, 109] == F ++ [47, 109]) = (D == F) := by
    rw [Bool.eq_iff_iff]
    simp only [beq_iff_eq]
    exact ⟨fun h => List.append_cancel_right h, fun h => by rw [h]⟩
  have hnn : ((D == F) == (D == F)) = true := by simp
  have hidD : idOfF (D ++ [47, 109]) = some D := by
    have := idOf_app (p := D) (r := [109]) hD47
    rw [if_pos ⟨hDg, .inl rfl⟩] at this
    exact this
  have r1 : ∀ (P : Program) (e : TypeId), pur P (binOp .eql e (Value.string ⟨D.toArray⟩) (Value.string ⟨F.toArray⟩)) = some (.ok (.bool (D == F))) := fun P e => pur_seq
  have r2 : ∀ (P : Program) (e : TypeId), pur P (binOp .eql e (Value.string ⟨(D ++ [47, 109]).toArray⟩) (Value.string ⟨(F ++ [47, 109]).toArray⟩)) = some (.ok (.bool (D == F))) := fun P e => by rw [pur_seq, hMN]
  repeat (first | ((with_reducible refine WDM_cons ?_; simp only [dw1]; try simp only [dw2, zrA, zrM, zrR, zrO, zrE]); simp only [core, zrA, zrS, zrM, zrL, zrE, reduceCtorEq, zrD, ziE, ziL, ziN, cored, LX2, lX2, LY2, lY2, q6, d1, d2, aundef]) | simp only [core, zrA, zrS, zrM, zrL, zrE, reduceCtorEq, zrD, ziE, ziL, ziN, cored, LX2, lX2, LY2, lY2, q6, d1, d2, aundef])
  try simp only [core, zrA, zrS, zrM, zrL, zrE, reduceCtorEq, zrD, ziE, ziL, ziN, LX2, lX2, LY2, lY2, q6, d1, d2, aundef, r1, a_eqM3, eqM3_eq, hqq]
  refine (goodId_x (l := D) (by omega)).mono ?_
  rintro _ h3 ⟨E3, rfl⟩
  rw [hDg]
  simp only [core, zrA, zrS, zrM, zrL, zrE, reduceCtorEq, zrD, ziE, ziL, ziN]
  refine (mname_x (l := D) (by omega)).mono ?_
  rintro _ _ ⟨rfl, q5⟩
  replace q5 := q5.symm
  subst q5
  simp only [core, zrA, zrS, zrM, zrL, zrE, reduceCtorEq, zrD, ziE, ziL, ziN]
  refine (idOf_x (l := D ++ [47, 109]) (by simp; omega)).mono ?_
  rintro _ h4 ⟨E4, rfl⟩
  rw [hidD]
  unfold idV
  simp only [core, zrA, zrS, zrM, zrL, zrE, reduceCtorEq, zrD, ziE, ziL, ziN, pur_sne1]
  refine (mname_x (l := D) (by omega)).mono ?_
  rintro _ _ ⟨rfl, q5⟩
  replace q5 := q5.symm
  subst q5
  simp only [core, zrA, zrS, zrM, zrL, zrE, reduceCtorEq, zrD, ziE, ziL, ziN]
  refine (mname_x (l := F) (by omega)).mono ?_
  rintro _ _ ⟨rfl, q5⟩
  replace q5 := q5.symm
  subst q5
  have T4 : h4.at 1 = some (.frz tabL e) := (E4.2 _ (Nat.lt_of_lt_of_le (at_lt T2) E3.1)).trans ((E3.2 _ (at_lt T2)).trans T2)
  cases f1 : decide (k < 0) with
  | true =>
    simp only [core, zrA, zrS, zrM, zrL, zrE, reduceCtorEq, zrD, ziE, ziL, ziN, r1, r2, hnn, f1, aundef]
    refine lives25_c ?_
    simp only [core, zrA, zrS, zrM, zrL, zrE, reduceCtorEq, zrD, ziE, ziL, ziN]
    try simp
  | false =>
  cases f2 : decide (2147483647 < k) with
  | true =>
    simp only [core, zrA, zrS, zrM, zrL, zrE, reduceCtorEq, zrD, ziE, ziL, ziN, r1, r2, hnn, f1, f2, aundef]
    refine lives25_c ?_
    simp only [core, zrA, zrS, zrM, zrL, zrE, reduceCtorEq, zrD, ziE, ziL, ziN]
    try simp
  | false =>
  have k1 := of_decide_eq_false f1
  have k2 := of_decide_eq_false f2
  obtain ⟨n, rfl⟩ := Int.eq_ofNat_of_zero_le (show 0 ≤ k by omega)
  simp only [core, zrA, zrS, zrM, zrL, zrE, reduceCtorEq, zrD, ziE, ziL, ziN, r1, r2, hnn, f1, f2, aundef]
  refine (pname_x (l := F) (n := n) T4 (by omega) (by omega)).mono ?_
  rintro _ _ ⟨rfl, q5⟩
  replace q5 := q5.symm
  subst q5
  have hdl := dig_len (n := n) (by omega)
  have hidF : idOfF (F ++ 47 :: Lib.decDigits n) = some F := by
    rw [idOf_app hF47, if_pos ⟨hFg, .inr (natB_dec (by omega))⟩]
  simp only [core, zrA, zrS, zrM, zrL, zrE, reduceCtorEq, zrD, ziE, ziL, ziN]
  refine (idOf_x (l := F ++ 47 :: Lib.decDigits n) (by simp; omega)).mono ?_
  rintro _ h5 ⟨E5, rfl⟩
  rw [hidF]
  unfold idV
  have T5 : h5.at 1 = some (.frz tabL e) := (E5.2 _ (at_lt T4)).trans T4
  simp only [core, zrA, zrS, zrM, zrL, zrE, reduceCtorEq, zrD, ziE, ziL, ziN, pur_seq1]
  refine (pname_x (l := F) (n := n) T5 (by omega) (by omega)).mono ?_
  rintro _ _ ⟨rfl, q5⟩
  replace q5 := q5.symm
  subst q5
  simp only [core, zrA, zrS, zrM, zrL, zrE, reduceCtorEq, zrD, ziE, ziL, ziN]
  refine (mname_x (l := F) (by omega)).mono ?_
  rintro _ _ ⟨rfl, q5⟩
  replace q5 := q5.symm
  subst q5
  have hne : (F ++ 47 :: Lib.decDigits n == F ++ [47, 109]) = false := by
    refine beq_eq_false_iff_ne.2 fun hh => ?_
    have h1 := List.append_cancel_left hh
    injection h1 with _ h2
    exact dec_no (u := n) (c := 109) (by decide) (by rw [h2]; simp)
  have r3 : ∀ (P : Program) (e : TypeId), pur P (binOp .neq e (Value.string ⟨(F ++ 47 :: Lib.decDigits n).toArray⟩) (Value.string ⟨(F ++ [47, 109]).toArray⟩)) = some (.ok (.bool true)) := fun P e => by rw [pur_sne, hne]; rfl
  simp only [core, zrA, zrS, zrM, zrL, zrE, reduceCtorEq, zrD, ziE, ziL, ziN, r3]
  refine lives25_c ?_
  simp only [core, zrA, zrS, zrM, zrL, zrE, reduceCtorEq, zrD, ziE, ziL, ziN]
  try simp
end Go.Proofs.YtopeilhdddiapaaGreatDoor.Ex
end

section
/- The real heap, as the abstract machine sees it: windows of rows that may be read. -/
set_option linter.unusedSimpArgs false
set_option linter.unusedVariables false
namespace Go.Proofs.YtopeilhdddiapaaGreatDoor.Ex
open Go

/-- A row of cells. -/
def rowO (w : World) (r : Nat) : Option (List Value × TypeId) := match w.heap[r]? with
  | some (.cells cur e _) => some (cur.toList, e)
  | _ => none

theorem rowO_inv {w : World} {r : Nat} {l : List Value} {e : TypeId} (h : rowO w r = some (l, e)) : ∃ cur fz, w.heap[r]? = some (.cells cur e fz) ∧ l = cur.toList := by
  unfold rowO at h
  split at h
  · rename_i cur e' fz hh
    simp only [Option.some.injEq, Prod.mk.injEq] at h
    obtain ⟨rfl, rfl⟩ := h
    exact ⟨cur, fz, hh, rfl⟩
  · cases h

def winsAt (w : World) (r : Nat) : List (Nat × Nat) := match rowO w r with
  | some (l, _) => (List.range (l.length + 1)).map fun off => (r, off)
  | none => []
/-- All windows: a row from a place on (ahead of all: the row of the library's table). -/
def wins (w : World) : List (Nat × Nat) := winsAt w 3 ++ (List.range w.heap.size).flatMap (winsAt w)
theorem mem_winsAt {w : World} {r off r' : Nat} (h : (r, off) ∈ winsAt w r') : ∃ l e, rowO w r = some (l, e) ∧ off ≤ l.length := by
  unfold winsAt at h
  split at h
  · rename_i l e hl
    obtain ⟨off', h1, h2⟩ := List.mem_map.1 h
    simp only [Prod.mk.injEq] at h2
    obtain ⟨rfl, rfl⟩ := h2
    rw [List.mem_range] at h1
    exact ⟨l, e, hl, by omega⟩
  · cases h

theorem mem_wins {w : World} {r off : Nat} : (r, off) ∈ wins w ↔ ∃ l e, rowO w r = some (l, e) ∧ off ≤ l.length := by
  unfold wins
  rw [List.mem_append, List.mem_flatMap]
  constructor
  · rintro (h | ⟨r', _, h⟩) <;> exact mem_winsAt h
  · rintro ⟨l, e, hl, ho⟩
    refine .inr ⟨r, ?_, ?_⟩
    · obtain ⟨cur, fz, hh, _⟩ := rowO_inv hl
      rw [List.mem_range]
      exact (Array.getElem?_eq_some_iff.1 hh).1
    · unfold winsAt
      rw [hl]
      exact List.mem_map.2 ⟨off, by rw [List.mem_range]; omega, rfl⟩

/-- A window's number. -/
def widx (w : World) (p : Nat × Nat) : Nat := (wins w).idxOf p + 1
def mu0 (w : World) : Mu := fun b => match b with
  | 0 => none
  | k + 1 => (wins w)[k]?

theorem mu0_widx {w : World} {p : Nat × Nat} (h : p ∈ wins w) : mu0 w (widx w p) = some p := by
  show (wins w)[(wins w).idxOf p]? = some p
  have hlt := List.idxOf_lt_length_of_mem h
  rw [List.getElem?_eq_getElem hlt, List.getElem_idxOf hlt]

instance (w : World) (p : Nat × Nat) : Decidable (p ∈ wins w) := inferInstance

def absV (w : World) : Value → AV
  | .pointer (some ⟨r, o, none⟩) => if (r, o) ∈ wins w then .ptr (widx w (r, o)) 0 else .any
  | .slice (some a) len cap => if len = 0 ∧ cap = 0 then .sl 0 0 0 (.kn 0) else match a with
    | ⟨r, o, none⟩ => if (r, o) ∈ wins w ∧ len ≤ cap ∧ cap ≤ maxLen then .sl (widx w (r, o)) 0 len (.kn cap) else .any
    | _ => .any
  | v => bif scal v then .lit v else .any

theorem absV_one (w : World) (v : Value) : (absV w v).one = true := by
  unfold absV
  split
  · split <;> rfl
  · split
    · rfl
    · split
      · split <;> rfl
      · rfl
  · cases scal v <;> rfl

theorem absV_rel {ρ : Nat → Value} {w : World} {v : Value} (hv : v.oneCell' = true) : rel ρ (mu0 w) w (absV w v) v := by
  unfold absV
  split
  · rename_i r o
    split
    · rename_i hm
      unfold rel
      exact ⟨r, o, mu0_widx hm, rfl⟩
    · unfold rel; exact hv
  · rename_i a len cap
    split
    · rename_i h0
      obtain ⟨rfl, rfl⟩ := h0
      unfold rel
      exact .inr ⟨rfl, rfl, a, rfl⟩
    · split
      · rename_i r o
        split
        · rename_i hm
          unfold rel
          exact .inl ⟨r, o, o, cap, mu0_widx hm.1, rfl, .inr rfl, rfl, hm.2.1, hm.2.2⟩
        · unfold rel; exact hv
      · unfold rel; exact hv
  · cases hs : scal v with
    | false => simp only [cond_false]; unfold rel; exact hv
    | true => simp only [cond_true]; exact rel_lit hs

/-- A window's cells, as far as they are cells. -/
def absB (w : World) (p : Nat × Nat) : AB := match rowO w p.1 with
  | some (l, e) => .frz (((l.drop p.2).takeWhile (·.oneCell')).map (absV w)) e
  | none => .gone

def AH.ofList (l : List AB) : AH := l.foldl AH.push .nil

theorem L_foldl : ∀ (l : List AB) (h : AH), (l.foldl AH.push h).L = h.L ++ l
  | [], h => by simp
  | x :: r, h => by rw [List.foldl_cons, L_foldl r, L_push, List.append_assoc]; rfl

theorem L_ofList (l : List AB) : (AH.ofList l).L = l := by
  unfold AH.ofList
  rw [L_foldl]
  rfl

/-- The abstract heap of a world; block 0 is an empty row. -/
def absH (w : World) : AH := AH.ofList (.frz [] 0 :: (wins w).map (absB w))

theorem absH_L (w : World) : (absH w).L = .frz [] 0 :: (wins w).map (absB w) := L_ofList _
theorem absH_0 (w : World) : (absH w).at 0 = some (.frz [] 0) := by rw [← L_at, absH_L]; rfl
theorem absH_at {w : World} {p : Nat × Nat} (h : p ∈ wins w) : (absH w).at (widx w p) = some (absB w p) := by
  rw [← L_at, absH_L]
  have : (wins w)[(wins w).idxOf p]? = some p := mu0_widx h
  show ((wins w).map (absB w))[(wins w).idxOf p]? = _
  rw [List.getElem?_map, this]
  rfl

theorem absH_wr {w : World} {b : Nat} {ab : AB} (h : (absH w).L[b]? = some ab) : wr ab = false := by
  rw [absH_L] at h
  cases b with
  | zero => simp at h; subst h; rfl
  | succ k =>
    rw [List.getElem?_cons_succ, List.getElem?_map] at h
    obtain ⟨p, _, rfl⟩ := Option.map_eq_some_iff.1 h
    unfold absB
    split <;> rfl

theorem absH_nw (w : World) (b : Nat) (ab : AB) (h : (absH w).at b = some ab) : wr ab = false := absH_wr (by rw [L_at]; exact h)

theorem takeWhile_get {α : Type} {p : α → Bool} : ∀ {l : List α} {i : Nat} {x : α}, (l.takeWhile p)[i]? = some x → l[i]? = some x ∧ p x = true
  | [], i, x, h => by simp at h
  | a :: r, i, x, h => by
    rw [List.takeWhile_cons] at h
    cases ha : p a with
    | false => rw [ha] at h; simp at h
    | true =>
      rw [ha] at h
      cases i with
      | zero => simp at h; subst h; exact ⟨rfl, ha⟩
      | succ i => simp only [if_true, List.getElem?_cons_succ] at h ⊢; exact takeWhile_get h

theorem takeWhile_take {α : Type} {p : α → Bool} : ∀ {l : List α} {n : Nat}, (∀ x ∈ l.take n, p x = true) → (l.takeWhile p).take n = l.take n
  | [], n, _ => by simp
  | a :: r, 0, _ => by simp
  | a :: r, n + 1, h => by
    rw [List.takeWhile_cons, if_pos (h a (by simp)), List.take_succ_cons, List.take_succ_cons, takeWhile_take fun x hx => h x (by simp [hx])]

theorem absH_hr {P : Program} {ρ : Nat → Value} (w : World) (hpin : PinOf ρ (mu0 w) w := by intro r h; cases h) : HR P ρ w.heap.size (mu0 w) (absH w) w := by
  refine ⟨Nat.le_refl _, fun b x hb => ?_, fun b r base ab hb hx => ?_, fun b b' r base base' ab ab' h1 h2 h3 h4 h5 h6 => ?_, hpin⟩
  · rw [absH_L]
    cases b with
    | zero => cases hb
    | succ k =>
      have : k < (wins w).length := (List.getElem?_eq_some_iff.1 (show (wins w)[k]? = some x from hb)).1
      simp only [List.length_cons, List.length_map]
      omega
  · cases b with
    | zero => cases hb
    | succ k =>
      have hk : (wins w)[k]? = some (r, base) := hb
      rw [absH_L, List.getElem?_cons_succ, List.getElem?_map, hk] at hx
      simp only [Option.map_some, Option.some.injEq] at hx
      obtain ⟨l, e, hl, ho⟩ := mem_wins.1 (List.mem_of_getElem? hk)
      obtain ⟨cur, fz, hh, rfl⟩ := rowO_inv hl
      unfold absB at hx
      rw [hl] at hx
      simp only at hx
      subst hx
      refine ⟨fun hw => (by cases hw), (Array.getElem?_eq_some_iff.1 hh).1, _, hh, cur, fz, rfl, ?_, fun i x hi => ?_⟩
      · have h1 := (List.takeWhile_prefix (l := cur.toList.drop base) (·.oneCell')).length_le
        rw [List.length_drop] at h1
        have e0 : cur.toList.length = cur.size := Array.length_toList
        rw [e0] at h1 ho
        rw [List.length_map]
        exact Nat.le_trans (Nat.add_le_add_left h1 base) (by omega)
      · rw [List.getElem?_map] at hi
        obtain ⟨v, hv, rfl⟩ := Option.map_eq_some_iff.1 hi
        obtain ⟨h1, h2⟩ := takeWhile_get hv
        rw [List.getElem?_drop, Array.getElem?_toList] at h1
        exact ⟨v, h1, absV_rel h2⟩
  · have := absH_wr h3
    rw [this] at h5
    cases h5

end Go.Proofs.YtopeilhdddiapaaGreatDoor.Ex
end

section
/- Opening a law's arguments; the frame of a law's proof. -/
set_option linter.unusedSimpArgs false
set_option linter.unusedVariables false
namespace Go.Proofs.YtopeilhdddiapaaGreatDoor
open Go.RowKit Go.ChangeShapes Go.WideShapes Go.ChangeAt
open Go.ChangeMaps (open_string shut_string)

theorem own : ownKnob Tryz.prog.godebug = none := by kernel_rfl
theorem laidOut : laidOutB Tryz.prog = true := by kernel_rfl

section
variable {H : Type} {enc : TypeId × Value → H} {P : Program} {W W' : World}

theorem below_trodAll (hl : laidOutB P = true) (hb : Below W.heap.size W W') : ∀ {ts : List TypeId} {vs : List Value} {ds : List (DataW H)} {ps : List MemPlace},
    ts.all (fun t => P.readableRec t && decide (t < P.types.size)) = true → DataW.TrodAll enc P W 0 (fun _ => true) true ts vs ds ps → DataW.TrodAll enc P W' 0 (fun b => decide (b < W.heap.size)) true ts vs ds ps
  | [], _, _, _, _, h => by obtain ⟨rfl, rfl, rfl⟩ := trodAll_nil h; exact trodAll_mk0
  | t :: ts, vs, ds, ps, hr, h => by
    obtain ⟨v, vs', d, ds', p, q, rfl, rfl, rfl, h1, h2⟩ := trodAll_cons h
    simp only [List.all_cons, Bool.and_eq_true, decide_eq_true_eq] at hr
    refine trodAll_cons_mk (Below.trod hl hr.1.1 hr.1.2 h1 hb ?_) (below_trodAll hl hb (by simpa using hr.2) h2)
    obtain ⟨m, hm⟩ := h1
    exact DataW.trod_lt m _ _ _ hm

/-- A slice of bytes, out of a reading. -/
theorem bytes_of_trod {base fuel : Nat} {t e : TypeId} {cs : List Value} {x : DataW H × List MemPlace} (ht : P.underlying t = some (.slice e)) (he : P.underlying e = some (.int .u8)) (hc : P.cellsOf e = 1) (hb : P.bytesOf e = 1)
    (hf : DataW.trod enc P W base (fun _ => true) true fuel t cs = some x) (hw : ∀ n ∈ x.1.weights P t, n ≤ reachBytes) :
    ∃ (v : Value) (bs : List UInt8) (g : Option Nat), cs = [v] ∧ Reads W 1 v bs.length (bs.map bv) g ∧ (∀ k, g = some k → bs ≠ [] → k < W.heap.size) ∧ bs.length ≤ 140737488351232 := by
  rcases open_ints ht he hc hf with ⟨hcs, hx⟩ | ⟨y, len0, cap0, zs, hcs, _, hl, hm, hz, hx, hcell, hwz⟩
  · exact ⟨_, [], none, hcs, ⟨by simp, .inl ⟨_, 0, rfl, rfl⟩⟩, (fun k e => by cases e), by simp⟩
  · simp only [if_true] at hz
    have hs : (len0 + (cap0 - len0)) * 1 ≤ reachBytes := by
      refine hw _ ?_
      rw [hx]
      simp only [DataW.weights, ht, List.mem_cons]
      left
      rw [hb]
      simp only [lits, List.length_map, List.length_take, List.length_drop]
      omega
    simp only [reachBytes] at hs
    obtain ⟨b, off, spot⟩ := y
    have hlen : ((zs.take len0).map fun n => UInt8.ofNat n.toNat).length = len0 := by rw [List.length_map, List.length_take]; omega
    by_cases h0 : len0 = 0
    · subst h0
      exact ⟨_, [], none, hcs, ⟨by simp, .inl ⟨_, _, rfl, rfl⟩⟩, (fun k e => by cases e), by simp⟩
    · have hsp : spot = none := by
        have := hcell 0 (by omega)
        simpa [Addr.add] using World.cell?_spot this
      subst hsp
      refine ⟨_, (zs.take len0).map fun n => UInt8.ofNat n.toNat, some b, hcs, ⟨by rw [List.length_map, Nat.mul_one], .inr ⟨b, off, cap0, rfl, by rw [hlen], by rw [hlen]; exact hl, hm, fun j hj => ?_⟩⟩, ?_, by rw [hlen]; omega⟩
      · rw [List.length_map, hlen] at hj
        have h1 := hcell j (by omega)
        rw [addr_add] at h1
        have hzj : zs.getD j 0 ∈ zs := by
          rw [List.getD_eq_getElem?_getD, List.getElem?_eq_getElem (by omega)]
          exact List.getElem_mem _
        have hw := hwz _ hzj
        simp only [Lit.wf, IntKind.min, IntKind.max, IntKind.signed, IntKind.bits] at hw
        simp at hw
        rw [h1, List.getElem?_map, List.getElem?_map, List.getElem?_take, if_pos hj, List.getElem?_eq_getElem (by omega)]
        simp only [Option.map_some, bv]
        rw [List.getD_eq_getElem?_getD]
        rw [List.getElem?_eq_getElem (by omega)] at hw ⊢
        simp only [Option.getD_some] at hw ⊢
        congr 2
        rw [UInt8.toNat_ofNat']
        omega
      · rintro k ⟨⟩ _
        exact World.block_lt_of_cell? _ _ (hcell 0 (by omega))

theorem weights_le {ts : List TypeId} {ds : List (DataW H)} (hsz : (DataW.weightsEach P ts ds).all (· ≤ reachBytes) = true) {j : Nat} {t : TypeId} {d : DataW H} (hj : ts[j]? = some t) (hd : ds[j]? = some d) : ∀ n ∈ d.weights P t, n ≤ reachBytes := fun n hn => by
  have := List.all_eq_true.1 hsz n (DataW.weights_mem_each hj hd n hn)
  simpa using this

/-- A slice of bytes that came in. -/
theorem open_bytes {r : Reach} {b0 : Nat} {t e : TypeId} {v : Value} {d : DataW H} {p : List MemPlace} (ht : P.underlying t = some (.slice e)) (he : P.underlying e = some (.int .u8)) (hc : P.cellsOf e = 1) (hb : P.bytesOf e = 1)
    (hv : Value.okWide P W r b0 t v) (h : DataW.Trod enc P W 0 (fun _ => true) true t v d p) {ts : List TypeId} {ds : List (DataW H)} (hsz : (DataW.weightsEach P ts ds).all (· ≤ reachBytes) = true) {j : Nat} (hj : ts[j]? = some t) (hd : ds[j]? = some d) :
    ∃ (bs : List UInt8) (g : Option Nat), Reads W 1 v bs.length (bs.map bv) g ∧ (∀ k, g = some k → bs ≠ [] → k < W.heap.size) ∧ bs.length ≤ 140737488351232 := by
  obtain ⟨a0, len0, cap0, rfl⟩ := okWide_slice ht hv
  obtain ⟨fuel, hf⟩ := h
  obtain ⟨v, bs, g, hcs, h1, h2, h3⟩ := bytes_of_trod ht he hc hb hf (weights_le hsz hj hd)
  simp [Value.cells] at hcs
  subst hcs
  exact ⟨bs, g, h1, h2, h3⟩

/-- A slice of slices of bytes: element i lies in cell i of a row. -/
structure Bytess (W : World) (v : Value) (n : Nat) (L : List (List UInt8)) : Prop where
  len : L.length = n
  shape : ∃ a c, v = .slice a n c ∧ n ≤ c
  small : n ≤ 140737488351232
  elem : ∀ i, i < n → ∃ b off c x g, v = .slice (some ⟨b, off, none⟩) n c ∧ b < W.heap.size ∧ W.cell? ⟨b, off + i, none⟩ = some x ∧ Reads W 1 x (L.getD i []).length ((L.getD i []).map bv) g ∧ (∀ k, g = some k → L.getD i [] ≠ [] → k < W.heap.size) ∧ (L.getD i []).length ≤ 140737488351232

theorem weightsAll_mem {e : TypeId} : ∀ {l : List (DataW H)} {i : Nat} {d : DataW H}, l[i]? = some d → ∀ n ∈ d.weights P e, n ∈ DataW.weightsAll P e l
  | d0 :: l, 0, d, h, n, hn => by simp at h; subst h; simp [DataW.weightsAll, hn]
  | d0 :: l, i + 1, d, h, n, hn => by
    simp only [List.getElem?_cons_succ] at h
    simp only [DataW.weightsAll, List.mem_append]
    exact .inr (weightsAll_mem h n hn)

theorem open_bytess {r : Reach} {b0 : Nat} {t s e : TypeId} {v : Value} {d : DataW H} {p : List MemPlace} (ht : P.underlying t = some (.slice s)) (hs : P.underlying s = some (.slice e)) (he : P.underlying e = some (.int .u8)) (hcs : P.cellsOf s = 1) (hbs : P.bytesOf s = 24) (hc : P.cellsOf e = 1) (hb : P.bytesOf e = 1)
    (hv : Value.okWide P W r b0 t v) (h : DataW.Trod enc P W 0 (fun _ => true) true t v d p) {ts : List TypeId} {ds : List (DataW H)} (hsz : (DataW.weightsEach P ts ds).all (· ≤ reachBytes) = true) {j : Nat} (hj : ts[j]? = some t) (hd : ds[j]? = some d) :
    ∃ n L, Bytess W v n L := by
  obtain ⟨a0, len0, cap0, rfl⟩ := okWide_slice ht hv
  obtain ⟨fuel, hf⟩ := h
  have hwt := weights_le hsz hj hd
  rcases DataW.trod_slice ht hf with ⟨h0, hx⟩ | ⟨a, len, cap, elems, rest, m, rfl, h0, hx, hba, hl, hm, hlen, hel, hsp, hns⟩
  · simp [Value.cells] at h0
    obtain ⟨rfl, rfl, rfl⟩ := h0
    exact ⟨0, [], rfl, ⟨_, _, rfl, Nat.le_refl _⟩, by omega, fun i hi => by omega⟩
  · simp [Value.cells] at h0
    obtain ⟨rfl, rfl, rfl⟩ := h0
    obtain ⟨rfl, rfl⟩ := Prod.mk.inj hx
    have hbig : (elems.length + rest.length) * 24 ≤ reachBytes := by
      refine hwt _ ?_
      simp [DataW.weights, ht, hbs]
    simp only [reachBytes] at hbig
    rw [hcs] at hel
    simp only [Nat.mul_one] at hel
    have key : ∀ i, i < len0 → ∃ (bs : List UInt8) (x : Value) (g : Option Nat), W.cell? (a.add i) = some x ∧ Reads W 1 x bs.length (bs.map bv) g ∧ (∀ k, g = some k → bs ≠ [] → k < W.heap.size) ∧ bs.length ≤ 140737488351232 := by
      intro i hi
      have h1 := hel i hi
      obtain ⟨y, hy⟩ : ∃ y, elems[i]? = some y := ⟨_, List.getElem?_eq_getElem (by omega)⟩
      rw [hy] at h1
      obtain ⟨l, hl1, hl2⟩ := Option.bind_eq_some_iff.1 h1
      obtain ⟨x, bs, g, e1, h3, h4, h5⟩ := bytes_of_trod hs he hc hb hl2 (fun n hn => hwt n (by
        simp only [DataW.weights, ht, List.mem_cons, List.mem_append]
        exact .inr (.inl (weightsAll_mem (i := i) (by rw [List.getElem?_map, hy]; rfl) n hn))))
      subst e1
      have hcell : W.cell? (a.add i) = some x := cell_of_cells?_one hl1
      exact ⟨bs, x, g, hcell, h3, h4, h5⟩
    have key' : ∀ i, ∃ bs : List UInt8, i < len0 → ∃ (x : Value) (g : Option Nat), W.cell? (a.add i) = some x ∧ Reads W 1 x bs.length (bs.map bv) g ∧ (∀ k, g = some k → bs ≠ [] → k < W.heap.size) ∧ bs.length ≤ 140737488351232 := by
      intro i
      by_cases hi : i < len0
      · obtain ⟨bs, h⟩ := key i hi
        exact ⟨bs, fun _ => h⟩
      · exact ⟨[], fun h => absurd h hi⟩
    obtain ⟨F, hF⟩ := Classical.axiomOfChoice key'
    refine ⟨len0, (List.range len0).map F, by simp, ⟨_, _, rfl, hl⟩, by omega, fun i hi => ?_⟩
    have hgd : ((List.range len0).map F).getD i [] = F i := by
      rw [List.getD_eq_getElem?_getD, List.getElem?_map, List.getElem?_range hi]; rfl
    rw [hgd]
    obtain ⟨x, g, h1, h2, h3, h4⟩ := hF i hi
    obtain ⟨b, off, spot⟩ := a
    have hsp : spot = none := by
      obtain ⟨x0, g0, h0, -⟩ := hF 0 (by omega)
      simpa [Addr.add] using World.cell?_spot h0
    subst hsp
    rw [addr_add] at h1
    exact ⟨b, off, _, x, g, rfl, World.block_lt_of_cell? _ _ h1, h1, h2, h3, h4⟩

/-- An array of two integers, by value. -/
theorem open_arr2 {r : Reach} {b0 : Nat} {t e : TypeId} {k : IntKind} {v : Value} {d : DataW H} {p : List MemPlace} (ht : P.underlying t = some (.array 2 e)) (he : P.underlying e = some (.int k)) (hc : P.cellsOf e = 1) (hct : P.cellsOf t = 2)
    (hv : Value.okWide P W r b0 t v) (h : DataW.Trod enc P W 0 (fun _ => true) true t v d p) :
    ∃ x y : Int, v = .agg #[.int k x, .int k y] ∧ (Lit.int k x).wf = true ∧ (Lit.int k y).wf = true := by
  unfold Value.okWide at hv
  rw [ht] at hv
  obtain ⟨cs, rfl, hsz, -⟩ := hv
  rw [hct] at hsz
  obtain ⟨fuel, hf⟩ := h
  obtain ⟨xs, m, rfl, hx, hl, hxl, hel⟩ := DataW.trod_array ht hf
  obtain ⟨l⟩ := cs
  obtain ⟨c0, c1, rfl⟩ : ∃ c0 c1, l = [c0, c1] := by
    match l, hsz with
    | [c0, c1], _ => exact ⟨c0, c1, rfl⟩
  have e0 := hel 0 (by omega)
  have e1 := hel 1 (by omega)
  rw [hc] at e0 e1
  simp [Value.cells] at e0 e1
  have hx0 : ∃ y, xs[0]? = some y := ⟨_, List.getElem?_eq_getElem (by omega)⟩
  have hx1 : ∃ y, xs[1]? = some y := ⟨_, List.getElem?_eq_getElem (by omega)⟩
  obtain ⟨y0, hy0⟩ := hx0
  obtain ⟨y1, hy1⟩ := hx1
  rw [hy0] at e0
  rw [hy1] at e1
  obtain ⟨n0, q0, -, w0⟩ := DataW.trod_int he e0
  obtain ⟨n1, q1, -, w1⟩ := DataW.trod_int he e1
  simp at q0 q1
  subst q0 q1
  exact ⟨n0, n1, rfl, w0, w1⟩

end
end Go.Proofs.YtopeilhdddiapaaGreatDoor
end

section
/- Opening a law's arguments for the abstract machine: a reading of a value gives plain data in the abstract heap. -/
set_option linter.unusedSimpArgs false
set_option linter.unusedVariables false
namespace Go.Proofs.YtopeilhdddiapaaGreatDoor.Ex
open Go Go.RowKit Go.ChangeShapes Go.WideShapes Go.ChangeAt

section
variable {H : Type} (enc : TypeId × Value → H)

/-- The blocks of the abstract heap. -/
def InH (W : World) : Nat → Prop := fun b => b < (absH W).n

/-- A value of type t that is read is plain data; of what is not too great, B holds; μ is no greater than the reading's bulk. -/
def OpensM (P : Program) (W : World) (t : TypeId) {α : Type} (R : Rep α) (B : α → Prop) (μ : α → Nat) : Prop :=
  P.cellsOf t = R.z ∧ ∀ (fuel : Nat) (cs : List Value) (x : DataW H × List MemPlace), DataW.trod enc P W 0 (fun _ => true) true fuel t cs = some x → (x.1.weights P t).all (· ≤ reachBytes) = true →
    cs.length = R.z ∧ (∀ c ∈ cs, c.oneCell' = true) ∧ ∃ y, R.is (InH W) (absH W) (cs.map (absV W)) y ∧ B y ∧ μ y ≤ Rows.uptoBulk x.1
def OpensA (P : Program) (W : World) (t : TypeId) {α : Type} (R : Rep α) (B : α → Prop) : Prop := OpensM enc P W t R B (fun _ => 0)

variable {enc} {P : Program} {W : World}

theorem OpensM.to {t : TypeId} {α : Type} {R : Rep α} {B B' : α → Prop} {μ μ' : α → Nat} (h : OpensM enc P W t R B μ) (hB : ∀ y, B y → B' y) (hm : ∀ y, μ' y ≤ μ y) : OpensM enc P W t R B' μ' := by
  refine ⟨h.1, fun fuel cs x hf hw => ?_⟩
  obtain ⟨a, b, y, c, d, e⟩ := h.2 fuel cs x hf hw
  exact ⟨a, b, y, c, hB y d, Nat.le_trans (hm y) e⟩
theorem OpensM.toA {t : TypeId} {α : Type} {R : Rep α} {B : α → Prop} {μ : α → Nat} (h : OpensM enc P W t R B μ) : OpensA enc P W t R B := h.to (fun _ h => h) fun _ => Nat.zero_le _
theorem bulk_pos : ∀ d : DataW H, 1 ≤ Rows.uptoBulk d := by
  intro d
  unfold Rows.uptoBulk
  split <;> omega

theorem opensM_int {t : TypeId} (ht : P.underlying t = some (.int .i64)) (hc : P.cellsOf t = 1) : OpensM enc P W t RInt (fun _ => True) (fun _ => 1) := by
  refine ⟨hc, fun fuel cs x h _ => ?_⟩
  obtain ⟨n, rfl, rfl, hw⟩ := DataW.trod_int ht h
  refine ⟨rfl, by simp; rfl, n, ⟨rfl, ?_⟩, trivial, bulk_pos _⟩
  simp only [Lit.wf, IntKind.min, IntKind.max, IntKind.signed, IntKind.bits] at hw
  simp at hw
  exact ⟨hw.1, by omega⟩

theorem opensA_int {t : TypeId} (ht : P.underlying t = some (.int .i64)) (hc : P.cellsOf t = 1) : OpensA enc P W t RInt (fun _ => True) := (opensM_int ht hc).toA

theorem opensA_u32 {t : TypeId} (ht : P.underlying t = some (.int .u32)) (hc : P.cellsOf t = 1) : OpensA enc P W t RU32 (fun _ => True) := by
  refine ⟨hc, fun fuel cs x h _ => ?_⟩
  obtain ⟨n, rfl, rfl, hw⟩ := DataW.trod_int ht h
  simp only [Lit.wf, IntKind.min, IntKind.max, IntKind.signed, IntKind.bits] at hw
  simp at hw
  refine ⟨rfl, by simp; rfl, n.toNat, ⟨?_, by omega⟩, trivial, Nat.zero_le _⟩
  rw [show ((n.toNat : Nat) : Int) = n by omega]
  rfl

theorem opensA_bool {t : TypeId} (ht : P.underlying t = some .bool) (hc : P.cellsOf t = 1) : OpensA enc P W t RBool (fun _ => True) := by
  refine ⟨hc, fun fuel cs x h _ => ?_⟩
  obtain ⟨b, rfl, rfl⟩ := DataW.trod_bool ht h
  exact ⟨rfl, by simp; rfl, b, rfl, trivial, Nat.zero_le _⟩

theorem opensA_str {t : TypeId} (ht : P.underlying t = some .string) (hc : P.cellsOf t = 1) : OpensA enc P W t RStr (fun s => s.size ≤ maxLen) := by
  refine ⟨hc, fun fuel cs x h _ => ?_⟩
  obtain ⟨s, rfl, rfl, hs⟩ := DataW.trod_string ht h
  exact ⟨rfl, by simp; rfl, s, rfl, hs, Nat.zero_le _⟩

theorem flat_getV {α : Type} {z : Nat} : ∀ {L : List (List α)}, (∀ x ∈ L, x.length = z) → ∀ (i : Nat) {c : List α}, L[i]? = some c → (L.flatten.drop (i * z)).take z = c
  | [], _, i, c, hc => by simp at hc
  | a :: r, h, i, c, hc => by
    have ha := h a (by simp)
    cases i with
    | zero =>
      obtain rfl : a = c := by simpa using hc
      rw [Nat.zero_mul, List.drop_zero, List.flatten_cons, ← ha, List.take_left']
      rfl
    | succ i =>
      rw [List.flatten_cons, Nat.succ_mul, Nat.add_comm, List.drop_append, List.drop_of_length_le (by omega), List.nil_append, ha, Nat.add_sub_cancel_left]
      exact flat_getV (fun x hx => h x (by simp [hx])) i (by simpa using hc)

theorem flat_lenV {α : Type} {z : Nat} {L : List (List α)} (h : ∀ x ∈ L, x.length = z) : L.flatten.length = L.length * z := by
  induction L with
  | nil => simp
  | cons a r ih =>
    rw [List.flatten_cons, List.length_append, ih (fun x hx => h x (by simp [hx])), h a (by simp), List.length_cons, Nat.succ_mul]
    omega

theorem weightsAll_mem {e : TypeId} : ∀ {l : List (DataW H)} {d : DataW H}, d ∈ l → ∀ n ∈ d.weights P e, n ∈ DataW.weightsAll P e l
  | a :: r, d, hd, n, hn => by
    simp only [DataW.weightsAll, List.mem_append]
    rcases List.mem_cons.1 hd with rfl | h
    · exact .inl hn
    · exact .inr (weightsAll_mem h n hn)

theorem bulkAll_le {f g : List (DataW H × List MemPlace)} : Rows.uptoBulkAll ((f ++ g).map (·.1)) = Rows.uptoBulkAll (f.map (·.1)) + Rows.uptoBulkAll (g.map (·.1)) := by
  induction f with
  | nil => simp [Rows.uptoBulkAll]
  | cons a r ih => simp only [List.cons_append, List.map_cons, Rows.uptoBulkAll, ih]; omega
theorem opensM_list {t e : TypeId} {α : Type} {R : Rep α} {B : α → Prop} {μ : α → Nat} {by' : Nat} (ht : P.underlying t = some (.slice e)) (hc : P.cellsOf t = 1) (hb : P.bytesOf e = by') (h0 : 0 < R.z) (ho : OpensM enc P W e R B μ) :
    OpensM enc P W t (RSl R) (fun ys => ys.length * by' ≤ 140737488351232 ∧ ∀ y ∈ ys, B y) (fun ys => (ys.map μ).sum) := by
  refine ⟨hc, fun fuel cs x hf hw => ?_⟩
  rcases DataW.trod_slice ht hf with ⟨rfl, rfl⟩ | ⟨a, len, cap, elems, rest, m, rfl, rfl, rfl, hba, hl, hm, hlen, hel, hsp, hns⟩
  · exact ⟨rfl, by simp; rfl, [], RSl_is.2 ⟨_, rfl, IsSl.nil⟩, ⟨by simp, by simp⟩, by simp⟩
  · rw [ho.1] at hel hsp
    simp only [DataW.weights, ht, List.all_cons, List.all_append, Bool.and_eq_true, decide_eq_true_eq, hb] at hw
    obtain ⟨hw1, hw2, hw3⟩ := hw
    have hrl := (hsp rfl).1
    have hbig : len * by' ≤ 140737488351232 := by
      have h1 : len * by' ≤ (elems.map (·.1)).length * by' + (rest.map (·.1)).length * by' := by rw [List.length_map, hlen]; omega
      rw [← Nat.add_mul] at h1
      exact Nat.le_trans h1 hw1
    have hone : ∀ c ∈ [Value.slice (some a) len cap], c.oneCell' = true := by simp; rfl
    refine ⟨rfl, hone, ?_⟩
    by_cases hz : len = 0 ∧ cap = 0
    · obtain ⟨rfl, rfl⟩ := hz
      refine ⟨[], RSl_is.2 ⟨.sl 0 0 0 (.kn 0), by simp [absV], .mk (L := []) ⟨by simp, .inr ⟨0, 0, _, [], rfl, by unfold getR; rw [absH_0], by simp [cut]⟩⟩ (fun b off n cap e => ?_) (fun b off n cap e => by cases e; exact Nat.le_refl 0) .nil⟩, ⟨by simp, by simp⟩, by simp⟩
      cases e
      exact at_lt (absH_0 W)
    · have hcap : 0 < cap := by omega
      have hsz0 : elems.length + rest.length = cap := by omega
      -- what is read
      have hrd : ∀ i, i < cap → ∃ l x, W.cells? 0 (a.add (i * R.z)) R.z = some l ∧ DataW.trod enc P W 0 (fun _ => true) true m e l = some x ∧ (i < len → elems[i]? = some x) := fun i hi => by
        by_cases hil : i < len
        · have h2 := hel i hil
          rw [List.getElem?_eq_getElem (by omega)] at h2
          obtain ⟨l, hl1, hl2⟩ := Option.bind_eq_some_iff.1 h2
          exact ⟨l, _, hl1, hl2, fun _ => List.getElem?_eq_getElem (by omega)⟩
        · have h2 := (hsp rfl).2 (i - len) (by omega)
          rw [List.getElem?_eq_getElem (by omega), show len + (i - len) = i by omega] at h2
          obtain ⟨l, hl1, hl2⟩ := Option.bind_eq_some_iff.1 h2
          exact ⟨l, _, hl1, hl2, fun h => absurd h hil⟩
      obtain ⟨r, o, spot⟩ := a
      obtain ⟨l0, x0, q1, q2, -⟩ := hrd 0 hcap
      have hspot : spot = none := by
        have h3 := World.cells?_some q1
        have h4 := h3.2.2 0 h0
        rw [List.getElem?_eq_getElem (by have := h3.2.1; omega)] at h4
        simpa [Addr.add] using World.cell?_spot h4
      subst hspot
      have hcell : ∀ (k : Nat) (v : Value), W.cell? (⟨r, o + k, none⟩ : Addr) = some v → ∃ cur e fz, W.heap[r]? = some (.cells cur e fz) ∧ cur[o + k]? = some v := fun k v hk => by
        unfold World.cell? at hk
        cases hh : W.heap[r]? with
        | none => simp [hh] at hk
        | some ob => cases ob <;> simp [hh] at hk <;> exact ⟨_, _, _, rfl, hk⟩
      -- the row
      obtain ⟨cur, te, fz, hrow⟩ : ∃ cur te fz, W.heap[r]? = some (.cells cur te fz) := by
        have h3 := World.cells?_some q1
        have h4 := h3.2.2 0 h0
        rw [List.getElem?_eq_getElem (by have := h3.2.1; omega)] at h4
        obtain ⟨cur, te, fz, h5, _⟩ := hcell 0 _ (by simpa [Addr.add] using h4)
        exact ⟨cur, te, fz, h5⟩
      have hcur : ∀ i l, W.cells? 0 ((⟨r, o, none⟩ : Addr).add (i * R.z)) R.z = some l → l.length = R.z ∧ ∀ f, f < R.z → cur[o + i * R.z + f]? = l[f]? := fun i l hil => by
        have h3 := World.cells?_some hil
        refine ⟨h3.2.1, fun f hf => ?_⟩
        have h4 := h3.2.2 f hf
        obtain ⟨u, hu⟩ : ∃ u, l[f]? = some u := ⟨_, List.getElem?_eq_getElem (by have := h3.2.1; omega)⟩
        rw [hu] at h4 ⊢
        rw [addr_add, addr_add] at h4
        obtain ⟨cur', te', fz', h5, h6⟩ := hcell (i * R.z + f) _ (by rw [← Nat.add_assoc]; exact h4)
        rw [hrow] at h5
        obtain ⟨rfl, _, _⟩ := Obj.cells.inj (Option.some.inj h5)
        rw [← h6, Nat.add_assoc]
      -- the elements, and the data
      have key : ∀ n, n ≤ len → ∃ (L : List (List Value)) (ys : List α), L.length = n ∧ ys.length = n ∧ (∀ c ∈ L, c.length = R.z ∧ ∀ u ∈ c, u.oneCell' = true) ∧ (∀ (i : Nat) c y, L[i]? = some c → ys[i]? = some y → R.is (InH W) (absH W) (c.map (absV W)) y) ∧ (∀ (i : Nat) c, L[i]? = some c → ∀ f, f < R.z → cur[o + i * R.z + f]? = c[f]?) ∧ (∀ y ∈ ys, B y) ∧ (ys.map μ).sum ≤ Rows.uptoBulkAll ((elems.take n).map (·.1)) := by
        intro n
        induction n with
        | zero => exact fun _ => ⟨[], [], rfl, rfl, by simp, by simp, by simp, by simp, by simp⟩
        | succ n ih =>
          intro hn
          obtain ⟨L, ys, h1, h2, h3, h4, h5, h6, h7⟩ := ih (by omega)
          obtain ⟨l, x, e1, e2, e3⟩ := hrd n (by omega)
          have e3 := e3 (by omega)
          have hwx : (x.1.weights P e).all (· ≤ reachBytes) = true := by
            rw [List.all_eq_true] at hw2 ⊢
            intro k hk
            exact hw2 k (weightsAll_mem (List.mem_map.2 ⟨x, List.mem_of_getElem? e3, rfl⟩) k hk)
          obtain ⟨g1, g2, y, g3, g4, g7⟩ := ho.2 _ _ _ e2 hwx
          obtain ⟨g5, g6⟩ := hcur n l e1
          refine ⟨L ++ [l], ys ++ [y], by simp [h1], by simp [h2], fun c hc => ?_, fun i c z hc hz => ?_, fun i c hc => ?_, fun z hz => ?_, ?_⟩
          · rcases List.mem_append.1 hc with hc | hc
            · exact h3 c hc
            · simp at hc; subst hc; exact ⟨g1, g2⟩
          · by_cases hi : i < n
            · rw [List.getElem?_append_left (by omega)] at hc hz
              exact h4 i c z hc hz
            · have := (List.getElem?_eq_some_iff.1 hc).1
              simp only [List.length_append, List.length_singleton] at this
              obtain rfl : i = n := by omega
              rw [List.getElem?_append_right (by omega), h1, Nat.sub_self] at hc
              rw [List.getElem?_append_right (by omega), h2, Nat.sub_self] at hz
              simp at hc hz
              subst hc hz
              exact g3
          · by_cases hi : i < n
            · rw [List.getElem?_append_left (by omega)] at hc
              exact h5 i c hc
            · have := (List.getElem?_eq_some_iff.1 hc).1
              simp only [List.length_append, List.length_singleton] at this
              obtain rfl : i = n := by omega
              rw [List.getElem?_append_right (by omega), h1, Nat.sub_self] at hc
              simp at hc
              subst hc
              exact g6
          · rcases List.mem_append.1 hz with hz | hz
            · exact h6 z hz
            · simp at hz; subst hz; exact g4
          · rw [List.take_add_one, e3, bulkAll_le, List.map_append, List.sum_append]
            simp only [List.map_cons, List.map_nil, List.sum_cons, List.sum_nil, Option.toList_some, Rows.uptoBulkAll]
            omega
      obtain ⟨L, ys, k1, k2, k3, k4, k5, k6, k7⟩ := key len (Nat.le_refl _)
      have hfl : L.flatten.length = len * R.z := by rw [flat_lenV (fun c hc => (k3 c hc).1), k1]
      have hpre : (cur.toList.drop o).take (len * R.z) = L.flatten := by
        apply List.ext_getElem?
        intro j
        by_cases hj : j < len * R.z
        · rw [List.getElem?_take, if_pos hj, List.getElem?_drop, Array.getElem?_toList]
          have hd : j / R.z < len := Nat.div_lt_of_lt_mul (by rw [Nat.mul_comm]; exact hj)
          have hm2 := Nat.mod_lt j h0
          have hdm := Nat.div_add_mod j R.z
          rw [Nat.mul_comm] at hdm
          have hLd : L[j / R.z]? = some L[j / R.z] := List.getElem?_eq_getElem (by omega)
          have h7 := k5 (j / R.z) _ hLd (j % R.z) hm2
          rw [Nat.add_assoc, hdm] at h7
          rw [h7]
          have h8 := flat_getV (fun c hc => (k3 c hc).1) (j / R.z) hLd
          rw [← h8, List.getElem?_take, if_pos hm2, List.getElem?_drop, hdm]
        · rw [List.getElem?_eq_none (by rw [List.length_take]; omega), List.getElem?_eq_none (by omega)]
      have hto : o ≤ cur.size := by
        obtain ⟨hll, hff⟩ := hcur 0 l0 q1
        have := hff 0 h0
        rw [List.getElem?_eq_getElem (by omega)] at this
        have := (Array.getElem?_eq_some_iff.1 this).1
        omega
      have hro : rowO W r = some (cur.toList, te) := by unfold rowO; rw [hrow]
      have hwin : (r, o) ∈ wins W := mem_wins.2 ⟨_, _, hro, by rw [Array.length_toList]; exact hto⟩
      refine ⟨ys, RSl_is.2 ⟨.sl (widx W (r, o)) 0 len (.kn cap), ?_, .mk (L := L.map (·.map (absV W))) ⟨?_, .inr ⟨widx W (r, o), 0, .kn cap, ((cur.toList.drop o).takeWhile (·.oneCell')).map (absV W), by rw [List.length_map, k1], ?_, ?_⟩⟩ (fun b off n cap e => ?_) (fun b off n cap e => ?_) ⟨by rw [List.length_map, k1, k2], fun i c y hc hy => ?_⟩⟩, ⟨by rw [k2]; exact hbig, k6⟩, by rw [List.take_of_length_le (by omega)] at k7; simp only [Rows.uptoBulk]; omega⟩
      · show [absV W (.slice (some ⟨r, o, none⟩) len cap)] = _
        simp only [absV, if_neg hz, if_pos (show (r, o) ∈ wins W ∧ len ≤ cap ∧ cap ≤ maxLen from ⟨hwin, hl, hm⟩)]
      · intro c hc
        obtain ⟨d, hd, rfl⟩ := List.mem_map.1 hc
        rw [List.length_map]
        exact (k3 d hd).1
      · unfold getR
        rw [absH_at hwin]
        simp only [absB, hro]
      · have htw : ((cur.toList.drop o).takeWhile (·.oneCell')).take (len * R.z) = L.flatten := by
          rw [takeWhile_take, hpre]
          intro u hu
          rw [hpre] at hu
          obtain ⟨c, hc, hu⟩ := List.mem_flatten.1 hu
          exact (k3 c hc).2 u hu
        have hlen2 : len * R.z ≤ ((cur.toList.drop o).takeWhile (·.oneCell')).length := by
          have := congrArg List.length htw
          rw [List.length_take, hfl] at this
          omega
        rw [List.length_map, k1]
        unfold cut
        rw [if_pos (by rw [List.length_map]; omega), List.drop_zero, ← List.map_take, htw, List.map_flatten]
      · cases e
        exact at_lt (absH_at hwin)
      · cases e
        exact hl
      · rw [List.getElem?_map] at hc
        obtain ⟨d, hd, rfl⟩ := Option.map_eq_some_iff.1 hc
        exact k4 i d y hd hy

theorem opensA_list {t e : TypeId} {α : Type} {R : Rep α} {B : α → Prop} {by' : Nat} (ht : P.underlying t = some (.slice e)) (hc : P.cellsOf t = 1) (hb : P.bytesOf e = by') (h0 : 0 < R.z) (ho : OpensA enc P W e R B) :
    OpensA enc P W t (RSl R) (fun ys => ys.length * by' ≤ 140737488351232 ∧ ∀ y ∈ ys, B y) := (opensM_list ht hc hb h0 ho).toA

/-! Structs. -/

/-- Values of several types, one behind another. -/
def OpensN (enc : TypeId × Value → H) (P : Program) (W : World) (ts : List TypeId) {α : Type} (R : Rep α) (B : α → Prop) (μ : α → Nat) : Prop :=
  (ts.map P.cellsOf).sum = R.z ∧ ∀ (fuel : Nat) (cs : List Value) (xs : List (DataW H × List MemPlace)), cs.length = R.z → xs.length = ts.length →
    (∀ (i : Nat) t, ts[i]? = some t → DataW.trod enc P W 0 (fun _ => true) true fuel t ((cs.drop ((ts.take i).map P.cellsOf).sum).take (P.cellsOf t)) = xs[i]?) →
    (DataW.weightsEach P ts (xs.map (·.1))).all (· ≤ reachBytes) = true →
    (∀ c ∈ cs, c.oneCell' = true) ∧ ∃ y, R.is (InH W) (absH W) (cs.map (absV W)) y ∧ B y ∧ μ y ≤ Rows.uptoBulkAll (xs.map (·.1))
abbrev OpensL (enc : TypeId × Value → H) (P : Program) (W : World) (ts : List TypeId) {α : Type} (R : Rep α) (B : α → Prop) : Prop := OpensN enc P W ts R B (fun _ => 0)

theorem opensN_one {t : TypeId} {α : Type} {R : Rep α} {B : α → Prop} {μ : α → Nat} (h : OpensM enc P W t R B μ) : OpensN enc P W [t] R B μ := by
  refine ⟨by simp [h.1], fun fuel cs xs hc hx hh hw => ?_⟩
  match xs, hx with
  | [x], _ =>
    have h1 := hh 0 t rfl
    simp only [List.take_zero, List.map_nil, List.sum_nil, List.drop_zero, List.getElem?_cons_zero] at h1
    rw [h.1, ← hc, List.take_length] at h1
    simp only [List.map_cons, List.map_nil, DataW.weightsEach, List.append_nil] at hw
    simp only [List.map_cons, List.map_nil, Rows.uptoBulkAll, Nat.add_zero]
    exact (h.2 _ _ _ h1 hw).2
theorem opensL_one {t : TypeId} {α : Type} {R : Rep α} {B : α → Prop} (h : OpensA enc P W t R B) : OpensL enc P W [t] R B := opensN_one h

theorem opensN_cons {t : TypeId} {ts : List TypeId} {α β : Type} {R : Rep α} {S : Rep β} {B : α → Prop} {C : β → Prop} {μ : α → Nat} {ν : β → Nat} (h : OpensM enc P W t R B μ) (k : OpensN enc P W ts S C ν) : OpensN enc P W (t :: ts) (RPair R S) (fun x => B x.1 ∧ C x.2) (fun x => μ x.1 + ν x.2) := by
  refine ⟨by simp [h.1, k.1, RPair], fun fuel cs xs hc hx hh hw => ?_⟩
  match xs, hx with
  | x :: xs, hx =>
    have hcz : cs.length = R.z + S.z := hc
    have h1 := hh 0 t rfl
    simp only [List.take_zero, List.map_nil, List.sum_nil, List.drop_zero, List.getElem?_cons_zero, h.1] at h1
    simp only [List.map_cons, DataW.weightsEach, List.all_append, Bool.and_eq_true] at hw
    obtain ⟨g1, g2, y, g3, g4, g5⟩ := h.2 _ _ _ h1 hw.1
    obtain ⟨q1, z, q2, q3, q4⟩ := k.2 fuel (cs.drop R.z) xs (by rw [List.length_drop]; omega) (by simpa using hx) (fun i t' ht' => by
      have h2 := hh (i + 1) t' (by simpa using ht')
      rw [List.take_succ_cons, List.map_cons, List.sum_cons, h.1, ← List.drop_drop, List.getElem?_cons_succ] at h2
      exact h2) hw.2
    refine ⟨fun c hc => ?_, (y, z), ⟨(cs.take R.z).map (absV W), (cs.drop R.z).map (absV W), ?_, g3, q2⟩, ⟨g4, q3⟩, by simp only [List.map_cons, Rows.uptoBulkAll]; omega⟩
    · rw [← List.take_append_drop R.z cs] at hc
      exact (List.mem_append.1 hc).elim (g2 c) (q1 c)
    · rw [← List.map_append, List.take_append_drop]

theorem opensL_cons {t : TypeId} {ts : List TypeId} {α β : Type} {R : Rep α} {S : Rep β} {B : α → Prop} {C : β → Prop} (h : OpensA enc P W t R B) (k : OpensL enc P W ts S C) : OpensL enc P W (t :: ts) (RPair R S) (fun x => B x.1 ∧ C x.2) := opensN_cons h k

/-- Do the fields follow one another? -/
def fieldsOk (P : Program) : List Field → Nat → Bool
  | [], _ => true
  | f :: r, k => Nat.beq f.offset k && fieldsOk P r (k + P.cellsOf f.type)

theorem fieldsOk_at : ∀ {fs : List Field} {k : Nat}, fieldsOk P fs k = true → ∀ (i : Nat) f, fs[i]? = some f → f.offset = k + (((fs.map (·.type)).take i).map P.cellsOf).sum
  | [], k, _, i, f, hf => by simp at hf
  | g :: r, k, h, i, f, hf => by
    simp only [fieldsOk, Bool.and_eq_true] at h
    cases i with
    | zero => simp at hf; subst hf; simpa using Nat.eq_of_beq_eq_true h.1
    | succ i =>
      have := fieldsOk_at h.2 i f (by simpa using hf)
      rw [this]
      simp only [List.map_cons, List.take_succ_cons, List.sum_cons]
      omega

theorem opensM_struct {t : TypeId} {fs : Array Field} {ts : List TypeId} {α β : Type} {R : Rep α} {B : α → Prop} {C : β → Prop} {μ : α → Nat} {ν : β → Nat} (f : β → α) (g : α → β) (hfg : ∀ y, f (g y) = y) (ht : P.underlying t = some (.struct fs)) (hts : fs.toList.map (·.type) = ts) (hok : fieldsOk P fs.toList 0 = true) (hc : P.cellsOf t = R.z)
    (h : OpensN enc P W ts R B μ) (hBC : ∀ y, B y → C (g y)) (hmn : ∀ y, ν (g y) ≤ μ y + 1) : OpensM enc P W t (RMap f R) C ν := by
  subst hts
  refine ⟨hc, fun fuel cs x hf hw => ?_⟩
  obtain ⟨xs, n, rfl, rfl, hcs, hxs, hel⟩ := DataW.trod_struct ht hf
  simp only [DataW.weights, ht] at hw
  rw [hc] at hcs
  obtain ⟨q1, y, q2, q3, q4⟩ := h.2 n cs xs hcs (by simpa using hxs) (fun i t' ht' => by
    rw [List.getElem?_map] at ht'
    obtain ⟨fd, hfd, rfl⟩ := Option.map_eq_some_iff.1 ht'
    have := hel i fd (by simpa using hfd)
    rw [fieldsOk_at hok i fd hfd, Nat.zero_add] at this
    exact this) hw
  exact ⟨hcs, q1, g y, by show R.is _ _ _ (f (g y)); rw [hfg]; exact q2, hBC y q3, Nat.le_trans (hmn y) (by simp only [Rows.uptoBulk]; omega)⟩
theorem opensA_struct {t : TypeId} {fs : Array Field} {ts : List TypeId} {α β : Type} {R : Rep α} {B : α → Prop} {C : β → Prop} (f : β → α) (g : α → β) (hfg : ∀ y, f (g y) = y) (ht : P.underlying t = some (.struct fs)) (hts : fs.toList.map (·.type) = ts) (hok : fieldsOk P fs.toList 0 = true) (hc : P.cellsOf t = R.z)
    (h : OpensL enc P W ts R B) (hBC : ∀ y, B y → C (g y)) : OpensA enc P W t (RMap f R) C := opensM_struct f g hfg ht hts hok hc h hBC (fun _ => Nat.zero_le _)

end

section
variable {H : Type} {enc : TypeId × Value → H} {W : World}
def SmallL (n by' : Nat) : Prop := n * by' ≤ 140737488351232
end
end Go.Proofs.YtopeilhdddiapaaGreatDoor.Ex
end

section
/- Opening the structs of the api for the abstract machine (printed by gen_opb.py). -/
set_option linter.unusedSimpArgs false
set_option linter.unusedVariables false
namespace Go.Proofs.YtopeilhdddiapaaGreatDoor.Ex
open Go Go.RowKit Go.ChangeShapes Go.WideShapes Go.ChangeAt


def OkVer (x : VerD) : Prop := True
def OkInfo (x : InfoD) : Prop := OkVer x.head ∧ OkVer x.tail
def OkIv (x : IvD) : Prop := Sm 8 x.acting ∧ Sm 8 x.boots
def OkPg (x : PgD) : Prop := True
def OkOsd (x : OsdD) : Prop := True
def OkPool (x : PoolD) : Prop := True
def OkBkt (x : BktD) : Prop := Sm 8 x.items ∧ Sm 8 x.weights
def OkMp (x : MapD) : Prop := (Sm 40 x.osds ∧ ∀ y ∈ x.osds, OkOsd y) ∧ (Sm 32 x.pools ∧ ∀ y ∈ x.pools, OkPool y) ∧ (Sm 64 x.buckets ∧ ∀ y ∈ x.buckets, OkBkt y)

section
variable {H : Type} {enc : TypeId × Value → H} {W : World}

end
end Go.Proofs.YtopeilhdddiapaaGreatDoor.Ex
end

section
/- A law's call, from the machine's run over the real heap. -/
set_option linter.unusedSimpArgs false
set_option linter.unusedVariables false
namespace Go.Proofs.YtopeilhdddiapaaGreatDoor.Ex
open Go Go.RowKit Go.ChangeShapes Go.WideShapes Go.ChangeAt

theorem rels_absV {ρ : Nat → Value} {w : World} : ∀ {cs : List Value}, (∀ c ∈ cs, c.oneCell' = true) → rels ρ (mu0 w) w (cs.map (absV w)) cs
  | [], _ => rels_nil
  | c :: r, h => rels_cons (absV_rel (h c (by simp))) (rels_absV fun x hx => h x (by simp [hx]))

theorem pinT {W : World} (htab : Lib.TabIs Tryz.prog W "internal/strconv.uint64pow10" .u64 Lib.pow10Tab) : PinOf ρT (mu0 W) W ∧ ∃ e, (absH W).at 1 = some (.frz tabL e) := by
  unfold Lib.TabIs World.var? at htab
  rw [show Tryz.prog.globalNamed "internal/strconv.uint64pow10" = some 3 by kernel_rfl] at htab
  have htab : (match W.heap[3]? with | some (Obj.cells cs _ _) => some cs | _ => none) = some (Lib.pow10Tab.map fun z => Value.int .u64 z).toArray := htab
  split at htab
  case h_2 => cases htab
  rename_i cs e fz h0
  obtain rfl := Option.some.inj htab
  have hrow : rowO W 3 = some ((Lib.pow10Tab.map fun z => Value.int .u64 z), e) := by unfold rowO; rw [h0]
  have hwin : (wins W)[0]? = some (3, 0) := by
    unfold wins
    have : winsAt W 3 = (3, 0) :: ((List.range 20).map fun off => (3, off + 1)) := by
      unfold winsAt
      rw [hrow]
      rfl
    rw [this]
    rfl
  have hmu : mu0 W 1 = some (3, 0) := hwin
  refine ⟨fun r hr => ?_, e, ?_⟩
  · have hr : (Value.int .i64 3) = .int .i64 r := hr
    cases hr
    exact ⟨hmu, _, e, fz, h0, rfl⟩
  · rw [← L_at, absH_L, List.getElem?_cons_succ, List.getElem?_map, hwin]
    simp only [Option.map_some]
    congr 1
    unfold absB
    rw [show ((3, 0) : Nat × Nat).1 = 3 from rfl, hrow]
    rfl

theorem law_joinT {W : World} (htab : Lib.TabIs Tryz.prog W "internal/strconv.uint64pow10" .u64 Lib.pow10Tab) {f : FuncId} {vs : List Value} {avs : List AV} (ha : rels ρT (mu0 W) W avs vs) (hw : ∀ e, (absH W).at 1 = some (.frz tabL e) → WC Tryz.prog (tabOf Tryz.prog NT0) S0 f avs (absH W) fun v h' => v = .lit (.bool true)) :
    Calls Tryz.prog f vs.toArray W fun e w' => e = .returned (.bool true) ∧ Below W.heap.size W w' := by
  obtain ⟨hp, e, hT⟩ := pinT htab
  obtain ⟨n, o, h1, hex, v, cm, rfl, rfl⟩ := hw e hT
  refine (ex_callsH tab_sound noNG follows_mixed (sums_ok _) (absH_hr W hp) (absH_nw W) hex ha).mono fun e w' hy => ?_
  obtain ⟨v', μ', rfl, hb, hv⟩ := hy
  exact ⟨by rw [rel_bool_inv hv], hb⟩

theorem open_agg {ρ : Nat → Value} {P : Program} {H : Type} {enc : TypeId × Value → H} {W : World} {base : Nat} {t : TypeId} {v0 : Value} {d0 : DataW H} {p0 : List MemPlace} {d : TypeDesc} {α : Type} {R : Rep α} {B : α → Prop} (hO : OpensA enc P W t R B) (hu : P.underlying t = some d) (hd : isAggD d = true)
    (k0 : Value.okWide P W .any base t v0) (h0 : DataW.Trod enc P W 0 (fun _ => true) true t v0 d0 p0) (hw : ∀ n ∈ d0.weights P t, n ≤ reachBytes) :
    ∃ (cs : List AV) (y : α), rel ρ (mu0 W) W (.agg cs) v0 ∧ R.is (InH W) (absH W) cs y ∧ B y := by
  obtain ⟨cs, rfl, h1, h2⟩ := okWide_agg hu hd k0
  obtain ⟨fuel, hf⟩ := h0
  obtain ⟨h3, h4, y, h5, h6⟩ := hO.2 fuel cs.toList _ hf (List.all_eq_true.2 fun n hn => (by simpa using hw n hn))
  refine ⟨_, y, ?_, h5, h6.1⟩
  unfold rel
  exact ⟨cs.toList, by simp, rels_absV h4⟩
end Go.Proofs.YtopeilhdddiapaaGreatDoor.Ex
end

section
/- The laws ManifestNames and ManifestIds: their arguments' readings, their calls. -/
set_option linter.unusedSimpArgs false
set_option linter.unusedVariables false
namespace Go.Proofs.YtopeilhdddiapaaGreatDoor.Ex
open Go Go.RowKit Go.ChangeShapes Go.WideShapes Go.ChangeAt
theorem i64_wf {n : Int} (hw : (Lit.int .i64 n).wf = true) : I64 n := by
  simp only [Lit.wf, IntKind.min, IntKind.max, IntKind.signed, IntKind.bits] at hw
  simp at hw
  exact ⟨hw.1, by omega⟩
def RThr : Rep (Int × Int × Int) where
  z := 3
  is _ _ c x := c = [.lit (.int .i64 x.1), .lit (.int .i64 x.2.1), .lit (.int .i64 x.2.2)] ∧ I64 x.1
  len := fun ⟨h, _⟩ => by subst h; rfl
  one := fun ⟨h, _⟩ v hv => by
    subst h
    simp only [List.mem_cons, List.not_mem_nil, or_false] at hv
    rcases hv with rfl | rfl | rfl <;> rfl
  lift := fun h _ => h
set_option maxRecDepth 10000 in
theorem opensA_three {H : Type} {enc : TypeId × Value → H} {W : World} : OpensA enc Tryz.prog W 22 RThr (fun _ => True) := by
  have hci : Tryz.prog.cellsOf 3 = 1 := by kernel_rfl
  refine ⟨by kernel_rfl, fun fuel cs x hf _ => ?_⟩
  obtain ⟨xs, m, rfl, rfl, hcs, hxs, hel⟩ := DataW.trod_array Tryz.underlying22 hf
  have hc2 : Tryz.prog.cellsOf 22 = 3 := by kernel_rfl
  rw [hc2] at hcs
  match cs, hcs with
  | [c0, c1, c2], _ =>
    have h0 := hel 0 (by decide)
    have h1 := hel 1 (by decide)
    have h2 := hel 2 (by decide)
    rw [hci] at h0 h1 h2
    have e0 : xs[0]? = some xs[0] := List.getElem?_eq_getElem (by omega)
    have e1 : xs[1]? = some xs[1] := List.getElem?_eq_getElem (by omega)
    have e2 : xs[2]? = some xs[2] := List.getElem?_eq_getElem (by omega)
    rw [e0] at h0
    rw [e1] at h1
    rw [e2] at h2
    obtain ⟨a, q0, -, w0⟩ := DataW.trod_int Tryz.underlying3 h0
    obtain ⟨b, q1, -, w1⟩ := DataW.trod_int Tryz.underlying3 h1
    obtain ⟨c, q2, -, w2⟩ := DataW.trod_int Tryz.underlying3 h2
    have q0 : [c0] = [.int .i64 a] := q0
    have q1 : [c1] = [.int .i64 b] := q1
    have q2 : [c2] = [.int .i64 c] := q2
    cases q0
    cases q1
    cases q2
    refine ⟨rfl, ?_, (a, b, c), ⟨rfl, i64_wf w0⟩, trivial, Nat.zero_le _⟩
    intro c hc
    simp only [List.mem_cons, List.not_mem_nil, or_false] at hc
    rcases hc with rfl | rfl | rfl <;> rfl
theorem bulk_lit {H : Type} {s : List UInt8} : Rows.uptoBulk (DataW.lit (H := H) (.string s)) = s.length + 1 := rfl
end Go.Proofs.YtopeilhdddiapaaGreatDoor.Ex
namespace Go.Proofs.YtopeilhdddiapaaGreatDoor
open Go.RowKit Go.ChangeShapes Go.WideShapes Go.ChangeAt

set_option maxRecDepth 100000 in
theorem manifestNames_walk {H : Type} {enc : TypeId × Value → H} {W : World} (htab : Lib.TabIs Tryz.prog W "internal/strconv.uint64pow10" .u64 Lib.pow10Tab) {base : Nat} {v0 v1 v2 : Value} {d0 d1 d2 : DataW H} {p0 p1 p2 : List MemPlace}
    (k0 : Value.okWide Tryz.prog W .any base 9 v0) (h0 : DataW.Trod enc Tryz.prog W 0 (fun _ => true) true 9 v0 d0 p0)
    (k1 : Value.okWide Tryz.prog W .any base 22 v1) (h1 : DataW.Trod enc Tryz.prog W 0 (fun _ => true) true 22 v1 d1 p1)
    (k2 : Value.okWide Tryz.prog W .any base 9 v2) (h2 : DataW.Trod enc Tryz.prog W 0 (fun _ => true) true 9 v2 d2 p2)
    (hb : Rows.uptoBulkAll [d0, d1, d2] ≤ 1048576)
    {ts : List TypeId} {ds : List (DataW H)} (hsz : (DataW.weightsEach Tryz.prog ([9, 22, 9] ++ ts) ([d0, d1, d2] ++ ds)).all (· ≤ reachBytes) = true) :
    Calls Tryz.prog 3 #[v0, v1, v2] W fun e w' => e = .returned (.bool true) ∧ Below W.heap.size W w' := by
  obtain ⟨s, rfl, rfl, rfl, ws⟩ := Go.ChangeMaps.open_string Tryz.underlying9 k0 h0
  obtain ⟨u, rfl, rfl, rfl, wu⟩ := Go.ChangeMaps.open_string Tryz.underlying9 k2 h2
  obtain ⟨c1, x, r1, i1, -⟩ := Ex.open_agg (ρ := Ex.ρT) Ex.opensA_three Tryz.underlying22 rfl k1 h1 (weights_le hsz (j := 1) rfl rfl)
  obtain ⟨rfl, hx⟩ := i1
  simp only [Rows.uptoBulkAll, Ex.bulk_lit] at hb
  have hs : s = ⟨s.data.toList.toArray⟩ := rfl
  have hu : u = ⟨u.data.toList.toArray⟩ := rfl
  exact Ex.law_joinT htab (Ex.rels_cons (Ex.rel_lit rfl) (Ex.rels_cons r1 (Ex.rels_cons (Ex.rel_lit rfl) Ex.rels_nil))) fun e hT => Ex.names_m (l := s.data.toList) (o := u.data.toList) hT hx (by omega) (by omega)
set_option maxRecDepth 100000 in
theorem manifestIds_walk {H : Type} {enc : TypeId × Value → H} {W : World} (htab : Lib.TabIs Tryz.prog W "internal/strconv.uint64pow10" .u64 Lib.pow10Tab) {base : Nat} {v0 v1 v2 : Value} {d0 d1 d2 : DataW H} {p0 p1 p2 : List MemPlace}
    (k0 : Value.okWide Tryz.prog W .any base 22 v0) (h0 : DataW.Trod enc Tryz.prog W 0 (fun _ => true) true 22 v0 d0 p0)
    (k1 : Value.okWide Tryz.prog W .any base 22 v1) (h1 : DataW.Trod enc Tryz.prog W 0 (fun _ => true) true 22 v1 d1 p1)
    (k2 : Value.okWide Tryz.prog W .any base 3 v2) (h2 : DataW.Trod enc Tryz.prog W 0 (fun _ => true) true 3 v2 d2 p2)
    {ts : List TypeId} {ds : List (DataW H)} (hsz : (DataW.weightsEach Tryz.prog ([22, 22, 3] ++ ts) ([d0, d1, d2] ++ ds)).all (· ≤ reachBytes) = true) :
    Calls Tryz.prog 4 #[v0, v1, v2] W fun e w' => e = .returned (.bool true) ∧ Below W.heap.size W w' := by
  obtain ⟨c0, x, r0, i0, -⟩ := Ex.open_agg (ρ := Ex.ρT) Ex.opensA_three Tryz.underlying22 rfl k0 h0 (weights_le hsz (j := 0) rfl rfl)
  obtain ⟨c1, y, r1, i1, -⟩ := Ex.open_agg (ρ := Ex.ρT) Ex.opensA_three Tryz.underlying22 rfl k1 h1 (weights_le hsz (j := 1) rfl rfl)
  obtain ⟨k, rfl, rfl, rfl, wf⟩ := open_int Tryz.underlying3 k2 h2
  obtain ⟨rfl, -⟩ := i0
  obtain ⟨rfl, -⟩ := i1
  exact Ex.law_joinT htab (Ex.rels_cons r0 (Ex.rels_cons r1 (Ex.rels_cons (Ex.rel_lit rfl) Ex.rels_nil))) fun e hT => Ex.ids_m hT
end Go.Proofs.YtopeilhdddiapaaGreatDoor
end
