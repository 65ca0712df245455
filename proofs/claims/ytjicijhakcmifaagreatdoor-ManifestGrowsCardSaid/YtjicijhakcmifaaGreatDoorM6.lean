/- Part 6 of the proof: Mse, Mry, Msx, Mlw, Abs, Open, Opa, Opb, Jn, Mgw. -/
import Derived.Test.YtjicijhakcmifaaGreatDoorRows
import Derived.ProofKit
import Derived.OpenShut
import Derived.ShutString
import Derived.ChangeOld
import Derived.SizedLaws
import Derived.ChangeMaps5
import Derived.Test.YtjicijhakcmifaaGreatDoorM5
open Nat renaming reduceAdd → zrA, reduceSub → zrS, reduceMul → zrM, reduceLT → zrL, reduceEqDiff → zrE, reduceLeDiff → zrD, reduceShiftRight → zrR, reduceMod → zrO
open Int renaming reduceLE → ziE, reduceLT → ziL, reduceToNat → ziN
section

set_option linter.unusedSimpArgs false
set_option linter.unusedVariables false
set_option maxRecDepth 10000
namespace Go.Proofs.YtjicijhakcmifaaGreatDoor.Ex
open Go
theorem pur_equalIn_str (d : Nat) (t : TypeId) (a : ByteArray) (h : Tryz.prog.underlying t = some .string) : pur Tryz.prog (Op.equalIn (d + 1) t (.string a) (.string a)) = some (.ok true) := by
  have : (a == a) = true := by
    obtain ⟨⟨l⟩⟩ := a
    first | (show (l.toArray == l.toArray) = true; simp; done) | (show ((⟨l.toArray⟩ : ByteArray).toList == (⟨l.toArray⟩ : ByteArray).toList) = true; simp)
  simp only [Op.equalIn, pur_bind, pur_und h]
  rw [this]
  rfl
theorem pur_sha (d : Nat) (s : Fin 32 → Int) : pur Tryz.prog (Op.equalIn (d + 1 + 1) 37 (.agg #[.int .u8 (s 0), .int .u8 (s 1), .int .u8 (s 2), .int .u8 (s 3), .int .u8 (s 4), .int .u8 (s 5), .int .u8 (s 6), .int .u8 (s 7), .int .u8 (s 8), .int .u8 (s 9), .int .u8 (s 10), .int .u8 (s 11), .int .u8 (s 12), .int .u8 (s 13), .int .u8 (s 14), .int .u8 (s 15), .int .u8 (s 16), .int .u8 (s 17), .int .u8 (s 18), .int .u8 (s 19), .int .u8 (s 20), .int .u8 (s 21), .int .u8 (s 22), .int .u8 (s 23), .int .u8 (s 24), .int .u8 (s 25), .int .u8 (s 26), .int .u8 (s 27), .int .u8 (s 28), .int .u8 (s 29), .int .u8 (s 30), .int .u8 (s 31)]) (.agg #[.int .u8 (s 0), .int .u8 (s 1), .int .u8 (s 2), .int .u8 (s 3), .int .u8 (s 4), .int .u8 (s 5), .int .u8 (s 6), .int .u8 (s 7), .int .u8 (s 8), .int .u8 (s 9), .int .u8 (s 10), .int .u8 (s 11), .int .u8 (s 12), .int .u8 (s 13), .int .u8 (s 14), .int .u8 (s 15), .int .u8 (s 16), .int .u8 (s 17), .int .u8 (s 18), .int .u8 (s 19), .int .u8 (s 20), .int .u8 (s 21), .int .u8 (s 22), .int .u8 (s 23), .int .u8 (s 24), .int .u8 (s 25), .int .u8 (s 26), .int .u8 (s 27), .int .u8 (s 28), .int .u8 (s 29), .int .u8 (s 30), .int .u8 (s 31)])) = some (.ok true) := by
  have hu : Tryz.prog.underlying 37 = some (.array 32 5) := Tryz.underlying37
  have hs : pur Tryz.prog (sizeOf 5) = some (.ok 1) := by kernel_rfl
  have p0 : pur Tryz.prog (part 5 #[.int .u8 (s 0), .int .u8 (s 1), .int .u8 (s 2), .int .u8 (s 3), .int .u8 (s 4), .int .u8 (s 5), .int .u8 (s 6), .int .u8 (s 7), .int .u8 (s 8), .int .u8 (s 9), .int .u8 (s 10), .int .u8 (s 11), .int .u8 (s 12), .int .u8 (s 13), .int .u8 (s 14), .int .u8 (s 15), .int .u8 (s 16), .int .u8 (s 17), .int .u8 (s 18), .int .u8 (s 19), .int .u8 (s 20), .int .u8 (s 21), .int .u8 (s 22), .int .u8 (s 23), .int .u8 (s 24), .int .u8 (s 25), .int .u8 (s 26), .int .u8 (s 27), .int .u8 (s 28), .int .u8 (s 29), .int .u8 (s 30), .int .u8 (s 31)] 0) = some (.ok (.int .u8 (s 0))) := by kernel_rfl
  have p1 : pur Tryz.prog (part 5 #[.int .u8 (s 0), .int .u8 (s 1), .int .u8 (s 2), .int .u8 (s 3), .int .u8 (s 4), .int .u8 (s 5), .int .u8 (s 6), .int .u8 (s 7), .int .u8 (s 8), .int .u8 (s 9), .int .u8 (s 10), .int .u8 (s 11), .int .u8 (s 12), .int .u8 (s 13), .int .u8 (s 14), .int .u8 (s 15), .int .u8 (s 16), .int .u8 (s 17), .int .u8 (s 18), .int .u8 (s 19), .int .u8 (s 20), .int .u8 (s 21), .int .u8 (s 22), .int .u8 (s 23), .int .u8 (s 24), .int .u8 (s 25), .int .u8 (s 26), .int .u8 (s 27), .int .u8 (s 28), .int .u8 (s 29), .int .u8 (s 30), .int .u8 (s 31)] 1) = some (.ok (.int .u8 (s 1))) := by kernel_rfl
  have p2 : pur Tryz.prog (part 5 #[.int .u8 (s 0), .int .u8 (s 1), .int .u8 (s 2), .int .u8 (s 3), .int .u8 (s 4), .int .u8 (s 5), .int .u8 (s 6), .int .u8 (s 7), .int .u8 (s 8), .int .u8 (s 9), .int .u8 (s 10), .int .u8 (s 11), .int .u8 (s 12), .int .u8 (s 13), .int .u8 (s 14), .int .u8 (s 15), .int .u8 (s 16), .int .u8 (s 17), .int .u8 (s 18), .int .u8 (s 19), .int .u8 (s 20), .int .u8 (s 21), .int .u8 (s 22), .int .u8 (s 23), .int .u8 (s 24), .int .u8 (s 25), .int .u8 (s 26), .int .u8 (s 27), .int .u8 (s 28), .int .u8 (s 29), .int .u8 (s 30), .int .u8 (s 31)] 2) = some (.ok (.int .u8 (s 2))) := by kernel_rfl
  have p3 : pur Tryz.prog (part 5 #[.int .u8 (s 0), .int .u8 (s 1), .int .u8 (s 2), .int .u8 (s 3), .int .u8 (s 4), .int .u8 (s 5), .int .u8 (s 6), .int .u8 (s 7), .int .u8 (s 8), .int .u8 (s 9), .int .u8 (s 10), .int .u8 (s 11), .int .u8 (s 12), .int .u8 (s 13), .int .u8 (s 14), .int .u8 (s 15), .int .u8 (s 16), .int .u8 (s 17), .int .u8 (s 18), .int .u8 (s 19), .int .u8 (s 20), .int .u8 (s 21), .int .u8 (s 22), .int .u8 (s 23), .int .u8 (s 24), .int .u8 (s 25), .int .u8 (s 26), .int .u8 (s 27), .int .u8 (s 28), .int .u8 (s 29), .int .u8 (s 30), .int .u8 (s 31)] 3) = some (.ok (.int .u8 (s 3))) := by kernel_rfl
  have p4 : pur Tryz.prog (part 5 #[.int .u8 (s 0), .int .u8 (s 1), .int .u8 (s 2), .int .u8 (s 3), .int .u8 (s 4), .int .u8 (s 5), .int .u8 (s 6), .int .u8 (s 7), .int .u8 (s 8), .int .u8 (s 9), .int .u8 (s 10), .int .u8 (s 11), .int .u8 (s 12), .int .u8 (s 13), .int .u8 (s 14), .int .u8 (s 15), .int .u8 (s 16), .int .u8 (s 17), .int .u8 (s 18), .int .u8 (s 19), .int .u8 (s 20), .int .u8 (s 21), .int .u8 (s 22), .int .u8 (s 23), .int .u8 (s 24), .int .u8 (s 25), .int .u8 (s 26), .int .u8 (s 27), .int .u8 (s 28), .int .u8 (s 29), .int .u8 (s 30), .int .u8 (s 31)] 4) = some (.ok (.int .u8 (s 4))) := by kernel_rfl
  have p5 : pur Tryz.prog (part 5 #[.int .u8 (s 0), .int .u8 (s 1), .int .u8 (s 2), .int .u8 (s 3), .int .u8 (s 4), .int .u8 (s 5), .int .u8 (s 6), .int .u8 (s 7), .int .u8 (s 8), .int .u8 (s 9), .int .u8 (s 10), .int .u8 (s 11), .int .u8 (s 12), .int .u8 (s 13), .int .u8 (s 14), .int .u8 (s 15), .int .u8 (s 16), .int .u8 (s 17), .int .u8 (s 18), .int .u8 (s 19), .int .u8 (s 20), .int .u8 (s 21), .int .u8 (s 22), .int .u8 (s 23), .int .u8 (s 24), .int .u8 (s 25), .int .u8 (s 26), .int .u8 (s 27), .int .u8 (s 28), .int .u8 (s 29), .int .u8 (s 30), .int .u8 (s 31)] 5) = some (.ok (.int .u8 (s 5))) := by kernel_rfl
  have p6 : pur Tryz.prog (part 5 #[.int .u8 (s 0), .int .u8 (s 1), .int .u8 (s 2), .int .u8 (s 3), .int .u8 (s 4), .int .u8 (s 5), .int .u8 (s 6), .int .u8 (s 7), .int .u8 (s 8), .int .u8 (s 9), .int .u8 (s 10), .int .u8 (s 11), .int .u8 (s 12), .int .u8 (s 13), .int .u8 (s 14), .int .u8 (s 15), .int .u8 (s 16), .int .u8 (s 17), .int .u8 (s 18), .int .u8 (s 19), .int .u8 (s 20), .int .u8 (s 21), .int .u8 (s 22), .int .u8 (s 23), .int .u8 (s 24), .int .u8 (s 25), .int .u8 (s 26), .int .u8 (s 27), .int .u8 (s 28), .int .u8 (s 29), .int .u8 (s 30), .int .u8 (s 31)] 6) = some (.ok (.int .u8 (s 6))) := by kernel_rfl
  have p7 : pur Tryz.prog (part 5 #[.int .u8 (s 0), .int .u8 (s 1), .int .u8 (s 2), .int .u8 (s 3), .int .u8 (s 4), .int .u8 (s 5), .int .u8 (s 6), .int .u8 (s 7), .int .u8 (s 8), .int .u8 (s 9), .int .u8 (s 10), .int .u8 (s 11), .int .u8 (s 12), .int .u8 (s 13), .int .u8 (s 14), .int .u8 (s 15), .int .u8 (s 16), .int .u8 (s 17), .int .u8 (s 18), .int .u8 (s 19), .int .u8 (s 20), .int .u8 (s 21), .int .u8 (s 22), .int .u8 (s 23), .int .u8 (s 24), .int .u8 (s 25), .int .u8 (s 26), .int .u8 (s 27), .int .u8 (s 28), .int .u8 (s 29), .int .u8 (s 30), .int .u8 (s 31)] 7) = some (.ok (.int .u8 (s 7))) := by kernel_rfl
  have p8 : pur Tryz.prog (part 5 #[.int .u8 (s 0), .int .u8 (s 1), .int .u8 (s 2), .int .u8 (s 3), .int .u8 (s 4), .int .u8 (s 5), .int .u8 (s 6), .int .u8 (s 7), .int .u8 (s 8), .int .u8 (s 9), .int .u8 (s 10), .int .u8 (s 11), .int .u8 (s 12), .int .u8 (s 13), .int .u8 (s 14), .int .u8 (s 15), .int .u8 (s 16), .int .u8 (s 17), .int .u8 (s 18), .int .u8 (s 19), .int .u8 (s 20), .int .u8 (s 21), .int .u8 (s 22), .int .u8 (s 23), .int .u8 (s 24), .int .u8 (s 25), .int .u8 (s 26), .int .u8 (s 27), .int .u8 (s 28), .int .u8 (s 29), .int .u8 (s 30), .int .u8 (s 31)] 8) = some (.ok (.int .u8 (s 8))) := by kernel_rfl
  have p9 : pur Tryz.prog (part 5 #[.int .u8 (s 0), .int .u8 (s 1), .int .u8 (s 2), .int .u8 (s 3), .int .u8 (s 4), .int .u8 (s 5), .int .u8 (s 6), .int .u8 (s 7), .int .u8 (s 8), .int .u8 (s 9), .int .u8 (s 10), .int .u8 (s 11), .int .u8 (s 12), .int .u8 (s 13), .int .u8 (s 14), .int .u8 (s 15), .int .u8 (s 16), .int .u8 (s 17), .int .u8 (s 18), .int .u8 (s 19), .int .u8 (s 20), .int .u8 (s 21), .int .u8 (s 22), .int .u8 (s 23), .int .u8 (s 24), .int .u8 (s 25), .int .u8 (s 26), .int .u8 (s 27), .int .u8 (s 28), .int .u8 (s 29), .int .u8 (s 30), .int .u8 (s 31)] 9) = some (.ok (.int .u8 (s 9))) := by kernel_rfl
  have p10 : pur Tryz.prog (part 5 #[.int .u8 (s 0), .int .u8 (s 1), .int .u8 (s 2), .int .u8 (s 3), .int .u8 (s 4), .int .u8 (s 5), .int .u8 (s 6), .int .u8 (s 7), .int .u8 (s 8), .int .u8 (s 9), .int .u8 (s 10), .int .u8 (s 11), .int .u8 (s 12), .int .u8 (s 13), .int .u8 (s 14), .int .u8 (s 15), .int .u8 (s 16), .int .u8 (s 17), .int .u8 (s 18), .int .u8 (s 19), .int .u8 (s 20), .int .u8 (s 21), .int .u8 (s 22), .int .u8 (s 23), .int .u8 (s 24), .int .u8 (s 25), .int .u8 (s 26), .int .u8 (s 27), .int .u8 (s 28), .int .u8 (s 29), .int .u8 (s 30), .int .u8 (s 31)] 10) = some (.ok (.int .u8 (s 10))) := by kernel_rfl
  have p11 : pur Tryz.prog (part 5 #[.int .u8 (s 0), .int .u8 (s 1), .int .u8 (s 2), .int .u8 (s 3), .int .u8 (s 4), .int .u8 (s 5), .int .u8 (s 6), .int .u8 (s 7), .int .u8 (s 8), .int .u8 (s 9), .int .u8 (s 10), .int .u8 (s 11), .int .u8 (s 12), .int .u8 (s 13), .int .u8 (s 14), .int .u8 (s 15), .int .u8 (s 16), .int .u8 (s 17), .int .u8 (s 18), .int .u8 (s 19), .int .u8 (s 20), .int .u8 (s 21), .int .u8 (s 22), .int .u8 (s 23), .int .u8 (s 24), .int .u8 (s 25), .int .u8 (s 26), .int .u8 (s 27), .int .u8 (s 28), .int .u8 (s 29), .int .u8 (s 30), .int .u8 (s 31)] 11) = some (.ok (.int .u8 (s 11))) := by kernel_rfl
  have p12 : pur Tryz.prog (part 5 #[.int .u8 (s 0), .int .u8 (s 1), .int .u8 (s 2), .int .u8 (s 3), .int .u8 (s 4), .int .u8 (s 5), .int .u8 (s 6), .int .u8 (s 7), .int .u8 (s 8), .int .u8 (s 9), .int .u8 (s 10), .int .u8 (s 11), .int .u8 (s 12), .int .u8 (s 13), .int .u8 (s 14), .int .u8 (s 15), .int .u8 (s 16), .int .u8 (s 17), .int .u8 (s 18), .int .u8 (s 19), .int .u8 (s 20), .int .u8 (s 21), .int .u8 (s 22), .int .u8 (s 23), .int .u8 (s 24), .int .u8 (s 25), .int .u8 (s 26), .int .u8 (s 27), .int .u8 (s 28), .int .u8 (s 29), .int .u8 (s 30), .int .u8 (s 31)] 12) = some (.ok (.int .u8 (s 12))) := by kernel_rfl
  have p13 : pur Tryz.prog (part 5 #[.int .u8 (s 0), .int .u8 (s 1), .int .u8 (s 2), .int .u8 (s 3), .int .u8 (s 4), .int .u8 (s 5), .int .u8 (s 6), .int .u8 (s 7), .int .u8 (s 8), .int .u8 (s 9), .int .u8 (s 10), .int .u8 (s 11), .int .u8 (s 12), .int .u8 (s 13), .int .u8 (s 14), .int .u8 (s 15), .int .u8 (s 16), .int .u8 (s 17), .int .u8 (s 18), .int .u8 (s 19), .int .u8 (s 20), .int .u8 (s 21), .int .u8 (s 22), .int .u8 (s 23), .int .u8 (s 24), .int .u8 (s 25), .int .u8 (s 26), .int .u8 (s 27), .int .u8 (s 28), .int .u8 (s 29), .int .u8 (s 30), .int .u8 (s 31)] 13) = some (.ok (.int .u8 (s 13))) := by kernel_rfl
  have p14 : pur Tryz.prog (part 5 #[.int .u8 (s 0), .int .u8 (s 1), .int .u8 (s 2), .int .u8 (s 3), .int .u8 (s 4), .int .u8 (s 5), .int .u8 (s 6), .int .u8 (s 7), .int .u8 (s 8), .int .u8 (s 9), .int .u8 (s 10), .int .u8 (s 11), .int .u8 (s 12), .int .u8 (s 13), .int .u8 (s 14), .int .u8 (s 15), .int .u8 (s 16), .int .u8 (s 17), .int .u8 (s 18), .int .u8 (s 19), .int .u8 (s 20), .int .u8 (s 21), .int .u8 (s 22), .int .u8 (s 23), .int .u8 (s 24), .int .u8 (s 25), .int .u8 (s 26), .int .u8 (s 27), .int .u8 (s 28), .int .u8 (s 29), .int .u8 (s 30), .int .u8 (s 31)] 14) = some (.ok (.int .u8 (s 14))) := by kernel_rfl
  have p15 : pur Tryz.prog (part 5 #[.int .u8 (s 0), .int .u8 (s 1), .int .u8 (s 2), .int .u8 (s 3), .int .u8 (s 4), .int .u8 (s 5), .int .u8 (s 6), .int .u8 (s 7), .int .u8 (s 8), .int .u8 (s 9), .int .u8 (s 10), .int .u8 (s 11), .int .u8 (s 12), .int .u8 (s 13), .int .u8 (s 14), .int .u8 (s 15), .int .u8 (s 16), .int .u8 (s 17), .int .u8 (s 18), .int .u8 (s 19), .int .u8 (s 20), .int .u8 (s 21), .int .u8 (s 22), .int .u8 (s 23), .int .u8 (s 24), .int .u8 (s 25), .int .u8 (s 26), .int .u8 (s 27), .int .u8 (s 28), .int .u8 (s 29), .int .u8 (s 30), .int .u8 (s 31)] 15) = some (.ok (.int .u8 (s 15))) := by kernel_rfl
  have p16 : pur Tryz.prog (part 5 #[.int .u8 (s 0), .int .u8 (s 1), .int .u8 (s 2), .int .u8 (s 3), .int .u8 (s 4), .int .u8 (s 5), .int .u8 (s 6), .int .u8 (s 7), .int .u8 (s 8), .int .u8 (s 9), .int .u8 (s 10), .int .u8 (s 11), .int .u8 (s 12), .int .u8 (s 13), .int .u8 (s 14), .int .u8 (s 15), .int .u8 (s 16), .int .u8 (s 17), .int .u8 (s 18), .int .u8 (s 19), .int .u8 (s 20), .int .u8 (s 21), .int .u8 (s 22), .int .u8 (s 23), .int .u8 (s 24), .int .u8 (s 25), .int .u8 (s 26), .int .u8 (s 27), .int .u8 (s 28), .int .u8 (s 29), .int .u8 (s 30), .int .u8 (s 31)] 16) = some (.ok (.int .u8 (s 16))) := by kernel_rfl
  have p17 : pur Tryz.prog (part 5 #[.int .u8 (s 0), .int .u8 (s 1), .int .u8 (s 2), .int .u8 (s 3), .int .u8 (s 4), .int .u8 (s 5), .int .u8 (s 6), .int .u8 (s 7), .int .u8 (s 8), .int .u8 (s 9), .int .u8 (s 10), .int .u8 (s 11), .int .u8 (s 12), .int .u8 (s 13), .int .u8 (s 14), .int .u8 (s 15), .int .u8 (s 16), .int .u8 (s 17), .int .u8 (s 18), .int .u8 (s 19), .int .u8 (s 20), .int .u8 (s 21), .int .u8 (s 22), .int .u8 (s 23), .int .u8 (s 24), .int .u8 (s 25), .int .u8 (s 26), .int .u8 (s 27), .int .u8 (s 28), .int .u8 (s 29), .int .u8 (s 30), .int .u8 (s 31)] 17) = some (.ok (.int .u8 (s 17))) := by kernel_rfl
  have p18 : pur Tryz.prog (part 5 #[.int .u8 (s 0), .int .u8 (s 1), .int .u8 (s 2), .int .u8 (s 3), .int .u8 (s 4), .int .u8 (s 5), .int .u8 (s 6), .int .u8 (s 7), .int .u8 (s 8), .int .u8 (s 9), .int .u8 (s 10), .int .u8 (s 11), .int .u8 (s 12), .int .u8 (s 13), .int .u8 (s 14), .int .u8 (s 15), .int .u8 (s 16), .int .u8 (s 17), .int .u8 (s 18), .int .u8 (s 19), .int .u8 (s 20), .int .u8 (s 21), .int .u8 (s 22), .int .u8 (s 23), .int .u8 (s 24), .int .u8 (s 25), .int .u8 (s 26), .int .u8 (s 27), .int .u8 (s 28), .int .u8 (s 29), .int .u8 (s 30), .int .u8 (s 31)] 18) = some (.ok (.int .u8 (s 18))) := by kernel_rfl
  have p19 : pur Tryz.prog (part 5 #[.int .u8 (s 0), .int .u8 (s 1), .int .u8 (s 2), .int .u8 (s 3), .int .u8 (s 4), .int .u8 (s 5), .int .u8 (s 6), .int .u8 (s 7), .int .u8 (s 8), .int .u8 (s 9), .int .u8 (s 10), .int .u8 (s 11), .int .u8 (s 12), .int .u8 (s 13), .int .u8 (s 14), .int .u8 (s 15), .int .u8 (s 16), .int .u8 (s 17), .int .u8 (s 18), .int .u8 (s 19), .int .u8 (s 20), .int .u8 (s 21), .int .u8 (s 22), .int .u8 (s 23), .int .u8 (s 24), .int .u8 (s 25), .int .u8 (s 26), .int .u8 (s 27), .int .u8 (s 28), .int .u8 (s 29), .int .u8 (s 30), .int .u8 (s 31)] 19) = some (.ok (.int .u8 (s 19))) := by kernel_rfl
  have p20 : pur Tryz.prog (part 5 #[.int .u8 (s 0), .int .u8 (s 1), .int .u8 (s 2), .int .u8 (s 3), .int .u8 (s 4), .int .u8 (s 5), .int .u8 (s 6), .int .u8 (s 7), .int .u8 (s 8), .int .u8 (s 9), .int .u8 (s 10), .int .u8 (s 11), .int .u8 (s 12), .int .u8 (s 13), .int .u8 (s 14), .int .u8 (s 15), .int .u8 (s 16), .int .u8 (s 17), .int .u8 (s 18), .int .u8 (s 19), .int .u8 (s 20), .int .u8 (s 21), .int .u8 (s 22), .int .u8 (s 23), .int .u8 (s 24), .int .u8 (s 25), .int .u8 (s 26), .int .u8 (s 27), .int .u8 (s 28), .int .u8 (s 29), .int .u8 (s 30), .int .u8 (s 31)] 20) = some (.ok (.int .u8 (s 20))) := by kernel_rfl
  have p21 : pur Tryz.prog (part 5 #[.int .u8 (s 0), .int .u8 (s 1), .int .u8 (s 2), .int .u8 (s 3), .int .u8 (s 4), .int .u8 (s 5), .int .u8 (s 6), .int .u8 (s 7), .int .u8 (s 8), .int .u8 (s 9), .int .u8 (s 10), .int .u8 (s 11), .int .u8 (s 12), .int .u8 (s 13), .int .u8 (s 14), .int .u8 (s 15), .int .u8 (s 16), .int .u8 (s 17), .int .u8 (s 18), .int .u8 (s 19), .int .u8 (s 20), .int .u8 (s 21), .int .u8 (s 22), .int .u8 (s 23), .int .u8 (s 24), .int .u8 (s 25), .int .u8 (s 26), .int .u8 (s 27), .int .u8 (s 28), .int .u8 (s 29), .int .u8 (s 30), .int .u8 (s 31)] 21) = some (.ok (.int .u8 (s 21))) := by kernel_rfl
  have p22 : pur Tryz.prog (part 5 #[.int .u8 (s 0), .int .u8 (s 1), .int .u8 (s 2), .int .u8 (s 3), .int .u8 (s 4), .int .u8 (s 5), .int .u8 (s 6), .int .u8 (s 7), .int .u8 (s 8), .int .u8 (s 9), .int .u8 (s 10), .int .u8 (s 11), .int .u8 (s 12), .int .u8 (s 13), .int .u8 (s 14), .int .u8 (s 15), .int .u8 (s 16), .int .u8 (s 17), .int .u8 (s 18), .int .u8 (s 19), .int .u8 (s 20), .int .u8 (s 21), .int .u8 (s 22), .int .u8 (s 23), .int .u8 (s 24), .int .u8 (s 25), .int .u8 (s 26), .int .u8 (s 27), .int .u8 (s 28), .int .u8 (s 29), .int .u8 (s 30), .int .u8 (s 31)] 22) = some (.ok (.int .u8 (s 22))) := by kernel_rfl
  have p23 : pur Tryz.prog (part 5 #[.int .u8 (s 0), .int .u8 (s 1), .int .u8 (s 2), .int .u8 (s 3), .int .u8 (s 4), .int .u8 (s 5), .int .u8 (s 6), .int .u8 (s 7), .int .u8 (s 8), .int .u8 (s 9), .int .u8 (s 10), .int .u8 (s 11), .int .u8 (s 12), .int .u8 (s 13), .int .u8 (s 14), .int .u8 (s 15), .int .u8 (s 16), .int .u8 (s 17), .int .u8 (s 18), .int .u8 (s 19), .int .u8 (s 20), .int .u8 (s 21), .int .u8 (s 22), .int .u8 (s 23), .int .u8 (s 24), .int .u8 (s 25), .int .u8 (s 26), .int .u8 (s 27), .int .u8 (s 28), .int .u8 (s 29), .int .u8 (s 30), .int .u8 (s 31)] 23) = some (.ok (.int .u8 (s 23))) := by kernel_rfl
  have p24 : pur Tryz.prog (part 5 #[.int .u8 (s 0), .int .u8 (s 1), .int .u8 (s 2), .int .u8 (s 3), .int .u8 (s 4), .int .u8 (s 5), .int .u8 (s 6), .int .u8 (s 7), .int .u8 (s 8), .int .u8 (s 9), .int .u8 (s 10), .int .u8 (s 11), .int .u8 (s 12), .int .u8 (s 13), .int .u8 (s 14), .int .u8 (s 15), .int .u8 (s 16), .int .u8 (s 17), .int .u8 (s 18), .int .u8 (s 19), .int .u8 (s 20), .int .u8 (s 21), .int .u8 (s 22), .int .u8 (s 23), .int .u8 (s 24), .int .u8 (s 25), .int .u8 (s 26), .int .u8 (s 27), .int .u8 (s 28), .int .u8 (s 29), .int .u8 (s 30), .int .u8 (s 31)] 24) = some (.ok (.int .u8 (s 24))) := by kernel_rfl
  have p25 : pur Tryz.prog (part 5 #[.int .u8 (s 0), .int .u8 (s 1), .int .u8 (s 2), .int .u8 (s 3), .int .u8 (s 4), .int .u8 (s 5), .int .u8 (s 6), .int .u8 (s 7), .int .u8 (s 8), .int .u8 (s 9), .int .u8 (s 10), .int .u8 (s 11), .int .u8 (s 12), .int .u8 (s 13), .int .u8 (s 14), .int .u8 (s 15), .int .u8 (s 16), .int .u8 (s 17), .int .u8 (s 18), .int .u8 (s 19), .int .u8 (s 20), .int .u8 (s 21), .int .u8 (s 22), .int .u8 (s 23), .int .u8 (s 24), .int .u8 (s 25), .int .u8 (s 26), .int .u8 (s 27), .int .u8 (s 28), .int .u8 (s 29), .int .u8 (s 30), .int .u8 (s 31)] 25) = some (.ok (.int .u8 (s 25))) := by kernel_rfl
  have p26 : pur Tryz.prog (part 5 #[.int .u8 (s 0), .int .u8 (s 1), .int .u8 (s 2), .int .u8 (s 3), .int .u8 (s 4), .int .u8 (s 5), .int .u8 (s 6), .int .u8 (s 7), .int .u8 (s 8), .int .u8 (s 9), .int .u8 (s 10), .int .u8 (s 11), .int .u8 (s 12), .int .u8 (s 13), .int .u8 (s 14), .int .u8 (s 15), .int .u8 (s 16), .int .u8 (s 17), .int .u8 (s 18), .int .u8 (s 19), .int .u8 (s 20), .int .u8 (s 21), .int .u8 (s 22), .int .u8 (s 23), .int .u8 (s 24), .int .u8 (s 25), .int .u8 (s 26), .int .u8 (s 27), .int .u8 (s 28), .int .u8 (s 29), .int .u8 (s 30), .int .u8 (s 31)] 26) = some (.ok (.int .u8 (s 26))) := by kernel_rfl
  have p27 : pur Tryz.prog (part 5 #[.int .u8 (s 0), .int .u8 (s 1), .int .u8 (s 2), .int .u8 (s 3), .int .u8 (s 4), .int .u8 (s 5), .int .u8 (s 6), .int .u8 (s 7), .int .u8 (s 8), .int .u8 (s 9), .int .u8 (s 10), .int .u8 (s 11), .int .u8 (s 12), .int .u8 (s 13), .int .u8 (s 14), .int .u8 (s 15), .int .u8 (s 16), .int .u8 (s 17), .int .u8 (s 18), .int .u8 (s 19), .int .u8 (s 20), .int .u8 (s 21), .int .u8 (s 22), .int .u8 (s 23), .int .u8 (s 24), .int .u8 (s 25), .int .u8 (s 26), .int .u8 (s 27), .int .u8 (s 28), .int .u8 (s 29), .int .u8 (s 30), .int .u8 (s 31)] 27) = some (.ok (.int .u8 (s 27))) := by kernel_rfl
  have p28 : pur Tryz.prog (part 5 #[.int .u8 (s 0), .int .u8 (s 1), .int .u8 (s 2), .int .u8 (s 3), .int .u8 (s 4), .int .u8 (s 5), .int .u8 (s 6), .int .u8 (s 7), .int .u8 (s 8), .int .u8 (s 9), .int .u8 (s 10), .int .u8 (s 11), .int .u8 (s 12), .int .u8 (s 13), .int .u8 (s 14), .int .u8 (s 15), .int .u8 (s 16), .int .u8 (s 17), .int .u8 (s 18), .int .u8 (s 19), .int .u8 (s 20), .int .u8 (s 21), .int .u8 (s 22), .int .u8 (s 23), .int .u8 (s 24), .int .u8 (s 25), .int .u8 (s 26), .int .u8 (s 27), .int .u8 (s 28), .int .u8 (s 29), .int .u8 (s 30), .int .u8 (s 31)] 28) = some (.ok (.int .u8 (s 28))) := by kernel_rfl
  have p29 : pur Tryz.prog (part 5 #[.int .u8 (s 0), .int .u8 (s 1), .int .u8 (s 2), .int .u8 (s 3), .int .u8 (s 4), .int .u8 (s 5), .int .u8 (s 6), .int .u8 (s 7), .int .u8 (s 8), .int .u8 (s 9), .int .u8 (s 10), .int .u8 (s 11), .int .u8 (s 12), .int .u8 (s 13), .int .u8 (s 14), .int .u8 (s 15), .int .u8 (s 16), .int .u8 (s 17), .int .u8 (s 18), .int .u8 (s 19), .int .u8 (s 20), .int .u8 (s 21), .int .u8 (s 22), .int .u8 (s 23), .int .u8 (s 24), .int .u8 (s 25), .int .u8 (s 26), .int .u8 (s 27), .int .u8 (s 28), .int .u8 (s 29), .int .u8 (s 30), .int .u8 (s 31)] 29) = some (.ok (.int .u8 (s 29))) := by kernel_rfl
  have p30 : pur Tryz.prog (part 5 #[.int .u8 (s 0), .int .u8 (s 1), .int .u8 (s 2), .int .u8 (s 3), .int .u8 (s 4), .int .u8 (s 5), .int .u8 (s 6), .int .u8 (s 7), .int .u8 (s 8), .int .u8 (s 9), .int .u8 (s 10), .int .u8 (s 11), .int .u8 (s 12), .int .u8 (s 13), .int .u8 (s 14), .int .u8 (s 15), .int .u8 (s 16), .int .u8 (s 17), .int .u8 (s 18), .int .u8 (s 19), .int .u8 (s 20), .int .u8 (s 21), .int .u8 (s 22), .int .u8 (s 23), .int .u8 (s 24), .int .u8 (s 25), .int .u8 (s 26), .int .u8 (s 27), .int .u8 (s 28), .int .u8 (s 29), .int .u8 (s 30), .int .u8 (s 31)] 30) = some (.ok (.int .u8 (s 30))) := by kernel_rfl
  have p31 : pur Tryz.prog (part 5 #[.int .u8 (s 0), .int .u8 (s 1), .int .u8 (s 2), .int .u8 (s 3), .int .u8 (s 4), .int .u8 (s 5), .int .u8 (s 6), .int .u8 (s 7), .int .u8 (s 8), .int .u8 (s 9), .int .u8 (s 10), .int .u8 (s 11), .int .u8 (s 12), .int .u8 (s 13), .int .u8 (s 14), .int .u8 (s 15), .int .u8 (s 16), .int .u8 (s 17), .int .u8 (s 18), .int .u8 (s 19), .int .u8 (s 20), .int .u8 (s 21), .int .u8 (s 22), .int .u8 (s 23), .int .u8 (s 24), .int .u8 (s 25), .int .u8 (s 26), .int .u8 (s 27), .int .u8 (s 28), .int .u8 (s 29), .int .u8 (s 30), .int .u8 (s 31)] 31) = some (.ok (.int .u8 (s 31))) := by kernel_rfl
  have q : ∀ x : Int, pur Tryz.prog (Op.equalIn (d + 1) 5 (.int .u8 x) (.int .u8 x)) = some (.ok true) := fun x => by
    rw [pur_equalIn_int d 5 .u8 .u8 x x Tryz.underlying5]
    simp
  unfold Op.equalIn
  simp only [pur_bind, pur_und hu, hs, Std.Legacy.Range.forIn_eq_forIn_range', Std.Legacy.Range.size]
  rw [show (List.range' 0 ((32 - 0 + 1 - 1) / 1)) = [0, 1, 2, 3, 4, 5, 6, 7, 8, 9, 10, 11, 12, 13, 14, 15, 16, 17, 18, 19, 20, 21, 22, 23, 24, 25, 26, 27, 28, 29, 30, 31] from rfl]
  simp only [List.forIn_cons, List.forIn_nil, pur_bind, Nat.zero_mul, Nat.one_mul, Nat.mul_one, p0, p1, p2, p3, p4, p5, p6, p7, p8, p9, p10, p11, p12, p13, p14, p15, p16, p17, p18, p19, p20, p21, p22, p23, p24, p25, p26, p27, p28, p29, p30, p31, q, Bool.not_true, Bool.false_eq_true, if_false, pur_pure]
theorem pur_set (x : SetD) : pur Tryz.prog (Op.equal 87 (.agg #[.string ⟨x.name.toArray⟩, .string ⟨x.id.toArray⟩, .int .i64 x.size, .int .u8 (x.sha 0), .int .u8 (x.sha 1), .int .u8 (x.sha 2), .int .u8 (x.sha 3), .int .u8 (x.sha 4), .int .u8 (x.sha 5), .int .u8 (x.sha 6), .int .u8 (x.sha 7), .int .u8 (x.sha 8), .int .u8 (x.sha 9), .int .u8 (x.sha 10), .int .u8 (x.sha 11), .int .u8 (x.sha 12), .int .u8 (x.sha 13), .int .u8 (x.sha 14), .int .u8 (x.sha 15), .int .u8 (x.sha 16), .int .u8 (x.sha 17), .int .u8 (x.sha 18), .int .u8 (x.sha 19), .int .u8 (x.sha 20), .int .u8 (x.sha 21), .int .u8 (x.sha 22), .int .u8 (x.sha 23), .int .u8 (x.sha 24), .int .u8 (x.sha 25), .int .u8 (x.sha 26), .int .u8 (x.sha 27), .int .u8 (x.sha 28), .int .u8 (x.sha 29), .int .u8 (x.sha 30), .int .u8 (x.sha 31)]) (.agg #[.string ⟨x.name.toArray⟩, .string ⟨x.id.toArray⟩, .int .i64 x.size, .int .u8 (x.sha 0), .int .u8 (x.sha 1), .int .u8 (x.sha 2), .int .u8 (x.sha 3), .int .u8 (x.sha 4), .int .u8 (x.sha 5), .int .u8 (x.sha 6), .int .u8 (x.sha 7), .int .u8 (x.sha 8), .int .u8 (x.sha 9), .int .u8 (x.sha 10), .int .u8 (x.sha 11), .int .u8 (x.sha 12), .int .u8 (x.sha 13), .int .u8 (x.sha 14), .int .u8 (x.sha 15), .int .u8 (x.sha 16), .int .u8 (x.sha 17), .int .u8 (x.sha 18), .int .u8 (x.sha 19), .int .u8 (x.sha 20), .int .u8 (x.sha 21), .int .u8 (x.sha 22), .int .u8 (x.sha 23), .int .u8 (x.sha 24), .int .u8 (x.sha 25), .int .u8 (x.sha 26), .int .u8 (x.sha 27), .int .u8 (x.sha 28), .int .u8 (x.sha 29), .int .u8 (x.sha 30), .int .u8 (x.sha 31)])) = some (.ok true) := by
  show pur Tryz.prog (Op.equalIn (9999 + 1) 87 (.agg #[.string ⟨x.name.toArray⟩, .string ⟨x.id.toArray⟩, .int .i64 x.size, .int .u8 (x.sha 0), .int .u8 (x.sha 1), .int .u8 (x.sha 2), .int .u8 (x.sha 3), .int .u8 (x.sha 4), .int .u8 (x.sha 5), .int .u8 (x.sha 6), .int .u8 (x.sha 7), .int .u8 (x.sha 8), .int .u8 (x.sha 9), .int .u8 (x.sha 10), .int .u8 (x.sha 11), .int .u8 (x.sha 12), .int .u8 (x.sha 13), .int .u8 (x.sha 14), .int .u8 (x.sha 15), .int .u8 (x.sha 16), .int .u8 (x.sha 17), .int .u8 (x.sha 18), .int .u8 (x.sha 19), .int .u8 (x.sha 20), .int .u8 (x.sha 21), .int .u8 (x.sha 22), .int .u8 (x.sha 23), .int .u8 (x.sha 24), .int .u8 (x.sha 25), .int .u8 (x.sha 26), .int .u8 (x.sha 27), .int .u8 (x.sha 28), .int .u8 (x.sha 29), .int .u8 (x.sha 30), .int .u8 (x.sha 31)]) (.agg #[.string ⟨x.name.toArray⟩, .string ⟨x.id.toArray⟩, .int .i64 x.size, .int .u8 (x.sha 0), .int .u8 (x.sha 1), .int .u8 (x.sha 2), .int .u8 (x.sha 3), .int .u8 (x.sha 4), .int .u8 (x.sha 5), .int .u8 (x.sha 6), .int .u8 (x.sha 7), .int .u8 (x.sha 8), .int .u8 (x.sha 9), .int .u8 (x.sha 10), .int .u8 (x.sha 11), .int .u8 (x.sha 12), .int .u8 (x.sha 13), .int .u8 (x.sha 14), .int .u8 (x.sha 15), .int .u8 (x.sha 16), .int .u8 (x.sha 17), .int .u8 (x.sha 18), .int .u8 (x.sha 19), .int .u8 (x.sha 20), .int .u8 (x.sha 21), .int .u8 (x.sha 22), .int .u8 (x.sha 23), .int .u8 (x.sha 24), .int .u8 (x.sha 25), .int .u8 (x.sha 26), .int .u8 (x.sha 27), .int .u8 (x.sha 28), .int .u8 (x.sha 29), .int .u8 (x.sha 30), .int .u8 (x.sha 31)])) = _
  rw [pur_equalIn_struct 9999 87 _ _ (by kernel_rfl) (by kernel_rfl)]
  obtain ⟨f0, f1, f2, f3, hf, n0, n1, n2, n3, t0, t1, t2, t3, z0, z1, z2, z3⟩ : ∃ f0 f1 f2 f3 : Field, (Tryz.prog.fieldsOf 87).toList = [f0, f1, f2, f3] ∧ f0.name ≠ "_" ∧ f1.name ≠ "_" ∧ f2.name ≠ "_" ∧ f3.name ≠ "_" ∧ f0.type = 9 ∧ f1.type = 9 ∧ f2.type = 3 ∧ f3.type = 37 ∧ f0.offset = 0 ∧ f1.offset = 1 ∧ f2.offset = 2 ∧ f3.offset = 3 := by
    unfold Program.fieldsOf
    rw [Tryz.underlying87]
    exact ⟨_, _, _, _, rfl, by decide, by decide, by decide, by decide, rfl, rfl, rfl, rfl, rfl, rfl, rfl, rfl⟩
  rw [hf]
  have p0 : pur Tryz.prog (part 9 #[.string ⟨x.name.toArray⟩, .string ⟨x.id.toArray⟩, .int .i64 x.size, .int .u8 (x.sha 0), .int .u8 (x.sha 1), .int .u8 (x.sha 2), .int .u8 (x.sha 3), .int .u8 (x.sha 4), .int .u8 (x.sha 5), .int .u8 (x.sha 6), .int .u8 (x.sha 7), .int .u8 (x.sha 8), .int .u8 (x.sha 9), .int .u8 (x.sha 10), .int .u8 (x.sha 11), .int .u8 (x.sha 12), .int .u8 (x.sha 13), .int .u8 (x.sha 14), .int .u8 (x.sha 15), .int .u8 (x.sha 16), .int .u8 (x.sha 17), .int .u8 (x.sha 18), .int .u8 (x.sha 19), .int .u8 (x.sha 20), .int .u8 (x.sha 21), .int .u8 (x.sha 22), .int .u8 (x.sha 23), .int .u8 (x.sha 24), .int .u8 (x.sha 25), .int .u8 (x.sha 26), .int .u8 (x.sha 27), .int .u8 (x.sha 28), .int .u8 (x.sha 29), .int .u8 (x.sha 30), .int .u8 (x.sha 31)] 0) = some (.ok (.string ⟨x.name.toArray⟩)) := by kernel_rfl
  have p1 : pur Tryz.prog (part 9 #[.string ⟨x.name.toArray⟩, .string ⟨x.id.toArray⟩, .int .i64 x.size, .int .u8 (x.sha 0), .int .u8 (x.sha 1), .int .u8 (x.sha 2), .int .u8 (x.sha 3), .int .u8 (x.sha 4), .int .u8 (x.sha 5), .int .u8 (x.sha 6), .int .u8 (x.sha 7), .int .u8 (x.sha 8), .int .u8 (x.sha 9), .int .u8 (x.sha 10), .int .u8 (x.sha 11), .int .u8 (x.sha 12), .int .u8 (x.sha 13), .int .u8 (x.sha 14), .int .u8 (x.sha 15), .int .u8 (x.sha 16), .int .u8 (x.sha 17), .int .u8 (x.sha 18), .int .u8 (x.sha 19), .int .u8 (x.sha 20), .int .u8 (x.sha 21), .int .u8 (x.sha 22), .int .u8 (x.sha 23), .int .u8 (x.sha 24), .int .u8 (x.sha 25), .int .u8 (x.sha 26), .int .u8 (x.sha 27), .int .u8 (x.sha 28), .int .u8 (x.sha 29), .int .u8 (x.sha 30), .int .u8 (x.sha 31)] 1) = some (.ok (.string ⟨x.id.toArray⟩)) := by kernel_rfl
  have p2 : pur Tryz.prog (part 3 #[.string ⟨x.name.toArray⟩, .string ⟨x.id.toArray⟩, .int .i64 x.size, .int .u8 (x.sha 0), .int .u8 (x.sha 1), .int .u8 (x.sha 2), .int .u8 (x.sha 3), .int .u8 (x.sha 4), .int .u8 (x.sha 5), .int .u8 (x.sha 6), .int .u8 (x.sha 7), .int .u8 (x.sha 8), .int .u8 (x.sha 9), .int .u8 (x.sha 10), .int .u8 (x.sha 11), .int .u8 (x.sha 12), .int .u8 (x.sha 13), .int .u8 (x.sha 14), .int .u8 (x.sha 15), .int .u8 (x.sha 16), .int .u8 (x.sha 17), .int .u8 (x.sha 18), .int .u8 (x.sha 19), .int .u8 (x.sha 20), .int .u8 (x.sha 21), .int .u8 (x.sha 22), .int .u8 (x.sha 23), .int .u8 (x.sha 24), .int .u8 (x.sha 25), .int .u8 (x.sha 26), .int .u8 (x.sha 27), .int .u8 (x.sha 28), .int .u8 (x.sha 29), .int .u8 (x.sha 30), .int .u8 (x.sha 31)] 2) = some (.ok (.int .i64 x.size)) := by kernel_rfl
  have p3 : pur Tryz.prog (part 37 #[.string ⟨x.name.toArray⟩, .string ⟨x.id.toArray⟩, .int .i64 x.size, .int .u8 (x.sha 0), .int .u8 (x.sha 1), .int .u8 (x.sha 2), .int .u8 (x.sha 3), .int .u8 (x.sha 4), .int .u8 (x.sha 5), .int .u8 (x.sha 6), .int .u8 (x.sha 7), .int .u8 (x.sha 8), .int .u8 (x.sha 9), .int .u8 (x.sha 10), .int .u8 (x.sha 11), .int .u8 (x.sha 12), .int .u8 (x.sha 13), .int .u8 (x.sha 14), .int .u8 (x.sha 15), .int .u8 (x.sha 16), .int .u8 (x.sha 17), .int .u8 (x.sha 18), .int .u8 (x.sha 19), .int .u8 (x.sha 20), .int .u8 (x.sha 21), .int .u8 (x.sha 22), .int .u8 (x.sha 23), .int .u8 (x.sha 24), .int .u8 (x.sha 25), .int .u8 (x.sha 26), .int .u8 (x.sha 27), .int .u8 (x.sha 28), .int .u8 (x.sha 29), .int .u8 (x.sha 30), .int .u8 (x.sha 31)] 3) = some (.ok (.agg #[.int .u8 (x.sha 0), .int .u8 (x.sha 1), .int .u8 (x.sha 2), .int .u8 (x.sha 3), .int .u8 (x.sha 4), .int .u8 (x.sha 5), .int .u8 (x.sha 6), .int .u8 (x.sha 7), .int .u8 (x.sha 8), .int .u8 (x.sha 9), .int .u8 (x.sha 10), .int .u8 (x.sha 11), .int .u8 (x.sha 12), .int .u8 (x.sha 13), .int .u8 (x.sha 14), .int .u8 (x.sha 15), .int .u8 (x.sha 16), .int .u8 (x.sha 17), .int .u8 (x.sha 18), .int .u8 (x.sha 19), .int .u8 (x.sha 20), .int .u8 (x.sha 21), .int .u8 (x.sha 22), .int .u8 (x.sha 23), .int .u8 (x.sha 24), .int .u8 (x.sha 25), .int .u8 (x.sha 26), .int .u8 (x.sha 27), .int .u8 (x.sha 28), .int .u8 (x.sha 29), .int .u8 (x.sha 30), .int .u8 (x.sha 31)])) := by kernel_rfl
  have q0 := fun a => pur_equalIn_str 9998 9 a Tryz.underlying9
  have q2 : ∀ y : Int, pur Tryz.prog (Op.equalIn 9999 3 (.int .i64 y) (.int .i64 y)) = some (.ok true) := fun y => by
    rw [pur_equalIn_int 9998 3 .i64 .i64 y y Tryz.underlying3]
    simp
  have q3 := pur_sha 9997 x.sha
  simp only [Op.eqFields, n0, t0, z0, p0, n1, t1, z1, p1, n2, t2, z2, p2, n3, t3, z3, p3, ne_eq, not_false_eq_true, if_true, pur_bind, q0, q2, q3, pur_ite, pur_pure, Bool.not_true, Bool.false_eq_true, if_false]
section
variable {d : Option Tmp} {ty : TypeId} {ps : String} {af : Array Edge} {g : Option (Nat × Bool)} {f : TypeId} {t : TM} {h : AH}
theorem a_neS (x : SetD) {i j : Nat} (hi : t.get i = .agg [.lit (.string ⟨x.name.toArray⟩), .lit (.string ⟨x.id.toArray⟩), .lit (.int .i64 x.size), .lit (.int .u8 (x.sha 0)), .lit (.int .u8 (x.sha 1)), .lit (.int .u8 (x.sha 2)), .lit (.int .u8 (x.sha 3)), .lit (.int .u8 (x.sha 4)), .lit (.int .u8 (x.sha 5)), .lit (.int .u8 (x.sha 6)), .lit (.int .u8 (x.sha 7)), .lit (.int .u8 (x.sha 8)), .lit (.int .u8 (x.sha 9)), .lit (.int .u8 (x.sha 10)), .lit (.int .u8 (x.sha 11)), .lit (.int .u8 (x.sha 12)), .lit (.int .u8 (x.sha 13)), .lit (.int .u8 (x.sha 14)), .lit (.int .u8 (x.sha 15)), .lit (.int .u8 (x.sha 16)), .lit (.int .u8 (x.sha 17)), .lit (.int .u8 (x.sha 18)), .lit (.int .u8 (x.sha 19)), .lit (.int .u8 (x.sha 20)), .lit (.int .u8 (x.sha 21)), .lit (.int .u8 (x.sha 22)), .lit (.int .u8 (x.sha 23)), .lit (.int .u8 (x.sha 24)), .lit (.int .u8 (x.sha 25)), .lit (.int .u8 (x.sha 26)), .lit (.int .u8 (x.sha 27)), .lit (.int .u8 (x.sha 28)), .lit (.int .u8 (x.sha 29)), .lit (.int .u8 (x.sha 30)), .lit (.int .u8 (x.sha 31))]) (hj : t.get j = .agg [.lit (.string ⟨x.name.toArray⟩), .lit (.string ⟨x.id.toArray⟩), .lit (.int .i64 x.size), .lit (.int .u8 (x.sha 0)), .lit (.int .u8 (x.sha 1)), .lit (.int .u8 (x.sha 2)), .lit (.int .u8 (x.sha 3)), .lit (.int .u8 (x.sha 4)), .lit (.int .u8 (x.sha 5)), .lit (.int .u8 (x.sha 6)), .lit (.int .u8 (x.sha 7)), .lit (.int .u8 (x.sha 8)), .lit (.int .u8 (x.sha 9)), .lit (.int .u8 (x.sha 10)), .lit (.int .u8 (x.sha 11)), .lit (.int .u8 (x.sha 12)), .lit (.int .u8 (x.sha 13)), .lit (.int .u8 (x.sha 14)), .lit (.int .u8 (x.sha 15)), .lit (.int .u8 (x.sha 16)), .lit (.int .u8 (x.sha 17)), .lit (.int .u8 (x.sha 18)), .lit (.int .u8 (x.sha 19)), .lit (.int .u8 (x.sha 20)), .lit (.int .u8 (x.sha 21)), .lit (.int .u8 (x.sha 22)), .lit (.int .u8 (x.sha 23)), .lit (.int .u8 (x.sha 24)), .lit (.int .u8 (x.sha 25)), .lit (.int .u8 (x.sha 26)), .lit (.int .u8 (x.sha 27)), .lit (.int .u8 (x.sha 28)), .lit (.int .u8 (x.sha 29)), .lit (.int .u8 (x.sha 30)), .lit (.int .u8 (x.sha 31))]) :
    aBinR Tryz.prog (tabOf Tryz.prog NT0) ⟨d, .binOp .neq 87 (.tmp i) (.tmp j) f, ty, ps, af, g⟩ t h .neq 87 (.tmp i) (.tmp j) = some (.val (.lit (.bool false)), h) := by
  show aBin Tryz.prog (tabOf Tryz.prog NT0) ⟨d, .binOp .neq 87 (.tmp i) (.tmp j) f, ty, ps, af, g⟩ t h .neq 87 (.tmp i) (.tmp j) = _
  have e1 : evalA t (.tmp i) = some (.agg [.lit (.string ⟨x.name.toArray⟩), .lit (.string ⟨x.id.toArray⟩), .lit (.int .i64 x.size), .lit (.int .u8 (x.sha 0)), .lit (.int .u8 (x.sha 1)), .lit (.int .u8 (x.sha 2)), .lit (.int .u8 (x.sha 3)), .lit (.int .u8 (x.sha 4)), .lit (.int .u8 (x.sha 5)), .lit (.int .u8 (x.sha 6)), .lit (.int .u8 (x.sha 7)), .lit (.int .u8 (x.sha 8)), .lit (.int .u8 (x.sha 9)), .lit (.int .u8 (x.sha 10)), .lit (.int .u8 (x.sha 11)), .lit (.int .u8 (x.sha 12)), .lit (.int .u8 (x.sha 13)), .lit (.int .u8 (x.sha 14)), .lit (.int .u8 (x.sha 15)), .lit (.int .u8 (x.sha 16)), .lit (.int .u8 (x.sha 17)), .lit (.int .u8 (x.sha 18)), .lit (.int .u8 (x.sha 19)), .lit (.int .u8 (x.sha 20)), .lit (.int .u8 (x.sha 21)), .lit (.int .u8 (x.sha 22)), .lit (.int .u8 (x.sha 23)), .lit (.int .u8 (x.sha 24)), .lit (.int .u8 (x.sha 25)), .lit (.int .u8 (x.sha 26)), .lit (.int .u8 (x.sha 27)), .lit (.int .u8 (x.sha 28)), .lit (.int .u8 (x.sha 29)), .lit (.int .u8 (x.sha 30)), .lit (.int .u8 (x.sha 31))]) := by rw [ev_tmp, hi]
  have e2 : evalA t (.tmp j) = some (.agg [.lit (.string ⟨x.name.toArray⟩), .lit (.string ⟨x.id.toArray⟩), .lit (.int .i64 x.size), .lit (.int .u8 (x.sha 0)), .lit (.int .u8 (x.sha 1)), .lit (.int .u8 (x.sha 2)), .lit (.int .u8 (x.sha 3)), .lit (.int .u8 (x.sha 4)), .lit (.int .u8 (x.sha 5)), .lit (.int .u8 (x.sha 6)), .lit (.int .u8 (x.sha 7)), .lit (.int .u8 (x.sha 8)), .lit (.int .u8 (x.sha 9)), .lit (.int .u8 (x.sha 10)), .lit (.int .u8 (x.sha 11)), .lit (.int .u8 (x.sha 12)), .lit (.int .u8 (x.sha 13)), .lit (.int .u8 (x.sha 14)), .lit (.int .u8 (x.sha 15)), .lit (.int .u8 (x.sha 16)), .lit (.int .u8 (x.sha 17)), .lit (.int .u8 (x.sha 18)), .lit (.int .u8 (x.sha 19)), .lit (.int .u8 (x.sha 20)), .lit (.int .u8 (x.sha 21)), .lit (.int .u8 (x.sha 22)), .lit (.int .u8 (x.sha 23)), .lit (.int .u8 (x.sha 24)), .lit (.int .u8 (x.sha 25)), .lit (.int .u8 (x.sha 26)), .lit (.int .u8 (x.sha 27)), .lit (.int .u8 (x.sha 28)), .lit (.int .u8 (x.sha 29)), .lit (.int .u8 (x.sha 30)), .lit (.int .u8 (x.sha 31))]) := by rw [ev_tmp, hj]
  have l1 : litEnv t (.tmp i) = .agg #[.string ⟨x.name.toArray⟩, .string ⟨x.id.toArray⟩, .int .i64 x.size, .int .u8 (x.sha 0), .int .u8 (x.sha 1), .int .u8 (x.sha 2), .int .u8 (x.sha 3), .int .u8 (x.sha 4), .int .u8 (x.sha 5), .int .u8 (x.sha 6), .int .u8 (x.sha 7), .int .u8 (x.sha 8), .int .u8 (x.sha 9), .int .u8 (x.sha 10), .int .u8 (x.sha 11), .int .u8 (x.sha 12), .int .u8 (x.sha 13), .int .u8 (x.sha 14), .int .u8 (x.sha 15), .int .u8 (x.sha 16), .int .u8 (x.sha 17), .int .u8 (x.sha 18), .int .u8 (x.sha 19), .int .u8 (x.sha 20), .int .u8 (x.sha 21), .int .u8 (x.sha 22), .int .u8 (x.sha 23), .int .u8 (x.sha 24), .int .u8 (x.sha 25), .int .u8 (x.sha 26), .int .u8 (x.sha 27), .int .u8 (x.sha 28), .int .u8 (x.sha 29), .int .u8 (x.sha 30), .int .u8 (x.sha 31)] := by unfold litEnv; rw [e1]; rfl
  have l2 : litEnv t (.tmp j) = .agg #[.string ⟨x.name.toArray⟩, .string ⟨x.id.toArray⟩, .int .i64 x.size, .int .u8 (x.sha 0), .int .u8 (x.sha 1), .int .u8 (x.sha 2), .int .u8 (x.sha 3), .int .u8 (x.sha 4), .int .u8 (x.sha 5), .int .u8 (x.sha 6), .int .u8 (x.sha 7), .int .u8 (x.sha 8), .int .u8 (x.sha 9), .int .u8 (x.sha 10), .int .u8 (x.sha 11), .int .u8 (x.sha 12), .int .u8 (x.sha 13), .int .u8 (x.sha 14), .int .u8 (x.sha 15), .int .u8 (x.sha 16), .int .u8 (x.sha 17), .int .u8 (x.sha 18), .int .u8 (x.sha 19), .int .u8 (x.sha 20), .int .u8 (x.sha 21), .int .u8 (x.sha 22), .int .u8 (x.sha 23), .int .u8 (x.sha 24), .int .u8 (x.sha 25), .int .u8 (x.sha 26), .int .u8 (x.sha 27), .int .u8 (x.sha 28), .int .u8 (x.sha 29), .int .u8 (x.sha 30), .int .u8 (x.sha 31)] := by unfold litEnv; rw [e2]; rfl
  have hl : litOp Tryz.prog ⟨d, .binOp .neq 87 (.tmp i) (.tmp j) f, ty, ps, af, g⟩ t = some (.val (.lit (.bool false))) := by
    unfold litOp
    rw [if_pos (by
      show (notSelect _ && litAll t [.tmp i, .tmp j]) = true
      simp only [litAll, e1, e2]
      rfl)]
    have : pur Tryz.prog (execOp (litEnv t) ⟨d, .binOp .neq 87 (.tmp i) (.tmp j) f, ty, ps, af, g⟩) = some (.ok (.value (.bool false))) := by
      show pur Tryz.prog (do pure (Next.value (← (do eqGuard .neq 87 (.tmp i) (.tmp j) (litEnv t (.tmp i)) (litEnv t (.tmp j)); binOp .neq 87 (litEnv t (.tmp i)) (litEnv t (.tmp j)))))) = _
      rw [l1, l2]
      have hg : pur Tryz.prog (eqGuard .neq 87 (.tmp i) (.tmp j) (.agg #[.string ⟨x.name.toArray⟩, .string ⟨x.id.toArray⟩, .int .i64 x.size, .int .u8 (x.sha 0), .int .u8 (x.sha 1), .int .u8 (x.sha 2), .int .u8 (x.sha 3), .int .u8 (x.sha 4), .int .u8 (x.sha 5), .int .u8 (x.sha 6), .int .u8 (x.sha 7), .int .u8 (x.sha 8), .int .u8 (x.sha 9), .int .u8 (x.sha 10), .int .u8 (x.sha 11), .int .u8 (x.sha 12), .int .u8 (x.sha 13), .int .u8 (x.sha 14), .int .u8 (x.sha 15), .int .u8 (x.sha 16), .int .u8 (x.sha 17), .int .u8 (x.sha 18), .int .u8 (x.sha 19), .int .u8 (x.sha 20), .int .u8 (x.sha 21), .int .u8 (x.sha 22), .int .u8 (x.sha 23), .int .u8 (x.sha 24), .int .u8 (x.sha 25), .int .u8 (x.sha 26), .int .u8 (x.sha 27), .int .u8 (x.sha 28), .int .u8 (x.sha 29), .int .u8 (x.sha 30), .int .u8 (x.sha 31)]) (.agg #[.string ⟨x.name.toArray⟩, .string ⟨x.id.toArray⟩, .int .i64 x.size, .int .u8 (x.sha 0), .int .u8 (x.sha 1), .int .u8 (x.sha 2), .int .u8 (x.sha 3), .int .u8 (x.sha 4), .int .u8 (x.sha 5), .int .u8 (x.sha 6), .int .u8 (x.sha 7), .int .u8 (x.sha 8), .int .u8 (x.sha 9), .int .u8 (x.sha 10), .int .u8 (x.sha 11), .int .u8 (x.sha 12), .int .u8 (x.sha 13), .int .u8 (x.sha 14), .int .u8 (x.sha 15), .int .u8 (x.sha 16), .int .u8 (x.sha 17), .int .u8 (x.sha 18), .int .u8 (x.sha 19), .int .u8 (x.sha 20), .int .u8 (x.sha 21), .int .u8 (x.sha 22), .int .u8 (x.sha 23), .int .u8 (x.sha 24), .int .u8 (x.sha 25), .int .u8 (x.sha 26), .int .u8 (x.sha 27), .int .u8 (x.sha 28), .int .u8 (x.sha 29), .int .u8 (x.sha 30), .int .u8 (x.sha 31)])) = some (.ok ()) := by
        have hm : Tryz.prog.eqGuardType Tryz.prog.depth 87 = false := by kernel_rfl
        simp [eqGuard, pur_bind, pur_program, hm, pur_pure]
      have hb : pur Tryz.prog (binOp .neq 87 (.agg #[.string ⟨x.name.toArray⟩, .string ⟨x.id.toArray⟩, .int .i64 x.size, .int .u8 (x.sha 0), .int .u8 (x.sha 1), .int .u8 (x.sha 2), .int .u8 (x.sha 3), .int .u8 (x.sha 4), .int .u8 (x.sha 5), .int .u8 (x.sha 6), .int .u8 (x.sha 7), .int .u8 (x.sha 8), .int .u8 (x.sha 9), .int .u8 (x.sha 10), .int .u8 (x.sha 11), .int .u8 (x.sha 12), .int .u8 (x.sha 13), .int .u8 (x.sha 14), .int .u8 (x.sha 15), .int .u8 (x.sha 16), .int .u8 (x.sha 17), .int .u8 (x.sha 18), .int .u8 (x.sha 19), .int .u8 (x.sha 20), .int .u8 (x.sha 21), .int .u8 (x.sha 22), .int .u8 (x.sha 23), .int .u8 (x.sha 24), .int .u8 (x.sha 25), .int .u8 (x.sha 26), .int .u8 (x.sha 27), .int .u8 (x.sha 28), .int .u8 (x.sha 29), .int .u8 (x.sha 30), .int .u8 (x.sha 31)]) (.agg #[.string ⟨x.name.toArray⟩, .string ⟨x.id.toArray⟩, .int .i64 x.size, .int .u8 (x.sha 0), .int .u8 (x.sha 1), .int .u8 (x.sha 2), .int .u8 (x.sha 3), .int .u8 (x.sha 4), .int .u8 (x.sha 5), .int .u8 (x.sha 6), .int .u8 (x.sha 7), .int .u8 (x.sha 8), .int .u8 (x.sha 9), .int .u8 (x.sha 10), .int .u8 (x.sha 11), .int .u8 (x.sha 12), .int .u8 (x.sha 13), .int .u8 (x.sha 14), .int .u8 (x.sha 15), .int .u8 (x.sha 16), .int .u8 (x.sha 17), .int .u8 (x.sha 18), .int .u8 (x.sha 19), .int .u8 (x.sha 20), .int .u8 (x.sha 21), .int .u8 (x.sha 22), .int .u8 (x.sha 23), .int .u8 (x.sha 24), .int .u8 (x.sha 25), .int .u8 (x.sha 26), .int .u8 (x.sha 27), .int .u8 (x.sha 28), .int .u8 (x.sha 29), .int .u8 (x.sha 30), .int .u8 (x.sha 31)])) = some (.ok (.bool false)) := by
        show pur Tryz.prog (do pure (Value.bool (!(← Op.equal 87 (.agg #[.string ⟨x.name.toArray⟩, .string ⟨x.id.toArray⟩, .int .i64 x.size, .int .u8 (x.sha 0), .int .u8 (x.sha 1), .int .u8 (x.sha 2), .int .u8 (x.sha 3), .int .u8 (x.sha 4), .int .u8 (x.sha 5), .int .u8 (x.sha 6), .int .u8 (x.sha 7), .int .u8 (x.sha 8), .int .u8 (x.sha 9), .int .u8 (x.sha 10), .int .u8 (x.sha 11), .int .u8 (x.sha 12), .int .u8 (x.sha 13), .int .u8 (x.sha 14), .int .u8 (x.sha 15), .int .u8 (x.sha 16), .int .u8 (x.sha 17), .int .u8 (x.sha 18), .int .u8 (x.sha 19), .int .u8 (x.sha 20), .int .u8 (x.sha 21), .int .u8 (x.sha 22), .int .u8 (x.sha 23), .int .u8 (x.sha 24), .int .u8 (x.sha 25), .int .u8 (x.sha 26), .int .u8 (x.sha 27), .int .u8 (x.sha 28), .int .u8 (x.sha 29), .int .u8 (x.sha 30), .int .u8 (x.sha 31)]) (.agg #[.string ⟨x.name.toArray⟩, .string ⟨x.id.toArray⟩, .int .i64 x.size, .int .u8 (x.sha 0), .int .u8 (x.sha 1), .int .u8 (x.sha 2), .int .u8 (x.sha 3), .int .u8 (x.sha 4), .int .u8 (x.sha 5), .int .u8 (x.sha 6), .int .u8 (x.sha 7), .int .u8 (x.sha 8), .int .u8 (x.sha 9), .int .u8 (x.sha 10), .int .u8 (x.sha 11), .int .u8 (x.sha 12), .int .u8 (x.sha 13), .int .u8 (x.sha 14), .int .u8 (x.sha 15), .int .u8 (x.sha 16), .int .u8 (x.sha 17), .int .u8 (x.sha 18), .int .u8 (x.sha 19), .int .u8 (x.sha 20), .int .u8 (x.sha 21), .int .u8 (x.sha 22), .int .u8 (x.sha 23), .int .u8 (x.sha 24), .int .u8 (x.sha 25), .int .u8 (x.sha 26), .int .u8 (x.sha 27), .int .u8 (x.sha 28), .int .u8 (x.sha 29), .int .u8 (x.sha 30), .int .u8 (x.sha 31)]))))) = _
        simp only [pur_bind, pur_set, pur_pure]
        try rfl
      simp only [pur_bind, hg, hb, pur_pure]
    rw [this]
    rfl
  unfold aBin
  rw [e1, e2]
  show orLit _ _ _ _ _ = _
  unfold orLit
  rw [hl]
end
end Go.Proofs.YtjicijhakcmifaaGreatDoor.Ex
end

section

set_option linter.unusedSimpArgs false
set_option linter.unusedVariables false
set_option maxRecDepth 10000
set_option maxHeartbeats 4000000
namespace Go.Proofs.YtjicijhakcmifaaGreatDoor.Ex
open Go
theorem ownx_nil {α : Type} {R : Rep α} {cf : α → List AV} {z : Nat} {h : AH} {v : AV} {e : TypeId} {xs : List α} {T : TT} {F : Nat → Prop} {zv : AV} {t : TypeId} {by' : Nat} (hR : FlatK R cf z) (hu : und T t = some (.slice e)) (hz : sizeT T e = some z) (hzv : zeroT T e = some zv) (hb : bytesT T e = some by')
    (hzl : zv.cells.length = z) (h200 : z ≤ 200) (hv : IsSl R F h v xs) (hn : xs.length ≤ 4611686018427387904) (hl : xs.length * by' ≤ 140737488355328) :
    ∃ s' h', appendA T h t t (.lit (.slice none 0 0)) v = some (s', h') ∧ OwnX cf z h.n h' s' e xs ∧ Ext h.n h h' := by
  obtain ⟨L, h1, h2, h3, h4⟩ := hv.out
  have e0 := h4.1
  have hL : L = xs.map cf := by
    refine List.ext_getElem? fun i => ?_
    rw [List.getElem?_map]
    cases hx : xs[i]? with
    | none => rw [List.getElem?_eq_none_iff] at hx; rw [Option.map_none, List.getElem?_eq_none_iff]; omega
    | some x =>
      have hi := (List.getElem?_eq_some_iff.1 hx).1
      have := h4.2 i L[i] x (List.getElem?_eq_getElem (by omega)) hx
      rw [List.getElem?_eq_getElem (by omega), (hR.is _ _ _ _).1 this]
      rfl
  have hown : Own h.n h (.lit (.slice none 0 0)) z e [] := ⟨fun x hx => (by cases hx), .inl ⟨rfl, rfl⟩⟩
  obtain ⟨s', h', ha, ho, he, -⟩ := append_own (T := T) (h := h) (t := t) (tx := t) (e := e) (L := []) (M := L) (x := v) hu hu hz hzv hb hzl hR.z0 h200 hown (by have := h1.src; rw [hR.hz] at this; exact this) h1.len (fun c hc => by have := h4.lens c hc; rw [hR.hz] at this; exact this) h4.ones (by rw [List.length_nil]; omega) (by rw [List.length_nil, Nat.zero_add, e0]; exact hl) (Nat.le_refl _)
  refine ⟨s', h', ha, ?_, he⟩
  rw [List.nil_append] at ho
  rcases ho.2 with ⟨h5, h6⟩ | ⟨p, h5, h6, h7⟩
  · exact .inl ⟨h5, List.eq_nil_of_length_eq_zero (by rw [← e0, h6]; rfl)⟩
  · exact .inr (.inr ⟨p, [], h6, by rw [h5, e0], by rw [List.append_nil, h7, hL, List.flatMap_def]⟩)
theorem plain_x {F : Nat → Prop} {H : AH} {vl vo : AV} {r : RootD} (hl : IsSl RSet F H vl r.live) (ho : IsSl RTx F H vo r.ops) (nl : r.live.length ≤ 1000000000000) (no : r.ops.length ≤ 1000000000000) :
    WC Tryz.prog (tabOf Tryz.prog NT0) S0 13 [.agg [vl, vo]] H fun v h' => Ext H.n H h' ∧ OwnQ 87 H.n h' v r := by
  refine WC_fn Tryz.func13 rfl rfl ?_
  have l1 := hl.one
  have l2 := hl.isSl
  have l3 := hl.lenD
  have o1 := ho.one
  have o2 := ho.isSl
  obtain ⟨m, hM⟩ : ∃ m, m = r.live.length := ⟨_, rfl⟩
  rw [← hM] at l3
  obtain ⟨hp, hhp⟩ : ∃ hp, hp = H.push (.cells [vl, vo] 27) := ⟨_, rfl⟩
  have EP : Ext H.n H hp := hhp ▸ (Ext.refl _ _).push _ (Nat.le_refl _)
  have nP : hp.n = H.n + 1 := by rw [hhp, n_push]
  have P0 : hp.at H.n = some (.cells [vl, vo] 27) := hhp ▸ at_push_n _ _
  obtain ⟨hq, hhq⟩ : ∃ hq, hq = hp.push (.cells [.lit (.slice none 0 0), .lit (.slice none 0 0)] 49) := ⟨_, rfl⟩
  have EQ : Ext hp.n hp hq := hhq ▸ (Ext.refl _ _).push _ (Nat.le_refl _)
  have nQ : hq.n = H.n + 2 := by rw [hhq, n_push, nP]
  have Q0 : hq.at hp.n = some (.cells [.lit (.slice none 0 0), .lit (.slice none 0 0)] 49) := hhq ▸ at_push_n _ _
  obtain ⟨hs, hhs⟩ : ∃ hs, hs = hq.push (.cells [.lit (.slice none 0 0), .lit (.slice none 0 0)] 49) := ⟨_, rfl⟩
  have ES : Ext hq.n hq hs := hhs ▸ (Ext.refl _ _).push _ (Nat.le_refl _)
  have nS : hs.n = H.n + 3 := by rw [hhs, n_push, nQ]
  have S0 : hs.at hq.n = some (.cells [.lit (.slice none 0 0), .lit (.slice none 0 0)] 49) := hhs ▸ at_push_n _ _
  have P2 := (ES.2 _ (by omega)).trans ((EQ.2 _ (at_lt P0)).trans P0)
  have Q2 := (ES.2 _ (at_lt Q0)).trans Q0
  have E0 := EP.trans ((EQ.trans (ES.mono EQ.1)).mono EP.1)
  have LP := ld_at (T := tabOf Tryz.prog NT0) P2
  have lP := at_lt P2
  simp only [core, zrA, zrS, zrM, zrL, zrE, reduceCtorEq, zrD, ziE, ziL, ziN, Tryz.ntmps13, l1, l2, l3, o1, o2, ← hhp, ← hhq, ← hhs, LP, lP]
  refine WB_for m (fun i t h => Ext hq.n hs h ∧ ∃ u, h.at hq.n = some (.cells [u, .lit (.slice none 0 0)] 49) ∧ OwnX setC 35 (hq.n + 1) h u 87 (r.live.take i) ∧ t.n = 35 ∧ t.get 1 = .ptr H.n 0 ∧ t.get 2 = .ptr hp.n 0 ∧ t.get 3 = .ptr hq.n 0 ∧ t.get 7 = vl ∧ t.get 8 = .lit (.int .i64 m) ∧ t.get 9 = .lit (.int .i64 i)) ?_ ?_ _ _ ?_
  · rintro i t h hlt hc2 ⟨E, u, B, ou, hn, g1, g2, g3, g7, g8, g9⟩ ih
    have hwi := wrap_succ (n := m) hlt (by omega)
    obtain ⟨x, hx⟩ : ∃ x, r.live[i]? = some x := ⟨_, List.getElem?_eq_getElem (by omega)⟩
    have EH : Ext H.n H h := E0.trans (E.mono (by omega))
    obtain ⟨cc, hc1, hld, hld0⟩ := hl.atE (T := tabOf Tryz.prog NT0) EH RSet_z hx
    obtain rfl := RSet_is.1 hc1
    obtain ⟨hA, hhA⟩ : ∃ hA, hA = h.push (.cells (setC x) 39) := ⟨_, rfl⟩
    have eA : Ext h.n h hA := hhA ▸ (Ext.refl _ _).push _ (Nat.le_refl _)
    have XA : hA.at h.n = some (.cells (setC x) 39) := hhA ▸ at_push_n _ _
    have lB := at_lt B
    have mA := eA.1
    have EA := E.trans (eA.mono (by omega))
    have BA := (eA.2 _ lB).trans B
    have oA := ou.ext eA (Nat.le_refl _)
    have LXA := ld_at (T := tabOf Tryz.prog NT0) XA
    have lXA := at_lt XA
    have LBA := ld_at (T := tabOf Tryz.prog NT0) BA
    have lBA := at_lt BA
    have u1 := ou.one
    have u2 := ou.isSl
    have htk : r.live.take (i + 1) = r.live.take i ++ [x] := by
      obtain ⟨h1, h2⟩ := List.getElem?_eq_some_iff.1 hx
      rw [List.take_succ_eq_append_getElem h1, h2]
    have e5 : Ext hA.n hA (hA.push (.cells (setC x) 87)) := (Ext.refl _ _).push _ (Nat.le_refl _)
    have hsn := fun cap => snocS (cap := cap) (x := x) (oA.ext e5 (Nat.le_refl _)) (by rw [n_push]; omega) (at_push_n hA _) (by rw [List.length_take]; omega)
    have B5' := (e5.2 _ lBA).trans BA
    unfold setC at hhA XA hld hld0 LXA hsn e5 B5'
    simp only [core, zrA, zrS, zrM, zrL, zrE, reduceCtorEq, zrD, ziE, ziL, ziN, hn, g1, g2, g3, g7, g8, g9, hlt, hc2, l1, l2, l3, hld, hld0, ← hhA, LXA, lXA, LBA, lBA, u1, u2]
    refine WOp_app (hsn _) ?_
    rintro s6 h6 ⟨o6, e6⟩
    have u6 := o6.one
    have u7 := o6.isSl
    have B6 := (e6.2 hq.n (by omega)).trans B5'
    have lB6 := at_lt B6
    have e56 : Ext hq.n hs h6 := EA.trans ((e5.mono (by omega)).trans (e6.mono (Nat.le_succ _)))
    simp only [core, zrA, zrS, zrM, zrL, zrE, reduceCtorEq, zrD, ziE, ziL, ziN, hn, g1, g2, g3, g7, g8, g9, u6, u7, hwi, B6, lB6]
    refine ih _ _ ⟨e56.put _ (Nat.le_refl _), s6, at_put_same _ lB6, by rw [htk]; exact o6.putLt (Nat.lt_succ_self _), ?_⟩
    simp only [core, zrA, zrS, zrM, zrL, zrE, reduceCtorEq, zrD, ziE, ziL, ziN, hn, g1, g2, g3, g7, g8, g9]
  · rintro t h hc2 ⟨E, u, B, ou, hn, g1, g2, g3, g7, g8, g9⟩
    rw [hM, List.take_length] at ou
    have EH : Ext H.n H h := E0.trans (E.mono (by omega))
    have PH := (E.2 _ (by omega)).trans P2
    have QH := (E.2 _ (by omega)).trans Q2
    have LB := ld_at (T := tabOf Tryz.prog NT0) B
    have lB := at_lt B
    have LPH := ld_at (T := tabOf Tryz.prog NT0) PH
    have lPH := at_lt PH
    have u1 := ou.one
    have u2 := ou.isSl
    simp only [core, zrA, zrS, zrM, zrL, zrE, reduceCtorEq, zrD, ziE, ziL, ziN, hn, g1, g2, g3, g7, g8, g9, hc2, LB, lB, LPH, lPH, u1, u2, o1, o2]
    refine WOp_app (ownx_nil (e := 9) flatTx (by kernel_rfl) (by kernel_rfl) (zv := .lit (.string ⟨#[]⟩)) (by kernel_rfl) (by' := 16) (by kernel_rfl) rfl (by decide) (ho.ext EH (Nat.le_refl _)) (by omega) (by omega)) ?_
    rintro w h6 ⟨ow, e6⟩
    have B6 := (e6.2 _ lB).trans B
    have Q6 := (e6.2 _ (at_lt QH)).trans QH
    have m6 := e6.1
    have lB6 := at_lt B6
    have w1 := ow.one
    have w2 := ow.isSl
    obtain ⟨h7, hh7⟩ : ∃ h7, h7 = h6.put hq.n (.cells [u, w] 49) := ⟨_, rfl⟩
    have E7 : Ext H.n H h7 := hh7 ▸ (EH.trans (e6.mono EH.1)).put _ (by omega)
    have B7 : h7.at hq.n = some (.cells [u, w] 49) := hh7 ▸ at_put_same _ lB6
    have Q7 : h7.at hp.n = _ := (hh7 ▸ at_put_ne _ (by omega) : h7.at hp.n = h6.at hp.n).trans Q6
    have LB7 := ld_at (T := tabOf Tryz.prog NT0) B7
    have lB7 := at_lt B7
    have lQ7 := at_lt Q7
    obtain ⟨h8, hh8⟩ : ∃ h8, h8 = h7.put hp.n (.cells [u, w] 49) := ⟨_, rfl⟩
    have E8 : Ext H.n H h8 := hh8 ▸ E7.put _ (by omega)
    have Q8 : h8.at hp.n = some (.cells [u, w] 49) := hh8 ▸ at_put_same _ lQ7
    have LQ8 := ld_at (T := tabOf Tryz.prog NT0) Q8
    have lQ8 := at_lt Q8
    simp only [core, zrA, zrS, zrM, zrL, zrE, reduceCtorEq, zrD, ziE, ziL, ziN, hn, g1, g2, g3, g7, g8, g9, w1, w2, u1, u2, B6, lB6, ← hh7, LB7, lB7, Q7, lQ7, ← hh8, LQ8, lQ8]
    exact ⟨E8, u, w, rfl, (hh8 ▸ (hh7 ▸ (ou.ext e6 (Nat.le_refl _)).putLt (by omega) : OwnX setC 35 (hq.n + 1) h7 u 87 r.live).putLt (by omega) : OwnX setC 35 (hq.n + 1) h8 u 87 r.live).mono (by omega),
      (hh8 ▸ (hh7 ▸ ow.putLt lB : OwnX txC 1 h.n h7 w 9 r.ops).putLt (by omega) : OwnX txC 1 h.n h8 w 9 r.ops).mono (by omega)⟩
  · refine ⟨Ext.refl _ _, _, S0, .inl ⟨rfl, by simp⟩, ?_⟩
    simp only [core, zrA, zrS, zrM, zrL, zrE, reduceCtorEq, zrD, ziE, ziL, ziN]
    try ((repeat' apply And.intro) <;> first | rfl | trivial)
theorem Same_x {F G : Nat → Prop} {H : AH} {va wa vb wb : AV} {r : RootD} (hla : IsSl RSet F H va r.live) (hoa : IsSl RTx F H wa r.ops) (hlb : IsSl RSet G H vb r.live) (hob : IsSl RTx G H wb r.ops) (nl : r.live.length ≤ 1000000000000) (no : r.ops.length ≤ 1000000000000) :
    WC Tryz.prog (tabOf Tryz.prog NT0) S0 38 [.agg [va, wa], .agg [vb, wb]] H fun v h' => Ext H.n H h' ∧ v = .lit (.bool true) := by
  refine WC_fn Tryz.func38 rfl rfl ?_
  have a1 := hla.one
  have a2 := hla.isSl
  have a3 := hla.lenD
  have b1 := hlb.one
  have b2 := hlb.isSl
  have b3 := hlb.lenD
  have c1 := hoa.one
  have c2 := hoa.isSl
  have d1 := hob.one
  have d2 := hob.isSl
  obtain ⟨m, hM⟩ : ∃ m, m = r.live.length := ⟨_, rfl⟩
  rw [← hM] at a3 b3
  obtain ⟨hp, hhp⟩ : ∃ hp, hp = H.push (.cells [va, wa] 49) := ⟨_, rfl⟩
  have EP : Ext H.n H hp := hhp ▸ (Ext.refl _ _).push _ (Nat.le_refl _)
  have nP : hp.n = H.n + 1 := by rw [hhp, n_push]
  have P0 : hp.at H.n = some (.cells [va, wa] 49) := hhp ▸ at_push_n _ _
  obtain ⟨hq, hhq⟩ : ∃ hq, hq = hp.push (.cells [vb, wb] 49) := ⟨_, rfl⟩
  have EQ : Ext hp.n hp hq := hhq ▸ (Ext.refl _ _).push _ (Nat.le_refl _)
  have Q0 : hq.at hp.n = some (.cells [vb, wb] 49) := hhq ▸ at_push_n _ _
  have P1 := (EQ.2 _ (at_lt P0)).trans P0
  have E0 := EP.trans (EQ.mono EP.1)
  have LP := ld_at (T := tabOf Tryz.prog NT0) P1
  have lP := at_lt P1
  have LQ := ld_at (T := tabOf Tryz.prog NT0) Q0
  have lQ := at_lt Q0
  have hmm : ((m : Int) != (m : Int)) = false := by simp
  simp only [core, zrA, zrS, zrM, zrL, zrE, reduceCtorEq, zrD, ziE, ziL, ziN, Tryz.ntmps38, a1, a2, a3, b1, b2, b3, c1, c2, d1, d2, ← hhp, ← hhq, LP, lP, LQ, lQ, hmm, aundef]
  refine (texts_x (hoa.ext E0 (Nat.le_refl _)) (hob.ext E0 (Nat.le_refl _)) (by omega)).mono ?_
  rintro _ h2 ⟨rfl, q5⟩
  replace q5 := q5.symm
  subst q5
  simp only [core, zrA, zrS, zrM, zrL, zrE, reduceCtorEq, zrD, ziE, ziL, ziN, aundef, a1, a2, a3, b1, b2, b3, c1, c2, d1, d2, LP, lP, LQ, lQ]
  refine WB_for m (fun i t h => Ext hq.n hq h ∧ t.n = 39 ∧ t.get 2 = .ptr H.n 0 ∧ t.get 3 = .ptr hp.n 0 ∧ t.get 23 = .lit (.int .i64 m) ∧ t.get 24 = .lit (.int .i64 i)) ?_ ?_ _ _ ?_
  · rintro i t h hlt hc2 ⟨E, hn, g2, g3, g23, g24⟩ ih
    have hwi := wrap_succ (n := m) hlt (by omega)
    obtain ⟨x, hx⟩ : ∃ x, r.live[i]? = some x := ⟨_, List.getElem?_eq_getElem (by omega)⟩
    have EH := E0.trans (E.mono E0.1)
    have PH := (E.2 _ lP).trans P1
    have QH := (E.2 _ lQ).trans Q0
    have LPH := ld_at (T := tabOf Tryz.prog NT0) PH
    have lPH := at_lt PH
    have LQH := ld_at (T := tabOf Tryz.prog NT0) QH
    have lQH := at_lt QH
    have ld : ∀ {F : Nat → Prop} {v : AV}, IsSl RSet F H v r.live → loadA (tabOf Tryz.prog NT0) h 87 (slB v) (slO v + i * 35) = some (.agg (setC x)) := fun {F v} hv => by
      obtain ⟨cc, hc1, hld, hld0⟩ := hv.atE (T := tabOf Tryz.prog NT0) EH RSet_z hx
      obtain rfl := RSet_is.1 hc1
      exact (hld0 87 35 (by kernel_rfl) (by decide) (by decide)).trans rfl
    have la := ld hla
    have lb := ld hlb
    unfold setC at la lb
    simp only [core, zrA, zrS, zrM, zrL, zrE, reduceCtorEq, zrD, ziE, ziL, ziN, hn, g2, g3, g23, g24, hlt, hc2]
    rw [WB_regionD [0, 1, 2, 3, 4, 5, 6, 7, 8, 9, 10] 1328234227038981502217834417061103616 (by kernel_rfl)]
    repeat (first | ((with_reducible refine WDM_cons ?_; simp only [dw1]; try simp only [dw2, zrA, zrM, zrR, zrO, zrE]); simp only [core, zrA, zrS, zrM, zrL, zrE, reduceCtorEq, zrD, ziE, ziL, ziN, cored, hn, g2, g3, g23, g24, hlt, a1, a2, a3, b1, b2, b3, LPH, lPH, LQH, lQH, la, lb, a_neS x, hwi]) | simp only [core, zrA, zrS, zrM, zrL, zrE, reduceCtorEq, zrD, ziE, ziL, ziN, cored, hn, g2, g3, g23, g24, hlt, a1, a2, a3, b1, b2, b3, LPH, lPH, LQH, lQH, la, lb, a_neS x, hwi])
    refine ih _ _ ⟨E, ?_⟩
    simp only [core, zrA, zrS, zrM, zrL, zrE, reduceCtorEq, zrD, ziE, ziL, ziN, hn, g2, g3, g23, g24]
  · rintro t h hc2 ⟨E, hn, g2, g3, g23, g24⟩
    simp only [core, zrA, zrS, zrM, zrL, zrE, reduceCtorEq, zrD, ziE, ziL, ziN, hn, g2, g3, g23, g24, hc2]
    first | exact ⟨E0.trans (E.mono E0.1), rfl⟩ | exact E0.trans (E.mono E0.1)
  · refine ⟨Ext.refl _ _, ?_⟩
    simp only [core, zrA, zrS, zrM, zrL, zrE, reduceCtorEq, zrD, ziE, ziL, ziN]
    try ((repeat' apply And.intro) <;> first | rfl | trivial)
end Go.Proofs.YtjicijhakcmifaaGreatDoor.Ex
end

section

set_option linter.unusedSimpArgs false
set_option linter.unusedVariables false
set_option maxRecDepth 10000
set_option maxHeartbeats 8000000
namespace Go.Proofs.YtjicijhakcmifaaGreatDoor.Ex
open Go
theorem same25_x {F G : Nat → Prop} {H : AH} {va wa vb wb : AV} {r : RootD} (hla : IsSl RSet F H va r.live) (hoa : IsSl RTx F H wa r.ops) (hlb : IsSl RSet G H vb r.live) (hob : IsSl RTx G H wb r.ops) (nl : r.live.length ≤ 1000000000000) (no : r.ops.length ≤ 1000000000000) :
    WC Tryz.prog (tabOf Tryz.prog NT0) S0 12 [.agg [va, wa], .agg [vb, wb]] H fun v h' => Ext H.n H h' ∧ v = .lit (.bool true) := by
  refine WC_fn Tryz.func12 rfl rfl ?_
  have a1 := hla.one
  have a2 := hla.isSl
  have b1 := hlb.one
  have b2 := hlb.isSl
  have c1 := hoa.one
  have c2 := hoa.isSl
  have d1 := hob.one
  have d2 := hob.isSl
  obtain ⟨hp, hhp⟩ : ∃ hp, hp = H.push (.cells [va, wa] 27) := ⟨_, rfl⟩
  have EP : Ext H.n H hp := hhp ▸ (Ext.refl _ _).push _ (Nat.le_refl _)
  have P0 : hp.at H.n = some (.cells [va, wa] 27) := hhp ▸ at_push_n _ _
  obtain ⟨hq, hhq⟩ : ∃ hq, hq = hp.push (.cells [vb, wb] 49) := ⟨_, rfl⟩
  have EQ : Ext hp.n hp hq := hhq ▸ (Ext.refl _ _).push _ (Nat.le_refl _)
  have Q0 : hq.at hp.n = some (.cells [vb, wb] 49) := hhq ▸ at_push_n _ _
  have P1 := (EQ.2 _ (at_lt P0)).trans P0
  have E0 := EP.trans (EQ.mono EP.1)
  have LP := ld_at (T := tabOf Tryz.prog NT0) P1
  have lP := at_lt P1
  have LQ := ld_at (T := tabOf Tryz.prog NT0) Q0
  have lQ := at_lt Q0
  simp only [core, zrA, zrS, zrM, zrL, zrE, reduceCtorEq, zrD, ziE, ziL, ziN, Tryz.ntmps12, a1, a2, b1, b2, c1, c2, d1, d2, ← hhp, ← hhq, LP, lP, LQ, lQ]
  rw [WB_regionD [0, 2, 1, 3, 4] 15958048 (by kernel_rfl)]
  repeat (first | ((with_reducible refine WDM_cons ?_; simp only [dw1]; try simp only [dw2, zrA, zrM, zrR, zrO, zrE]); simp only [core, zrA, zrS, zrM, zrL, zrE, reduceCtorEq, zrD, ziE, ziL, ziN, cored, a1, a2, b1, b2, c1, c2, d1, d2, LP, lP, LQ, lQ]) | simp only [core, zrA, zrS, zrM, zrL, zrE, reduceCtorEq, zrD, ziE, ziL, ziN, cored, a1, a2, b1, b2, c1, c2, d1, d2, LP, lP, LQ, lQ])
  refine (plain_x (hla.ext E0 (Nat.le_refl _)) (hoa.ext E0 (Nat.le_refl _)) nl no).mono ?_
  rintro _ h2 ⟨E2, u, w, rfl, ou, ow⟩
  have E02 := E0.trans (E2.mono E0.1)
  have Q2 := (E2.2 _ lQ).trans Q0
  have LQ2 := ld_at (T := tabOf Tryz.prog NT0) Q2
  have lQ2 := at_lt Q2
  have u1 := ou.one
  have u2 := ou.isSl
  have w1 := ow.one
  have w2 := ow.isSl
  repeat (first | ((with_reducible refine WDM_cons ?_; simp only [dw1]; try simp only [dw2, zrA, zrM, zrR, zrO, zrE]); simp only [core, zrA, zrS, zrM, zrL, zrE, reduceCtorEq, zrD, ziE, ziL, ziN, cored, u1, u2, w1, w2, b1, b2, d1, d2, LQ2, lQ2]) | simp only [core, zrA, zrS, zrM, zrL, zrE, reduceCtorEq, zrD, ziE, ziL, ziN, cored, u1, u2, w1, w2, b1, b2, d1, d2, LQ2, lQ2])
  refine (Same_x (F := fun _ => True) (ou.toSl flatSet fun _ _ => trivial) (ow.toSl flatTx fun _ _ => trivial) (hlb.ext E02 (Nat.le_refl _)) (hob.ext E02 (Nat.le_refl _)) nl no).mono ?_
  rintro _ h3 ⟨E3, rfl⟩
  have E03 := E02.trans (E3.mono E02.1)
  repeat (first | ((with_reducible refine WDM_cons ?_; simp only [dw1]; try simp only [dw2, zrA, zrM, zrR, zrO, zrE]); simp only [core, zrA, zrS, zrM, zrL, zrE, reduceCtorEq, zrD, ziE, ziL, ziN, cored]) | simp only [core, zrA, zrS, zrM, zrL, zrE, reduceCtorEq, zrD, ziE, ziL, ziN, cored])
  first | exact ⟨E03, rfl⟩ | exact E03
end Go.Proofs.YtjicijhakcmifaaGreatDoor.Ex
end

section

set_option linter.unusedSimpArgs false
set_option linter.unusedVariables false
set_option maxRecDepth 10000
set_option maxHeartbeats 8000000
namespace Go.Proofs.YtjicijhakcmifaaGreatDoor.Ex
open Go
theorem idK_all : ∀ k < 30, (idK k).length ≤ 6 ∧ (10 : UInt8) ∉ idK k ∧ (32 : UInt8) ∉ idK k := by decide +kernel
theorem n4_all : ∀ n ∈ names4, (10 : UInt8) ∉ n ∧ (32 : UInt8) ∉ n := by decide
theorem Gr.pr {i : Nat} {r : RootD} {ps} (h : Gr i r ps) (hi : i ≤ 100) : Pr r :=
  ⟨h.right.nO, h.right.nL, fun x hx => by obtain ⟨k, hk, rfl⟩ := h.io x hx; have := (idK_all k hk).1; omega, fun s hs => by
    obtain ⟨⟨k, hk, e⟩, h2, h3, h4, h5⟩ := h.il s hs
    have := (idK_all k hk).1
    have := len4 _ h2
    refine ⟨by rw [e]; omega, by omega, h3, h4, by omega⟩⟩
theorem Gr.tx {i : Nat} {r : RootD} {ps} (h : Gr i r ps) : Tx r :=
  ⟨fun x hx => by obtain ⟨k, hk, rfl⟩ := h.io x hx; exact (idK_all k hk).2, fun s hs => by
    obtain ⟨⟨k, hk, e⟩, h2, -⟩ := h.il s hs
    rw [e]
    exact ⟨(idK_all k hk).2, n4_all _ h2⟩⟩
theorem Gr.rlen {i : Nat} {r : RootD} {ps} (h : Gr i r ps) : RLen r :=
  ⟨fun x hx => by obtain ⟨k, hk, rfl⟩ := h.io x hx; have := (idK_all k hk).1; omega, fun s hs => by
    obtain ⟨⟨k, hk, e⟩, h2, h3, h4, h5⟩ := h.il s hs
    have := (idK_all k hk).1
    have := len4 _ h2
    exact ⟨by rw [e]; omega, by omega⟩⟩
theorem Gr.plen {i : Nat} {r : RootD} {ps} (h : Gr i r ps) (hi : i ≤ 100) : (printF r).length ≤ 4000 := by
  have h1 := h.right.nO
  have h2 := h.live4
  have hz : z64.length = 64 := by unfold z64; rw [List.length_replicate]
  refine Nat.le_trans (catL_len (k := 100) fun l hl => ?_) (Nat.le_trans (Nat.mul_le_mul_right _ (show (linesF r).length ≤ 21 by unfold linesF; rw [List.length_cons, List.length_append, List.length_map, List.length_map]; omega)) (by decide))
  rcases List.mem_cons.1 hl with rfl | hl
  · simp
  rcases List.mem_append.1 hl with hl | hl
  · obtain ⟨x, hx, rfl⟩ := List.mem_map.1 hl
    obtain ⟨k, hk, rfl⟩ := h.io x hx
    have := (idK_all k hk).1
    unfold lnO
    rw [List.length_append]
    simp only [List.length_cons, List.length_nil]
    omega
  · obtain ⟨s, hs, rfl⟩ := List.mem_map.1 hl
    obtain ⟨⟨k, hk, e⟩, h2, h3, h4, h5⟩ := h.il s hs
    have := (idK_all k hk).1
    have := len4 _ h2
    have := itoa_len h4 (by omega)
    rw [lnS_eq]
    simp only [List.length_append, List.length_cons, List.length_nil]
    rw [e]
    omega
/- Three numbers. -/
def R3 : Rep (Int × Int × Int) := RMap id (RPair RInt (RPair RInt RInt))
theorem R3_z : R3.z = 3 := rfl
theorem R3_is {F : Nat → Prop} {h : AH} {c : List AV} {x : Int × Int × Int} (hc : R3.is F h c x) : c = [.lit (.int .i64 x.1), .lit (.int .i64 x.2.1), .lit (.int .i64 x.2.2)] := by
  obtain ⟨c1, c2, rfl, ⟨h1, -⟩, c3, c4, rfl, ⟨h3, -⟩, h4, -⟩ := hc
  rw [h1, h3, h4]
  rfl
/- What is taken of a number. -/
theorem mod_u (m : Nat) (hm : 0 < m) (hm2 : m ≤ 1000) (x : Int) : ∃ q : Nat, q < m ∧ (IntKind.u64.wrap x).tmod (m : Int) = (q : Int) ∧ IntKind.i64.wrap (q : Int) = (q : Int) := by
  have h0 : 0 ≤ IntKind.u64.wrap x := by
    show 0 ≤ x % 18446744073709551616
    exact Int.emod_nonneg _ (by decide)
  refine ⟨((IntKind.u64.wrap x).tmod (m : Int)).toNat, ?_, ?_, ?_⟩
  · have h1 := Int.tmod_lt_of_pos (IntKind.u64.wrap x) (show (0 : Int) < (m : Int) by omega)
    have h2 := Int.tmod_nonneg (m : Int) h0
    omega
  · have h2 := Int.tmod_nonneg (m : Int) h0
    omega
  · have h1 := Int.tmod_lt_of_pos (IntKind.u64.wrap x) (show (0 : Int) < (m : Int) by omega)
    exact wrap_in (by omega) (by omega)
section
variable {t : TM} {h : AH} {d : Option Tmp} {ty : TypeId} {ps : String} {af : Array Edge} {g : Option (Nat × Bool)}
theorem a_idxN {i k j : Nat} {nm : List UInt8} (hj : names4[j]? = some nm) (hi : t.get i = .agg [.lit (.string ⟨#[97]⟩), .lit (.string ⟨#[98]⟩), .lit (.string ⟨#[99, 46, 99]⟩), .lit (.string ⟨#[100, 45, 100]⟩)]) (hk : t.get k = .lit (.int .i64 (j : Int))) :
    aop Tryz.prog (tabOf Tryz.prog NT0) ⟨d, .index 23 (.tmp i) (.tmp k), ty, ps, af, g⟩ t h = some (.val (.lit (.string ⟨nm.toArray⟩)), h) := by
  have e1 : litEnv t (.tmp i) = .agg #[.string ⟨#[97]⟩, .string ⟨#[98]⟩, .string ⟨#[99, 46, 99]⟩, .string ⟨#[100, 45, 100]⟩] := by simp [litEnv, ev_tmp, hi, toVal, toScals, scal]
  have e2 : litEnv t (.tmp k) = .int .i64 (j : Int) := by simp [litEnv, ev_tmp, hk, toVal]
  have hl : j < 4 := (List.getElem?_eq_some_iff.1 hj).1
  have h0 : litOp Tryz.prog ⟨d, .index 23 (.tmp i) (.tmp k), ty, ps, af, g⟩ t = some (.val (.lit (.string ⟨nm.toArray⟩))) := by
    unfold litOp
    rw [if_pos (by simp [notSelect, Op.operands, litAll, ev_tmp, hi, hk, toVal, toScals, scal])]
    simp only [execOp, e1, e2]
    clear e2 hk
    match j, hl, hj with
    | 0, _, hj => cases hj; show _ = _; kernel_rfl
    | 1, _, hj => cases hj; show _ = _; kernel_rfl
    | 2, _, hj => cases hj; show _ = _; kernel_rfl
    | 3, _, hj => cases hj; show _ = _; kernel_rfl
  show aIndex _ _ _ _ _ _ _ _ = _
  unfold aIndex orLit
  rw [h0]
end
theorem law_x {F : Nat → Prop} {H : AH} {v : AV} {l : List (Int × Int × Int)} {e1 : TypeId} (hv : IsSl R3 F H v l) (hlen : l.length ≤ 4611686018427387904) (hT : H.at 1 = some (.frz tabL e1)) :
    WC Tryz.prog (tabOf Tryz.prog NT0) S0 3 [v] H fun r _ => r = .lit (.bool true) := by
  refine WC_fn Tryz.func3 rfl rfl ?_
  have v1 := hv.one
  have v2 := hv.isSl
  have v3 := hv.lenD
  have lT := at_lt hT
  obtain ⟨n, hN⟩ : ∃ n, n = l.length := ⟨_, rfl⟩
  rw [← hN] at v3
  obtain ⟨h1, hh1⟩ : ∃ h1, h1 = H.push (.cells [.lit (.string ⟨#[97]⟩), .lit (.string ⟨#[98]⟩), .lit (.string ⟨#[99, 46, 99]⟩), .lit (.string ⟨#[100, 45, 100]⟩)] 23) := ⟨_, rfl⟩
  obtain ⟨h2, hh2⟩ : ∃ h2, h2 = h1.push (.cells [.lit (.slice none 0 0), .lit (.slice none 0 0)] 27) := ⟨_, rfl⟩
  obtain ⟨h3, hh3⟩ : ∃ h3, h3 = h2.push (.map [] 0) := ⟨_, rfl⟩
  have n1 : h1.n = H.n + 1 := hh1 ▸ n_push _ _
  have n2 : h2.n = H.n + 2 := by rw [hh2, n_push, n1]
  have n3 : h3.n = H.n + 3 := by rw [hh3, n_push, n2]
  have A1 : h1.at H.n = some (.cells [.lit (.string ⟨#[97]⟩), .lit (.string ⟨#[98]⟩), .lit (.string ⟨#[99, 46, 99]⟩), .lit (.string ⟨#[100, 45, 100]⟩)] 23) := hh1 ▸ at_push_n _ _
  have A2 : h2.at h1.n = some (.cells [.lit (.slice none 0 0), .lit (.slice none 0 0)] 27) := hh2 ▸ at_push_n _ _
  have A3 : h3.at h2.n = some (.map [] 0) := hh3 ▸ at_push_n _ _
  rw [n1] at A2
  rw [n2] at A3
  have e1' : Ext H.n H h1 := hh1 ▸ (Ext.refl _ _).push _ (Nat.le_refl _)
  have e2' : Ext (H.n + 1) h1 h2 := hh2 ▸ (Ext.refl _ _).push _ (by omega)
  have e3' : Ext (H.n + 2) h2 h3 := hh3 ▸ (Ext.refl _ _).push _ (by omega)
  have E3 : Ext H.n H h3 := e1'.trans ((e2'.trans (e3'.mono (by omega))).mono (by omega))
  have B1 := (e3'.2 H.n (by omega)).trans ((e2'.2 _ (by omega)).trans A1)
  have B2 := (e3'.2 (H.n + 1) (by omega)).trans A2
  have hu : und (tabOf Tryz.prog NT0) 28 = some (.map 9 3) := by kernel_rfl
  have hi : und (tabOf Tryz.prog NT0) 9 = some .string := by kernel_rfl
  have hz : zeroT (tabOf Tryz.prog NT0) 3 = some (.lit (.int .i64 0)) := by kernel_rfl
  have hr4 : und (tabOf Tryz.prog NT0) 23 = some (.array 4 9) := by kernel_rfl
  have hs1 : sizeT (tabOf Tryz.prog NT0) 9 = some 1 := by kernel_rfl
  simp only [core, zrA, zrS, zrM, zrL, zrE, reduceCtorEq, zrD, ziE, ziL, ziN, Tryz.ntmps3, v1, v2, v3, ← hh1, n1, ← hh2, n2, a_mkmT, ← hh3]
  generalize hb2 : Code.block 2 _ = C2
  generalize hb5 : Code.cond (Operand.tmp 101) _ _ = C5
  refine WB_for n (fun i t h => i ≤ 100 ∧ ∃ a b r ps es c, Ext H.n H h ∧ H.n + 3 ≤ h.n ∧ h.at H.n = some (.cells [.lit (.string ⟨#[97]⟩), .lit (.string ⟨#[98]⟩), .lit (.string ⟨#[99, 46, 99]⟩), .lit (.string ⟨#[100, 45, 100]⟩)] 23) ∧ h.at (H.n + 1) = some (.cells [a, b] 27) ∧ h.at (H.n + 2) = some (.map es c) ∧ EntI es ps ∧ Gr i r ps ∧ OwnQ 39 (H.n + 3) h (.agg [a, b]) r ∧ t.n = 160 ∧ t.get 3 = .ptr H.n 0 ∧ t.get 4 = .ptr (H.n + 1) 0 ∧ t.get 5 = .mp (H.n + 2) ∧ t.get 23 = v ∧ t.get 24 = .lit (.int .i64 n) ∧ t.get 25 = .lit (.int .i64 i)) ?_ ?_ _ _ ?_
  · rintro i t h hlt hc ⟨hi100, a, b, r, ps, es, c, E, hn3, N0, R0, M0, hent, hgr, ⟨a', b', eab, oa, ob⟩, hn, g3, g4, g5, g23, g24, g25⟩ ih
    obtain ⟨rfl, rfl⟩ : a = a' ∧ b = b' := by simpa using eab
    have hwi := wrap_succ (n := n) hlt (by omega)
    obtain ⟨x, hx⟩ : ∃ x, l[i]? = some x := ⟨_, List.getElem?_eq_getElem (by omega)⟩
    obtain ⟨cc, hc1, hld, hld0⟩ := hv.atE (T := tabOf Tryz.prog NT0) E R3_z hx
    obtain rfl := R3_is hc1
    cases h100 : decide ((100 : Int) ≤ (i : Int)) with
    | true =>
      simp only [core, zrA, zrS, zrM, zrL, zrE, reduceCtorEq, zrD, ziE, ziL, ziN, hn, g3, g4, g5, g23, g24, g25, hlt, hc, v1, v2, v3, hld, hld0, h100]
      refine lives25_c ?_
      simp only [core, zrA, zrS, zrM, zrL, zrE, reduceCtorEq, zrD, ziE, ziL, ziN, hn, g3, g4, g5, g23, g24, g25]
    | false =>
    obtain ⟨q, hq4, hqm, hqw⟩ := mod_u 4 (by decide) (by decide) x.2.2
    obtain ⟨k, hk30, hkm, hkw⟩ := mod_u 30 (by decide) (by decide) x.2.1
    have rm4 : ∀ {P : Program} {e : TypeId}, pur P (binOp .rem e (Value.int .u64 (IntKind.u64.wrap x.2.2)) (Value.int .u64 4)) = some (.ok (Value.int .u64 q)) := fun {P e} => by
      rw [pb_rem (by decide), show (IntKind.u64.wrap x.2.2).tmod 4 = q from hqm]
    have rm30 : ∀ {P : Program} {e : TypeId}, pur P (binOp .rem e (Value.int .u64 (IntKind.u64.wrap x.2.1)) (Value.int .u64 30)) = some (.ok (Value.int .u64 k)) := fun {P e} => by
      rw [pb_rem (by decide), show (IntKind.u64.wrap x.2.1).tmod 30 = k from hkm]
    obtain ⟨nm, hnm⟩ : ∃ nm, names4[q]? = some nm := ⟨_, List.getElem?_eq_getElem hq4⟩
    have hnmm := List.mem_of_getElem? hnm
    obtain ⟨hA, hhA⟩ : ∃ hA, hA = h.push (.cells [.lit (.int .i64 x.1), .lit (.int .i64 x.2.1), .lit (.int .i64 x.2.2)] 30) := ⟨_, rfl⟩
    have eA : Ext h.n h hA := hhA ▸ (Ext.refl _ _).push _ (Nat.le_refl _)
    have nA : hA.n = h.n + 1 := by rw [hhA, n_push]
    have XA : hA.at h.n = some (.cells [.lit (.int .i64 x.1), .lit (.int .i64 x.2.1), .lit (.int .i64 x.2.2)] 30) := hhA ▸ at_push_n _ _
    have LXA := ld_at (T := tabOf Tryz.prog NT0) XA
    have lXA := at_lt XA
    have NA := (eA.2 _ (at_lt N0)).trans N0
    have lNA := at_lt NA
    have ldn : loadA (tabOf Tryz.prog NT0) hA 9 H.n q = some (.lit (.string ⟨nm.toArray⟩)) := by
      have L := ld_at (T := tabOf Tryz.prog NT0) NA
      rw [L]
      match q, hq4, hnm with
      | 0, _, hnm => cases hnm; rfl
      | 1, _, hnm => cases hnm; rfl
      | 2, _, hnm => cases hnm; rfl
      | 3, _, hnm => cases hnm; rfl
    simp only [core, zrA, zrS, zrM, zrL, zrE, reduceCtorEq, zrD, ziE, ziL, ziN, hn, g3, g4, g5, g23, g24, g25, hlt, hc, v1, v2, v3, hld, hld0, h100, ← hhA, LXA, lXA, rm4, rm30, ofPV_str, hqw, hkw, a_iap, aIndexAddr, hr4, hs1, hq4, ldn]
    have EA : Ext H.n H hA := E.trans (eA.mono E.1)
    refine (id_x (EA.at lT hT)).mono ?_
    rintro _ hB ⟨EB, rfl⟩
    rw [show idF 0 1 k = idK k from rfl]
    have nB := EB.1
    have XB := (EB.2 _ lXA).trans XA
    have KB : ∀ bb, bb < h.n → hB.at bb = h.at bb := fun bb hbb => (EB.2 _ (by omega)).trans (eA.2 _ hbb)
    have RB := (KB (H.n + 1) (by omega)).trans R0
    have LRB := ld_at (T := tabOf Tryz.prog NT0) RB
    have lRB := at_lt RB
    have a1 := oa.one
    have a2 := oa.isSl
    have b1 := ob.one
    have b2 := ob.isSl
    obtain ⟨hC, hhC⟩ : ∃ hC, hC = hB.push (.cells [a, b] 27) := ⟨_, rfl⟩
    have eC : Ext hB.n hB hC := hhC ▸ (Ext.refl _ _).push _ (Nat.le_refl _)
    have nC : hC.n = hB.n + 1 := by rw [hhC, n_push]
    have X11 : hC.at hB.n = some (.cells [a, b] 27) := hhC ▸ at_push_n _ _
    have KC : ∀ bb, bb < h.n → hC.at bb = h.at bb := fun bb hbb => (eC.2 _ (by omega)).trans (KB bb hbb)
    have XC := (eC.2 _ (at_lt XB)).trans XB
    have LXC := ld_at (T := tabOf Tryz.prog NT0) XC
    have lXC := at_lt XC
    simp only [core, zrA, zrS, zrM, zrL, zrE, reduceCtorEq, zrD, ziE, ziL, ziN, hn, g3, g4, g5, g23, g24, g25, LRB, lRB, a1, a2, b1, b2, ← hhC, LXC, lXC]
    refine WB_cut (fun t h' => ∃ (e : Int) (na nb : AV) (r2 : RootD) (ps2 : List (List UInt8 × Int)) (es2 : List AE) (c2 : Nat), hC.n ≤ h'.n ∧ (∀ bb, bb < h.n → bb ≠ H.n + 2 → h'.at bb = h.at bb) ∧ h'.at (H.n + 2) = some (.map es2 c2) ∧ EntI es2 ps2 ∧ h'.at hB.n = some (.cells [na, nb] 27) ∧ OwnQ 39 (H.n + 3) h' (.agg [na, nb]) r2 ∧ (e = 0 → Gr (i + 1) r2 ps2) ∧ (e ≠ 0 → Gr (i + 1) r ps2) ∧ t.n = 160 ∧ t.get 3 = .ptr H.n 0 ∧ t.get 4 = .ptr (H.n + 1) 0 ∧ t.get 5 = .mp (H.n + 2) ∧ t.get 11 = .ptr hB.n 0 ∧ t.get 12 = .lit (.int .i64 e) ∧ t.get 23 = v ∧ t.get 24 = .lit (.int .i64 n) ∧ t.get 25 = .lit (.int .i64 i)) ?_ ?_
    · intro k' K' tail
      subst hb2
      have EhC : Ext h.n h hC := eA.trans ((EB.trans (eC.mono nB)).mono (by omega))
      have oaC := oa.ext EhC (Nat.le_refl _)
      have obC := ob.ext EhC (Nat.le_refl _)
      have SlC := oaC.toSl flatSet (F := fun _ => True) fun _ _ => trivial
      have SoC := obC.toSl flatTx (F := fun _ => True) fun _ _ => trivial
      have RC := (KC (H.n + 1) (by omega)).trans R0
      have LRC := ld_at (T := tabOf Tryz.prog NT0) RC
      have lRC := at_lt RC
      have fin : ∀ {hD : AH} {na nb : AV} {r2 : RootD}, Ext hC.n hC hD → OwnX setC 35 hC.n hD na 39 r2.live → OwnX txC 1 hC.n hD nb 9 r2.ops →
          hC.n ≤ (hD.put hB.n (.cells [na, nb] 27)).n ∧ (∀ bb, bb < h.n → (hD.put hB.n (.cells [na, nb] 27)).at bb = h.at bb) ∧ (hD.put hB.n (.cells [na, nb] 27)).at hB.n = some (.cells [na, nb] 27) ∧ OwnQ 39 (H.n + 3) (hD.put hB.n (.cells [na, nb] 27)) (.agg [na, nb]) r2 := fun {hD na nb r2} e o1 o2 => by
        have nn := e.1
        refine ⟨by rw [n_put]; exact nn, fun bb hbb => (at_put_ne _ (by omega)).trans ((e.2 _ (by omega)).trans (KC bb hbb)), at_put_same _ (by omega), _, _, rfl, (o1.putLt (by omega)).mono (by omega), (o2.putLt (by omega)).mono (by omega)⟩
      have hid := (idK_all k hk30).1
      by_cases hx0 : x.1 = 0
      · have k0 : (x.1 == 0) = true := by rw [hx0]; rfl
        simp only [core, zrA, zrS, zrM, zrL, zrE, reduceCtorEq, zrD, ziE, ziL, ziN, hn, g3, g4, g5, g23, g24, g25, k0, LRC, lRC, a1, a2, b1, b2]
        refine (Open_x SlC SoC hgr.rlen (by omega)).mono ?_
        rintro _ hD ⟨ED, u, rfl, na, nb, rfl, ona, onb⟩
        have u1 := ona.one
        have u2 := ona.isSl
        have w1 := onb.one
        have w2 := onb.isSl
        have XD := (ED.2 _ (at_lt X11)).trans X11
        have lXD := at_lt XD
        obtain ⟨f1, f2, f3, f4⟩ := fin ED ona onb
        simp only [core, zrA, zrS, zrM, zrL, zrE, reduceCtorEq, zrD, ziE, ziL, ziN, hn, g3, g4, g5, g23, g24, g25, u1, u2, w1, w2, XD, lXD]
        refine tail _ _ ⟨_, na, nb, _, ps, es, c, f1, fun bb h1 h2 => f2 bb h1, (f2 _ (by omega)).trans M0, hent, f3, f4, fun he => (hgr.open hk30 he).le (Nat.le_succ _), fun _ => hgr.le (Nat.le_succ _), ?_⟩
        simp only [core, zrA, zrS, zrM, zrL, zrE, reduceCtorEq, zrD, ziE, ziL, ziN, hn, g3, g4, g5, g23, g24, g25]
        try ((repeat' apply And.intro) <;> first | rfl | trivial)
      have k0 : (x.1 == 0) = false := beq_eq_false_iff_ne.2 hx0
      by_cases hx1 : x.1 = 1
      · have k1 : (x.1 == 1) = true := by rw [hx1]; rfl
        simp only [core, zrA, zrS, zrM, zrL, zrE, reduceCtorEq, zrD, ziE, ziL, ziN, hn, g3, g4, g5, g23, g24, g25, k0, k1, LRC, lRC, a1, a2, b1, b2]
        have hs0 : setC ⟨nm, idK k, i, fun _ => 0⟩ = [.lit (.string ⟨nm.toArray⟩), .lit (.string ⟨(idK k).toArray⟩), .lit (.int .i64 i), .lit (.int .u8 0), .lit (.int .u8 0), .lit (.int .u8 0), .lit (.int .u8 0), .lit (.int .u8 0), .lit (.int .u8 0), .lit (.int .u8 0), .lit (.int .u8 0), .lit (.int .u8 0), .lit (.int .u8 0), .lit (.int .u8 0), .lit (.int .u8 0), .lit (.int .u8 0), .lit (.int .u8 0), .lit (.int .u8 0), .lit (.int .u8 0), .lit (.int .u8 0), .lit (.int .u8 0), .lit (.int .u8 0), .lit (.int .u8 0), .lit (.int .u8 0), .lit (.int .u8 0), .lit (.int .u8 0), .lit (.int .u8 0), .lit (.int .u8 0), .lit (.int .u8 0), .lit (.int .u8 0), .lit (.int .u8 0), .lit (.int .u8 0), .lit (.int .u8 0), .lit (.int .u8 0), .lit (.int .u8 0)] := rfl
        have hcm := Commit_x (s := ⟨nm, idK k, i, fun _ => 0⟩) SlC SoC hgr.rlen (by show (idK k).length ≤ _; omega) (by show nm.length ≤ _; have := len4 _ hnmm; omega)
        rw [hs0] at hcm
        refine hcm.mono ?_
        rintro _ hD ⟨ED, u, rfl, na, nb, rfl, ona, onb⟩
        have u1 := ona.one
        have u2 := ona.isSl
        have w1 := onb.one
        have w2 := onb.isSl
        have XD := (ED.2 _ (at_lt X11)).trans X11
        have lXD := at_lt XD
        obtain ⟨f1, f2, f3, f4⟩ := fin ED ona onb
        obtain ⟨hE, hhE⟩ : ∃ hE, hE = hD.put hB.n (.cells [na, nb] 27) := ⟨_, rfl⟩
        rw [← hhE] at f1 f2 f3 f4
        have ME := (f2 (H.n + 2) (by omega)).trans M0
        obtain ⟨es', c', hup, hent'⟩ := upd_I (T := tabOf Tryz.prog NT0) nm ((i : Int) + 1) hu hi ME hent
        have wi1 : IntKind.i64.wrap ((i : Int) + 1) = (i : Int) + 1 := wrap_in (by omega) (by omega)
        have lME := at_lt ME
        by_cases he : (commitF r ⟨nm, idK k, i, fun _ => 0⟩).2 = 0
        · have he' : ((commitF r ⟨nm, idK k, i, fun _ => 0⟩).2 == 0) = true := by rw [he]; rfl
          simp only [core, zrA, zrS, zrM, zrL, zrE, reduceCtorEq, zrD, ziE, ziL, ziN, hn, g3, g4, g5, g23, g24, g25, u1, u2, w1, w2, XD, lXD, he', ← hhE, wi1, a_mupdT, aUpdate, hup]
          refine tail _ _ ⟨(commitF r ⟨nm, idK k, i, fun _ => 0⟩).2, na, nb, _, putI nm (i + 1) ps, es', c', by rw [n_put]; exact f1, fun bb h1 h2 => (at_put_ne _ h2.symm).trans (f2 bb h1), at_put_same _ lME, hent', (at_put_ne _ (by omega)).trans f3, ?_, fun _ => hgr.commit hk30 hnmm he, fun h => absurd he h, ?_⟩
          · obtain ⟨_, _, e, o1, o2⟩ := f4
            exact ⟨_, _, e, o1.putLt (by omega), o2.putLt (by omega)⟩
          simp only [core, zrA, zrS, zrM, zrL, zrE, reduceCtorEq, zrD, ziE, ziL, ziN, hn, g3, g4, g5, g23, g24, g25]
          try ((repeat' apply And.intro) <;> first | rfl | trivial)
        · have he' : ((commitF r ⟨nm, idK k, i, fun _ => 0⟩).2 == 0) = false := beq_eq_false_iff_ne.2 he
          simp only [core, zrA, zrS, zrM, zrL, zrE, reduceCtorEq, zrD, ziE, ziL, ziN, hn, g3, g4, g5, g23, g24, g25, u1, u2, w1, w2, XD, lXD, he', ← hhE]
          refine tail _ _ ⟨(commitF r ⟨nm, idK k, i, fun _ => 0⟩).2, na, nb, _, ps, es, c, f1, fun bb h1 h2 => f2 bb h1, ME, hent, f3, f4, fun h => absurd h he, fun _ => hgr.le (Nat.le_succ _), ?_⟩
          simp only [core, zrA, zrS, zrM, zrL, zrE, reduceCtorEq, zrD, ziE, ziL, ziN, hn, g3, g4, g5, g23, g24, g25]
          try ((repeat' apply And.intro) <;> first | rfl | trivial)
      have k1 : (x.1 == 1) = false := beq_eq_false_iff_ne.2 hx1
      by_cases hx2 : x.1 = 2
      · have k2 : (x.1 == 2) = true := by rw [hx2]; rfl
        simp only [core, zrA, zrS, zrM, zrL, zrE, reduceCtorEq, zrD, ziE, ziL, ziN, hn, g3, g4, g5, g23, g24, g25, k0, k1, k2, LRC, lRC, a1, a2, b1, b2]
        refine (Delete_x SlC SoC hgr.rlen (by have := len4 _ hnmm; omega)).mono ?_
        rintro _ hD ⟨ED, u, rfl, na, nb, rfl, ona, onb⟩
        have u1 := ona.one
        have u2 := ona.isSl
        have w1 := onb.one
        have w2 := onb.isSl
        have XD := (ED.2 _ (at_lt X11)).trans X11
        have lXD := at_lt XD
        obtain ⟨f1, f2, f3, f4⟩ := fin ED ona onb
        obtain ⟨hE, hhE⟩ : ∃ hE, hE = hD.put hB.n (.cells [na, nb] 27) := ⟨_, rfl⟩
        rw [← hhE] at f1 f2 f3 f4
        have ME := (f2 (H.n + 2) (by omega)).trans M0
        obtain ⟨es', c', hup, hent'⟩ := upd_I (T := tabOf Tryz.prog NT0) nm 0 hu hi ME hent
        have hlook := look_I (T := tabOf Tryz.prog NT0) nm hu hi hz ME hent
        have lME := at_lt ME
        obtain ⟨dl1, dl2⟩ := hgr.dels hnmm
        have f4' : OwnQ 39 (H.n + 3) (hE.put (H.n + 2) (.map es' c')) (.agg [na, nb]) (deleteF r nm).1 := by
          obtain ⟨_, _, e, o1, o2⟩ := f4
          exact ⟨_, _, e, o1.putLt (by omega), o2.putLt (by omega)⟩
        by_cases he : (deleteF r nm).2 = 0
        · have he' : ((deleteF r nm).2 == 0) = true := by rw [he]; rfl
          have hg : ((0 : Int) < getI ps nm) = True := by simp only [eq_iff_iff, iff_true]; exact dl1.1 he
          simp only [core, zrA, zrS, zrM, zrL, zrE, reduceCtorEq, zrD, ziE, ziL, ziN, hn, g3, g4, g5, g23, g24, g25, u1, u2, w1, w2, XD, lXD, he', ← hhE, a_mupdT, aUpdate, hup, a_lookT, aLookup, hlook, hg]
          refine tail _ _ ⟨(deleteF r nm).2, na, nb, _, putI nm 0 ps, es', c', by rw [n_put]; exact f1, fun bb h1 h2 => (at_put_ne _ h2.symm).trans (f2 bb h1), at_put_same _ lME, hent', (at_put_ne _ (by omega)).trans f3, f4', fun _ => (hgr.delete hnmm he).le (Nat.le_succ _), fun h => absurd he h, ?_⟩
          simp only [core, zrA, zrS, zrM, zrL, zrE, reduceCtorEq, zrD, ziE, ziL, ziN, hn, g3, g4, g5, g23, g24, g25]
          try ((repeat' apply And.intro) <;> first | rfl | trivial)
        · have he' : ((deleteF r nm).2 == 0) = false := beq_eq_false_iff_ne.2 he
          have hng : ¬ 0 < getI ps nm := fun h => he (dl1.2 h)
          have hg : ((0 : Int) < getI ps nm) = False := by simp only [eq_iff_iff, iff_false]; exact hng
          simp only [core, zrA, zrS, zrM, zrL, zrE, reduceCtorEq, zrD, ziE, ziL, ziN, hn, g3, g4, g5, g23, g24, g25, u1, u2, w1, w2, XD, lXD, he', ← hhE, a_mupdT, aUpdate, hup, a_lookT, aLookup, hlook, hg]
          refine tail _ _ ⟨(deleteF r nm).2, na, nb, _, putI nm 0 ps, es', c', by rw [n_put]; exact f1, fun bb h1 h2 => (at_put_ne _ h2.symm).trans (f2 bb h1), at_put_same _ lME, hent', (at_put_ne _ (by omega)).trans f3, f4', fun h => absurd h he, fun _ => (hgr.undeleted hnmm (by omega)).le (Nat.le_succ _), ?_⟩
          simp only [core, zrA, zrS, zrM, zrL, zrE, reduceCtorEq, zrD, ziE, ziL, ziN, hn, g3, g4, g5, g23, g24, g25]
          try ((repeat' apply And.intro) <;> first | rfl | trivial)
      · have k2 : (x.1 == 2) = false := beq_eq_false_iff_ne.2 hx2
        simp only [core, zrA, zrS, zrM, zrL, zrE, reduceCtorEq, zrD, ziE, ziL, ziN, hn, g3, g4, g5, g23, g24, g25, k0, k1, k2, LRC, lRC, a1, a2, b1, b2]
        refine (Close_x SlC SoC hgr.rlen).mono ?_
        rintro _ hD ⟨ED, u, rfl, na, nb, rfl, ona, onb⟩
        have u1 := ona.one
        have u2 := ona.isSl
        have w1 := onb.one
        have w2 := onb.isSl
        have XD := (ED.2 _ (at_lt X11)).trans X11
        have lXD := at_lt XD
        obtain ⟨f1, f2, f3, f4⟩ := fin ED ona onb
        obtain ⟨hE, hhE⟩ : ∃ hE, hE = hD.put hB.n (.cells [na, nb] 27) := ⟨_, rfl⟩
        rw [← hhE] at f1 f2 f3 f4
        have ME := (f2 (H.n + 2) (by omega)).trans M0
        have RE := (f2 (H.n + 1) (by omega)).trans R0
        have LRE := ld_at (T := tabOf Tryz.prog NT0) RE
        have lRE := at_lt RE
        have lf3 := at_lt f3
        cases he : (closeF r (idK k)).2 with
        | true =>
          simp only [core, zrA, zrS, zrM, zrL, zrE, reduceCtorEq, zrD, ziE, ziL, ziN, hn, g3, g4, g5, g23, g24, g25, u1, u2, w1, w2, XD, lXD, he, ← hhE]
          refine tail _ _ ⟨0, na, nb, _, ps, es, c, f1, fun bb h1 h2 => f2 bb h1, ME, hent, f3, f4, fun _ => (hgr.close he).le (Nat.le_succ _), fun h => absurd rfl h, ?_⟩
          simp only [core, zrA, zrS, zrM, zrL, zrE, reduceCtorEq, zrD, ziE, ziL, ziN, hn, g3, g4, g5, g23, g24, g25]
          try ((repeat' apply And.intro) <;> first | rfl | trivial)
        | false =>
          simp only [core, zrA, zrS, zrM, zrL, zrE, reduceCtorEq, zrD, ziE, ziL, ziN, hn, g3, g4, g5, g23, g24, g25, u1, u2, w1, w2, XD, lXD, he, ← hhE, LRE, lRE, a1, a2, b1, b2, f3, lf3]
          refine tail _ _ ⟨0, a, b, r, ps, es, c, by rw [n_put]; exact f1, fun bb h1 h2 => (at_put_ne _ (by omega)).trans (f2 bb h1), (at_put_ne _ (by omega)).trans ME, hent, at_put_same _ lf3, ?_, fun _ => hgr.le (Nat.le_succ _), fun h => absurd rfl h, ?_⟩
          · exact ⟨a, b, rfl, oa.keep fun bb off nn cap e => (at_put_ne _ (by have := (oa.blk e).1; omega)).trans (f2 bb (oa.blk e).1), ob.keep fun bb off nn cap e => (at_put_ne _ (by have := (ob.blk e).1; omega)).trans (f2 bb (ob.blk e).1)⟩
          simp only [core, zrA, zrS, zrM, zrL, zrE, reduceCtorEq, zrD, ziE, ziL, ziN, hn, g3, g4, g5, g23, g24, g25]
          try ((repeat' apply And.intro) <;> first | rfl | trivial)
    · rintro t' h' ⟨e, na, nb, r2, ps2, es2, c2, hn', hk', hm', hent', h11, ⟨na', nb', enb, ona, onb⟩, hg0, hg1, hn, g3, g4, g5, g11, g12, g23, g24, g25⟩
      obtain ⟨rfl, rfl⟩ : na = na' ∧ nb = nb' := by simpa using enb
      have N' := (hk' H.n (by omega) (by omega)).trans N0
      have R' := (hk' (H.n + 1) (by omega) (by omega)).trans R0
      have E' : Ext H.n H h' := ⟨by have := E.1; omega, fun bb hbb => (hk' bb (by omega) (by omega)).trans (E.2 bb hbb)⟩
      have oa' : OwnX setC 35 (H.n + 3) h' a 39 r.live := oa.keep fun bb off nn cap e => hk' bb (oa.blk e).1 (by have := (oa.blk e).2.1; omega)
      have ob' : OwnX txC 1 (H.n + 3) h' b 9 r.ops := ob.keep fun bb off nn cap e => hk' bb (ob.blk e).1 (by have := (ob.blk e).2.1; omega)
      have L11 := ld_at (T := tabOf Tryz.prog NT0) h11
      have l11 := at_lt h11
      have lR' := at_lt R'
      have z1 := ona.one
      have z2 := ona.isSl
      have z3 := onb.one
      have z4 := onb.isSl
      simp only [core, zrA, zrS, zrM, zrL, zrE, reduceCtorEq, zrD, ziE, ziL, ziN, hn, g3, g4, g5, g11, g12, g23, g24, g25]
      refine WB_cut (fun t h2 => ∃ (a3 b3 : AV) (r3 : RootD), H.n + 3 ≤ h2.n ∧ Ext H.n H h2 ∧ h2.at H.n = some (.cells [.lit (.string ⟨#[97]⟩), .lit (.string ⟨#[98]⟩), .lit (.string ⟨#[99, 46, 99]⟩), .lit (.string ⟨#[100, 45, 100]⟩)] 23) ∧ h2.at (H.n + 1) = some (.cells [a3, b3] 27) ∧ h2.at (H.n + 2) = some (.map es2 c2) ∧ OwnX setC 35 (H.n + 3) h2 a3 39 r3.live ∧ OwnX txC 1 (H.n + 3) h2 b3 9 r3.ops ∧ Gr (i + 1) r3 ps2 ∧ t.n = 160 ∧ t.get 3 = .ptr H.n 0 ∧ t.get 4 = .ptr (H.n + 1) 0 ∧ t.get 5 = .mp (H.n + 2) ∧ t.get 23 = v ∧ t.get 24 = .lit (.int .i64 n) ∧ t.get 25 = .lit (.int .i64 i)) ?_ ?_
      · intro k' K' tail
        subst hb5
        by_cases he : e = 0
        · have he' : (e == 0) = true := by rw [he]; rfl
          simp only [core, zrA, zrS, zrM, zrL, zrE, reduceCtorEq, zrD, ziE, ziL, ziN, hn, g3, g4, g5, g11, g12, g23, g24, g25, he', L11, l11, z1, z2, z3, z4, R', lR']
          refine tail _ _ ⟨na, nb, r2, by rw [n_put]; omega, E'.put _ (by omega), (at_put_ne _ (by omega)).trans N', at_put_same _ lR', (at_put_ne _ (by omega)).trans hm', ona.putLt (by omega), onb.putLt (by omega), hg0 he, ?_⟩
          simp only [core, zrA, zrS, zrM, zrL, zrE, reduceCtorEq, zrD, ziE, ziL, ziN, hn, g3, g4, g5, g11, g12, g23, g24, g25]
          try ((repeat' apply And.intro) <;> first | rfl | trivial)
        · have he' : (e == 0) = false := beq_eq_false_iff_ne.2 he
          simp only [core, zrA, zrS, zrM, zrL, zrE, reduceCtorEq, zrD, ziE, ziL, ziN, hn, g3, g4, g5, g11, g12, g23, g24, g25, he']
          refine tail _ _ ⟨a, b, r, by omega, E', N', R', hm', oa', ob', hg1 he, ?_⟩
          simp only [core, zrA, zrS, zrM, zrL, zrE, reduceCtorEq, zrD, ziE, ziL, ziN, hn, g3, g4, g5, g11, g12, g23, g24, g25]
          try ((repeat' apply And.intro) <;> first | rfl | trivial)
      · rintro t4 h4 ⟨a3, b3, r3, hn4, E4, N4', R4, M4, oa3, ob3, hg3, hn, g3, g4, g5, g23, g24, g25⟩
        have hi1 : i + 1 ≤ 100 := by have := of_decide_eq_false h100; omega
        have p1 := oa3.one
        have p2 := oa3.isSl
        have p3 := ob3.one
        have p4 := ob3.isSl
        have LR4 := ld_at (T := tabOf Tryz.prog NT0) R4
        have lR4 := at_lt R4
        have S3 := oa3.toSl flatSet (F := fun _ => True) fun _ _ => trivial
        have T3 := ob3.toSl flatTx (F := fun _ => True) fun _ _ => trivial
        have hpr := hg3.pr hi1
        have hpl := hg3.plen hi1
        have hck := chk_iff.2 hg3.right
        simp only [core, zrA, zrS, zrM, zrL, zrE, reduceCtorEq, zrD, ziE, ziL, ziN, hn, g3, g4, g5, g23, g24, g25, LR4, lR4, p1, p2, p3, p4]
        refine (PrintRoot_x S3 T3 hpr (E4.at lT hT)).mono ?_
        rintro _ h5 ⟨E5, gb, hgb, rfl, GB⟩
        have n5 := E5.1
        have E05 := E4.trans (E5.mono E4.1)
        obtain ⟨bl, hbl⟩ : ∃ bl, bl = (printF r3).length := ⟨_, rfl⟩
        have s1 : isSl (.sl gb 0 (printF r3).length (.un 1)) = true := rfl
        have s2 : AV.one (.sl gb 0 (printF r3).length (.un 1)) = true := rfl
        have s3 : lenD (.sl gb 0 (printF r3).length (.un 1)) = bl := hbl.symm
        simp only [core, zrA, zrS, zrM, zrL, zrE, reduceCtorEq, zrD, ziE, ziL, ziN, hn, g3, g4, g5, g23, g24, g25, s1, s2]
        refine (ParseRoot_x GB hck hpr hg3.tx (E05.at lT hT)).mono ?_
        rintro _ h6 ⟨E6, pa, pb, rfl, opa, opb⟩
        have n6 := E6.1
        have y1 := opa.one
        have y2 := opa.isSl
        have y3 := opb.one
        have y4 := opb.isSl
        obtain ⟨h7, hh7⟩ : ∃ h7, h7 = h6.push (.cells [pa, pb] 27) := ⟨_, rfl⟩
        have E7 : Ext h6.n h6 h7 := hh7 ▸ (Ext.refl _ _).push _ (Nat.le_refl _)
        have n7 : h7.n = h6.n + 1 := by rw [hh7, n_push]
        have P7 : h7.at h6.n = some (.cells [pa, pb] 27) := hh7 ▸ at_push_n _ _
        have E47 : Ext h4.n h4 h7 := E5.trans ((E6.trans (E7.mono n6)).mono n5)
        have R7 := (E47.2 _ lR4).trans R4
        have LR7 := ld_at (T := tabOf Tryz.prog NT0) R7
        have lR7 := at_lt R7
        have LP7 := ld_at (T := tabOf Tryz.prog NT0) P7
        have lP7 := at_lt P7
        simp only [core, zrA, zrS, zrM, zrL, zrE, reduceCtorEq, zrD, ziE, ziL, ziN, hn, g3, g4, g5, g23, g24, g25, s1, s2, y1, y2, y3, y4, ← hh7]
        have hlim : ((4096 : Int) < (bl : Int)) = False := by simp only [eq_iff_iff, iff_false]; omega
        have hlim2 : decide ((4096 : Int) < (bl : Int)) = false := decide_eq_false (by omega)
        rw [WB_regionD [0, 1, 2, 3, 4, 5, 6, 7, 8, 9, 10, 11, 12, 13, 14, 15, 16, 17, 18] 2348535863524654754669802686016061228130555862896499523315203817387226566892314728992666036287410317270974464 (by kernel_rfl)]
        repeat (first | ((with_reducible refine WDM_cons ?_; simp only [dw1]; try simp only [dw2, zrA, zrM, zrR, zrO, zrE]); simp only [core, zrA, zrS, zrM, zrL, zrE, reduceCtorEq, zrD, ziE, ziL, ziN, cored, hn, g3, g4, g5, g23, g24, g25, LR7, lR7, R7, LP7, lP7, P7, p1, p2, p3, p4, y1, y2, y3, y4]) | simp only [core, zrA, zrS, zrM, zrL, zrE, reduceCtorEq, zrD, ziE, ziL, ziN, cored, hn, g3, g4, g5, g23, g24, g25, LR7, lR7, R7, LP7, lP7, P7, p1, p2, p3, p4, y1, y2, y3, y4])
        have S7 := S3.ext E47 (Nat.le_refl _)
        have T7 := T3.ext E47 (Nat.le_refl _)
        refine (CheckRoot_x S7 T7 hg3.rlen.o hg3.rlen.s).mono ?_
        rintro _ h8 ⟨E8, rfl⟩
        rw [hck]
        have n8 := E8.1
        have R8 := (E8.2 _ lR7).trans R7
        have P8 := (E8.2 _ lP7).trans P7
        have LR8 := ld_at (T := tabOf Tryz.prog NT0) R8
        have lR8 := at_lt R8
        have LP8 := ld_at (T := tabOf Tryz.prog NT0) P8
        have lP8 := at_lt P8
        have c0 : ((0 : Int) != 0) = false := by decide
        repeat (first | ((with_reducible refine WDM_cons ?_; simp only [dw1]; try simp only [dw2, zrA, zrM, zrR, zrO, zrE]); simp only [core, zrA, zrS, zrM, zrL, zrE, reduceCtorEq, zrD, ziE, ziL, ziN, cored, hn, g3, g4, g5, g23, g24, g25, LR8, lR8, R8, LP8, lP8, P8, p1, p2, p3, p4, y1, y2, y3, y4, c0]) | simp only [core, zrA, zrS, zrM, zrL, zrE, reduceCtorEq, zrD, ziE, ziL, ziN, cored, hn, g3, g4, g5, g23, g24, g25, LR8, lR8, R8, LP8, lP8, P8, p1, p2, p3, p4, y1, y2, y3, y4, c0])
        have nl3 : r3.live.length ≤ 1000000000000 := by have := hg3.live4; omega
        have no3 : r3.ops.length ≤ 1000000000000 := by have := hg3.right.nO; omega
        refine (plain_x (S7.ext E8 (Nat.le_refl _)) (T7.ext E8 (Nat.le_refl _)) nl3 no3).mono ?_
        rintro _ h9 ⟨E9, qa, qb, rfl, oqa, oqb⟩
        have n9 := E9.1
        have R9 := (E9.2 _ lR8).trans R8
        have P9 := (E9.2 _ lP8).trans P8
        have LR9 := ld_at (T := tabOf Tryz.prog NT0) R9
        have lR9 := at_lt R9
        have LP9 := ld_at (T := tabOf Tryz.prog NT0) P9
        have lP9 := at_lt P9
        have x1 := oqa.one
        have x2 := oqa.isSl
        have x3 := oqb.one
        have x4 := oqb.isSl
        repeat (first | ((with_reducible refine WDM_cons ?_; simp only [dw1]; try simp only [dw2, zrA, zrM, zrR, zrO, zrE]); simp only [core, zrA, zrS, zrM, zrL, zrE, reduceCtorEq, zrD, ziE, ziL, ziN, cored, hn, g3, g4, g5, g23, g24, g25, LR9, lR9, R9, LP9, lP9, P9, p1, p2, p3, p4, y1, y2, y3, y4, x1, x2, x3, x4, c0]) | simp only [core, zrA, zrS, zrM, zrL, zrE, reduceCtorEq, zrD, ziE, ziL, ziN, cored, hn, g3, g4, g5, g23, g24, g25, LR9, lR9, R9, LP9, lP9, P9, p1, p2, p3, p4, y1, y2, y3, y4, x1, x2, x3, x4, c0])
        have SB := opa.toSl flatSet (F := fun _ => True) fun _ _ => trivial
        have TB := opb.toSl flatTx (F := fun _ => True) fun _ _ => trivial
        have E69 : Ext h6.n h6 h9 := E7.trans ((E8.trans (E9.mono n8)).mono (by omega))
        refine (same25_x (SB.ext E69 (Nat.le_refl _)) (TB.ext E69 (Nat.le_refl _)) (oqa.toSl flatSet (F := fun _ => True) fun _ _ => trivial) (oqb.toSl flatTx (F := fun _ => True) fun _ _ => trivial) nl3 no3).mono ?_
        rintro _ h10 ⟨E10, rfl⟩
        have n10 := E10.1
        have E410 : Ext h4.n h4 h10 := E47.trans ((E8.trans ((E9.trans (E10.mono n9)).mono n8)).mono (by omega))
        have N10 := (E410.2 _ (at_lt N4')).trans N4'
        have R10 := (E410.2 _ lR4).trans R4
        have M10 := (E410.2 _ (at_lt M4)).trans M4
        have P10 := (E10.2 _ lP9).trans P9
        have LR10 := ld_at (T := tabOf Tryz.prog NT0) R10
        have lR10 := at_lt R10
        have LP10 := ld_at (T := tabOf Tryz.prog NT0) P10
        have lP10 := at_lt P10
        have LN10 := ld_at (T := tabOf Tryz.prog NT0) N10
        have lN10 := at_lt N10
        repeat (first | ((with_reducible refine WDM_cons ?_; simp only [dw1]; try simp only [dw2, zrA, zrM, zrR, zrO, zrE]); simp only [core, zrA, zrS, zrM, zrL, zrE, reduceCtorEq, zrD, ziE, ziL, ziN, cored, hn, g3, g4, g5, g23, g24, g25, LR10, lR10, R10, LP10, lP10, P10, p1, p2, p3, p4, y1, y2, y3, y4, x1, x2, x3, x4, c0, s1, s2, s3, hlim, hlim2, LN10, lN10, N10]) | simp only [core, zrA, zrS, zrM, zrL, zrE, reduceCtorEq, zrD, ziE, ziL, ziN, cored, hn, g3, g4, g5, g23, g24, g25, LR10, lR10, R10, LP10, lP10, P10, p1, p2, p3, p4, y1, y2, y3, y4, x1, x2, x3, x4, c0, s1, s2, s3, hlim, hlim2, LN10, lN10, N10])
        have S10 := S3.ext E410 (Nat.le_refl _)
        have T10 := T3.ext E410 (Nat.le_refl _)
        refine WB_for 4 (fun j t h => Ext h10.n h10 h ∧ t.n = 160 ∧ t.get 3 = .ptr H.n 0 ∧ t.get 4 = .ptr (H.n + 1) 0 ∧ t.get 5 = .mp (H.n + 2) ∧ t.get 23 = v ∧ t.get 24 = .lit (.int .i64 n) ∧ t.get 25 = .lit (.int .i64 i) ∧ t.get 129 = .agg [.lit (.string ⟨#[97]⟩), .lit (.string ⟨#[98]⟩), .lit (.string ⟨#[99, 46, 99]⟩), .lit (.string ⟨#[100, 45, 100]⟩)] ∧ t.get 130 = .lit (.int .i64 (j : Nat))) ?_ ?_ _ _ ?_
        · rintro j t h hlt4 hc4 ⟨EJ, hn, g3, g4, g5, g23, g24, g25, g129, g130⟩ ih4
          have hwj := wrap_succ (n := 4) hlt4 (by omega)
          have hcj : ((j : Int) < 4) = True := by simp only [eq_iff_iff, iff_true]; omega
          obtain ⟨nm, hnm⟩ : ∃ nm, names4[j]? = some nm := ⟨_, List.getElem?_eq_getElem hlt4⟩
          have hnmm := List.mem_of_getElem? hnm
          have RJ := (EJ.2 _ lR10).trans R10
          have LRJ := ld_at (T := tabOf Tryz.prog NT0) RJ
          have lRJ := at_lt RJ
          simp only [core, zrA, zrS, zrM, zrL, zrE, reduceCtorEq, zrD, ziE, ziL, ziN, hn, g3, g4, g5, g23, g24, g25, g129, g130, hlt4, hc4, hcj, a_idxN hnm, LRJ, lRJ, p1, p2, p3, p4]
          refine (Find_x (S10.ext EJ (Nat.le_refl _)) (T10.ext EJ (Nat.le_refl _)) hg3.rlen).mono ?_
          rintro _ hK ⟨EK, rfl⟩
          have MK := (EK.2 _ (by have := EJ.1; have := at_lt M10; omega)).trans ((EJ.2 _ (at_lt M10)).trans M10)
          have hlook := look_I (T := tabOf Tryz.prog NT0) nm hu hi hz MK ‹EntI es2 ps2›
          have hfd := hg3.fd nm hnmm
          have hff : findF r3 nm = r3.live.find? fun x => x.name == nm := by unfold findF; rw [if_pos hck]
          rw [← hff] at hfd
          have EK' : Ext h10.n h10 hK := EJ.trans (EK.mono EJ.1)
          cases hf : findF r3 nm with
          | none =>
            rw [hf] at hfd
            have hfd : getI ps2 nm = 0 := hfd
            rw [hfd] at hlook
            have hs0 : setC ((none : Option SetD).getD set0) = [.lit (.string ⟨#[]⟩), .lit (.string ⟨#[]⟩), .lit (.int .i64 0), .lit (.int .u8 0), .lit (.int .u8 0), .lit (.int .u8 0), .lit (.int .u8 0), .lit (.int .u8 0), .lit (.int .u8 0), .lit (.int .u8 0), .lit (.int .u8 0), .lit (.int .u8 0), .lit (.int .u8 0), .lit (.int .u8 0), .lit (.int .u8 0), .lit (.int .u8 0), .lit (.int .u8 0), .lit (.int .u8 0), .lit (.int .u8 0), .lit (.int .u8 0), .lit (.int .u8 0), .lit (.int .u8 0), .lit (.int .u8 0), .lit (.int .u8 0), .lit (.int .u8 0), .lit (.int .u8 0), .lit (.int .u8 0), .lit (.int .u8 0), .lit (.int .u8 0), .lit (.int .u8 0), .lit (.int .u8 0), .lit (.int .u8 0), .lit (.int .u8 0), .lit (.int .u8 0), .lit (.int .u8 0)] := rfl
            have EL : Ext hK.n hK (hK.push (.cells [.lit (.string ⟨#[]⟩), .lit (.string ⟨#[]⟩), .lit (.int .i64 0), .lit (.int .u8 0), .lit (.int .u8 0), .lit (.int .u8 0), .lit (.int .u8 0), .lit (.int .u8 0), .lit (.int .u8 0), .lit (.int .u8 0), .lit (.int .u8 0), .lit (.int .u8 0), .lit (.int .u8 0), .lit (.int .u8 0), .lit (.int .u8 0), .lit (.int .u8 0), .lit (.int .u8 0), .lit (.int .u8 0), .lit (.int .u8 0), .lit (.int .u8 0), .lit (.int .u8 0), .lit (.int .u8 0), .lit (.int .u8 0), .lit (.int .u8 0), .lit (.int .u8 0), .lit (.int .u8 0), .lit (.int .u8 0), .lit (.int .u8 0), .lit (.int .u8 0), .lit (.int .u8 0), .lit (.int .u8 0), .lit (.int .u8 0), .lit (.int .u8 0), .lit (.int .u8 0), .lit (.int .u8 0)] 39)) := (Ext.refl _ _).push _ (Nat.le_refl _)
            have hlookL := look_I (T := tabOf Tryz.prog NT0) nm hu hi hz ((EL.2 _ (at_lt MK)).trans MK) ‹EntI es2 ps2›
            rw [hfd] at hlookL
            rw [hs0]
            have cf : ((0 : Int) < 0) = False := by simp
            simp only [core, zrA, zrS, zrM, zrL, zrE, reduceCtorEq, zrD, ziE, ziL, ziN, hn, g3, g4, g5, g23, g24, g25, g129, g130, Option.isSome_none, a_lookT, aLookup, hlookL, cf, hwj]
            refine ih4 _ _ ⟨EK'.trans (EL.mono EK'.1), ?_⟩
            simp only [core, zrA, zrS, zrM, zrL, zrE, reduceCtorEq, zrD, ziE, ziL, ziN, hn, g3, g4, g5, g23, g24, g25, g129, g130]
          | some s =>
            rw [hf] at hfd
            have hfd : getI ps2 nm = s.size + 1 := hfd
            have hsm : s ∈ r3.live := List.mem_of_find?_eq_some (hff.symm.trans hf)
            obtain ⟨-, -, -, m1, m2⟩ := hg3.il s hsm
            have hs0 : setC ((some s : Option SetD).getD set0) = [.lit (.string ⟨s.name.toArray⟩), .lit (.string ⟨s.id.toArray⟩), .lit (.int .i64 s.size), .lit (.int .u8 (s.sha 0)), .lit (.int .u8 (s.sha 1)), .lit (.int .u8 (s.sha 2)), .lit (.int .u8 (s.sha 3)), .lit (.int .u8 (s.sha 4)), .lit (.int .u8 (s.sha 5)), .lit (.int .u8 (s.sha 6)), .lit (.int .u8 (s.sha 7)), .lit (.int .u8 (s.sha 8)), .lit (.int .u8 (s.sha 9)), .lit (.int .u8 (s.sha 10)), .lit (.int .u8 (s.sha 11)), .lit (.int .u8 (s.sha 12)), .lit (.int .u8 (s.sha 13)), .lit (.int .u8 (s.sha 14)), .lit (.int .u8 (s.sha 15)), .lit (.int .u8 (s.sha 16)), .lit (.int .u8 (s.sha 17)), .lit (.int .u8 (s.sha 18)), .lit (.int .u8 (s.sha 19)), .lit (.int .u8 (s.sha 20)), .lit (.int .u8 (s.sha 21)), .lit (.int .u8 (s.sha 22)), .lit (.int .u8 (s.sha 23)), .lit (.int .u8 (s.sha 24)), .lit (.int .u8 (s.sha 25)), .lit (.int .u8 (s.sha 26)), .lit (.int .u8 (s.sha 27)), .lit (.int .u8 (s.sha 28)), .lit (.int .u8 (s.sha 29)), .lit (.int .u8 (s.sha 30)), .lit (.int .u8 (s.sha 31))] := rfl
            obtain ⟨hL, hhL⟩ : ∃ hL, hL = hK.push (.cells [.lit (.string ⟨s.name.toArray⟩), .lit (.string ⟨s.id.toArray⟩), .lit (.int .i64 s.size), .lit (.int .u8 (s.sha 0)), .lit (.int .u8 (s.sha 1)), .lit (.int .u8 (s.sha 2)), .lit (.int .u8 (s.sha 3)), .lit (.int .u8 (s.sha 4)), .lit (.int .u8 (s.sha 5)), .lit (.int .u8 (s.sha 6)), .lit (.int .u8 (s.sha 7)), .lit (.int .u8 (s.sha 8)), .lit (.int .u8 (s.sha 9)), .lit (.int .u8 (s.sha 10)), .lit (.int .u8 (s.sha 11)), .lit (.int .u8 (s.sha 12)), .lit (.int .u8 (s.sha 13)), .lit (.int .u8 (s.sha 14)), .lit (.int .u8 (s.sha 15)), .lit (.int .u8 (s.sha 16)), .lit (.int .u8 (s.sha 17)), .lit (.int .u8 (s.sha 18)), .lit (.int .u8 (s.sha 19)), .lit (.int .u8 (s.sha 20)), .lit (.int .u8 (s.sha 21)), .lit (.int .u8 (s.sha 22)), .lit (.int .u8 (s.sha 23)), .lit (.int .u8 (s.sha 24)), .lit (.int .u8 (s.sha 25)), .lit (.int .u8 (s.sha 26)), .lit (.int .u8 (s.sha 27)), .lit (.int .u8 (s.sha 28)), .lit (.int .u8 (s.sha 29)), .lit (.int .u8 (s.sha 30)), .lit (.int .u8 (s.sha 31))] 39) := ⟨_, rfl⟩
            have EL : Ext hK.n hK hL := hhL ▸ (Ext.refl _ _).push _ (Nat.le_refl _)
            have L0 : hL.at hK.n = some (.cells [.lit (.string ⟨s.name.toArray⟩), .lit (.string ⟨s.id.toArray⟩), .lit (.int .i64 s.size), .lit (.int .u8 (s.sha 0)), .lit (.int .u8 (s.sha 1)), .lit (.int .u8 (s.sha 2)), .lit (.int .u8 (s.sha 3)), .lit (.int .u8 (s.sha 4)), .lit (.int .u8 (s.sha 5)), .lit (.int .u8 (s.sha 6)), .lit (.int .u8 (s.sha 7)), .lit (.int .u8 (s.sha 8)), .lit (.int .u8 (s.sha 9)), .lit (.int .u8 (s.sha 10)), .lit (.int .u8 (s.sha 11)), .lit (.int .u8 (s.sha 12)), .lit (.int .u8 (s.sha 13)), .lit (.int .u8 (s.sha 14)), .lit (.int .u8 (s.sha 15)), .lit (.int .u8 (s.sha 16)), .lit (.int .u8 (s.sha 17)), .lit (.int .u8 (s.sha 18)), .lit (.int .u8 (s.sha 19)), .lit (.int .u8 (s.sha 20)), .lit (.int .u8 (s.sha 21)), .lit (.int .u8 (s.sha 22)), .lit (.int .u8 (s.sha 23)), .lit (.int .u8 (s.sha 24)), .lit (.int .u8 (s.sha 25)), .lit (.int .u8 (s.sha 26)), .lit (.int .u8 (s.sha 27)), .lit (.int .u8 (s.sha 28)), .lit (.int .u8 (s.sha 29)), .lit (.int .u8 (s.sha 30)), .lit (.int .u8 (s.sha 31))] 39) := hhL ▸ at_push_n _ _
            have LL0 := ld_at (T := tabOf Tryz.prog NT0) L0
            have lL0 := at_lt L0
            have hlookL := look_I (T := tabOf Tryz.prog NT0) nm hu hi hz ((EL.2 _ (at_lt MK)).trans MK) ‹EntI es2 ps2›
            rw [hfd] at hlookL
            rw [hs0]
            have cf : ((0 : Int) < s.size + 1) = True := by simp only [eq_iff_iff, iff_true]; omega
            have ws : IntKind.i64.wrap (s.size + 1 - 1) = s.size := (wrap_in (by omega) (by omega)).trans (by omega)
            have cs : (s.size != s.size) = false := bne_self_eq_false _
            simp only [core, zrA, zrS, zrM, zrL, zrE, reduceCtorEq, zrD, ziE, ziL, ziN, hn, g3, g4, g5, g23, g24, g25, g129, g130, Option.isSome_some, a_lookT, aLookup, ← hhL, hlookL, cf, hwj, LL0, lL0, ws, cs]
            refine ih4 _ _ ⟨EK'.trans (EL.mono EK'.1), ?_⟩
            simp only [core, zrA, zrS, zrM, zrL, zrE, reduceCtorEq, zrD, ziE, ziL, ziN, hn, g3, g4, g5, g23, g24, g25, g129, g130]
        · rintro t h hc4 ⟨EJ, hn, g3, g4, g5, g23, g24, g25, g129, g130⟩
          have hc44 : (((4 : Nat) : Int) < (4 : Int)) = False := by simp
          simp only [core, zrA, zrS, zrM, zrL, zrE, reduceCtorEq, zrD, ziE, ziL, ziN, hn, g3, g4, g5, g23, g24, g25, g129, g130, hc4, hc44, hwi]
          have EJ' : Ext h4.n h4 h := E410.trans (EJ.mono (by omega))
          refine ih _ _ ⟨hi1, a3, b3, r3, ps2, es2, c2, E4.trans (EJ'.mono E4.1), by have := EJ.1; omega, (EJ'.2 _ (at_lt N4')).trans N4', (EJ'.2 _ lR4).trans R4, (EJ'.2 _ (at_lt M4)).trans M4, ‹EntI es2 ps2›, hg3, ⟨a3, b3, rfl, oa3.ext EJ' (Nat.le_refl _), ob3.ext EJ' (Nat.le_refl _)⟩, ?_⟩
          simp only [core, zrA, zrS, zrM, zrL, zrE, reduceCtorEq, zrD, ziE, ziL, ziN, hn, g3, g4, g5, g23, g24, g25, g129, g130]
        · refine ⟨Ext.refl _ _, ?_⟩
          simp only [core, zrA, zrS, zrM, zrL, zrE, reduceCtorEq, zrD, ziE, ziL, ziN, hn, g3, g4, g5, g23, g24, g25]
          try ((repeat' apply And.intro) <;> first | rfl | trivial)
  · rintro t h hc ⟨hi100, a, b, r, ps, es, c, E, hn3, N0, R0, M0, hent, hgr, ho, hn, g3, g4, g5, g23, g24, g25⟩
    simp only [core, zrA, zrS, zrM, zrL, zrE, reduceCtorEq, zrD, ziE, ziL, ziN, hn, g3, g4, g5, g23, g24, g25, hc]
    refine lives25_c ?_
    simp only [core, zrA, zrS, zrM, zrL, zrE, reduceCtorEq, zrD, ziE, ziL, ziN, hn, g3, g4, g5, g23, g24, g25]
  · refine ⟨Nat.zero_le _, _, _, root0, [], [], 0, E3, by omega, B1, B2, A3, trivial, Gr.zero, OwnQ.zero, ?_⟩
    simp only [core, zrA, zrS, zrM, zrL, zrE, reduceCtorEq, zrD, ziE, ziL, ziN]
    try ((repeat' apply And.intro) <;> first | rfl | trivial)
end Go.Proofs.YtjicijhakcmifaaGreatDoor.Ex
end

section

set_option linter.unusedSimpArgs false
set_option linter.unusedVariables false
namespace Go.Proofs.YtjicijhakcmifaaGreatDoor.Ex
open Go
/-- A row of cells. -/
def rowO (w : World) (r : Nat) : Option (List Value × TypeId) := match w.heap[r]? with
  | some (.cells cur e _) => some (cur.toList, e)
  | _ => none
theorem rowO_inv {w : World} {r : Nat} {l : List Value} {e : TypeId} (h : rowO w r = some (l, e)) : ∃ cur fz, w.heap[r]? = some (.cells cur e fz) ∧ l = cur.toList := by
  unfold rowO at h
  split at h
  · rename_i cur e' fz hh
    simp only [Option.some.injEq, Prod.mk.injEq] at h
    obtain ⟨rfl, rfl⟩ := h
    exact ⟨cur, fz, hh, rfl⟩
  · cases h
def winsAt (w : World) (r : Nat) : List (Nat × Nat) := match rowO w r with
  | some (l, _) => (List.range (l.length + 1)).map fun off => (r, off)
  | none => []
/-- All windows: a row from a place on (ahead of all: the row of the library's table). -/
def wins (w : World) : List (Nat × Nat) := winsAt w 1 ++ (List.range w.heap.size).flatMap (winsAt w)
theorem mem_winsAt {w : World} {r off r' : Nat} (h : (r, off) ∈ winsAt w r') : ∃ l e, rowO w r = some (l, e) ∧ off ≤ l.length := by
  unfold winsAt at h
  split at h
  · rename_i l e hl
    obtain ⟨off', h1, h2⟩ := List.mem_map.1 h
    simp only [Prod.mk.injEq] at h2
    obtain ⟨rfl, rfl⟩ := h2
    rw [List.mem_range] at h1
    exact ⟨l, e, hl, by omega⟩
  · cases h
theorem mem_wins {w : World} {r off : Nat} : (r, off) ∈ wins w ↔ ∃ l e, rowO w r = some (l, e) ∧ off ≤ l.length := by
  unfold wins
  rw [List.mem_append, List.mem_flatMap]
  constructor
  · rintro (h | ⟨r', _, h⟩) <;> exact mem_winsAt h
  · rintro ⟨l, e, hl, ho⟩
    refine .inr ⟨r, ?_, ?_⟩
    · obtain ⟨cur, fz, hh, _⟩ := rowO_inv hl
      rw [List.mem_range]
      exact (Array.getElem?_eq_some_iff.1 hh).1
    · unfold winsAt
      rw [hl]
      exact List.mem_map.2 ⟨off, by rw [List.mem_range]; omega, rfl⟩
/-- A window's number. -/
def widx (w : World) (p : Nat × Nat) : Nat := (wins w).idxOf p + 1
def mu0 (w : World) : Mu := fun b => match b with
  | 0 => none
  | k + 1 => (wins w)[k]?
theorem mu0_widx {w : World} {p : Nat × Nat} (h : p ∈ wins w) : mu0 w (widx w p) = some p := by
  show (wins w)[(wins w).idxOf p]? = some p
  have hlt := List.idxOf_lt_length_of_mem h
  rw [List.getElem?_eq_getElem hlt, List.getElem_idxOf hlt]
instance (w : World) (p : Nat × Nat) : Decidable (p ∈ wins w) := inferInstance
def absV (w : World) : Value → AV
  | .pointer (some ⟨r, o, none⟩) => if (r, o) ∈ wins w then .ptr (widx w (r, o)) 0 else .any
  | .slice (some a) len cap => if len = 0 ∧ cap = 0 then .sl 0 0 0 (.kn 0) else match a with
    | ⟨r, o, none⟩ => if (r, o) ∈ wins w ∧ len ≤ cap ∧ cap ≤ maxLen then .sl (widx w (r, o)) 0 len (.kn cap) else .any
    | _ => .any
  | v => bif scal v then .lit v else .any
theorem absV_rel {ρ : Nat → Value} {w : World} {v : Value} (hv : v.oneCell' = true) : rel ρ (mu0 w) w (absV w v) v := by
  unfold absV
  split
  · rename_i r o
    split
    · rename_i hm
      unfold rel
      exact ⟨r, o, mu0_widx hm, rfl⟩
    · unfold rel; exact hv
  · rename_i a len cap
    split
    · rename_i h0
      obtain ⟨rfl, rfl⟩ := h0
      unfold rel
      exact .inr ⟨rfl, rfl, a, rfl⟩
    · split
      · rename_i r o
        split
        · rename_i hm
          unfold rel
          exact .inl ⟨r, o, o, cap, mu0_widx hm.1, rfl, .inr rfl, rfl, hm.2.1, hm.2.2⟩
        · unfold rel; exact hv
      · unfold rel; exact hv
  · cases hs : scal v with
    | false => simp only [cond_false]; unfold rel; exact hv
    | true => simp only [cond_true]; exact rel_lit hs
/-- A window's cells, as far as they are cells. -/
def absB (w : World) (p : Nat × Nat) : AB := match rowO w p.1 with
  | some (l, e) => .frz (((l.drop p.2).takeWhile (·.oneCell')).map (absV w)) e
  | none => .gone
def AH.ofList (l : List AB) : AH := l.foldl AH.push .nil
theorem L_foldl : ∀ (l : List AB) (h : AH), (l.foldl AH.push h).L = h.L ++ l
  | [], h => by simp
  | x :: r, h => by rw [List.foldl_cons, L_foldl r, L_push, List.append_assoc]; rfl
theorem L_ofList (l : List AB) : (AH.ofList l).L = l := by
  unfold AH.ofList
  rw [L_foldl]
  rfl
/-- The abstract heap of a world; block 0 is an empty row. -/
def absH (w : World) : AH := AH.ofList (.frz [] 0 :: (wins w).map (absB w))
theorem absH_L (w : World) : (absH w).L = .frz [] 0 :: (wins w).map (absB w) := L_ofList _
theorem absH_0 (w : World) : (absH w).at 0 = some (.frz [] 0) := by rw [← L_at, absH_L]; rfl
theorem absH_at {w : World} {p : Nat × Nat} (h : p ∈ wins w) : (absH w).at (widx w p) = some (absB w p) := by
  rw [← L_at, absH_L]
  have : (wins w)[(wins w).idxOf p]? = some p := mu0_widx h
  show ((wins w).map (absB w))[(wins w).idxOf p]? = _
  rw [List.getElem?_map, this]
  rfl
theorem absH_wr {w : World} {b : Nat} {ab : AB} (h : (absH w).L[b]? = some ab) : wr ab = false := by
  rw [absH_L] at h
  cases b with
  | zero => simp at h; subst h; rfl
  | succ k =>
    rw [List.getElem?_cons_succ, List.getElem?_map] at h
    obtain ⟨p, _, rfl⟩ := Option.map_eq_some_iff.1 h
    unfold absB
    split <;> rfl
theorem absH_nw (w : World) (b : Nat) (ab : AB) (h : (absH w).at b = some ab) : wr ab = false := absH_wr (by rw [L_at]; exact h)
theorem takeWhile_get {α : Type} {p : α → Bool} : ∀ {l : List α} {i : Nat} {x : α}, (l.takeWhile p)[i]? = some x → l[i]? = some x ∧ p x = true
  | [], i, x, h => by simp at h
  | a :: r, i, x, h => by
    rw [List.takeWhile_cons] at h
    cases ha : p a with
    | false => rw [ha] at h; simp at h
    | true =>
      rw [ha] at h
      cases i with
      | zero => simp at h; subst h; exact ⟨rfl, ha⟩
      | succ i => simp only [if_true, List.getElem?_cons_succ] at h ⊢; exact takeWhile_get h
theorem takeWhile_take {α : Type} {p : α → Bool} : ∀ {l : List α} {n : Nat}, (∀ x ∈ l.take n, p x = true) → (l.takeWhile p).take n = l.take n
  | [], n, _ => by simp
  | a :: r, 0, _ => by simp
  | a :: r, n + 1, h => by
    rw [List.takeWhile_cons, if_pos (h a (by simp)), List.take_succ_cons, List.take_succ_cons, takeWhile_take fun x hx => h x (by simp [hx])]
theorem absH_hr {P : Program} {ρ : Nat → Value} (w : World) (hpin : PinOf ρ (mu0 w) w := by intro r h; cases h) : HR P ρ w.heap.size (mu0 w) (absH w) w := by
  refine ⟨Nat.le_refl _, fun b x hb => ?_, fun b r base ab hb hx => ?_, fun b b' r base base' ab ab' h1 h2 h3 h4 h5 h6 => ?_, hpin⟩
  · rw [absH_L]
    cases b with
    | zero => cases hb
    | succ k =>
      have : k < (wins w).length := (List.getElem?_eq_some_iff.1 (show (wins w)[k]? = some x from hb)).1
      simp only [List.length_cons, List.length_map]
      omega
  · cases b with
    | zero => cases hb
    | succ k =>
      have hk : (wins w)[k]? = some (r, base) := hb
      rw [absH_L, List.getElem?_cons_succ, List.getElem?_map, hk] at hx
      simp only [Option.map_some, Option.some.injEq] at hx
      obtain ⟨l, e, hl, ho⟩ := mem_wins.1 (List.mem_of_getElem? hk)
      obtain ⟨cur, fz, hh, rfl⟩ := rowO_inv hl
      unfold absB at hx
      rw [hl] at hx
      simp only at hx
      subst hx
      refine ⟨fun hw => (by cases hw), (Array.getElem?_eq_some_iff.1 hh).1, _, hh, cur, fz, rfl, ?_, fun i x hi => ?_⟩
      · have h1 := (List.takeWhile_prefix (l := cur.toList.drop base) (·.oneCell')).length_le
        rw [List.length_drop] at h1
        have e0 : cur.toList.length = cur.size := Array.length_toList
        rw [e0] at h1 ho
        rw [List.length_map]
        exact Nat.le_trans (Nat.add_le_add_left h1 base) (by omega)
      · rw [List.getElem?_map] at hi
        obtain ⟨v, hv, rfl⟩ := Option.map_eq_some_iff.1 hi
        obtain ⟨h1, h2⟩ := takeWhile_get hv
        rw [List.getElem?_drop, Array.getElem?_toList] at h1
        exact ⟨v, h1, absV_rel h2⟩
  · have := absH_wr h3
    rw [this] at h5
    cases h5
end Go.Proofs.YtjicijhakcmifaaGreatDoor.Ex
end

section

set_option linter.unusedSimpArgs false
set_option linter.unusedVariables false
namespace Go.Proofs.YtjicijhakcmifaaGreatDoor
open Go.RowKit Go.ChangeShapes Go.WideShapes Go.ChangeAt
open Go.ChangeMaps (open_string shut_string)
theorem own : ownKnob Tryz.prog.godebug = none := by kernel_rfl
theorem laidOut : laidOutB Tryz.prog = true := by kernel_rfl
section
variable {H : Type} {enc : TypeId × Value → H} {P : Program} {W W' : World}
theorem below_trodAll (hl : laidOutB P = true) (hb : Below W.heap.size W W') : ∀ {ts : List TypeId} {vs : List Value} {ds : List (DataW H)} {ps : List MemPlace},
    ts.all (fun t => P.readableRec t && decide (t < P.types.size)) = true → DataW.TrodAll enc P W 0 (fun _ => true) true ts vs ds ps → DataW.TrodAll enc P W' 0 (fun b => decide (b < W.heap.size)) true ts vs ds ps
  | [], _, _, _, _, h => by obtain ⟨rfl, rfl, rfl⟩ := trodAll_nil h; exact trodAll_mk0
  | t :: ts, vs, ds, ps, hr, h => by
    obtain ⟨v, vs', d, ds', p, q, rfl, rfl, rfl, h1, h2⟩ := trodAll_cons h
    simp only [List.all_cons, Bool.and_eq_true, decide_eq_true_eq] at hr
    refine trodAll_cons_mk (Below.trod hl hr.1.1 hr.1.2 h1 hb ?_) (below_trodAll hl hb (by simpa using hr.2) h2)
    obtain ⟨m, hm⟩ := h1
    exact DataW.trod_lt m _ _ _ hm
theorem weights_le {ts : List TypeId} {ds : List (DataW H)} (hsz : (DataW.weightsEach P ts ds).all (· ≤ reachBytes) = true) {j : Nat} {t : TypeId} {d : DataW H} (hj : ts[j]? = some t) (hd : ds[j]? = some d) : ∀ n ∈ d.weights P t, n ≤ reachBytes := fun n hn => by
  have := List.all_eq_true.1 hsz n (DataW.weights_mem_each hj hd n hn)
  simpa using this
theorem weightsAll_mem {e : TypeId} : ∀ {l : List (DataW H)} {i : Nat} {d : DataW H}, l[i]? = some d → ∀ n ∈ d.weights P e, n ∈ DataW.weightsAll P e l
  | d0 :: l, 0, d, h, n, hn => by simp at h; subst h; simp [DataW.weightsAll, hn]
  | d0 :: l, i + 1, d, h, n, hn => by
    simp only [List.getElem?_cons_succ] at h
    simp only [DataW.weightsAll, List.mem_append]
    exact .inr (weightsAll_mem h n hn)
end
end Go.Proofs.YtjicijhakcmifaaGreatDoor
end

section

set_option linter.unusedSimpArgs false
set_option linter.unusedVariables false
namespace Go.Proofs.YtjicijhakcmifaaGreatDoor.Ex
open Go Go.RowKit Go.ChangeShapes Go.WideShapes Go.ChangeAt
section
variable {H : Type} (enc : TypeId × Value → H)
/-- The blocks of the abstract heap. -/
def InH (W : World) : Nat → Prop := fun b => b < (absH W).n
/-- A value of type t that is read is plain data; of what is not too great, B holds; μ is no greater than the reading's bulk. -/
def OpensM (P : Program) (W : World) (t : TypeId) {α : Type} (R : Rep α) (B : α → Prop) (μ : α → Nat) : Prop :=
  P.cellsOf t = R.z ∧ ∀ (fuel : Nat) (cs : List Value) (x : DataW H × List MemPlace), DataW.trod enc P W 0 (fun _ => true) true fuel t cs = some x → (x.1.weights P t).all (· ≤ reachBytes) = true →
    cs.length = R.z ∧ (∀ c ∈ cs, c.oneCell' = true) ∧ ∃ y, R.is (InH W) (absH W) (cs.map (absV W)) y ∧ B y ∧ μ y ≤ Rows.uptoBulk x.1
def OpensA (P : Program) (W : World) (t : TypeId) {α : Type} (R : Rep α) (B : α → Prop) : Prop := OpensM enc P W t R B (fun _ => 0)
variable {enc} {P : Program} {W : World}
theorem OpensM.to {t : TypeId} {α : Type} {R : Rep α} {B B' : α → Prop} {μ μ' : α → Nat} (h : OpensM enc P W t R B μ) (hB : ∀ y, B y → B' y) (hm : ∀ y, μ' y ≤ μ y) : OpensM enc P W t R B' μ' := by
  refine ⟨h.1, fun fuel cs x hf hw => ?_⟩
  obtain ⟨a, b, y, c, d, e⟩ := h.2 fuel cs x hf hw
  exact ⟨a, b, y, c, hB y d, Nat.le_trans (hm y) e⟩
theorem OpensM.toA {t : TypeId} {α : Type} {R : Rep α} {B : α → Prop} {μ : α → Nat} (h : OpensM enc P W t R B μ) : OpensA enc P W t R B := h.to (fun _ h => h) fun _ => Nat.zero_le _
theorem bulk_pos : ∀ d : DataW H, 1 ≤ Rows.uptoBulk d := by
  intro d
  unfold Rows.uptoBulk
  split <;> omega
theorem opensM_int {t : TypeId} (ht : P.underlying t = some (.int .i64)) (hc : P.cellsOf t = 1) : OpensM enc P W t RInt (fun _ => True) (fun _ => 1) := by
  refine ⟨hc, fun fuel cs x h _ => ?_⟩
  obtain ⟨n, rfl, rfl, hw⟩ := DataW.trod_int ht h
  refine ⟨rfl, by simp; rfl, n, ⟨rfl, ?_⟩, trivial, bulk_pos _⟩
  simp only [Lit.wf, IntKind.min, IntKind.max, IntKind.signed, IntKind.bits] at hw
  simp at hw
  exact ⟨hw.1, by omega⟩
theorem opensA_int {t : TypeId} (ht : P.underlying t = some (.int .i64)) (hc : P.cellsOf t = 1) : OpensA enc P W t RInt (fun _ => True) := (opensM_int ht hc).toA
theorem flat_getV {α : Type} {z : Nat} : ∀ {L : List (List α)}, (∀ x ∈ L, x.length = z) → ∀ (i : Nat) {c : List α}, L[i]? = some c → (L.flatten.drop (i * z)).take z = c
  | [], _, i, c, hc => by simp at hc
  | a :: r, h, i, c, hc => by
    have ha := h a (by simp)
    cases i with
    | zero =>
      obtain rfl : a = c := by simpa using hc
      rw [Nat.zero_mul, List.drop_zero, List.flatten_cons, ← ha, List.take_left']
      rfl
    | succ i =>
      rw [List.flatten_cons, Nat.succ_mul, Nat.add_comm, List.drop_append, List.drop_of_length_le (by omega), List.nil_append, ha, Nat.add_sub_cancel_left]
      exact flat_getV (fun x hx => h x (by simp [hx])) i (by simpa using hc)
theorem flat_lenV {α : Type} {z : Nat} {L : List (List α)} (h : ∀ x ∈ L, x.length = z) : L.flatten.length = L.length * z := by
  induction L with
  | nil => simp
  | cons a r ih =>
    rw [List.flatten_cons, List.length_append, ih (fun x hx => h x (by simp [hx])), h a (by simp), List.length_cons, Nat.succ_mul]
    omega
theorem weightsAll_mem {e : TypeId} : ∀ {l : List (DataW H)} {d : DataW H}, d ∈ l → ∀ n ∈ d.weights P e, n ∈ DataW.weightsAll P e l
  | a :: r, d, hd, n, hn => by
    simp only [DataW.weightsAll, List.mem_append]
    rcases List.mem_cons.1 hd with rfl | h
    · exact .inl hn
    · exact .inr (weightsAll_mem h n hn)
theorem bulkAll_le {f g : List (DataW H × List MemPlace)} : Rows.uptoBulkAll ((f ++ g).map (·.1)) = Rows.uptoBulkAll (f.map (·.1)) + Rows.uptoBulkAll (g.map (·.1)) := by
  induction f with
  | nil => simp [Rows.uptoBulkAll]
  | cons a r ih => simp only [List.cons_append, List.map_cons, Rows.uptoBulkAll, ih]; omega
theorem opensM_list {t e : TypeId} {α : Type} {R : Rep α} {B : α → Prop} {μ : α → Nat} {by' : Nat} (ht : P.underlying t = some (.slice e)) (hc : P.cellsOf t = 1) (hb : P.bytesOf e = by') (h0 : 0 < R.z) (ho : OpensM enc P W e R B μ) :
    OpensM enc P W t (RSl R) (fun ys => ys.length * by' ≤ 140737488351232 ∧ ∀ y ∈ ys, B y) (fun ys => (ys.map μ).sum) := by
  refine ⟨hc, fun fuel cs x hf hw => ?_⟩
  rcases DataW.trod_slice ht hf with ⟨rfl, rfl⟩ | ⟨a, len, cap, elems, rest, m, rfl, rfl, rfl, hba, hl, hm, hlen, hel, hsp, hns⟩
  · exact ⟨rfl, by simp; rfl, [], RSl_is.2 ⟨_, rfl, IsSl.nil⟩, ⟨by simp, by simp⟩, by simp⟩
  · rw [ho.1] at hel hsp
    simp only [DataW.weights, ht, List.all_cons, List.all_append, Bool.and_eq_true, decide_eq_true_eq, hb] at hw
    obtain ⟨hw1, hw2, hw3⟩ := hw
    have hrl := (hsp rfl).1
    have hbig : len * by' ≤ 140737488351232 := by
      have h1 : len * by' ≤ (elems.map (·.1)).length * by' + (rest.map (·.1)).length * by' := by rw [List.length_map, hlen]; omega
      rw [← Nat.add_mul] at h1
      exact Nat.le_trans h1 hw1
    have hone : ∀ c ∈ [Value.slice (some a) len cap], c.oneCell' = true := by simp; rfl
    refine ⟨rfl, hone, ?_⟩
    by_cases hz : len = 0 ∧ cap = 0
    · obtain ⟨rfl, rfl⟩ := hz
      refine ⟨[], RSl_is.2 ⟨.sl 0 0 0 (.kn 0), by simp [absV], .mk (L := []) ⟨by simp, .inr ⟨0, 0, _, [], rfl, by unfold getR; rw [absH_0], by simp [cut]⟩⟩ (fun b off n cap e => ?_) (fun b off n cap e => by cases e; exact Nat.le_refl 0) .nil⟩, ⟨by simp, by simp⟩, by simp⟩
      cases e
      exact at_lt (absH_0 W)
    · have hcap : 0 < cap := by omega
      have hsz0 : elems.length + rest.length = cap := by omega
      -- what is read
      have hrd : ∀ i, i < cap → ∃ l x, W.cells? 0 (a.add (i * R.z)) R.z = some l ∧ DataW.trod enc P W 0 (fun _ => true) true m e l = some x ∧ (i < len → elems[i]? = some x) := fun i hi => by
        by_cases hil : i < len
        · have h2 := hel i hil
          rw [List.getElem?_eq_getElem (by omega)] at h2
          obtain ⟨l, hl1, hl2⟩ := Option.bind_eq_some_iff.1 h2
          exact ⟨l, _, hl1, hl2, fun _ => List.getElem?_eq_getElem (by omega)⟩
        · have h2 := (hsp rfl).2 (i - len) (by omega)
          rw [List.getElem?_eq_getElem (by omega), show len + (i - len) = i by omega] at h2
          obtain ⟨l, hl1, hl2⟩ := Option.bind_eq_some_iff.1 h2
          exact ⟨l, _, hl1, hl2, fun h => absurd h hil⟩
      obtain ⟨r, o, spot⟩ := a
      obtain ⟨l0, x0, q1, q2, -⟩ := hrd 0 hcap
      have hspot : spot = none := by
        have h3 := World.cells?_some q1
        have h4 := h3.2.2 0 h0
        rw [List.getElem?_eq_getElem (by have := h3.2.1; omega)] at h4
        simpa [Addr.add] using World.cell?_spot h4
      subst hspot
      have hcell : ∀ (k : Nat) (v : Value), W.cell? (⟨r, o + k, none⟩ : Addr) = some v → ∃ cur e fz, W.heap[r]? = some (.cells cur e fz) ∧ cur[o + k]? = some v := fun k v hk => by
        unfold World.cell? at hk
        cases hh : W.heap[r]? with
        | none => simp [hh] at hk
        | some ob => cases ob <;> simp [hh] at hk <;> exact ⟨_, _, _, rfl, hk⟩
      -- the row
      obtain ⟨cur, te, fz, hrow⟩ : ∃ cur te fz, W.heap[r]? = some (.cells cur te fz) := by
        have h3 := World.cells?_some q1
        have h4 := h3.2.2 0 h0
        rw [List.getElem?_eq_getElem (by have := h3.2.1; omega)] at h4
        obtain ⟨cur, te, fz, h5, _⟩ := hcell 0 _ (by simpa [Addr.add] using h4)
        exact ⟨cur, te, fz, h5⟩
      have hcur : ∀ i l, W.cells? 0 ((⟨r, o, none⟩ : Addr).add (i * R.z)) R.z = some l → l.length = R.z ∧ ∀ f, f < R.z → cur[o + i * R.z + f]? = l[f]? := fun i l hil => by
        have h3 := World.cells?_some hil
        refine ⟨h3.2.1, fun f hf => ?_⟩
        have h4 := h3.2.2 f hf
        obtain ⟨u, hu⟩ : ∃ u, l[f]? = some u := ⟨_, List.getElem?_eq_getElem (by have := h3.2.1; omega)⟩
        rw [hu] at h4 ⊢
        rw [addr_add, addr_add] at h4
        obtain ⟨cur', te', fz', h5, h6⟩ := hcell (i * R.z + f) _ (by rw [← Nat.add_assoc]; exact h4)
        rw [hrow] at h5
        obtain ⟨rfl, _, _⟩ := Obj.cells.inj (Option.some.inj h5)
        rw [← h6, Nat.add_assoc]
      -- the elements, and the data
      have key : ∀ n, n ≤ len → ∃ (L : List (List Value)) (ys : List α), L.length = n ∧ ys.length = n ∧ (∀ c ∈ L, c.length = R.z ∧ ∀ u ∈ c, u.oneCell' = true) ∧ (∀ (i : Nat) c y, L[i]? = some c → ys[i]? = some y → R.is (InH W) (absH W) (c.map (absV W)) y) ∧ (∀ (i : Nat) c, L[i]? = some c → ∀ f, f < R.z → cur[o + i * R.z + f]? = c[f]?) ∧ (∀ y ∈ ys, B y) ∧ (ys.map μ).sum ≤ Rows.uptoBulkAll ((elems.take n).map (·.1)) := by
        intro n
        induction n with
        | zero => exact fun _ => ⟨[], [], rfl, rfl, by simp, by simp, by simp, by simp, by simp⟩
        | succ n ih =>
          intro hn
          obtain ⟨L, ys, h1, h2, h3, h4, h5, h6, h7⟩ := ih (by omega)
          obtain ⟨l, x, e1, e2, e3⟩ := hrd n (by omega)
          have e3 := e3 (by omega)
          have hwx : (x.1.weights P e).all (· ≤ reachBytes) = true := by
            rw [List.all_eq_true] at hw2 ⊢
            intro k hk
            exact hw2 k (weightsAll_mem (List.mem_map.2 ⟨x, List.mem_of_getElem? e3, rfl⟩) k hk)
          obtain ⟨g1, g2, y, g3, g4, g7⟩ := ho.2 _ _ _ e2 hwx
          obtain ⟨g5, g6⟩ := hcur n l e1
          refine ⟨L ++ [l], ys ++ [y], by simp [h1], by simp [h2], fun c hc => ?_, fun i c z hc hz => ?_, fun i c hc => ?_, fun z hz => ?_, ?_⟩
          · rcases List.mem_append.1 hc with hc | hc
            · exact h3 c hc
            · simp at hc; subst hc; exact ⟨g1, g2⟩
          · by_cases hi : i < n
            · rw [List.getElem?_append_left (by omega)] at hc hz
              exact h4 i c z hc hz
            · have := (List.getElem?_eq_some_iff.1 hc).1
              simp only [List.length_append, List.length_singleton] at this
              obtain rfl : i = n := by omega
              rw [List.getElem?_append_right (by omega), h1, Nat.sub_self] at hc
              rw [List.getElem?_append_right (by omega), h2, Nat.sub_self] at hz
              simp at hc hz
              subst hc hz
              exact g3
          · by_cases hi : i < n
            · rw [List.getElem?_append_left (by omega)] at hc
              exact h5 i c hc
            · have := (List.getElem?_eq_some_iff.1 hc).1
              simp only [List.length_append, List.length_singleton] at this
              obtain rfl : i = n := by omega
              rw [List.getElem?_append_right (by omega), h1, Nat.sub_self] at hc
              simp at hc
              subst hc
              exact g6
          · rcases List.mem_append.1 hz with hz | hz
            · exact h6 z hz
            · simp at hz; subst hz; exact g4
          · rw [List.take_add_one, e3, bulkAll_le, List.map_append, List.sum_append]
            simp only [List.map_cons, List.map_nil, List.sum_cons, List.sum_nil, Option.toList_some, Rows.uptoBulkAll]
            omega
      obtain ⟨L, ys, k1, k2, k3, k4, k5, k6, k7⟩ := key len (Nat.le_refl _)
      have hfl : L.flatten.length = len * R.z := by rw [flat_lenV (fun c hc => (k3 c hc).1), k1]
      have hpre : (cur.toList.drop o).take (len * R.z) = L.flatten := by
        apply List.ext_getElem?
        intro j
        by_cases hj : j < len * R.z
        · rw [List.getElem?_take, if_pos hj, List.getElem?_drop, Array.getElem?_toList]
          have hd : j / R.z < len := Nat.div_lt_of_lt_mul (by rw [Nat.mul_comm]; exact hj)
          have hm2 := Nat.mod_lt j h0
          have hdm := Nat.div_add_mod j R.z
          rw [Nat.mul_comm] at hdm
          have hLd : L[j / R.z]? = some L[j / R.z] := List.getElem?_eq_getElem (by omega)
          have h7 := k5 (j / R.z) _ hLd (j % R.z) hm2
          rw [Nat.add_assoc, hdm] at h7
          rw [h7]
          have h8 := flat_getV (fun c hc => (k3 c hc).1) (j / R.z) hLd
          rw [← h8, List.getElem?_take, if_pos hm2, List.getElem?_drop, hdm]
        · rw [List.getElem?_eq_none (by rw [List.length_take]; omega), List.getElem?_eq_none (by omega)]
      have hto : o ≤ cur.size := by
        obtain ⟨hll, hff⟩ := hcur 0 l0 q1
        have := hff 0 h0
        rw [List.getElem?_eq_getElem (by omega)] at this
        have := (Array.getElem?_eq_some_iff.1 this).1
        omega
      have hro : rowO W r = some (cur.toList, te) := by unfold rowO; rw [hrow]
      have hwin : (r, o) ∈ wins W := mem_wins.2 ⟨_, _, hro, by rw [Array.length_toList]; exact hto⟩
      refine ⟨ys, RSl_is.2 ⟨.sl (widx W (r, o)) 0 len (.kn cap), ?_, .mk (L := L.map (·.map (absV W))) ⟨?_, .inr ⟨widx W (r, o), 0, .kn cap, ((cur.toList.drop o).takeWhile (·.oneCell')).map (absV W), by rw [List.length_map, k1], ?_, ?_⟩⟩ (fun b off n cap e => ?_) (fun b off n cap e => ?_) ⟨by rw [List.length_map, k1, k2], fun i c y hc hy => ?_⟩⟩, ⟨by rw [k2]; exact hbig, k6⟩, by rw [List.take_of_length_le (by omega)] at k7; simp only [Rows.uptoBulk]; omega⟩
      · show [absV W (.slice (some ⟨r, o, none⟩) len cap)] = _
        simp only [absV, if_neg hz, if_pos (show (r, o) ∈ wins W ∧ len ≤ cap ∧ cap ≤ maxLen from ⟨hwin, hl, hm⟩)]
      · intro c hc
        obtain ⟨d, hd, rfl⟩ := List.mem_map.1 hc
        rw [List.length_map]
        exact (k3 d hd).1
      · unfold getR
        rw [absH_at hwin]
        simp only [absB, hro]
      · have htw : ((cur.toList.drop o).takeWhile (·.oneCell')).take (len * R.z) = L.flatten := by
          rw [takeWhile_take, hpre]
          intro u hu
          rw [hpre] at hu
          obtain ⟨c, hc, hu⟩ := List.mem_flatten.1 hu
          exact (k3 c hc).2 u hu
        have hlen2 : len * R.z ≤ ((cur.toList.drop o).takeWhile (·.oneCell')).length := by
          have := congrArg List.length htw
          rw [List.length_take, hfl] at this
          omega
        rw [List.length_map, k1]
        unfold cut
        rw [if_pos (by rw [List.length_map]; omega), List.drop_zero, ← List.map_take, htw, List.map_flatten]
      · cases e
        exact at_lt (absH_at hwin)
      · cases e
        exact hl
      · rw [List.getElem?_map] at hc
        obtain ⟨d, hd, rfl⟩ := Option.map_eq_some_iff.1 hc
        exact k4 i d y hd hy
/-! Structs. -/
/-- Values of several types, one behind another. -/
def OpensN (enc : TypeId × Value → H) (P : Program) (W : World) (ts : List TypeId) {α : Type} (R : Rep α) (B : α → Prop) (μ : α → Nat) : Prop :=
  (ts.map P.cellsOf).sum = R.z ∧ ∀ (fuel : Nat) (cs : List Value) (xs : List (DataW H × List MemPlace)), cs.length = R.z → xs.length = ts.length →
    (∀ (i : Nat) t, ts[i]? = some t → DataW.trod enc P W 0 (fun _ => true) true fuel t ((cs.drop ((ts.take i).map P.cellsOf).sum).take (P.cellsOf t)) = xs[i]?) →
    (DataW.weightsEach P ts (xs.map (·.1))).all (· ≤ reachBytes) = true →
    (∀ c ∈ cs, c.oneCell' = true) ∧ ∃ y, R.is (InH W) (absH W) (cs.map (absV W)) y ∧ B y ∧ μ y ≤ Rows.uptoBulkAll (xs.map (·.1))
theorem opensN_one {t : TypeId} {α : Type} {R : Rep α} {B : α → Prop} {μ : α → Nat} (h : OpensM enc P W t R B μ) : OpensN enc P W [t] R B μ := by
  refine ⟨by simp [h.1], fun fuel cs xs hc hx hh hw => ?_⟩
  match xs, hx with
  | [x], _ =>
    have h1 := hh 0 t rfl
    simp only [List.take_zero, List.map_nil, List.sum_nil, List.drop_zero, List.getElem?_cons_zero] at h1
    rw [h.1, ← hc, List.take_length] at h1
    simp only [List.map_cons, List.map_nil, DataW.weightsEach, List.append_nil] at hw
    simp only [List.map_cons, List.map_nil, Rows.uptoBulkAll, Nat.add_zero]
    exact (h.2 _ _ _ h1 hw).2
theorem opensN_cons {t : TypeId} {ts : List TypeId} {α β : Type} {R : Rep α} {S : Rep β} {B : α → Prop} {C : β → Prop} {μ : α → Nat} {ν : β → Nat} (h : OpensM enc P W t R B μ) (k : OpensN enc P W ts S C ν) : OpensN enc P W (t :: ts) (RPair R S) (fun x => B x.1 ∧ C x.2) (fun x => μ x.1 + ν x.2) := by
  refine ⟨by simp [h.1, k.1, RPair], fun fuel cs xs hc hx hh hw => ?_⟩
  match xs, hx with
  | x :: xs, hx =>
    have hcz : cs.length = R.z + S.z := hc
    have h1 := hh 0 t rfl
    simp only [List.take_zero, List.map_nil, List.sum_nil, List.drop_zero, List.getElem?_cons_zero, h.1] at h1
    simp only [List.map_cons, DataW.weightsEach, List.all_append, Bool.and_eq_true] at hw
    obtain ⟨g1, g2, y, g3, g4, g5⟩ := h.2 _ _ _ h1 hw.1
    obtain ⟨q1, z, q2, q3, q4⟩ := k.2 fuel (cs.drop R.z) xs (by rw [List.length_drop]; omega) (by simpa using hx) (fun i t' ht' => by
      have h2 := hh (i + 1) t' (by simpa using ht')
      rw [List.take_succ_cons, List.map_cons, List.sum_cons, h.1, ← List.drop_drop, List.getElem?_cons_succ] at h2
      exact h2) hw.2
    refine ⟨fun c hc => ?_, (y, z), ⟨(cs.take R.z).map (absV W), (cs.drop R.z).map (absV W), ?_, g3, q2⟩, ⟨g4, q3⟩, by simp only [List.map_cons, Rows.uptoBulkAll]; omega⟩
    · rw [← List.take_append_drop R.z cs] at hc
      exact (List.mem_append.1 hc).elim (g2 c) (q1 c)
    · rw [← List.map_append, List.take_append_drop]
/-- Do the fields follow one another? -/
def fieldsOk (P : Program) : List Field → Nat → Bool
  | [], _ => true
  | f :: r, k => Nat.beq f.offset k && fieldsOk P r (k + P.cellsOf f.type)
theorem fieldsOk_at : ∀ {fs : List Field} {k : Nat}, fieldsOk P fs k = true → ∀ (i : Nat) f, fs[i]? = some f → f.offset = k + (((fs.map (·.type)).take i).map P.cellsOf).sum
  | [], k, _, i, f, hf => by simp at hf
  | g :: r, k, h, i, f, hf => by
    simp only [fieldsOk, Bool.and_eq_true] at h
    cases i with
    | zero => simp at hf; subst hf; simpa using Nat.eq_of_beq_eq_true h.1
    | succ i =>
      have := fieldsOk_at h.2 i f (by simpa using hf)
      rw [this]
      simp only [List.map_cons, List.take_succ_cons, List.sum_cons]
      omega
theorem opensM_struct {t : TypeId} {fs : Array Field} {ts : List TypeId} {α β : Type} {R : Rep α} {B : α → Prop} {C : β → Prop} {μ : α → Nat} {ν : β → Nat} (f : β → α) (g : α → β) (hfg : ∀ y, f (g y) = y) (ht : P.underlying t = some (.struct fs)) (hts : fs.toList.map (·.type) = ts) (hok : fieldsOk P fs.toList 0 = true) (hc : P.cellsOf t = R.z)
    (h : OpensN enc P W ts R B μ) (hBC : ∀ y, B y → C (g y)) (hmn : ∀ y, ν (g y) ≤ μ y + 1) : OpensM enc P W t (RMap f R) C ν := by
  subst hts
  refine ⟨hc, fun fuel cs x hf hw => ?_⟩
  obtain ⟨xs, n, rfl, rfl, hcs, hxs, hel⟩ := DataW.trod_struct ht hf
  simp only [DataW.weights, ht] at hw
  rw [hc] at hcs
  obtain ⟨q1, y, q2, q3, q4⟩ := h.2 n cs xs hcs (by simpa using hxs) (fun i t' ht' => by
    rw [List.getElem?_map] at ht'
    obtain ⟨fd, hfd, rfl⟩ := Option.map_eq_some_iff.1 ht'
    have := hel i fd (by simpa using hfd)
    rw [fieldsOk_at hok i fd hfd, Nat.zero_add] at this
    exact this) hw
  exact ⟨hcs, q1, g y, by show R.is _ _ _ (f (g y)); rw [hfg]; exact q2, hBC y q3, Nat.le_trans (hmn y) (by simp only [Rows.uptoBulk]; omega)⟩
end
section
variable {H : Type} {enc : TypeId × Value → H} {W : World}
end
end Go.Proofs.YtjicijhakcmifaaGreatDoor.Ex
end

section

set_option linter.unusedSimpArgs false
set_option linter.unusedVariables false
namespace Go.Proofs.YtjicijhakcmifaaGreatDoor.Ex
open Go Go.RowKit Go.ChangeShapes Go.WideShapes Go.ChangeAt
section
variable {H : Type} {enc : TypeId × Value → H} {W : World}
end
end Go.Proofs.YtjicijhakcmifaaGreatDoor.Ex
end

section

set_option linter.unusedSimpArgs false
set_option linter.unusedVariables false
namespace Go.Proofs.YtjicijhakcmifaaGreatDoor.Ex
open Go Go.RowKit Go.ChangeShapes Go.WideShapes Go.ChangeAt
theorem pinT {W : World} (htab : Lib.TabIs Tryz.prog W "internal/strconv.uint64pow10" .u64 Lib.pow10Tab) : PinOf ρT (mu0 W) W ∧ ∃ e, (absH W).at 1 = some (.frz tabL e) := by
  unfold Lib.TabIs World.var? at htab
  rw [show Tryz.prog.globalNamed "internal/strconv.uint64pow10" = some 1 by kernel_rfl] at htab
  have htab : (match W.heap[1]? with | some (Obj.cells cs _ _) => some cs | _ => none) = some (Lib.pow10Tab.map fun z => Value.int .u64 z).toArray := htab
  split at htab
  case h_2 => cases htab
  rename_i cs e fz h0
  obtain rfl := Option.some.inj htab
  have hrow : rowO W 1 = some ((Lib.pow10Tab.map fun z => Value.int .u64 z), e) := by unfold rowO; rw [h0]
  have hwin : (wins W)[0]? = some (1, 0) := by
    unfold wins
    have : winsAt W 1 = (1, 0) :: ((List.range 20).map fun off => (1, off + 1)) := by
      unfold winsAt
      rw [hrow]
      rfl
    rw [this]
    rfl
  have hmu : mu0 W 1 = some (1, 0) := hwin
  refine ⟨fun r hr => ?_, e, ?_⟩
  · have hr : (Value.int .i64 1) = .int .i64 r := hr
    cases hr
    exact ⟨hmu, _, e, fz, h0, rfl⟩
  · rw [← L_at, absH_L, List.getElem?_cons_succ, List.getElem?_map, hwin]
    simp only [Option.map_some]
    congr 1
    unfold absB
    rw [show ((1, 0) : Nat × Nat).1 = 1 from rfl, hrow]
    rfl
theorem law_joinT {W : World} (htab : Lib.TabIs Tryz.prog W "internal/strconv.uint64pow10" .u64 Lib.pow10Tab) {f : FuncId} {vs : List Value} {avs : List AV} (ha : rels ρT (mu0 W) W avs vs) (hw : ∀ e, (absH W).at 1 = some (.frz tabL e) → WC Tryz.prog (tabOf Tryz.prog NT0) S0 f avs (absH W) fun v h' => v = .lit (.bool true)) :
    Calls Tryz.prog f vs.toArray W fun e w' => e = .returned (.bool true) ∧ Below W.heap.size W w' := by
  obtain ⟨hp, e, hT⟩ := pinT htab
  obtain ⟨n, o, h1, hex, v, cm, rfl, rfl⟩ := hw e hT
  refine (ex_callsH tab_sound noNG follows_mixed (sums_ok _) (absH_hr W hp) (absH_nw W) hex ha).mono fun e w' hy => ?_
  obtain ⟨v', μ', rfl, hb, hv⟩ := hy
  exact ⟨by rw [rel_bool_inv hv], hb⟩
end Go.Proofs.YtjicijhakcmifaaGreatDoor.Ex
end

section

set_option linter.unusedSimpArgs false
set_option linter.unusedVariables false
namespace Go.Proofs.YtjicijhakcmifaaGreatDoor.Ex
open Go Go.RowKit Go.ChangeShapes Go.WideShapes Go.ChangeAt
section
variable {H : Type} {enc : TypeId × Value → H} {W : World}
theorem opensA_step : OpensA enc Tryz.prog W 30 R3 (fun _ => True) :=
  opensM_struct (ts := [3, 3, 3]) (ν := fun _ => 0) id (fun y => y) (fun y => rfl) Tryz.underlying30 (by rfl) (by kernel_rfl) (by kernel_rfl)
    (opensN_cons (opensA_int Tryz.underlying3 (by kernel_rfl)) (opensN_cons (opensA_int Tryz.underlying3 (by kernel_rfl)) (opensN_one (opensA_int Tryz.underlying3 (by kernel_rfl))))) (fun _ _ => trivial) (fun y => Nat.zero_le _)
theorem open_slT {ρ : Nat → Value} {P : Program} {base : Nat} {t e : TypeId} {v0 : Value} {d0 : DataW H} {p0 : List MemPlace} {α : Type} {R : Rep α} {B : List α → Prop} {μ : List α → Nat} (hO : OpensM enc P W t (RSl R) B μ) (hu : P.underlying t = some (.slice e))
    (k0 : Value.okWide P W .any base t v0) (h0 : DataW.Trod enc P W 0 (fun _ => true) true t v0 d0 p0) (hw : ∀ n ∈ d0.weights P t, n ≤ reachBytes) :
    ∃ (v : AV) (ys : List α), rel ρ (mu0 W) W v v0 ∧ IsSl R (InH W) (absH W) v ys ∧ B ys := by
  obtain ⟨a, len, cap, rfl⟩ := okWide_slice hu k0
  obtain ⟨fuel, hf⟩ := h0
  obtain ⟨h3, h4, y, h5, h6⟩ := hO.2 fuel [Value.slice a len cap] _ hf (List.all_eq_true.2 fun n hn => (by simpa using hw n hn))
  obtain ⟨v', e', h5⟩ := RSl_is.1 h5
  cases e'
  exact ⟨_, y, absV_rel (h4 _ (by simp)), h5, h6.1⟩
end
end Go.Proofs.YtjicijhakcmifaaGreatDoor.Ex
namespace Go.Proofs.YtjicijhakcmifaaGreatDoor
open Go.RowKit Go.ChangeShapes Go.WideShapes Go.ChangeAt
set_option maxRecDepth 100000 in
theorem manifestGrows_walk {H : Type} {enc : TypeId × Value → H} {W : World} (htab : Lib.TabIs Tryz.prog W "internal/strconv.uint64pow10" .u64 Lib.pow10Tab) {base : Nat} {v0 : Value} {d0 : DataW H} {p0 : List MemPlace}
    (k0 : Value.okWide Tryz.prog W .any base 22 v0) (h0 : DataW.Trod enc Tryz.prog W 0 (fun _ => true) true 22 v0 d0 p0)
    {ts : List TypeId} {ds : List (DataW H)} (hsz : (DataW.weightsEach Tryz.prog ([22] ++ ts) ([d0] ++ ds)).all (· ≤ reachBytes) = true) :
    Calls Tryz.prog 3 #[v0] W fun e w' => e = .returned (.bool true) ∧ Below W.heap.size W w' := by
  obtain ⟨v, l, r0, i0, b0, -⟩ := Ex.open_slT (ρ := Ex.ρT) (Ex.opensM_list (by' := 24) Tryz.underlying22 (by kernel_rfl) (by kernel_rfl) (by decide) Ex.opensA_step) Tryz.underlying22 k0 h0 (weights_le hsz (j := 0) rfl rfl)
  exact Ex.law_joinT htab (Ex.rels_cons r0 Ex.rels_nil) fun e hT => Ex.law_x i0 (by omega) hT
end Go.Proofs.YtjicijhakcmifaaGreatDoor
end
