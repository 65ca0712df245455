/- Part 4 of the proof: Mm, Core, Hash, Ln, Fast, ExcP, Mma, Mmb, ExcQ, Lv17, PeeringNoneRun, Open, PeeringNoneWalk. -/
import Derived.Test.YtohbdgddnkoenaaGreatRows
import Derived.ProofKit
import Derived.OpenShut
import Derived.ShutString
import Derived.ChangeOld
import Derived.SizedLaws
import Derived.Test.YtohbdgddnkoenaaGreatM3
open Nat renaming reduceAdd → zrA, reduceSub → zrS, reduceMul → zrM, reduceLT → zrL, reduceEqDiff → zrE, reduceLeDiff → zrD, reduceShiftRight → zrR, reduceMod → zrO
open Int renaming reduceLE → ziE, reduceLT → ziL, reduceToNat → ziN
section

set_option linter.unusedSimpArgs false
set_option linter.unusedVariables false
namespace Go.Proofs.YtohbdgddnkoenaaGreat.Ex
open Go Go.RowKit
abbrev I (n : Int) : AV := .lit (.int .i64 n)
def mH0 : AH := AH.nil.ov 13 [
  (0, .cells [I 0, I 1] 3),
  (1, .cells [I 65536, I 65536] 3),
  (2, .cells [I (-1), I 3, .sl 0 0 2 (.kn 2), .sl 1 0 2 (.kn 2)] 99),
  (3, .cells [.lit (.bool true), .lit (.bool true), I 65536, I 1, I 1, I 0] 101),
  (4, .cells [.lit (.bool true), .lit (.bool true), I 65536, I 1, I 1, I 0, .lit (.bool true), .lit (.bool true), I 65536, I 1, I 1, I 0] 101),
  (5, .cells [I 1, I 2, I 2, I 1] 103),
  (6, .cells [I (-1), I 3, .sl 0 0 2 (.kn 2), .sl 1 0 2 (.kn 2)] 99),
  (7, .cells [I 1, .sl 4 0 2 (.kn 2), .sl 5 0 1 (.kn 1), .sl 6 0 1 (.kn 1), I 0] 97),
  (8, .cells [I 2, .sl 10 0 2 (.kn 2), .sl 5 0 1 (.kn 1), .sl 6 0 1 (.kn 1), I 0] 97),
  (9, .cells [.lit (.bool true), .lit (.bool true), I 65536, I 1, I 1, I 1] 101),
  (10, .cells [.lit (.bool true), .lit (.bool true), I 65536, I 1, I 1, I 1, .lit (.bool true), .lit (.bool true), I 65536, I 1, I 1, I 1] 101),
  (11, .cells [I 1, .sl 4 0 2 (.kn 2), .sl 5 0 1 (.kn 1), .sl 6 0 1 (.kn 1), I 0, I 2, .sl 10 0 2 (.kn 2), .sl 5 0 1 (.kn 1), .sl 6 0 1 (.kn 1), I 0] 97),
  (12, .cells [I 1, I 0] 25)]
def mK0 : AH := mH0.ov 59 [
]
def mM0 : Memo := ⟨[.agg [I 1, .sl 4 0 2 (.kn 2), .sl 5 0 1 (.kn 1), .sl 6 0 1 (.kn 1), I 0], .agg [I 1, I 0]], mH0, .tup [I 1, .lit (.bool true)], mK0⟩
def mH1 : AH := mK0.ov 63 [
  (59, .cells [.lit (.bool false), I 0, I 0, I 0, .lit (.slice none 0 0), .lit (.slice none 0 0), .lit (.slice none 0 0), .lit (.bool false), I 0, I 0, .lit (.slice none 0 0)] 58),
  (60, .cells [I 1, I 0] 25),
  (61, .cells [I 0, I 0, I 0, .lit (.slice none 0 0), .lit (.slice none 0 0), .lit (.slice none 0 0)] 37),
  (62, .cells [.lit (.bool false), I 0, I 0, I 0, .lit (.slice none 0 0), .lit (.slice none 0 0), .lit (.slice none 0 0), .lit (.bool false), I 0, I 0, .lit (.slice none 0 0)] 58)]
def mK1 : AH := mH1.ov 137 [
]
def mM1 : Memo := ⟨[.agg [I 1, .sl 4 0 2 (.kn 2), .sl 5 0 1 (.kn 1), .sl 6 0 1 (.kn 1), I 0], .agg [I 1, I 0]], mH1, .tup [I 1, .lit (.bool true)], mK1⟩
def mH2 : AH := mK1.ov 143 [
  (137, .map [] 0),
  (138, .cells [] 97),
  (139, .cells [I 1, .sl 4 0 2 (.kn 2), .sl 5 0 1 (.kn 1), .sl 6 0 1 (.kn 1), I 0] 97),
  (140, .cells [I 0, I 0, I 0, .lit (.slice none 0 0), .lit (.slice none 0 0), .lit (.slice none 0 0)] 37),
  (141, .cells [I 0, I 0, I 0, .lit (.slice none 0 0), .lit (.slice none 0 0), .lit (.slice none 0 0)] 37),
  (142, .cells [I 1, I 0, I 1, I 1, .sl 139 0 1 (.un 5), I 0, I 0, I 0, .lit (.slice none 0 0), .lit (.slice none 0 0), .lit (.slice none 0 0), I 1, .lit (.slice none 0 0), I 0, .mp 137, I 0, I 0, I 0, I 0, .lit (.slice none 0 0), .lit (.slice none 0 0), .lit (.slice none 0 0), .lit (.map none), .lit (.bool false), I 0, I 0, I 0, .lit (.slice none 0 0), .lit (.slice none 0 0), .lit (.slice none 0 0), .lit (.bool false), I 0, I 0, .lit (.slice none 0 0), .lit (.nilFunc), .lit (.nilFunc), .lit (.nilFunc), .lit (.nilFunc), .lit (.nilFunc), .lit (.nilFunc), .lit (.nilFunc), .lit (.nilFunc)] 62)]
def mK2 : AH := mH2.ov 320 [
  (314, .cells [I 1, I 0] 3),
  (316, .cells [I 1, I 1] 3),
  (319, .cells [I 1, I 1, .sl 314 0 2 (.un 1), .sl 316 0 2 (.un 1), .lit (.bool false)] 89)]
def mM2 : Memo := ⟨[.sl 139 0 1 (.un 5), .agg [I 1, I 0]], mH2, .sl 319 0 1 (.un 5), mK2⟩
def mH3 : AH := mK2.ov 327 [
  (137, .map [⟨.int .i64 1, .agg [I 0, I 0, I 0, I 0, I 0, I 1, I 1], 0⟩] 1),
  (142, .cells [I 1, I 0, I 1, I 1, .sl 139 0 1 (.un 5), I 0, I 0, I 0, .lit (.slice none 0 0), .lit (.slice none 0 0), .lit (.slice none 0 0), I 1, .sl 319 0 1 (.un 5), I 1, .mp 137, I 0, I 0, I 0, I 0, .lit (.slice none 0 0), .lit (.slice none 0 0), .lit (.slice none 0 0), .lit (.map none), .lit (.bool false), I 0, I 0, I 0, .lit (.slice none 0 0), .lit (.slice none 0 0), .lit (.slice none 0 0), .lit (.bool false), I 0, I 0, .lit (.slice none 0 0), .lit (.nilFunc), .fn (.func 61) [.ptr 142 0] [], .fn (.func 62) [.ptr 142 0] [], .fn (.func 62) [.ptr 142 0] [], .fn (.func 63) [.ptr 142 0] [], .fn (.func 64) [.ptr 142 0] [], .fn (.func 65) [.ptr 142 0] [], .fn (.func 62) [.ptr 142 0] []] 62),
  (320, .cells [I 0, I 0, I 0, .lit (.slice none 0 0), .lit (.slice none 0 0), .lit (.slice none 0 0)] 37),
  (321, .cells [I 0, I 0, I 0, I 0, I 0, I 1] 32),
  (322, .cells [I 0, I 0, I 0, .lit (.slice none 0 0), .lit (.slice none 0 0), .lit (.slice none 0 0)] 37),
  (323, .cells [I 0, I 0] 30),
  (324, .cells [I 1, .sl 4 0 2 (.kn 2), .sl 5 0 1 (.kn 1), .sl 6 0 1 (.kn 1), I 0] 97),
  (325, .iter (some 137) 1 [0] 1),
  (326, .cells [I 0, I 0, I 0, I 0, I 0, I 1, I 1] 81)]
def mK3 : AH := mH3.ov 509 [
  (507, .cells [I 0, I 1] 3)]
def mM3 : Memo := ⟨[.sl 139 0 1 (.un 5), .agg [I 1, I 0], I 0], mH3, .sl 507 0 2 (.un 1), mK3⟩
def mH4 : AH := mK3.ov 535 [
  (59, .cells [.lit (.bool false), I 0, I 0, I 0, .lit (.slice none 0 0), .lit (.slice none 0 0), .lit (.slice none 0 0), .lit (.bool false), I 0, I 0, .sl 516 0 1 (.un 46)] 58),
  (62, .cells [.lit (.bool false), I 0, I 0, I 0, .lit (.slice none 0 0), .lit (.slice none 0 0), .lit (.slice none 0 0), .lit (.bool false), I 0, I 0, .sl 516 0 1 (.un 46)] 58),
  (509, .cells [I 0, I 0, I 0, I 0, I 0, I 0, I 0] 81),
  (510, .cells [I 2, I 0] 23),
  (511, .cells [I 2, I 0] 23),
  (512, .cells [I 20, I 2, I 1, I 2, I 0, I 1, I 1, I 1, I 0, I 0, I 0, I 0, .lit (.slice none 0 0), .lit (.slice none 0 0), .lit (.slice none 0 0), I 0, I 0, I 0, I 0, I 0, I 0, I 0, I 0, I 0, .lit (.slice none 0 0), .lit (.slice none 0 0), .lit (.slice none 0 0), I 0, I 0, .lit (.bool false), I 0, .lit (.string ⟨#[]⟩), I 0, I 0, .lit (.string ⟨#[]⟩), I 0, I 0, .lit (.slice none 0 0), I 0, .lit (.string ⟨#[]⟩), .lit (.slice none 0 0), I 0, I 0, .lit (.slice none 0 0), .lit (.slice none 0 0), I 0] 48),
  (513, .cells [I 1, I 1, .sl 314 0 2 (.un 1), .sl 316 0 2 (.un 1), .lit (.bool false)] 89),
  (514, .cells [I 1, .sl 4 0 2 (.kn 2), .sl 5 0 1 (.kn 1), .sl 6 0 1 (.kn 1), I 0] 97),
  (515, .cells [I 20, I 2, I 1, I 2, I 0, I 1, I 1, I 1, I 0, I 0, I 0, I 0, .lit (.slice none 0 0), .lit (.slice none 0 0), .lit (.slice none 0 0), I 0, I 0, I 0, I 0, I 0, I 0, I 0, I 0, I 0, .lit (.slice none 0 0), .lit (.slice none 0 0), .lit (.slice none 0 0), I 0, I 0, .lit (.bool false), I 0, .lit (.string ⟨#[]⟩), I 0, I 0, .lit (.string ⟨#[]⟩), I 0, I 0, .lit (.slice none 0 0), I 0, .lit (.string ⟨#[]⟩), .lit (.slice none 0 0), I 0, I 0, .lit (.slice none 0 0), .lit (.slice none 0 0), I 0] 48),
  (516, .cells [I 20, I 2, I 1, I 2, I 0, I 1, I 1, I 1, I 0, I 0, I 0, I 0, .lit (.slice none 0 0), .lit (.slice none 0 0), .lit (.slice none 0 0), I 0, I 0, I 0, I 0, I 0, I 0, I 0, I 0, I 0, .lit (.slice none 0 0), .lit (.slice none 0 0), .lit (.slice none 0 0), I 0, I 0, .lit (.bool false), I 0, .lit (.string ⟨#[]⟩), I 0, I 0, .lit (.string ⟨#[]⟩), I 0, I 0, .lit (.slice none 0 0), I 0, .lit (.string ⟨#[]⟩), .lit (.slice none 0 0), I 0, I 0, .lit (.slice none 0 0), .lit (.slice none 0 0), I 0] 48),
  (517, .cells [I 0, I 0, I 0, I 0, I 0, I 1, I 1] 81),
  (518, .iter (some 137) 1 [0] 1),
  (519, .cells [I 1] 3),
  (520, .cells [I 1] 3),
  (521, .cells [I 0, I 0, I 0, I 0, I 0, I 1] 32),
  (522, .cells [I 0, I 0, I 0, I 0, I 0, I 1] 32),
  (523, .iter (some 137) 1 [0] 1),
  (524, .cells [I 0, I 0, I 0, I 0, I 0, I 1, I 1] 81),
  (525, .cells [.lit (.bool false), I 0, I 0, I 0, .lit (.slice none 0 0), .lit (.slice none 0 0), .lit (.slice none 0 0), .lit (.bool false), I 0, I 0, .sl 516 0 1 (.un 46)] 58),
  (526, .cells [.lit (.bool false), I 0, I 0, I 0, .lit (.slice none 0 0), .lit (.slice none 0 0), .lit (.slice none 0 0), .lit (.bool false), I 0, I 0, .sl 516 0 1 (.un 46)] 58),
  (527, .cells [I 2, I 0] 23),
  (528, .cells [I 21, I 2, I 0, I 2, I 1, I 1, I 1, I 1, I 0, I 0, I 0, I 0, .lit (.slice none 0 0), .lit (.slice none 0 0), .lit (.slice none 0 0), I 0, I 0, I 0, I 0, I 0, I 1, I 0, I 0, I 0, .lit (.slice none 0 0), .lit (.slice none 0 0), .lit (.slice none 0 0), I 0, I 0, .lit (.bool false), I 0, .lit (.string ⟨#[]⟩), I 0, I 0, .lit (.string ⟨#[]⟩), I 0, I 0, .lit (.slice none 0 0), I 0, .lit (.string ⟨#[]⟩), .lit (.slice none 0 0), I 0, I 0, .lit (.slice none 0 0), .lit (.slice none 0 0), I 0] 48),
  (529, .cells [I 21, I 2, I 0, I 2, I 1, I 1, I 1, I 1, I 0, I 0, I 0, I 0, .lit (.slice none 0 0), .lit (.slice none 0 0), .lit (.slice none 0 0), I 0, I 0, I 0, I 0, I 0, I 1, I 0, I 0, I 0, .lit (.slice none 0 0), .lit (.slice none 0 0), .lit (.slice none 0 0), I 0, I 0, .lit (.bool false), I 0, .lit (.string ⟨#[]⟩), I 0, I 0, .lit (.string ⟨#[]⟩), I 0, I 0, .lit (.slice none 0 0), I 0, .lit (.string ⟨#[]⟩), .lit (.slice none 0 0), I 0, I 0, .lit (.slice none 0 0), .lit (.slice none 0 0), I 0] 48),
  (530, .cells [.lit (.bool false), I 0, I 0, I 0, .lit (.slice none 0 0), .lit (.slice none 0 0), .lit (.slice none 0 0), .lit (.bool false), I 0, I 0, .lit (.slice none 0 0)] 58),
  (531, .cells [I 2, I 1] 23),
  (532, .cells [I 1, I 1, .sl 314 0 2 (.un 1), .sl 316 0 2 (.un 1), .lit (.bool false)] 89),
  (533, .iter (some 137) 1 [0] 1),
  (534, .cells [I 0, I 0, I 0, I 0, I 0, I 1, I 1] 81)]
def mK4 : AH := mH4.ov 717 [
  (715, .cells [I 0, I 1] 3)]
def mM4 : Memo := ⟨[.sl 139 0 1 (.un 5), .agg [I 1, I 0], I 0], mH4, .sl 715 0 2 (.un 1), mK4⟩
def mH5 : AH := mK4.ov 720 [
  (137, .map [⟨.int .i64 1, .agg [I 0, I 0, I 0, I 0, I 0, I 1, I 1], 0⟩, ⟨.int .i64 0, .agg [I 0, I 0, I 0, I 0, I 0, I 1, I 1], 1⟩] 2),
  (718, .cells [I 0, I 0, I 0, I 0, I 0, I 1, I 1] 81),
  (719, .cells [I 0, I 0, I 0, I 0, I 0, I 1, I 1] 81)]
def mK5 : AH := mH5.ov 902 [
  (900, .cells [I 0, I 1] 3)]
def mM5 : Memo := ⟨[.sl 139 0 1 (.un 5), .agg [I 1, I 0], I 0], mH5, .sl 900 0 2 (.un 1), mK5⟩
def mH6 : AH := mK5.ov 987 [
  (59, .cells [.lit (.bool false), I 0, I 0, I 0, .lit (.slice none 0 0), .lit (.slice none 0 0), .lit (.slice none 0 0), .lit (.bool false), I 0, I 0, .sl 948 0 1 (.un 46)] 58),
  (142, .cells [I 1, I 0, I 1, I 1, .sl 139 0 1 (.un 5), I 0, I 0, I 0, .lit (.slice none 0 0), .lit (.slice none 0 0), .lit (.slice none 0 0), I 1, .sl 319 0 1 (.un 5), I 5, .mp 137, I 1, I 0, I 0, I 0, .lit (.slice none 0 0), .lit (.slice none 0 0), .lit (.slice none 0 0), .mp 962, .lit (.bool false), I 0, I 0, I 0, .lit (.slice none 0 0), .lit (.slice none 0 0), .lit (.slice none 0 0), .lit (.bool false), I 0, I 0, .lit (.slice none 0 0), .lit (.nilFunc), .fn (.func 61) [.ptr 142 0] [], .fn (.func 62) [.ptr 142 0] [], .fn (.func 62) [.ptr 142 0] [], .fn (.func 63) [.ptr 142 0] [], .fn (.func 64) [.ptr 142 0] [], .fn (.func 65) [.ptr 142 0] [], .fn (.func 62) [.ptr 142 0] []] 62),
  (528, .cells [I 27, I 2, I 0, I 2, I 1, I 1, I 1, I 1, I 0, I 0, I 0, I 0, .lit (.slice none 0 0), .lit (.slice none 0 0), .lit (.slice none 0 0), I 0, I 0, I 0, I 0, I 0, I 1, I 0, I 0, I 0, .lit (.slice none 0 0), .lit (.slice none 0 0), .lit (.slice none 0 0), I 0, I 0, .lit (.bool false), I 0, .lit (.string ⟨#[]⟩), I 0, I 0, .lit (.string ⟨#[]⟩), I 0, I 0, .lit (.slice none 0 0), I 0, .lit (.string ⟨#[]⟩), .lit (.slice none 0 0), I 0, I 0, .lit (.slice none 0 0), .lit (.slice none 0 0), I 0] 48),
  (530, .cells [.lit (.bool false), I 0, I 0, I 0, .lit (.slice none 0 0), .lit (.slice none 0 0), .lit (.slice none 0 0), .lit (.bool false), I 0, I 0, .sl 948 0 1 (.un 46)] 58),
  (902, .cells [I 0, I 0, I 0, I 0, I 0, I 1, I 1] 81),
  (903, .cells [I 0, I 0, I 0, I 0, I 0, I 1, I 1] 81),
  (908, .cells [I 0, I 1] 3),
  (909, .cells [I 0, I 0, I 0, I 0, I 0, I 1] 32),
  (911, .cells [I 0, I 0, I 0, I 0, I 0, I 1] 32),
  (912, .cells [I 0, I 0, I 0, I 0, I 0, I 1, I 0, I 0, I 0, I 0, I 0, I 1] 32),
  (914, .cells [I 0, I 0, I 0, I 0, I 0, I 1, I 1] 81),
  (915, .cells [I 0, I 0, I 0, I 0, I 0, I 1, I 1] 81),
  (916, .cells [I 1, I 1, .sl 314 0 2 (.un 1), .sl 316 0 2 (.un 1), .lit (.bool false)] 89),
  (917, .cells [I 0] 3),
  (918, .cells [I 0, I 0, I 0, I 0, I 0, I 1] 32),
  (921, .cells [I 1] 3),
  (922, .cells [I 0, I 0, I 0, I 0, I 0, I 1] 32),
  (923, .cells [I 0, I 1] 3),
  (924, .cells [I 0, I 0, I 0, I 0, I 0, I 1, I 0, I 0, I 0, I 0, I 0, I 1] 32),
  (925, .cells [.sl 923 0 2 (.un 1)] 71),
  (926, .cells [.sl 924 0 2 (.un 6)] 168),
  (927, .cells [I 1] 3),
  (928, .cells [I 1, I 0] 3),
  (929, .cells [I 0, I 0, I 0, I 0, I 0, I 1] 32),
  (930, .cells [I 0, I 0, I 0, I 0, I 0, I 1] 32),
  (931, .cells [I 0, I 0] 30),
  (932, .cells [I 0, I 0] 30),
  (933, .cells [I 0, I 0] 30),
  (934, .cells [I 0, I 0] 30),
  (935, .cells [I 1, I 0] 3),
  (936, .map [⟨.int .i64 0, I 1, 0⟩] 1),
  (937, .cells [I 1, I 1, .sl 314 0 2 (.un 1), .sl 316 0 2 (.un 1), .lit (.bool false)] 89),
  (938, .cells [I 0] 3),
  (939, .cells [I 0] 3),
  (940, .cells [I 2, I 0] 23),
  (941, .cells [I 0, I 0, I 0, .lit (.slice none 0 0), .lit (.slice none 0 0), .lit (.slice none 0 0)] 37),
  (942, .cells [I 0, I 0, I 0, .lit (.slice none 0 0), .lit (.slice none 0 0), .lit (.slice none 0 0)] 37),
  (943, .cells [I 2, I 0] 23),
  (944, .cells [I 26, I 2, I 1, I 2, I 0, I 1, I 1, I 1, I 0, I 0, I 0, I 0, .lit (.slice none 0 0), .lit (.slice none 0 0), .lit (.slice none 0 0), I 0, I 0, I 0, I 0, I 0, I 0, I 0, I 0, I 0, .lit (.slice none 0 0), .lit (.slice none 0 0), .lit (.slice none 0 0), I 0, I 0, .lit (.bool false), I 0, .lit (.string ⟨#[]⟩), I 0, I 0, .lit (.string ⟨#[]⟩), I 0, I 0, .lit (.slice none 0 0), I 0, .lit (.string ⟨#[]⟩), .lit (.slice none 0 0), I 0, I 0, .lit (.slice none 0 0), .lit (.slice none 0 0), I 0] 48),
  (945, .cells [I 1, I 1, .sl 314 0 2 (.un 1), .sl 316 0 2 (.un 1), .lit (.bool false)] 89),
  (946, .cells [I 1, .sl 4 0 2 (.kn 2), .sl 5 0 1 (.kn 1), .sl 6 0 1 (.kn 1), I 0] 97),
  (947, .cells [I 26, I 2, I 1, I 2, I 0, I 1, I 1, I 1, I 0, I 0, I 0, I 0, .lit (.slice none 0 0), .lit (.slice none 0 0), .lit (.slice none 0 0), I 0, I 0, I 0, I 0, I 0, I 0, I 0, I 0, I 0, .lit (.slice none 0 0), .lit (.slice none 0 0), .lit (.slice none 0 0), I 0, I 0, .lit (.bool false), I 0, .lit (.string ⟨#[]⟩), I 0, I 0, .lit (.string ⟨#[]⟩), I 0, I 0, .lit (.slice none 0 0), I 0, .lit (.string ⟨#[]⟩), .lit (.slice none 0 0), I 0, I 0, .lit (.slice none 0 0), .lit (.slice none 0 0), I 0] 48),
  (948, .cells [I 26, I 2, I 1, I 2, I 0, I 1, I 1, I 1, I 0, I 0, I 0, I 0, .lit (.slice none 0 0), .lit (.slice none 0 0), .lit (.slice none 0 0), I 0, I 0, I 0, I 0, I 0, I 0, I 0, I 0, I 0, .lit (.slice none 0 0), .lit (.slice none 0 0), .lit (.slice none 0 0), I 0, I 0, .lit (.bool false), I 0, .lit (.string ⟨#[]⟩), I 0, I 0, .lit (.string ⟨#[]⟩), I 0, I 0, .lit (.slice none 0 0), I 0, .lit (.string ⟨#[]⟩), .lit (.slice none 0 0), I 0, I 0, .lit (.slice none 0 0), .lit (.slice none 0 0), I 0] 48),
  (949, .cells [I 1, I 1, .sl 314 0 2 (.un 1), .sl 316 0 2 (.un 1), .lit (.bool false)] 89),
  (950, .cells [I 0] 3),
  (951, .cells [I 0] 3),
  (952, .cells [.lit (.bool false), I 0, I 0, I 0, .lit (.slice none 0 0), .lit (.slice none 0 0), .lit (.slice none 0 0), .lit (.bool false), I 0, I 0, .sl 948 0 1 (.un 46)] 58),
  (953, .cells [.lit (.bool false), I 0, I 0, I 0, .lit (.slice none 0 0), .lit (.slice none 0 0), .lit (.slice none 0 0), .lit (.bool false), I 0, I 0, .sl 948 0 1 (.un 46)] 58),
  (954, .cells [I 27, I 2, I 0, I 2, I 1, I 1, I 1, I 1, I 0, I 0, I 0, I 0, .lit (.slice none 0 0), .lit (.slice none 0 0), .lit (.slice none 0 0), I 0, I 0, I 0, I 0, I 0, I 1, I 0, I 0, I 0, .lit (.slice none 0 0), .lit (.slice none 0 0), .lit (.slice none 0 0), I 0, I 0, .lit (.bool false), I 0, .lit (.string ⟨#[]⟩), I 0, I 0, .lit (.string ⟨#[]⟩), I 0, I 0, .lit (.slice none 0 0), I 0, .lit (.string ⟨#[]⟩), .lit (.slice none 0 0), I 0, I 0, .lit (.slice none 0 0), .lit (.slice none 0 0), I 0] 48),
  (955, .cells [.lit (.bool false), I 0, I 0, I 0, .lit (.slice none 0 0), .lit (.slice none 0 0), .lit (.slice none 0 0), .lit (.bool false), I 0, I 0, .sl 975 0 1 (.un 46)] 58),
  (956, .cells [I 2, I 1] 23),
  (957, .cells [I 1, I 1, .sl 314 0 2 (.un 1), .sl 316 0 2 (.un 1), .lit (.bool false)] 89),
  (958, .cells [I 1, I 1, .sl 314 0 2 (.un 1), .sl 316 0 2 (.un 1), .lit (.bool false)] 89),
  (959, .cells [I 0] 3),
  (960, .cells [I 0] 3),
  (961, .cells [I 1, I 1, .sl 314 0 2 (.un 1), .sl 316 0 2 (.un 1), .lit (.bool false)] 89),
  (962, .map [] 0),
  (963, .cells [I 1, I 2, I 2, I 1] 103),
  (964, .cells [I 1, .sl 4 0 2 (.kn 2), .sl 5 0 1 (.kn 1), .sl 6 0 1 (.kn 1), I 0] 97),
  (965, .cells [I 1, .sl 4 0 2 (.kn 2), .sl 5 0 1 (.kn 1), .sl 6 0 1 (.kn 1), I 0] 97),
  (966, .cells [I 1, I 2, I 2, I 1] 103),
  (967, .cells [I 1, I 1, .sl 314 0 2 (.un 1), .sl 316 0 2 (.un 1), .lit (.bool false)] 89),
  (968, .cells [I 1, .sl 4 0 2 (.kn 2), .sl 5 0 1 (.kn 1), .sl 6 0 1 (.kn 1), I 0] 97),
  (969, .cells [I 1, I 1, .sl 314 0 2 (.un 1), .sl 316 0 2 (.un 1), .lit (.bool false)] 89),
  (970, .cells [I 1, I 0] 23),
  (971, .cells [I 12, I 2, I 1, I 1, I 0, I 1, I 1, I 1, I 0, I 0, I 0, I 0, .lit (.slice none 0 0), .lit (.slice none 0 0), .lit (.slice none 0 0), I 0, I 0, I 0, I 0, I 0, I 0, I 0, I 0, I 0, .lit (.slice none 0 0), .lit (.slice none 0 0), .lit (.slice none 0 0), I 0, I 0, .lit (.bool false), I 0, .lit (.string ⟨#[]⟩), I 0, I 0, .lit (.string ⟨#[]⟩), I 0, I 0, .lit (.slice none 0 0), I 0, .lit (.string ⟨#[]⟩), .lit (.slice none 0 0), I 0, I 0, .lit (.slice none 0 0), .lit (.slice none 0 0), I 0] 48),
  (972, .cells [I 1, I 1, .sl 314 0 2 (.un 1), .sl 316 0 2 (.un 1), .lit (.bool false)] 89),
  (973, .cells [I 1, .sl 4 0 2 (.kn 2), .sl 5 0 1 (.kn 1), .sl 6 0 1 (.kn 1), I 0] 97),
  (974, .cells [I 12, I 2, I 1, I 1, I 0, I 1, I 1, I 1, I 0, I 0, I 0, I 0, .lit (.slice none 0 0), .lit (.slice none 0 0), .lit (.slice none 0 0), I 0, I 0, I 0, I 0, I 0, I 0, I 0, I 0, I 0, .lit (.slice none 0 0), .lit (.slice none 0 0), .lit (.slice none 0 0), I 0, I 0, .lit (.bool false), I 0, .lit (.string ⟨#[]⟩), I 0, I 0, .lit (.string ⟨#[]⟩), I 0, I 0, .lit (.slice none 0 0), I 0, .lit (.string ⟨#[]⟩), .lit (.slice none 0 0), I 0, I 0, .lit (.slice none 0 0), .lit (.slice none 0 0), I 0] 48),
  (975, .cells [I 12, I 2, I 1, I 1, I 0, I 1, I 1, I 0, I 0, I 0, I 0, I 0, .lit (.slice none 0 0), .lit (.slice none 0 0), .lit (.slice none 0 0), I 0, I 0, I 0, I 0, I 0, I 0, I 0, I 0, I 0, .lit (.slice none 0 0), .lit (.slice none 0 0), .lit (.slice none 0 0), I 0, I 0, .lit (.bool false), I 0, .lit (.string ⟨#[]⟩), I 0, I 0, .lit (.string ⟨#[]⟩), I 0, I 0, .lit (.slice none 0 0), I 0, .lit (.string ⟨#[]⟩), .lit (.slice none 0 0), I 0, I 0, .lit (.slice none 0 0), .lit (.slice none 0 0), I 0] 48),
  (976, .cells [I 1, I 2, I 2, I 1] 103),
  (977, .cells [I 1, .sl 4 0 2 (.kn 2), .sl 5 0 1 (.kn 1), .sl 6 0 1 (.kn 1), I 0] 97),
  (978, .cells [I 1, .sl 4 0 2 (.kn 2), .sl 5 0 1 (.kn 1), .sl 6 0 1 (.kn 1), I 0] 97),
  (979, .cells [I 1, I 2, I 2, I 1] 103),
  (980, .cells [I 1, I 1, .sl 314 0 2 (.un 1), .sl 316 0 2 (.un 1), .lit (.bool false)] 89),
  (981, .cells [I 1, .sl 4 0 2 (.kn 2), .sl 5 0 1 (.kn 1), .sl 6 0 1 (.kn 1), I 0] 97),
  (982, .cells [I 1, I 1, .sl 314 0 2 (.un 1), .sl 316 0 2 (.un 1), .lit (.bool false)] 89),
  (983, .cells [.lit (.bool false), I 0, I 0, I 0, .lit (.slice none 0 0), .lit (.slice none 0 0), .lit (.slice none 0 0), .lit (.bool false), I 0, I 0, .sl 975 0 1 (.un 46)] 58),
  (984, .cells [.lit (.bool false), I 0, I 0, I 0, .lit (.slice none 0 0), .lit (.slice none 0 0), .lit (.slice none 0 0), .lit (.bool false), I 0, I 0, .sl 975 0 1 (.un 46)] 58),
  (985, .cells [.lit (.bool false), I 0, I 0, I 0, .lit (.slice none 0 0), .lit (.slice none 0 0), .lit (.slice none 0 0), .lit (.bool false), I 0, I 0, .sl 975 0 1 (.un 46)] 58),
  (986, .cells [.lit (.bool false), I 0, I 0, I 0, .lit (.slice none 0 0), .lit (.slice none 0 0), .lit (.slice none 0 0), .lit (.bool false), I 0, I 0, .lit (.slice none 0 0)] 58)]
def mK6 : AH := mH6.ov 1471 [
  (1465, .cells [I 1, I 0] 3),
  (1467, .cells [I 1, I 1] 3),
  (1470, .cells [I 1, I 2, .sl 1465 0 2 (.un 1), .sl 1467 0 2 (.un 1), .lit (.bool true)] 89)]
def mM6 : Memo := ⟨[.sl 11 0 2 (.kn 2), .agg [I 1, I 0]], mH6, .sl 1470 0 1 (.un 5), mK6⟩
def mH7 : AH := mK6.ov 1477 [
  (1471, .cells [I 1, I 1, .sl 314 0 2 (.un 1), .sl 316 0 2 (.un 1), .lit (.bool false)] 89),
  (1472, .cells [I 1, I 1, .sl 314 0 2 (.un 1), .sl 316 0 2 (.un 1), .lit (.bool false)] 89),
  (1473, .cells [I 1, I 1, .sl 314 0 2 (.un 1), .sl 316 0 2 (.un 1), .lit (.bool false)] 89),
  (1475, .cells [I 0, I 0, I 0, I 0, I 0, I 1, I 1] 81),
  (1476, .cells [I 0, I 0, I 0, I 0, I 0, I 1, I 1] 81)]
def mK7 : AH := mH7.ov 1659 [
  (1657, .cells [I 0, I 1] 3)]
def mM7 : Memo := ⟨[.sl 139 0 1 (.un 5), .agg [I 1, I 0], I 0], mH7, .sl 1657 0 2 (.un 1), mK7⟩
end Go.Proofs.YtohbdgddnkoenaaGreat.Ex
end

section

set_option linter.unusedSimpArgs false
set_option linter.defProp false
set_option maxRecDepth 100000
namespace Go.Proofs.YtohbdgddnkoenaaGreat.Ex
open Go
def corem0 := And.intro @plainO.eq_1 (And.intro @plainO.eq_2 (And.intro @plainOp.eq_1 (And.intro @plainOp.eq_2 (And.intro @plainOp.eq_3 (And.intro @natA_int (And.intro @Int.toNat_natCast (And.intro @WB_seq (And.intro @WB_region (And.intro @WB_reg_nil (And.intro @WB_reg_s (And.intro @WRegO_some (And.intro @WRegO_guard (And.intro @WReg_true (And.intro @WReg_false (And.intro @WB_block (And.intro @WB_blk (And.intro @WB_loop (And.intro @WB_skip (And.intro @WB_scope (And.intro @WB_sc (And.intro @WB_ret (And.intro @WB_nil (And.intro @List.size_toArray.{0} (And.intro @List.size_toArray.{1} (And.intro @List.length_cons.{0} (And.intro @List.length_cons.{1} (And.intro @List.length_nil.{0} (And.intro @List.length_nil.{1} (And.intro @Nat.zero_add (And.intro @Nat.add_zero (And.intro @Nat.mul_one (And.intro @rng0 (And.intro @List.range'_succ (And.intro @List.range'_zero (And.intro @List.getElem?_toArray.{0} (And.intro @List.getElem?_toArray.{1} (And.intro @List.getElem?_cons_zero.{0} (And.intro @List.getElem?_cons_zero.{1} (And.intro @List.getElem?_cons_succ.{0} (And.intro @List.getElem?_cons_succ.{1} (And.intro @a_move (And.intro @a_assign (And.intro @a_load (And.intro @aLoad.eq_1 (And.intro @a_store (And.intro @aStore.eq_1 (And.intro @aIndexAddr.eq_1 (And.intro @a_fieldAddr (And.intro @fa_eq (And.intro @faM.eq_1 (And.intro @faM.eq_2 (And.intro @a_field (And.intro @fd_eq (And.intro @fdM.eq_1 (And.intro @fdM.eq_2 (And.intro @fdM.eq_3 (And.intro @a_buildSlice (And.intro @bs_eq (And.intro @bsM.eq_1 (And.intro @bsM.eq_2 (And.intro @bsM.eq_3 (And.intro @rep.eq_1 (And.intro @rep.eq_2 (And.intro @fillA.eq_1 (And.intro @fillA.eq_2 (And.intro @evalParts.eq_1 (And.intro @evalParts.eq_2 (And.intro @List.map_cons.{0,0} (And.intro @List.map_cons.{0,1} (And.intro @List.map_cons.{1,0} (And.intro @List.map_cons.{1,1} (And.intro @List.map_nil.{0,0} (And.intro @List.map_nil.{0,1} (And.intro @List.map_nil.{1,0} (And.intro @List.map_nil.{1,1} (And.intro @a_un (And.intro @a_extract (And.intro @aExtract.eq_1 (And.intro @a_alloc (And.intro @aAlloc.eq_1 (And.intro @a_box (And.intro @aBox.eq_1 (And.intro @pb_lss (And.intro @pb_leq (And.intro @pb_gtr (And.intro @pb_geq (And.intro @pb_eql (And.intro @pb_neq (And.intro @pb_add (And.intro @pb_sub (And.intro @pb_mul (And.intro @ofPV_int (And.intro @ofPV_bool (And.intro @val.eq_1 (And.intro @Option.map_some.{0,0} (And.intro @Option.map_some.{0,1} (And.intro @Option.map_some.{1,0} (And.intro @Option.map_some.{1,1} (And.intro @Option.map_none.{0,0} (And.intro @Option.map_none.{0,1} (And.intro @Option.map_none.{1,0} (And.intro @Option.map_none.{1,1} (And.intro @ev_tmp (And.intro @ev_int (And.intro @ev_bool (And.intro @ev_str (And.intro @ev_nilp (And.intro @ev_nils (And.intro @ev_nilm (And.intro @ev_nilf (And.intro @ev_nili (And.intro @ev_func (And.intro @val_ok (And.intro @WOp_val (And.intro @WOp_enter (And.intro @WCe_false (And.intro @WCe_true (And.intro @KC_eq (And.intro @List.append_nil.{0} (And.intro @List.append_nil.{1} (And.intro @List.cons_append.{0} (And.intro @List.cons_append.{1} (And.intro @setTmp_some (And.intro @setTmp_none (And.intro @callA.eq_1 (And.intro @callA.eq_2 (And.intro @callA.eq_3 (And.intro @callA.eq_4 (And.intro @evals.eq_1 (And.intro @evals.eq_2 (And.intro @get_set_ne (And.intro @get_set_same (And.intro @get_ofL' (And.intro @tabA (And.intro @tabS (And.intro @tabB (And.intro @tabZ (And.intro @tabU (And.intro @tabF (And.intro @ne_eq.{0} (And.intro @ne_eq.{1} (And.intro @not_false_eq_true (And.intro @not_true_eq_false (And.intro @n_set (And.intro @n_ofL (And.intro @WIf_some (And.intro @WB_exit (And.intro @exA_blk (And.intro @exA_code (And.intro @exA_lp (And.intro @exA_sc (And.intro @WExit_some (And.intro @List.getD_cons_zero.{0} (And.intro @List.getD_cons_zero.{1} (And.intro @List.getD_cons_succ.{0} (And.intro @List.getD_cons_succ.{1} (And.intro @if_true.{0} (And.intro @if_true.{1} (And.intro @if_false.{0} (And.intro @if_false.{1} (And.intro @Nat.zero_le (And.intro @Nat.zero_mul (And.intro @Bool.true_and (And.intro @Bool.and_true (And.intro @Bool.and_self (And.intro @Bool.false_and (And.intro @Bool.and_false (And.intro @cond_true.{0} (And.intro @cond_true.{1} (And.intro @cond_false.{0} (And.intro @cond_false.{1} (And.intro @Option.bind_some.{0,0} (And.intro @Option.bind_some.{0,1} (And.intro @Option.bind_some.{1,0} (And.intro @Option.bind_some.{1,1} (And.intro @decide_true (And.intro @decide_false (And.intro @true_implies (And.intro @false_implies (And.intro @forall_const.{0} (And.intro @forall_const.{1} (And.intro @and_true (And.intro @true_and (And.intro @or_true (And.intro @false_or (And.intro @res_nil (And.intro @res_tmp (And.intro @ats_same (And.intro @ats_ne (And.intro @one_lit (And.intro @one_ptr (And.intro @one_sl (And.intro @one_mp (And.intro @one_fn (And.intro @one_ifc (And.intro @one_any (And.intro @b_tt (And.intro @b_ft (And.intro @b_tf (And.intro @b_ff (And.intro @cells_lit (And.intro @cells_sl (And.intro @cells_ptr (And.intro @cells_agg (And.intro @cells_one (And.intro @ld_new (And.intro @ld_old (And.intro @ld_put (And.intro @ld_else (And.intro @st_eq (And.intro @stL.eq_1 (And.intro @stL.eq_2 (And.intro @at_new (And.intro @at_old (And.intro @at_put (And.intro @at_else (And.intro @n_put (And.intro @n_push2 (And.intro @cut.eq_1 (And.intro @List.take_succ_cons.{0} (And.intro @List.take_succ_cons.{1} (And.intro @List.drop_succ_cons.{0} (And.intro @List.drop_succ_cons.{1} (And.intro @List.all_cons.{0} (And.intro @List.all_cons.{1} (And.intro @List.all_nil.{0} (And.intro @List.all_nil.{1} (And.intro @Nat.lt_add_one (And.intro @a_pick (And.intro @aPick.eq_1 (And.intro @Bool.cond_false.{0} (And.intro @Bool.cond_false.{1} (And.intro @Bool.cond_true.{0} (And.intro @Bool.cond_true.{1} (And.intro @wantedA.eq_1 (And.intro @Option.bind_none.{0,0} (And.intro @Option.bind_none.{0,1} (And.intro @Option.bind_none.{1,0} (And.intro @Option.bind_none.{1,1} (And.intro @a_callv (And.intro @a_append (And.intro @a_len (And.intro @a_min (And.intro @a_max (And.intro @a_ia (And.intro @a_iap (And.intro @iaM_some (And.intro @isPtr.eq_1 (And.intro @isPtr.eq_2 (And.intro @szE.eq_1 (And.intro @szOk.eq_1 (And.intro @isSlT.eq_1 (And.intro @Option.getD_some.{0} (And.intro @Option.getD_some.{1} (And.intro @Option.isSome_some.{0} (And.intro @Option.isSome_some.{1} (And.intro @a_sl_hi (And.intro @a_sl_lo (And.intro @a_sl_lohi (And.intro @slM.eq_1 (And.intro @a_eqnil (And.intro @a_nenil (And.intro @a_bin2 (And.intro @a_bin_tt (And.intro @a_bin_ti (And.intro @a_bin_ts (And.intro @a_bin_it (And.intro @boolM_eql (And.intro @boolM_neq (And.intro @un_not (And.intro @un_neg (And.intro @tabN (And.intro @Nat.blt_eq (And.intro @nn0 (And.intro @Int.toNat_zero (And.intro @tabR (And.intro @Option.some.injEq.{0} (And.intro @Option.some.injEq.{1} (And.intro @exists_eq_left'.{0} (And.intro @exists_eq_left'.{1} (And.intro @exists_eq_left.{0} (And.intro @exists_eq_left.{1} (And.intro @oneOf_1 (And.intro @oneOf_2 (And.intro @oneOf_3 (And.intro @oneOf_0 (And.intro @put_push (And.intro @beq_true (And.intro @beq_false (And.intro @decide_not (And.intro @bd_eq (And.intro @bdM.eq_1 (And.intro @bdM.eq_2 (And.intro @bda_eq (And.intro @arrOf.eq_1 (And.intro @tabP (And.intro @aUn.eq_1 (And.intro @pb_xor (And.intro @pb_and (And.intro @pb_or (And.intro @pb_shl (And.intro @pb_shr (And.intro @pb_quo (And.intro @pb_rem (And.intro @a_nil (And.intro @a_eqnilp (And.intro @a_nenilp (And.intro @isPtrT.eq_1 (And.intro @put_push_eq (And.intro @put_push_lt (And.intro @lt_a1 (And.intro @lt_a2 (And.intro @lt_a3 (And.intro @lt_a4 (And.intro @lt_a5 (And.intro @lt_a6 (And.intro @lt_a7 (And.intro @res_cell (And.intro @a_conv (And.intro @a_idx_cs (And.intro @isStrT.eq_1 (And.intro @a_mkf (And.intro @aMakeFunc.eq_1 (And.intro @notYield.eq_1 (And.intro @notYield.eq_2 (And.intro @Bool.not_true (@Bool.not_false)))))))))))))))))))))))))))))))))))))))))))))))))))))))))))))))))))))))))))))))))))))))))))))))))))))))))))))))))))))))))))))))))))))))))))))))))))))))))))))))))))))))))))))))))))))))))))))))))))))))))))))))))))))))))))))))))))))))))))))))))))))))))))))))))))))))))))))))))))))))))))))))))))))))))))))))))))))))))))))))))))))))
def cored0 := And.intro @kindOf.eq_1 (And.intro @WRegD_t (And.intro @WRegD_f (And.intro @WOpD_av (And.intro @WOpD_ae (And.intro @WOpD_s (And.intro @WOpD_l (And.intro @WOpD_r (And.intro @rdOf.eq_1 (And.intro @WDM_nil (And.intro @hold_nil (And.intro @hold_cons (And.intro @rdA.eq_1 (And.intro @rdA.eq_2 (And.intro @rdA.eq_3 (And.intro @rdA.eq_4 (And.intro @same_sl (And.intro @same_int (And.intro @same_bool (And.intro @same_str (And.intro @same_agg (And.intro @same_one (And.intro @List.zip_cons_cons.{0,0} (And.intro @List.zip_cons_cons.{0,1} (And.intro @List.zip_cons_cons.{1,0} (And.intro @List.zip_cons_cons.{1,1} (And.intro @List.zip_nil_left.{0,0} (And.intro @List.zip_nil_left.{0,1} (And.intro @List.zip_nil_left.{1,0} (And.intro @List.zip_nil_left.{1,1} (And.intro @beq_self_eq_true.{0} (@beq_self_eq_true.{1})))))))))))))))))))))))))))))))
theorem corem : type_of% corem0 := corem0
theorem cored : type_of% cored0 := cored0
def core0 := And.intro corem (And.intro @WB_cond_s (And.intro @put.eq_1 (And.intro @ldL.eq_1 (And.intro @WB_label (And.intro @List.nil_append.{0} (And.intro @List.nil_append.{1} (And.intro @List.drop_zero.{0} (And.intro @List.drop_zero.{1} (And.intro @List.take_zero.{0} (@List.take_zero.{1}))))))))))
theorem core : type_of% core0 := core0
def dw01 := And.intro @List.getElem?_toArray.{0} (And.intro @List.getElem?_cons_zero.{0} (And.intro @List.getElem?_cons_succ.{0} (And.intro @WRegDO.eq_1 (And.intro @WRegDO.eq_2 (@kindOf.eq_1)))))
theorem dw1 : type_of% dw01 := dw01
def dw02 := And.intro @dropR_nil (And.intro @dropR_cons (And.intro @List.size_toArray.{0} (And.intro @List.length_cons.{0} (And.intro @List.length_nil.{0} (And.intro @waits_eq (And.intro @Nat.zero_add (And.intro @Nat.zero_ne_one (And.intro @decide_true (And.intro @decide_false (And.intro @cond_true.{0} (And.intro @cond_true.{1} (And.intro @cond_false.{0} (@cond_false.{1})))))))))))))
theorem dw2 : type_of% dw02 := dw02
end Go.Proofs.YtohbdgddnkoenaaGreat.Ex
end

section

set_option linter.unusedSimpArgs false
set_option linter.unusedVariables false
set_option maxRecDepth 10000
set_option maxHeartbeats 4000000
namespace Go.Proofs.YtohbdgddnkoenaaGreat.Ex
open Go
abbrev I3 := Int × Int × Int
/-- One round of MIX. -/
def mixR (s0 s1 s2 : Int) (x : I3) : I3 :=
  let a := xorI .u32 (IntKind.u32.wrap (IntKind.u32.wrap (x.1 - x.2.1) - x.2.2)) (shrI .u32 x.2.2 s0)
  let b := xorI .u32 (IntKind.u32.wrap (IntKind.u32.wrap (x.2.1 - x.2.2) - a)) (shlI .u32 a s1)
  let c := xorI .u32 (IntKind.u32.wrap (IntKind.u32.wrap (x.2.2 - a) - b)) (shrI .u32 b s2)
  (a, b, c)
def mixN : Nat → I3 → I3
  | 0, x => x
  | 1, x => mixR 13 8 13 x
  | 2, x => mixR 12 16 5 (mixR 13 8 13 x)
  | _, x => mixR 3 10 15 (mixR 12 16 5 (mixR 13 8 13 x))
def mix3 (x : I3) : I3 := mixN 3 x
def u3 (a : Int) : AV := .lit (.int .u32 a)
def mixTab : AV := .agg [.lit (.int .i64 13), .lit (.int .i64 8), .lit (.int .i64 13), .lit (.int .i64 12), .lit (.int .i64 16), .lit (.int .i64 5), .lit (.int .i64 3), .lit (.int .i64 10), .lit (.int .i64 15)]
theorem mixV0 : pur Tryz.prog (Instr.index 254 (.agg #[.int .i64 13, .int .i64 8, .int .i64 13, .int .i64 12, .int .i64 16, .int .i64 5, .int .i64 3, .int .i64 10, .int .i64 15]) (.int .i64 0)) = some (.ok (.agg #[.int .i64 13, .int .i64 8, .int .i64 13])) := by kernel_rfl
theorem mixV1 : pur Tryz.prog (Instr.index 254 (.agg #[.int .i64 13, .int .i64 8, .int .i64 13, .int .i64 12, .int .i64 16, .int .i64 5, .int .i64 3, .int .i64 10, .int .i64 15]) (.int .i64 1)) = some (.ok (.agg #[.int .i64 12, .int .i64 16, .int .i64 5])) := by kernel_rfl
theorem mixV2 : pur Tryz.prog (Instr.index 254 (.agg #[.int .i64 13, .int .i64 8, .int .i64 13, .int .i64 12, .int .i64 16, .int .i64 5, .int .i64 3, .int .i64 10, .int .i64 15]) (.int .i64 2)) = some (.ok (.agg #[.int .i64 3, .int .i64 10, .int .i64 15])) := by kernel_rfl
section
variable {t : TM} {h : AH} {d : Option Tmp} {ty : TypeId} {ps : String} {af : Array Edge} {g : Option (Nat × Bool)}
theorem mixTab0 {i j : Nat} (hx : t.get i = mixTab) (hy : t.get j = .lit (.int .i64 0)) : aop Tryz.prog (tabOf Tryz.prog NT0) ⟨d, .index 254 (.tmp i) (.tmp j), ty, ps, af, g⟩ t h = some (.val (.agg [.lit (.int .i64 13), .lit (.int .i64 8), .lit (.int .i64 13)]), h) :=
  a_index_lit (by rw [hx]; rfl) (by rw [hy]; rfl) mixV0 rfl
theorem mixTab1 {i j : Nat} (hx : t.get i = mixTab) (hy : t.get j = .lit (.int .i64 1)) : aop Tryz.prog (tabOf Tryz.prog NT0) ⟨d, .index 254 (.tmp i) (.tmp j), ty, ps, af, g⟩ t h = some (.val (.agg [.lit (.int .i64 12), .lit (.int .i64 16), .lit (.int .i64 5)]), h) :=
  a_index_lit (by rw [hx]; rfl) (by rw [hy]; rfl) mixV1 rfl
theorem mixTab2 {i j : Nat} (hx : t.get i = mixTab) (hy : t.get j = .lit (.int .i64 2)) : aop Tryz.prog (tabOf Tryz.prog NT0) ⟨d, .index 254 (.tmp i) (.tmp j), ty, ps, af, g⟩ t h = some (.val (.agg [.lit (.int .i64 3), .lit (.int .i64 10), .lit (.int .i64 15)]), h) :=
  a_index_lit (by rw [hx]; rfl) (by rw [hy]; rfl) mixV2 rfl
end
theorem trio_x {H : AH} {p : Nat} {x : I3} (hp : H.at p = some (.cells [.lit (.int .u32 x.1), .lit (.int .u32 x.2.1), .lit (.int .u32 x.2.2)] 247)) :
    WC Tryz.prog (tabOf Tryz.prog NT0) S00 151 [.ptr p 0] H fun r h' => h'.at p = some (.cells [.lit (.int .u32 (mix3 x).1), .lit (.int .u32 (mix3 x).2.1), .lit (.int .u32 (mix3 x).2.2)] 247) ∧ H.n ≤ h'.n ∧ ∀ q, q < H.n → q ≠ p → h'.at q = H.at q := by
  refine WC_fn Tryz.func151 rfl rfl ?_
  have hlt := at_lt hp
  have L0 := fun e off => ld_at (T := tabOf Tryz.prog NT0) hp e off
  simp only [core, zrA, zrS, zrM, zrL, zrE, reduceCtorEq, zrD, ziE, ziL, ziN, Tryz.ntmps151]
  rw [WB_regionD [0, 1, 2, 3, 4, 5, 6, 7, 8, 9, 10, 11, 12, 13, 14] 26958519655973595170767904528538414010378582634470141901892646633472 (by kernel_rfl)]
  repeat ((with_reducible refine WDM_cons ?_; simp only [dw1]; try simp only [dw2, zrA, zrM, zrR, zrO, zrE]); simp only [core, zrA, zrS, zrM, zrL, zrE, reduceCtorEq, zrD, ziE, ziL, ziN, cored, L0])
  refine WB_for 3 (fun i t h => Ext H.n H h ∧ t.n = 63 ∧ t.get 0 = .ptr p 0 ∧ t.get 2 = .lit (.int .u32 (mixN i x).1) ∧ t.get 3 = .lit (.int .u32 (mixN i x).2.1) ∧ t.get 4 = .lit (.int .u32 (mixN i x).2.2) ∧ t.get 22 = mixTab ∧ t.get 23 = .lit (.int .i64 i)) ?_ ?_ _ _ ?_
  · rintro i t h hi hc ⟨he, hn, g0, g2, g3, g4, g22, g23⟩ ih
    have hi3 : i = 0 ∨ i = 1 ∨ i = 2 := by omega
    rcases hi3 with rfl | rfl | rfl
    · have g23 : t.get 23 = .lit (.int .i64 0) := g23
      have hw : IntKind.i64.wrap ((0 : Int) + 1) = ((0 + 1 : Nat) : Int) := by decide
      have hc : ((0 : Int) < 3) = True := by decide
      simp only [core, zrA, zrS, zrM, zrL, zrE, reduceCtorEq, zrD, ziE, ziL, ziN, hn, g0, g2, g3, g4, g22, g23, hc, hw, mixTab0]
      refine ih _ _ ?_
      simp only [core, zrA, zrS, zrM, zrL, zrE, reduceCtorEq, zrD, ziE, ziL, ziN, hn, g0, g2, g3, g4, g22, g23]
      refine ⟨he.push _ he.1, ?_⟩
      (repeat' apply And.intro) <;> first | rfl | trivial
    · have g23 : t.get 23 = .lit (.int .i64 1) := g23
      have hw : IntKind.i64.wrap ((1 : Int) + 1) = ((1 + 1 : Nat) : Int) := by decide
      have hc : ((1 : Int) < 3) = True := by decide
      simp only [core, zrA, zrS, zrM, zrL, zrE, reduceCtorEq, zrD, ziE, ziL, ziN, hn, g0, g2, g3, g4, g22, g23, hc, hw, mixTab1]
      refine ih _ _ ?_
      simp only [core, zrA, zrS, zrM, zrL, zrE, reduceCtorEq, zrD, ziE, ziL, ziN, hn, g0, g2, g3, g4, g22, g23]
      refine ⟨he.push _ he.1, ?_⟩
      (repeat' apply And.intro) <;> first | rfl | trivial
    · have g23 : t.get 23 = .lit (.int .i64 2) := g23
      have hw : IntKind.i64.wrap ((2 : Int) + 1) = ((2 + 1 : Nat) : Int) := by decide
      have hc : ((2 : Int) < 3) = True := by decide
      simp only [core, zrA, zrS, zrM, zrL, zrE, reduceCtorEq, zrD, ziE, ziL, ziN, hn, g0, g2, g3, g4, g22, g23, hc, hw, mixTab2]
      refine ih _ _ ?_
      simp only [core, zrA, zrS, zrM, zrL, zrE, reduceCtorEq, zrD, ziE, ziL, ziN, hn, g0, g2, g3, g4, g22, g23]
      refine ⟨he.push _ he.1, ?_⟩
      (repeat' apply And.intro) <;> first | rfl | trivial
  · rintro t h hc ⟨he, hn, g0, g2, g3, g4, g22, g23⟩
    have g23 : t.get 23 = .lit (.int .i64 3) := g23
    have hc : ((3 : Int) < 3) = False := by decide
    have hp2 : h.at p = some (.cells [.lit (.int .u32 x.1), .lit (.int .u32 x.2.1), .lit (.int .u32 x.2.2)] 247) := (he.2 p hlt).trans hp
    have hlt2 : p < h.n := at_lt hp2
    simp only [core, zrA, zrS, zrM, zrL, zrE, reduceCtorEq, zrD, ziE, ziL, ziN, hn, g0, g2, g3, g4, g22, g23, hc, hp2]
    refine ⟨.inl trivial, at_put_same _ hlt2, he.1, fun q hq hqp => ?_⟩
    rw [at_put_ne _ (Ne.symm hqp)]
    exact he.2 q hq
  · simp only [core, zrA, zrS, zrM, zrL, zrE, reduceCtorEq, zrD, ziE, ziL, ziN]
    refine ⟨Ext.refl _ _, ?_⟩
    (repeat' apply And.intro) <;> first | rfl | trivial
/-- A number in a block of its own. -/
def Bx (h : AH) (p : Nat) (a : Int) : Prop := h.at p = some (.cells [.lit (.int .u32 a)] 116)
theorem mix_x {H : AH} {p q r : Nat} {x : I3} (hp : Bx H p x.1) (hq : Bx H q x.2.1) (hr : Bx H r x.2.2) (pq : p ≠ q) (pr : p ≠ r) (qr : q ≠ r) :
    WC Tryz.prog (tabOf Tryz.prog NT0) S00 137 [.ptr p 0, .ptr q 0, .ptr r 0] H fun _ h' => Bx h' p (mix3 x).1 ∧ Bx h' q (mix3 x).2.1 ∧ Bx h' r (mix3 x).2.2 ∧ H.n ≤ h'.n ∧ ∀ b, b < H.n → b ≠ p → b ≠ q → b ≠ r → h'.at b = H.at b := by
  refine WC_fn Tryz.func137 rfl rfl ?_
  have lp := at_lt hp
  have lq := at_lt hq
  have lr := at_lt hr
  have Lp := fun e off => ld_at (T := tabOf Tryz.prog NT0) hp e off
  have Lq := fun e off => ld_at (T := tabOf Tryz.prog NT0) hq e off
  have Lr := fun e off => ld_at (T := tabOf Tryz.prog NT0) hr e off
  simp only [core, zrA, zrS, zrM, zrL, zrE, reduceCtorEq, zrD, ziE, ziL, ziN, Tryz.ntmps137]
  rw [WB_regionD [0, 1, 2, 3, 4, 5, 6, 7, 8, 9, 10, 11] 11144928247238770519951308239364144742010880 (by kernel_rfl)]
  repeat ((with_reducible refine WDM_cons ?_; simp only [dw1]; try simp only [dw2, zrA, zrM, zrR, zrO, zrE]); simp only [core, zrA, zrS, zrM, zrL, zrE, reduceCtorEq, zrD, ziE, ziL, ziN, cored, Lp, Lq, Lr, lp, lq, lr])
  refine (trio_x (x := x) (at_push_n H _)).mono ?_
  rintro _ h1 ⟨h2, h3, h4⟩
  rw [n_push] at h3 h4
  have e1 : ∀ b, b < H.n → h1.at b = H.at b := fun b hb => (h4 b (by omega) (by omega)).trans (at_push_lt _ hb)
  have l0 : H.n < h1.n := by omega
  have lp1 : p < h1.n := by omega
  have lq1 : q < h1.n := by omega
  have lr1 : r < h1.n := by omega
  have L0 := fun e off => ld_at (T := tabOf Tryz.prog NT0) h2 e off
  have P1 := (e1 p lp).trans hp
  have Q1 := (e1 q lq).trans hq
  have R1 := (e1 r lr).trans hr
  simp only [core, zrA, zrS, zrM, zrL, zrE, reduceCtorEq, zrD, ziE, ziL, ziN, L0, P1, Q1, R1, pq, pr, qr, lp1, lq1, lr1]
  refine ⟨.inl trivial, ?_, ?_, ?_, by omega, fun b hb b1 b2 b3 => ?_⟩
  · unfold Bx
    rw [at_put_ne _ (Ne.symm pr), at_put_ne _ (Ne.symm pq), at_put_same _ lp1]
  · unfold Bx
    rw [at_put_ne _ (Ne.symm qr), at_put_same _ (by rw [n_put]; exact lq1)]
  · unfold Bx
    rw [at_put_same _ (by rw [n_put, n_put]; exact lr1)]
  · rw [at_put_ne _ (Ne.symm b3), at_put_ne _ (Ne.symm b2), at_put_ne _ (Ne.symm b1)]
    exact e1 b hb
theorem Bx.ld {h : AH} {p : Nat} {a : Int} (hb : Bx h p a) (e off : Nat) : loadA (tabOf Tryz.prog NT0) h e p off = ldL (tabOf Tryz.prog NT0) e [.lit (.int .u32 a)] off := ld_at hb e off
theorem Bx.new {h : AH} {a : Int} {p : Nat} (hp : p = h.n) : Bx (h.push (.cells [.lit (.int .u32 a)] 116)) p a := by subst hp; exact at_push_n h _
theorem Bx.old {h : AH} {a : Int} {p : Nat} {x : AB} (hb : Bx h p a) : Bx (h.push x) p a := (at_push_lt _ (at_lt hb)).trans hb
theorem Bx.put {h : AH} {a b : Int} {p : Nat} (hb : Bx h p a) : Bx (h.put p (.cells [.lit (.int .u32 b)] 116)) p b := at_put_same _ (at_lt hb)
theorem Bx.keep {h : AH} {a : Int} {p q : Nat} {x : AB} (hb : Bx h p a) (hne : q ≠ p) : Bx (h.put q x) p a := (at_put_ne _ hne).trans hb
theorem Bx.lt {h : AH} {a : Int} {p : Nat} (hb : Bx h p a) : p < h.n := at_lt hb
theorem Bx.after {h h' : AH} {a : Int} {b p q r : Nat} (hb : Bx h b a) (hk : ∀ c, c < h.n → c ≠ p → c ≠ q → c ≠ r → h'.at c = h.at c) (h1 : b ≠ p) (h2 : b ≠ q) (h3 : b ≠ r) : Bx h' b a := (hk b hb.lt h1 h2 h3).trans hb
def hash2F (a b : Int) : Int :=
  let t := mix3 (a, b, xorI .u32 (xorI .u32 1315423911 a) b)
  let u := mix3 (231232, t.1, t.2.2)
  (mix3 (t.2.1, 1232, u.2.2)).2.2
def hash3F (a b c : Int) : Int :=
  let t := mix3 (a, b, xorI .u32 (xorI .u32 (xorI .u32 1315423911 a) b) c)
  let u := mix3 (c, 231232, t.2.2)
  let v := mix3 (1232, t.1, u.2.2)
  let w := mix3 (t.2.1, u.2.1, v.2.2)
  (mix3 (v.1, u.1, w.2.2)).2.2
theorem Ext.of_keep {H h h' : AH} {p q r : Nat} (he : Ext H.n H h) (hn : h.n ≤ h'.n) (hk : ∀ c, c < h.n → c ≠ p → c ≠ q → c ≠ r → h'.at c = h.at c) (h1 : H.n ≤ p) (h2 : H.n ≤ q) (h3 : H.n ≤ r) : Ext H.n H h' :=
  ⟨Nat.le_trans he.1 hn, fun b hb => (hk b (by have := he.1; omega) (by omega) (by omega) (by omega)).trans (he.2 b hb)⟩
theorem hash2_x {H : AH} {be oe : Nat} (a b : Int) : WC Tryz.prog (tabOf Tryz.prog NT0) S00 120 [.ptr be oe, .lit (.int .u32 a), .lit (.int .u32 b)] H fun r h' => Ext H.n H h' ∧ r = .lit (.int .u32 (hash2F a b)) := by
  refine WC_fn Tryz.func120 rfl rfl ?_
  simp only [core, zrA, zrS, zrM, zrL, zrE, reduceCtorEq, zrD, ziE, ziL, ziN, Tryz.ntmps120]
  refine (mix_x (x := (a, b, xorI .u32 (xorI .u32 1315423911 a) b)) (by repeat (first | exact Bx.new rfl | refine Bx.old ?_)) (by repeat (first | exact Bx.new rfl | refine Bx.old ?_)) (by repeat (first | exact Bx.new rfl | refine Bx.old ?_)) (by omega) (by omega) (by omega)).mono ?_
  rintro _ h1 ⟨A1, B1, C1, n1, k1⟩
  have X1 : Bx h1 (H.n + 1 + 1 + 1) 231232 := Bx.after (by repeat (first | exact Bx.new rfl | refine Bx.old ?_)) k1 (by omega) (by omega) (by omega)
  have Y1 : Bx h1 (H.n + 1 + 1 + 1 + 1) 1232 := Bx.after (by repeat (first | exact Bx.new rfl | refine Bx.old ?_)) k1 (by omega) (by omega) (by omega)
  have E1 : Ext H.n H h1 := Ext.of_keep (by repeat (first | exact Ext.refl _ _ | refine Ext.push _ ?_ (by (try simp only [n_push]); omega))) n1 k1 (by omega) (by omega) (by omega)
  clear n1 k1
  obtain ⟨t, ht⟩ : ∃ t, t = mix3 (a, b, xorI .u32 (xorI .u32 1315423911 a) b) := ⟨_, rfl⟩
  rw [← ht] at A1 B1 C1
  simp only [core, zrA, zrS, zrM, zrL, zrE, reduceCtorEq, zrD, ziE, ziL, ziN]
  refine (mix_x (x := (231232, t.1, t.2.2)) X1 A1 C1 (by omega) (by omega) (by omega)).mono ?_
  rintro _ h2 ⟨X2, A2, C2, n2, k2⟩
  have B2 := B1.after k2 (by omega) (by omega) (by omega)
  have Y2 := Y1.after k2 (by omega) (by omega) (by omega)
  have E2 := Ext.of_keep E1 n2 k2 (by omega) (by omega) (by omega)
  obtain ⟨u, hu⟩ : ∃ u, u = mix3 (231232, t.1, t.2.2) := ⟨_, rfl⟩
  rw [← hu] at X2 A2 C2
  simp only [core, zrA, zrS, zrM, zrL, zrE, reduceCtorEq, zrD, ziE, ziL, ziN]
  refine (mix_x (x := (t.2.1, 1232, u.2.2)) B2 Y2 C2 (by omega) (by omega) (by omega)).mono ?_
  rintro _ h3 ⟨B3, Y3, C3, n3, k3⟩
  have E3 := Ext.of_keep E2 n3 k3 (by omega) (by omega) (by omega)
  have L3 := C3.ld
  simp only [core, zrA, zrS, zrM, zrL, zrE, reduceCtorEq, zrD, ziE, ziL, ziN, L3]
  refine ⟨E3, ?_⟩
  subst hu ht
  rfl
theorem hash3_x {H : AH} {be oe : Nat} (a b c : Int) : WC Tryz.prog (tabOf Tryz.prog NT0) S00 164 [.ptr be oe, .lit (.int .u32 a), .lit (.int .u32 b), .lit (.int .u32 c)] H fun r h' => Ext H.n H h' ∧ r = .lit (.int .u32 (hash3F a b c)) := by
  refine WC_fn Tryz.func164 rfl rfl ?_
  simp only [core, zrA, zrS, zrM, zrL, zrE, reduceCtorEq, zrD, ziE, ziL, ziN, Tryz.ntmps164]
  obtain ⟨w0, hw0⟩ : ∃ w, w = xorI .u32 (xorI .u32 (xorI .u32 1315423911 a) b) c := ⟨_, rfl⟩
  rw [← hw0]
  refine (mix_x (x := (a, b, w0)) (by repeat (first | exact Bx.new rfl | refine Bx.old ?_)) (by repeat (first | exact Bx.new rfl | refine Bx.old ?_)) (by repeat (first | exact Bx.new rfl | refine Bx.old ?_)) (by omega) (by omega) (by omega)).mono ?_
  rintro _ h1 ⟨A1, B1, W1, n1, k1⟩
  have C1 : Bx h1 (H.n + 1 + 1) c := Bx.after (by repeat (first | exact Bx.new rfl | refine Bx.old ?_)) k1 (by omega) (by omega) (by omega)
  have X1 : Bx h1 (H.n + 1 + 1 + 1 + 1) 231232 := Bx.after (by repeat (first | exact Bx.new rfl | refine Bx.old ?_)) k1 (by omega) (by omega) (by omega)
  have Y1 : Bx h1 (H.n + 1 + 1 + 1 + 1 + 1) 1232 := Bx.after (by repeat (first | exact Bx.new rfl | refine Bx.old ?_)) k1 (by omega) (by omega) (by omega)
  have E1 : Ext H.n H h1 := Ext.of_keep (by repeat (first | exact Ext.refl _ _ | refine Ext.push _ ?_ (by (try simp only [n_push]); omega))) n1 k1 (by omega) (by omega) (by omega)
  clear n1 k1
  obtain ⟨t, ht⟩ : ∃ t, t = mix3 (a, b, w0) := ⟨_, rfl⟩
  rw [← ht] at A1 B1 W1
  simp only [core, zrA, zrS, zrM, zrL, zrE, reduceCtorEq, zrD, ziE, ziL, ziN]
  refine (mix_x (x := (c, 231232, t.2.2)) C1 X1 W1 (by omega) (by omega) (by omega)).mono ?_
  rintro _ h2 ⟨C2, X2, W2, n2, k2⟩
  have A2 := A1.after k2 (by omega) (by omega) (by omega)
  have B2 := B1.after k2 (by omega) (by omega) (by omega)
  have Y2 := Y1.after k2 (by omega) (by omega) (by omega)
  have E2 := Ext.of_keep E1 n2 k2 (by omega) (by omega) (by omega)
  obtain ⟨u, hu⟩ : ∃ u, u = mix3 (c, 231232, t.2.2) := ⟨_, rfl⟩
  rw [← hu] at C2 X2 W2
  simp only [core, zrA, zrS, zrM, zrL, zrE, reduceCtorEq, zrD, ziE, ziL, ziN]
  refine (mix_x (x := (1232, t.1, u.2.2)) Y2 A2 W2 (by omega) (by omega) (by omega)).mono ?_
  rintro _ h3 ⟨Y3, A3, W3, n3, k3⟩
  have B3 := B2.after k3 (by omega) (by omega) (by omega)
  have X3 := X2.after k3 (by omega) (by omega) (by omega)
  have C3 := C2.after k3 (by omega) (by omega) (by omega)
  have E3 := Ext.of_keep E2 n3 k3 (by omega) (by omega) (by omega)
  obtain ⟨v, hv⟩ : ∃ v, v = mix3 (1232, t.1, u.2.2) := ⟨_, rfl⟩
  rw [← hv] at Y3 A3 W3
  simp only [core, zrA, zrS, zrM, zrL, zrE, reduceCtorEq, zrD, ziE, ziL, ziN]
  refine (mix_x (x := (t.2.1, u.2.1, v.2.2)) B3 X3 W3 (by omega) (by omega) (by omega)).mono ?_
  rintro _ h4 ⟨B4, X4, W4, n4, k4⟩
  have Y4 := Y3.after k4 (by omega) (by omega) (by omega)
  have C4 := C3.after k4 (by omega) (by omega) (by omega)
  have E4 := Ext.of_keep E3 n4 k4 (by omega) (by omega) (by omega)
  obtain ⟨z, hz⟩ : ∃ z, z = mix3 (t.2.1, u.2.1, v.2.2) := ⟨_, rfl⟩
  rw [← hz] at B4 X4 W4
  simp only [core, zrA, zrS, zrM, zrL, zrE, reduceCtorEq, zrD, ziE, ziL, ziN]
  refine (mix_x (x := (v.1, u.1, z.2.2)) Y4 C4 W4 (by omega) (by omega) (by omega)).mono ?_
  rintro _ h5 ⟨Y5, C5, W5, n5, k5⟩
  have E5 := Ext.of_keep E4 n5 k5 (by omega) (by omega) (by omega)
  have L5 := W5.ld
  simp only [core, zrA, zrS, zrM, zrL, zrE, reduceCtorEq, zrD, ziE, ziL, ziN, L5]
  refine ⟨E5, ?_⟩
  subst hz hv hu ht hw0
  rfl
def mixTabU : AV := .agg [.lit (.int .u64 13), .lit (.int .u64 8), .lit (.int .u64 13), .lit (.int .u64 12), .lit (.int .u64 16), .lit (.int .u64 5), .lit (.int .u64 3), .lit (.int .u64 10), .lit (.int .u64 15)]
theorem mixVU0 : pur Tryz.prog (Instr.index 237 (.agg #[.int .u64 13, .int .u64 8, .int .u64 13, .int .u64 12, .int .u64 16, .int .u64 5, .int .u64 3, .int .u64 10, .int .u64 15]) (.int .i64 0)) = some (.ok (.agg #[.int .u64 13, .int .u64 8, .int .u64 13])) := by kernel_rfl
theorem mixVU1 : pur Tryz.prog (Instr.index 237 (.agg #[.int .u64 13, .int .u64 8, .int .u64 13, .int .u64 12, .int .u64 16, .int .u64 5, .int .u64 3, .int .u64 10, .int .u64 15]) (.int .i64 1)) = some (.ok (.agg #[.int .u64 12, .int .u64 16, .int .u64 5])) := by kernel_rfl
theorem mixVU2 : pur Tryz.prog (Instr.index 237 (.agg #[.int .u64 13, .int .u64 8, .int .u64 13, .int .u64 12, .int .u64 16, .int .u64 5, .int .u64 3, .int .u64 10, .int .u64 15]) (.int .i64 2)) = some (.ok (.agg #[.int .u64 3, .int .u64 10, .int .u64 15])) := by kernel_rfl
section
variable {t : TM} {h : AH} {d : Option Tmp} {ty : TypeId} {ps : String} {af : Array Edge} {g : Option (Nat × Bool)}
theorem mixTabU0 {i j : Nat} (hx : t.get i = mixTabU) (hy : t.get j = .lit (.int .i64 0)) : aop Tryz.prog (tabOf Tryz.prog NT0) ⟨d, .index 237 (.tmp i) (.tmp j), ty, ps, af, g⟩ t h = some (.val (.agg [.lit (.int .u64 13), .lit (.int .u64 8), .lit (.int .u64 13)]), h) :=
  a_index_lit (by rw [hx]; rfl) (by rw [hy]; rfl) mixVU0 rfl
theorem mixTabU1 {i j : Nat} (hx : t.get i = mixTabU) (hy : t.get j = .lit (.int .i64 1)) : aop Tryz.prog (tabOf Tryz.prog NT0) ⟨d, .index 237 (.tmp i) (.tmp j), ty, ps, af, g⟩ t h = some (.val (.agg [.lit (.int .u64 12), .lit (.int .u64 16), .lit (.int .u64 5)]), h) :=
  a_index_lit (by rw [hx]; rfl) (by rw [hy]; rfl) mixVU1 rfl
theorem mixTabU2 {i j : Nat} (hx : t.get i = mixTabU) (hy : t.get j = .lit (.int .i64 2)) : aop Tryz.prog (tabOf Tryz.prog NT0) ⟨d, .index 237 (.tmp i) (.tmp j), ty, ps, af, g⟩ t h = some (.val (.agg [.lit (.int .u64 3), .lit (.int .u64 10), .lit (.int .u64 15)]), h) :=
  a_index_lit (by rw [hx]; rfl) (by rw [hy]; rfl) mixVU2 rfl
end
def trioV (x : I3) : AV := .agg [.lit (.int .u32 x.1), .lit (.int .u32 x.2.1), .lit (.int .u32 x.2.2)]
theorem mixRef_x {H : AH} (x : I3) : WC Tryz.prog (tabOf Tryz.prog NT0) S00 127 [.agg [.lit (.int .u32 x.1), .lit (.int .u32 x.2.1), .lit (.int .u32 x.2.2)]] H fun r h' => Ext H.n H h' ∧ r = trioV (mix3 x) := by
  refine WC_fn Tryz.func127 rfl rfl ?_
  simp only [core, zrA, zrS, zrM, zrL, zrE, reduceCtorEq, zrD, ziE, ziL, ziN, Tryz.ntmps127]
  rw [WB_regionD [0, 1, 2, 3, 4, 5, 6, 7, 8] 1204932154128817075520000 (by kernel_rfl)]
  repeat ((with_reducible refine WDM_cons ?_; simp only [dw1]; try simp only [dw2, zrA, zrM, zrR, zrO, zrE]); simp only [core, zrA, zrS, zrM, zrL, zrE, reduceCtorEq, zrD, ziE, ziL, ziN, cored])
  refine WB_for 3 (fun i t h => (Ext H.n H h ∧ h.at (H.n + 1) = some (.cells [.lit (.int .u32 0), .lit (.int .u32 0), .lit (.int .u32 0)] 200)) ∧ t.n = 56 ∧ t.get 2 = .ptr (H.n + 1) 0 ∧ t.get 3 = .lit (.int .u32 (mixN i x).1) ∧ t.get 4 = .lit (.int .u32 (mixN i x).2.1) ∧ t.get 5 = .lit (.int .u32 (mixN i x).2.2) ∧ t.get 17 = mixTabU ∧ t.get 18 = .lit (.int .i64 i)) ?_ ?_ _ _ ?_
  · rintro i t h hi hc ⟨⟨he, ha⟩, hn, g2, g3, g4, g5, g17, g18⟩ ih
    have hi3 : i = 0 ∨ i = 1 ∨ i = 2 := by omega
    have ha' : ∀ x, (h.push x).at (H.n + 1) = some (.cells [.lit (.int .u32 0), .lit (.int .u32 0), .lit (.int .u32 0)] 200) := fun x => (at_push_lt _ (at_lt ha)).trans ha
    rcases hi3 with rfl | rfl | rfl
    · have g18 : t.get 18 = .lit (.int .i64 0) := g18
      have hw : IntKind.i64.wrap ((0 : Int) + 1) = ((0 + 1 : Nat) : Int) := by decide
      have hc : ((0 : Int) < 3) = True := by decide
      simp only [core, zrA, zrS, zrM, zrL, zrE, reduceCtorEq, zrD, ziE, ziL, ziN, hn, g2, g3, g4, g5, g17, g18, hc, hw, mixTabU0]
      refine ih _ _ ?_
      simp only [core, zrA, zrS, zrM, zrL, zrE, reduceCtorEq, zrD, ziE, ziL, ziN, hn, g2, g3, g4, g5, g17, g18]
      refine ⟨⟨he.push _ he.1, ha' _⟩, ?_⟩
      (repeat' apply And.intro) <;> first | rfl | trivial
    · have g18 : t.get 18 = .lit (.int .i64 1) := g18
      have hw : IntKind.i64.wrap ((1 : Int) + 1) = ((1 + 1 : Nat) : Int) := by decide
      have hc : ((1 : Int) < 3) = True := by decide
      simp only [core, zrA, zrS, zrM, zrL, zrE, reduceCtorEq, zrD, ziE, ziL, ziN, hn, g2, g3, g4, g5, g17, g18, hc, hw, mixTabU1]
      refine ih _ _ ?_
      simp only [core, zrA, zrS, zrM, zrL, zrE, reduceCtorEq, zrD, ziE, ziL, ziN, hn, g2, g3, g4, g5, g17, g18]
      refine ⟨⟨he.push _ he.1, ha' _⟩, ?_⟩
      (repeat' apply And.intro) <;> first | rfl | trivial
    · have g18 : t.get 18 = .lit (.int .i64 2) := g18
      have hw : IntKind.i64.wrap ((2 : Int) + 1) = ((2 + 1 : Nat) : Int) := by decide
      have hc : ((2 : Int) < 3) = True := by decide
      simp only [core, zrA, zrS, zrM, zrL, zrE, reduceCtorEq, zrD, ziE, ziL, ziN, hn, g2, g3, g4, g5, g17, g18, hc, hw, mixTabU2]
      refine ih _ _ ?_
      simp only [core, zrA, zrS, zrM, zrL, zrE, reduceCtorEq, zrD, ziE, ziL, ziN, hn, g2, g3, g4, g5, g17, g18]
      refine ⟨⟨he.push _ he.1, ha' _⟩, ?_⟩
      (repeat' apply And.intro) <;> first | rfl | trivial
  · rintro t h hc ⟨⟨he, ha⟩, hn, g2, g3, g4, g5, g17, g18⟩
    have g18 : t.get 18 = .lit (.int .i64 3) := g18
    have hc : ((3 : Int) < 3) = False := by decide
    have hlt : H.n + 1 < h.n := at_lt ha
    simp only [core, zrA, zrS, zrM, zrL, zrE, reduceCtorEq, zrD, ziE, ziL, ziN, hn, g2, g3, g4, g5, g17, g18, hc, ha, hlt]
    exact ⟨he.put _ (by omega), rfl⟩
  · simp only [core, zrA, zrS, zrM, zrL, zrE, reduceCtorEq, zrD, ziE, ziL, ziN]
    refine ⟨((Ext.refl H.n H).push _ (Nat.le_refl _)).push _ (by rw [n_push]; omega), ?_⟩
    (repeat' apply And.intro) <;> first | rfl | trivial
theorem Tri.keep {h h' : AH} {p : Nat} {x : AB} (he : Ext h.n h h') (hp : h.at p = some x) : h'.at p = some x := (he.2 p (at_lt hp)).trans hp
theorem hash2Ref_x {H : AH} (a b : Int) : WC Tryz.prog (tabOf Tryz.prog NT0) S00 95 [.lit (.int .u32 a), .lit (.int .u32 b)] H fun r h' => Ext H.n H h' ∧ r = .lit (.int .u32 (hash2F a b)) := by
  refine WC_fn Tryz.func95 rfl rfl ?_
  simp only [core, zrA, zrS, zrM, zrL, zrE, reduceCtorEq, zrD, ziE, ziL, ziN, Tryz.ntmps95]
  refine (mixRef_x (a, b, xorI .u32 (xorI .u32 1315423911 a) b)).mono ?_
  rintro _ h1 ⟨e1, rfl⟩
  obtain ⟨t, ht⟩ : ∃ t, t = mix3 (a, b, xorI .u32 (xorI .u32 1315423911 a) b) := ⟨_, rfl⟩
  rw [← ht]
  unfold trioV
  simp only [core, zrA, zrS, zrM, zrL, zrE, reduceCtorEq, zrD, ziE, ziL, ziN]
  refine (mixRef_x (231232, t.1, t.2.2)).mono ?_
  rintro _ h2 ⟨e2, rfl⟩
  obtain ⟨u, hu⟩ : ∃ u, u = mix3 (231232, t.1, t.2.2) := ⟨_, rfl⟩
  rw [← hu]
  unfold trioV
  have T2 := Tri.keep e2 (at_push_n h1 _)
  have LT2 := fun e off => ld_at (T := tabOf Tryz.prog NT0) T2 e off
  have lt2 : h1.n < h2.n := at_lt T2
  simp only [core, zrA, zrS, zrM, zrL, zrE, reduceCtorEq, zrD, ziE, ziL, ziN, LT2, lt2]
  refine (mixRef_x (t.2.1, 1232, u.2.2)).mono ?_
  rintro _ h3 ⟨e3, rfl⟩
  unfold trioV
  simp only [core, zrA, zrS, zrM, zrL, zrE, reduceCtorEq, zrD, ziE, ziL, ziN]
  refine ⟨(e1.trans ((Ext.push _ (Ext.refl _ _) e1.1).trans (e2.mono (by rw [n_push]; have := e1.1; omega)))).trans (((Ext.refl H.n h2).push _ (by have := e1.1; omega)).trans (e3.mono (by rw [n_push]; have := e1.1; omega))), ?_⟩
  subst hu ht
  rfl
theorem hash3Ref_x {H : AH} (a b c : Int) : WC Tryz.prog (tabOf Tryz.prog NT0) S00 153 [.lit (.int .u32 a), .lit (.int .u32 b), .lit (.int .u32 c)] H fun r h' => Ext H.n H h' ∧ r = .lit (.int .u32 (hash3F a b c)) := by
  refine WC_fn Tryz.func153 rfl rfl ?_
  simp only [core, zrA, zrS, zrM, zrL, zrE, reduceCtorEq, zrD, ziE, ziL, ziN, Tryz.ntmps153]
  obtain ⟨w0, hw0⟩ : ∃ w, w = xorI .u32 (xorI .u32 (xorI .u32 1315423911 a) b) c := ⟨_, rfl⟩
  rw [← hw0]
  refine (mixRef_x (a, b, w0)).mono ?_
  rintro _ h1 ⟨e1, rfl⟩
  obtain ⟨t, ht⟩ : ∃ t, t = mix3 (a, b, w0) := ⟨_, rfl⟩
  rw [← ht]
  unfold trioV
  simp only [core, zrA, zrS, zrM, zrL, zrE, reduceCtorEq, zrD, ziE, ziL, ziN]
  refine (mixRef_x (c, 231232, t.2.2)).mono ?_
  rintro _ h2 ⟨e2, rfl⟩
  obtain ⟨u, hu⟩ : ∃ u, u = mix3 (c, 231232, t.2.2) := ⟨_, rfl⟩
  rw [← hu]
  unfold trioV
  have T2 := Tri.keep e2 (at_push_n h1 _)
  have LT2 := fun e off => ld_at (T := tabOf Tryz.prog NT0) T2 e off
  have lt2 : h1.n < h2.n := at_lt T2
  have E2 : Ext H.n H h2 := e1.trans ((Ext.push _ (Ext.refl _ _) e1.1).trans (e2.mono (by rw [n_push]; have := e1.1; omega)))
  simp only [core, zrA, zrS, zrM, zrL, zrE, reduceCtorEq, zrD, ziE, ziL, ziN, LT2, lt2]
  refine (mixRef_x (1232, t.1, u.2.2)).mono ?_
  rintro _ h3 ⟨e3, rfl⟩
  obtain ⟨v, hv⟩ : ∃ v, v = mix3 (1232, t.1, u.2.2) := ⟨_, rfl⟩
  rw [← hv]
  unfold trioV
  have T3 := Tri.keep e3 ((at_push_lt _ lt2).trans T2)
  have U3 := Tri.keep e3 (at_push_n h2 _)
  have LT3 := fun e off => ld_at (T := tabOf Tryz.prog NT0) T3 e off
  have LU3 := fun e off => ld_at (T := tabOf Tryz.prog NT0) U3 e off
  have lt3 : h1.n < h3.n := at_lt T3
  have lu3 : h2.n < h3.n := at_lt U3
  have E3 : Ext H.n H h3 := E2.trans ((Ext.push _ (Ext.refl _ _) E2.1).trans (e3.mono (by rw [n_push]; have := E2.1; omega)))
  simp only [core, zrA, zrS, zrM, zrL, zrE, reduceCtorEq, zrD, ziE, ziL, ziN, LT3, LU3, lt3, lu3]
  refine (mixRef_x (t.2.1, u.2.1, v.2.2)).mono ?_
  rintro _ h4 ⟨e4, rfl⟩
  obtain ⟨z, hz⟩ : ∃ z, z = mix3 (t.2.1, u.2.1, v.2.2) := ⟨_, rfl⟩
  rw [← hz]
  unfold trioV
  have U4 := Tri.keep e4 ((at_push_lt _ lu3).trans U3)
  have V4 := Tri.keep e4 (at_push_n h3 _)
  have LU4 := fun e off => ld_at (T := tabOf Tryz.prog NT0) U4 e off
  have LV4 := fun e off => ld_at (T := tabOf Tryz.prog NT0) V4 e off
  have lu4 : h2.n < h4.n := at_lt U4
  have lv4 : h3.n < h4.n := at_lt V4
  have E4 : Ext H.n H h4 := E3.trans ((Ext.push _ (Ext.refl _ _) E3.1).trans (e4.mono (by rw [n_push]; have := E3.1; omega)))
  simp only [core, zrA, zrS, zrM, zrL, zrE, reduceCtorEq, zrD, ziE, ziL, ziN, LU4, LV4, lu4, lv4]
  refine (mixRef_x (v.1, u.1, z.2.2)).mono ?_
  rintro _ h5 ⟨e5, rfl⟩
  unfold trioV
  simp only [core, zrA, zrS, zrM, zrL, zrE, reduceCtorEq, zrD, ziE, ziL, ziN]
  refine ⟨E4.trans ((Ext.push _ (Ext.refl _ _) E4.1).trans (e5.mono (by rw [n_push]; have := E4.1; omega))), ?_⟩
  subst hz hv hu ht hw0
  rfl
end Go.Proofs.YtohbdgddnkoenaaGreat.Ex
end

section

set_option linter.unusedSimpArgs false
set_option linter.unusedVariables false
set_option maxRecDepth 10000
set_option maxHeartbeats 4000000
namespace Go.Proofs.YtohbdgddnkoenaaGreat.Ex
open Go
def len8 (b : Nat) : Nat := if b = 0 then 0 else Nat.log2 b + 1
def tabOk (s : ByteArray) : Bool := (List.range 256).all (fun b => (s[b]?).map (·.toNat) == some (len8 b))
theorem len8_at {s : ByteArray} (hs : tabOk s = true) {b : Nat} (hb : b < 256) : strAt s (b : Int) = some (len8 b) := by
  unfold strAt
  rw [if_pos (by omega), Int.toNat_natCast]
  have := List.all_eq_true.1 hs b (List.mem_range.2 hb)
  simpa using this
theorem shr_nat (x k : Nat) (hk : k ≤ 64) : shrI .u64 (x : Int) (k : Int) = ((x / 2 ^ k : Nat) : Int) := by
  unfold shrI
  have : min (Int.toNat (k : Int)) (IntKind.bits .u64) = k := by simp [IntKind.bits]; omega
  rw [this]
  have h2 : ((2 ^ k : Nat) : Int) = (2 : Int) ^ k := by exact Int.natCast_pow 2 k
  rw [← h2, Int.fdiv_eq_ediv_of_nonneg _ (Int.natCast_nonneg _)]
  rfl
theorem wrap_u8 {n : Nat} (h : n < 256) : IntKind.u8.wrap (n : Int) = (n : Int) := by
  unfold IntKind.wrap
  simp [IntKind.bits, IntKind.signed]
  omega
theorem log2_div (x : Nat) (h : 256 ≤ x) : Nat.log2 x = Nat.log2 (x / 256) + 8 := by
  have e : ∀ k y, 2 ^ k ≤ y → Nat.log2 y = Nat.log2 (y / 2 ^ k) + k := by
    intro k
    induction k with
    | zero => intro y _; simp
    | succ k ih =>
      intro y hy
      have h2 : 2 ≤ y := by have := Nat.one_le_two_pow (n := k); rw [Nat.pow_succ] at hy; omega
      rw [Nat.log2_def y, if_pos h2, ih (y / 2) (by rw [Nat.pow_succ] at hy; omega), Nat.div_div_eq_div_mul, Nat.pow_succ, Nat.mul_comm 2]
      omega
  exact e 8 x h
theorem len64_x {H : AH} (x : Nat) (h1 : 1 ≤ x) (h2 : x ≤ 65536) : WC Tryz.prog (tabOf Tryz.prog NT0) S00 114 [.lit (.int .u64 x)] H fun r h' => h' = H ∧ r = .lit (.int .i64 ((Nat.log2 x + 1 : Nat))) := by
  refine WC_fn Tryz.func114 rfl rfl ?_
  have c1 : ¬ (4294967296 : Int) ≤ (x : Int) := by omega
  by_cases h3 : x = 65536
  · subst h3
    have c2 : (65536 : Int) ≤ ((65536 : Nat) : Int) := by omega
    have e1 : shrI .u64 ((65536 : Nat) : Int) 16 = 1 := by decide
    have e2 : IntKind.i64.wrap (0 + 16) = 16 := by decide
    have e3 : IntKind.u8.wrap 1 = 1 := by decide
    have e4 : IntKind.i64.wrap (16 + 1) = 17 := by decide
    have c3 : ¬ (256 : Int) ≤ 1 := by omega
    have c4 : ∀ s, tabOk s = true → strAt s 1 = some 1 := fun s hs => len8_at hs (b := 1) (by omega)
    simp only [core, zrA, zrS, zrM, zrL, zrE, reduceCtorEq, zrD, ziE, ziL, ziN, Tryz.ntmps114, c1, c2, e1, e2, e3, e4, c3]
    rw [c4 _ (by kernel_rfl)]
    simp only [core, zrA, zrS, zrM, zrL, zrE, reduceCtorEq, zrD, ziE, ziL, ziN, e4]
    rfl
  · have c2 : ¬ (65536 : Int) ≤ (x : Int) := by omega
    by_cases h4 : 256 ≤ x
    · have c3 : (256 : Int) ≤ (x : Int) := by omega
      have e1 : shrI .u64 (x : Int) 8 = ((x / 256 : Nat) : Int) := shr_nat x 8 (by omega)
      have e2 : IntKind.i64.wrap (0 + 8) = 8 := by decide
      have e3 : IntKind.u8.wrap ((x / 256 : Nat) : Int) = ((x / 256 : Nat) : Int) := wrap_u8 (by omega)
      have c4 : ∀ s, tabOk s = true → strAt s ((x / 256 : Nat) : Int) = some (len8 (x / 256)) := fun s hs => len8_at hs (by omega)
      simp only [core, zrA, zrS, zrM, zrL, zrE, reduceCtorEq, zrD, ziE, ziL, ziN, Tryz.ntmps114, c1, c2, e1, e2, e3, c3]
      rw [c4 _ (by kernel_rfl)]
      have h5 : len8 (x / 256) = Nat.log2 (x / 256) + 1 := by unfold len8; rw [if_neg (by omega)]
      have h6 : Nat.log2 (x / 256) < 8 := (Nat.log2_lt (by omega)).2 (by omega)
      have e4 : IntKind.i64.wrap ((len8 (x / 256) : Nat) : Int) = ((Nat.log2 (x / 256) + 1 : Nat) : Int) := by rw [h5]; exact wrap_in (by omega) (by omega)
      have e5 : IntKind.i64.wrap (8 + ((Nat.log2 (x / 256) + 1 : Nat) : Int)) = ((Nat.log2 x + 1 : Nat) : Int) := by rw [log2_div x h4]; exact (wrap_in (by omega) (by omega)).trans (by omega)
      simp only [core, zrA, zrS, zrM, zrL, zrE, reduceCtorEq, zrD, ziE, ziL, ziN, e4, e5]
    · have c3 : ¬ (256 : Int) ≤ (x : Int) := by omega
      have e3 : IntKind.u8.wrap (x : Int) = (x : Int) := wrap_u8 (by omega)
      have c4 : ∀ s, tabOk s = true → strAt s (x : Int) = some (len8 x) := fun s hs => len8_at hs (by omega)
      simp only [core, zrA, zrS, zrM, zrL, zrE, reduceCtorEq, zrD, ziE, ziL, ziN, Tryz.ntmps114, c1, c2, e3, c3]
      rw [c4 _ (by kernel_rfl)]
      have h5 : len8 x = Nat.log2 x + 1 := by unfold len8; rw [if_neg (by omega)]
      have h6 : Nat.log2 x < 8 := (Nat.log2_lt (by omega)).2 (by omega)
      have e4 : IntKind.i64.wrap ((len8 x : Nat) : Int) = ((Nat.log2 x + 1 : Nat) : Int) := by rw [h5]; exact wrap_in (by omega) (by omega)
      have e5 : IntKind.i64.wrap (0 + ((Nat.log2 x + 1 : Nat) : Int)) = ((Nat.log2 x + 1 : Nat) : Int) := (wrap_in (by omega) (by omega)).trans (by omega)
      simp only [core, zrA, zrS, zrM, zrL, zrE, reduceCtorEq, zrD, ziE, ziL, ziN, e4, e5]
def lnS (k : Int) (x : Int × Int) : Int × Int :=
  let y := shrI .u64 (IntKind.u64.wrap (x.1 * x.1)) 31
  if 4294967296 ≤ y then (shrI .u64 y 1, IntKind.i64.wrap (x.2 + shlI .i64 1 k)) else (y, x.2)
def lnL : Nat → Int × Int → Int × Int
  | 0, x => x
  | n + 1, x => lnL n (lnS n x)
def clampU (u : Int) : Nat := (if u < 0 then 0 else if 65535 < u then 65535 else u).toNat + 1
def lnF (u : Int) : Int := (lnL 44 (shlI .u64 (clampU u) (IntKind.i64.wrap (31 - (Nat.log2 (clampU u) : Int))), shlI .i64 (Nat.log2 (clampU u)) 44)).2
theorem clampU_le (u : Int) : 1 ≤ clampU u ∧ clampU u ≤ 65536 := by unfold clampU; split <;> (try split) <;> omega
theorem ln_x {H : AH} (u : Int) : WC Tryz.prog (tabOf Tryz.prog NT0) S00 166 [.lit (.int .i64 u)] H fun r h' => h' = H ∧ r = .lit (.int .i64 (lnF u)) := by
  refine WC_fn Tryz.func166 rfl rfl ?_
  obtain ⟨X, hX⟩ : ∃ X, X = clampU u := ⟨_, rfl⟩
  obtain ⟨x1, x2⟩ := clampU_le u
  rw [← hX] at x1 x2
  have hcl : ∀ v, v = (if u < 0 then 0 else u) → IntKind.u64.wrap (IntKind.u64.wrap (if 65535 < v then 65535 else v) + 1) = (X : Int) := fun v hv => by
    rw [hX, hv]
    unfold clampU
    by_cases h1 : u < 0
    · rw [if_pos h1, if_neg (by omega), if_pos h1]; decide
    · rw [if_neg h1, if_neg h1]
      by_cases h2 : 65535 < u
      · rw [if_pos h2]; decide
      · rw [if_neg h2]
        rw [wrap_u64 (n := u) (by omega) (by omega), wrap_u64 (by omega) (by omega)]
        omega
  have hcl := hcl _ rfl
  simp only [corem, WB_cond_s, put, ldL, WB_label, List.nil_append, List.drop_zero, List.take_zero, zrA, zrS, zrM, zrL, zrE, reduceCtorEq, zrD, ziE, ziL, ziN, Tryz.ntmps166, -WB_label, hcl]
  refine (len64_x X x1 x2).mono ?_
  rintro _ h ⟨rfl, rfl⟩
  have hl : Nat.log2 X < 17 := (Nat.log2_lt (by omega)).2 (by omega)
  have hw1 : IntKind.i64.wrap (((Nat.log2 X + 1 : Nat) : Int) - 1) = (Nat.log2 X : Int) := (wrap_in (by omega) (by omega)).trans (by omega)
  have hw2 : (0 : Int) ≤ IntKind.i64.wrap (31 - (Nat.log2 X : Int)) := by rw [wrap_in (by omega) (by omega)]; omega
  simp only [corem, WB_cond_s, put, ldL, WB_label, List.nil_append, List.drop_zero, List.take_zero, zrA, zrS, zrM, zrL, zrE, reduceCtorEq, zrD, ziE, ziL, ziN, Tryz.ntmps166, -WB_label, hw1, hw2]
  refine WB_lab rfl (fun t h => by simp only [WB_seq, WB_label, WB_skip]) (fun n t h' => ∃ y o : Int, n ≤ 43 ∧ h' = h ∧ (lnL (n + 1) (y, o)).2 = lnF u ∧ t.n = 39 ∧ t.get 5 = .lit (.int .u64 y) ∧ t.get 6 = .lit (.int .i64 o) ∧ t.get 7 = .lit (.int .i64 n)) 43 ?_ _ _ ?_
  · rintro n t h' ⟨y, o, hn43, rfl, hL, hn, g5, g6, g7⟩ ih
    have hn0 : (0 : Int) ≤ (n : Int) := by omega
    have key : lnL (n + 1) (y, o) = lnL n (lnS n (y, o)) := rfl
    rw [key] at hL
    unfold lnS at hL
    simp only at hL
    cases n with
    | zero =>
      have hw3 : IntKind.i64.wrap (((0 : Nat) : Int) - 1) = -1 := by decide
      simp only [corem, WB_cond_s, put, ldL, WB_label, List.nil_append, List.drop_zero, List.take_zero, zrA, zrS, zrM, zrL, zrE, reduceCtorEq, zrD, ziE, ziL, ziN, hn, g5, g6, g7, -WB_label, hw3, hn0]
      refine ⟨fun hq => ?_, fun hq => ?_⟩
      · rw [if_pos (by simpa using hq)] at hL
        rw [← hL]; rfl
      · rw [if_neg (by simpa using hq)] at hL
        rw [← hL]; rfl
    | succ m =>
      have hw3 : IntKind.i64.wrap (((m + 1 : Nat) : Int) - 1) = (m : Int) := (wrap_in (by omega) (by omega)).trans (by omega)
      have hm : (0 : Int) ≤ (m : Int) := by omega
      have hd : decide ((0 : Int) ≤ (m : Int)) = true := by simp
      simp only [corem, WB_cond_s, put, ldL, WB_label, List.nil_append, List.drop_zero, List.take_zero, zrA, zrS, zrM, zrL, zrE, reduceCtorEq, zrD, ziE, ziL, ziN, hn, g5, g6, g7, -WB_label, hw3, hn0, hm]
      refine ⟨fun hq => ?_, fun hq => ?_⟩
      · refine WB_goto ?_
        refine ih m _ _ (by omega) ⟨shrI .u64 (shrI .u64 (IntKind.u64.wrap (y * y)) 31) 1, IntKind.i64.wrap (o + shlI .i64 1 ((m + 1 : Nat) : Int)), by omega, rfl, ?_, ?_⟩
        rotate_left
        · simp only [core, zrA, zrS, zrM, zrL, zrE, reduceCtorEq, zrD, ziE, ziL, ziN, hn, g5, g6, g7]
        · rw [if_pos (by simpa using hq)] at hL
          exact hL
      · refine WB_goto ?_
        refine ih m _ _ (by omega) ⟨shrI .u64 (IntKind.u64.wrap (y * y)) 31, o, by omega, rfl, ?_, ?_⟩
        rotate_left
        · simp only [core, zrA, zrS, zrM, zrL, zrE, reduceCtorEq, zrD, ziE, ziL, ziN, hn, g5, g6, g7]
        · rw [if_neg (by simpa using hq)] at hL
          exact hL
  · refine ⟨shlI .u64 X (IntKind.i64.wrap (31 - (Nat.log2 X : Int))), shlI .i64 (Nat.log2 X) 44, Nat.le_refl _, rfl, ?_, ?_⟩
    · unfold lnF
      rw [← hX]
    · simp only [core, zrA, zrS, zrM, zrL, zrE, reduceCtorEq, zrD, ziE, ziL, ziN]
      rfl
theorem shl_nat (x k : Nat) (hk : k ≤ 64) (e : Int) (he : e = (k : Int)) : shlI .u64 (x : Int) e = IntKind.u64.wrap ((x * 2 ^ k : Nat) : Int) := by
  subst he
  unfold shlI
  have : min (Int.toNat (k : Int)) (IntKind.bits .u64) = k := by simp [IntKind.bits]; omega
  rw [this]
  have h2 : ((2 ^ k : Nat) : Int) = (2 : Int) ^ k := by exact Int.natCast_pow 2 k
  rw [← h2]
  rfl
theorem log2_top {x e : Nat} (h1 : 1 ≤ x) (he : e ≤ Nat.log2 x) : (0 < x / 2 ^ (e + 1)) ↔ e < Nat.log2 x := by
  rw [Nat.div_pos_iff]
  constructor
  · rintro ⟨_, h⟩
    exact (Nat.le_log2 (by omega)).2 h
  · intro h
    exact ⟨Nat.two_pow_pos _, (Nat.le_log2 (by omega)).1 h⟩
theorem lnRef_x {H : AH} (u : Int) : WC Tryz.prog (tabOf Tryz.prog NT0) S00 159 [.lit (.int .i64 u)] H fun r h' => h' = H ∧ r = .lit (.int .i64 (lnF u)) := by
  refine WC_fn Tryz.func159 rfl rfl ?_
  obtain ⟨X, hX⟩ : ∃ X, X = clampU u := ⟨_, rfl⟩
  obtain ⟨x1, x2⟩ := clampU_le u
  rw [← hX] at x1 x2
  have hl : Nat.log2 X < 17 := (Nat.log2_lt (by omega)).2 (by omega)
  simp only [corem, WB_cond_s, put, ldL, WB_label, List.nil_append, List.drop_zero, List.take_zero, zrA, zrS, zrM, zrL, zrE, reduceCtorEq, zrD, ziE, ziL, ziN, Tryz.ntmps159, -WB_cond_s]
  refine WB_cut (fun t h => H = h ∧ t.n = 48 ∧ t.get 0 = .lit (.int .i64 (if u < 0 then 0 else u))) (fun k' K' hk => ?_) ?_
  · rw [WB_cond_s]
    simp only [core, zrA, zrS, zrM, zrL, zrE, reduceCtorEq, zrD, ziE, ziL, ziN]
    refine ⟨fun hq => hk _ _ ⟨rfl, ?_⟩, fun hq => hk _ _ ⟨rfl, ?_⟩⟩
    · simp only [core, zrA, zrS, zrM, zrL, zrE, reduceCtorEq, zrD, ziE, ziL, ziN]
      rw [if_pos (by simpa using hq)]
    · simp only [core, zrA, zrS, zrM, zrL, zrE, reduceCtorEq, zrD, ziE, ziL, ziN]
      rw [if_neg (by simpa using hq)]
  rintro t h ⟨rfl, hn, g0⟩
  obtain ⟨v, hv⟩ : ∃ v, v = (if u < 0 then 0 else u) := ⟨_, rfl⟩
  rw [← hv] at g0
  simp only [corem, WB_cond_s, put, ldL, WB_label, List.nil_append, List.drop_zero, List.take_zero, zrA, zrS, zrM, zrL, zrE, reduceCtorEq, zrD, ziE, ziL, ziN, hn, g0, -WB_cond_s]
  refine WB_cut (fun t h => H = h ∧ t.n = 48 ∧ t.get 0 = .lit (.int .i64 ((X : Int) - 1))) (fun k' K' hk => ?_) ?_
  · rw [WB_cond_s]
    simp only [core, zrA, zrS, zrM, zrL, zrE, reduceCtorEq, zrD, ziE, ziL, ziN, hn, g0]
    refine ⟨fun hq => hk _ _ ⟨rfl, ?_⟩, fun hq => hk _ _ ⟨rfl, ?_⟩⟩
    · simp only [core, zrA, zrS, zrM, zrL, zrE, reduceCtorEq, zrD, ziE, ziL, ziN, hn, g0]
      have hq : 65535 < v := by simpa using hq
      have : (X : Int) = 65536 := by
        rw [hX]; unfold clampU
        split at hv
        · omega
        · subst hv; rw [if_neg (by omega), if_pos hq]; rfl
      rw [this]
      rfl
    · simp only [core, zrA, zrS, zrM, zrL, zrE, reduceCtorEq, zrD, ziE, ziL, ziN, hn, g0]
      have hq : ¬ 65535 < v := by simpa using hq
      have : (X : Int) - 1 = v := by
        rw [hX]; unfold clampU
        split at hv
        · rename_i h0; rw [if_pos h0]; subst hv; rfl
        · rename_i h0; subst hv; rw [if_neg h0, if_neg hq]; omega
      rw [this]
  rintro t h ⟨rfl, hn, g0⟩
  have e1 : IntKind.u64.wrap (IntKind.u64.wrap ((X : Int) - 1) + 1) = (X : Int) := by
    rw [wrap_u64 (n := (X : Int) - 1) (by omega) (by omega), wrap_u64 (by omega) (by omega)]; omega
  simp only [core, zrA, zrS, zrM, zrL, zrE, reduceCtorEq, zrD, ziE, ziL, ziN, hn, g0, e1]
  refine WB_ind (fun (e : Nat) t h => H = h ∧ e ≤ Nat.log2 X ∧ t.n = 48 ∧ t.get 3 = .lit (.int .u64 X) ∧ t.get 4 = .lit (.int .i64 e)) (fun e => Nat.log2 X - e) ?_ 0 _ _ ?_
  · rintro e t h ⟨rfl, he, hn, g3, g4⟩ ih
    have hw : IntKind.i64.wrap ((e : Int) + 1) = ((e + 1 : Nat) : Int) := wrap_succ (n := 60) (by omega) (by omega)
    have hw2 : IntKind.u64.wrap ((e + 1 : Nat) : Int) = ((e + 1 : Nat) : Int) := wrap_u64 (by omega) (by omega)
    have hs := shr_nat X (e + 1) (by omega)
    have h0 : (0 : Int) ≤ ((e + 1 : Nat) : Int) := by omega
    have ht := log2_top x1 he
    by_cases hlt : e < Nat.log2 X
    · have hc : ((0 : Int) < ((X / 2 ^ (e + 1) : Nat) : Int)) = True := by have h9 := ht.2 hlt; simp only [eq_iff_iff, iff_true]; omega
      simp only [core, zrA, zrS, zrM, zrL, zrE, reduceCtorEq, zrD, ziE, ziL, ziN, hn, g3, g4, hw, hw2, hs, h0, hc]
      refine ih (e + 1) _ _ ⟨rfl, by omega, ?_⟩ (by omega)
      simp only [core, zrA, zrS, zrM, zrL, zrE, reduceCtorEq, zrD, ziE, ziL, ziN, hn, g3, g4]
    · have hc : ((0 : Int) < ((X / 2 ^ (e + 1) : Nat) : Int)) = False := by have h9 : ¬ 0 < X / 2 ^ (e + 1) := fun h => hlt (ht.1 h); simp only [eq_iff_iff, iff_false]; omega
      have heq : e = Nat.log2 X := by omega
      subst heq
      have hw3 : IntKind.i64.wrap (31 - (Nat.log2 X : Int)) = 31 - (Nat.log2 X : Int) := wrap_in (by omega) (by omega)
      have hw4 : IntKind.u64.wrap (31 - (Nat.log2 X : Int)) = 31 - (Nat.log2 X : Int) := wrap_u64 (by omega) (by omega)
      have h31 : (0 : Int) ≤ 31 - (Nat.log2 X : Int) := by omega
      simp only [core, zrA, zrS, zrM, zrL, zrE, reduceCtorEq, zrD, ziE, ziL, ziN, hn, g3, g4, hw, hw2, hs, h0, hc, hw3, hw4, h31]
      refine WB_ind (fun (n : Nat) t h' => ∃ y o : Int, n ≤ 44 ∧ H = h' ∧ (lnL n (y, o)).2 = lnF u ∧ t.n = 48 ∧ t.get 5 = .lit (.int .u64 y) ∧ t.get 6 = .lit (.int .i64 o) ∧ t.get 7 = .lit (.int .i64 ((n : Int) - 1))) (fun n => n) ?_ 44 _ _ ?_
      · rintro n t h' ⟨y, o, hn44, rfl, hL, hn, g5, g6, g7⟩ ih2
        cases n with
        | zero =>
          have hc : ((0 : Int) ≤ ((0 : Nat) : Int) - 1) = False := by decide
          simp only [core, zrA, zrS, zrM, zrL, zrE, reduceCtorEq, zrD, ziE, ziL, ziN, hn, g5, g6, g7, hc]
          rw [← hL]; rfl
        | succ m =>
          have hg7 : t.get 7 = .lit (.int .i64 (m : Int)) := by rw [g7]; congr 2; omega
          have hc : ((0 : Int) ≤ (m : Int)) = True := by simp
          have hw5 : IntKind.u64.wrap (m : Int) = (m : Int) := wrap_u64 (by omega) (by omega)
          have hw6 : IntKind.i64.wrap ((m : Int) - 1) = (m : Int) - 1 := wrap_in (by omega) (by omega)
          have hm : (0 : Int) ≤ (m : Int) := by omega
          have key : lnL (m + 1) (y, o) = lnL m (lnS m (y, o)) := rfl
          rw [key] at hL
          unfold lnS at hL
          simp only at hL
          simp only [core, zrA, zrS, zrM, zrL, zrE, reduceCtorEq, zrD, ziE, ziL, ziN, hn, g5, g6, hg7, hc, hw5, hw6, hm]
          refine ⟨fun hq => ?_, fun hq => ?_⟩
          · rw [if_pos (by simpa using hq)] at hL
            refine ih2 m _ _ ⟨shrI .u64 (shrI .u64 (IntKind.u64.wrap (y * y)) 31) 1, IntKind.i64.wrap (o + shlI .i64 1 (m : Int)), by omega, rfl, hL, ?_⟩ (by omega)
            simp only [core, zrA, zrS, zrM, zrL, zrE, reduceCtorEq, zrD, ziE, ziL, ziN, hn, g5, g6, g7]
          · rw [if_neg (by simpa using hq)] at hL
            refine ih2 m _ _ ⟨shrI .u64 (IntKind.u64.wrap (y * y)) 31, o, by omega, rfl, hL, ?_⟩ (by omega)
            simp only [core, zrA, zrS, zrM, zrL, zrE, reduceCtorEq, zrD, ziE, ziL, ziN, hn, g5, g6, g7]
      · refine ⟨shlI .u64 X (31 - (Nat.log2 X : Int)), shlI .i64 (Nat.log2 X) 44, Nat.le_refl _, rfl, ?_, ?_⟩
        · unfold lnF
          rw [← hX, hw3]
        · simp only [core, zrA, zrS, zrM, zrL, zrE, reduceCtorEq, zrD, ziE, ziL, ziN, hn, g3, g4]
          rfl
  · refine ⟨rfl, Nat.zero_le _, ?_⟩
    simp only [core, zrA, zrS, zrM, zrL, zrE, reduceCtorEq, zrD, ziE, ziL, ziN, hn, g0]
    rfl
end Go.Proofs.YtohbdgddnkoenaaGreat.Ex
end

section

set_option linter.unusedSimpArgs false
set_option linter.unusedVariables false
set_option maxRecDepth 10000
namespace Go.Proofs.YtohbdgddnkoenaaGreat.Ex
open Go
/-- A number is computed first. -/
def fN {β : Type} (n : Nat) (k : Nat → β) : β := Nat.rec (motive := fun _ => β) (k 0) (fun m _ => k (Nat.succ m)) n
theorem fN_eq {β : Type} (n : Nat) (k : Nat → β) : fN n k = k n := by cases n <;> rfl
def subN (a b : Nat) : Nat := Nat.mod (Nat.add a (Nat.sub 4294967296 b)) 4294967296
abbrev N3 := Nat × Nat × Nat
def mixRN (s0 s1 s2 a b c : Nat) : N3 :=
  fN (Nat.xor (subN (subN a b) c) (Nat.shiftRight c s0)) fun a =>
  fN (Nat.xor (subN (subN b c) a) (Nat.mod (Nat.shiftLeft a s1) 4294967296)) fun b =>
  fN (Nat.xor (subN (subN c a) b) (Nat.shiftRight b s2)) fun c => (a, b, c)
def mix3N (x : N3) : N3 := match x with
  | (a, b, c) => match mixRN 13 8 13 a b c with
    | (a, b, c) => match mixRN 12 16 5 a b c with
      | (a, b, c) => mixRN 3 10 15 a b c
def toI (x : N3) : I3 := ((x.1 : Int), (x.2.1 : Int), (x.2.2 : Int))
def lt3 (x : N3) : Prop := x.1 < 4294967296 ∧ x.2.1 < 4294967296 ∧ x.2.2 < 4294967296
theorem xorI_nat {a b : Nat} (ha : a < 4294967296) (hb : b < 4294967296) : xorI .u32 (a : Int) (b : Int) = ((Nat.xor a b : Nat) : Int) ∧ Nat.xor a b < 4294967296 := by
  have hx : a ^^^ b < 2 ^ 32 := Nat.xor_lt_two_pow (n := 32) ha hb
  refine ⟨?_, hx⟩
  unfold xorI
  have e1 : (BitVec.ofInt (IntKind.bits .u32) (a : Int)).toNat = a := by
    show (BitVec.ofInt 32 (a : Int)).toNat = a
    rw [BitVec.ofInt_natCast, BitVec.toNat_ofNat, Nat.mod_eq_of_lt ha]
  have e2 : (BitVec.ofInt (IntKind.bits .u32) (b : Int)).toNat = b := by
    show (BitVec.ofInt 32 (b : Int)).toNat = b
    rw [BitVec.ofInt_natCast, BitVec.toNat_ofNat, Nat.mod_eq_of_lt hb]
  rw [BitVec.toNat_xor, e1, e2]
  exact wrap_u32 (by omega) (by have : a ^^^ b < 4294967296 := hx; omega)
theorem subN_lt (a b : Nat) : subN a b < 4294967296 := Nat.mod_lt _ (by decide)
theorem wrap_sub {a b : Nat} (ha : a < 4294967296) (hb : b < 4294967296) : IntKind.u32.wrap ((a : Int) - (b : Int)) = ((subN a b : Nat) : Int) := by
  unfold subN IntKind.wrap
  simp only [IntKind.bits, IntKind.signed, Bool.false_and]
  show ((a : Int) - b) % 4294967296 = (((a + (4294967296 - b)) % 4294967296 : Nat) : Int)
  omega
theorem shr32 {a : Nat} (k : Nat) (hk : k ≤ 32) (ha : a < 4294967296) : shrI .u32 (a : Int) (k : Int) = ((Nat.shiftRight a k : Nat) : Int) ∧ Nat.shiftRight a k < 4294967296 := by
  have e0 : Nat.shiftRight a k = a / 2 ^ k := Nat.shiftRight_eq_div_pow a k
  rw [e0]
  refine ⟨?_, Nat.lt_of_le_of_lt (Nat.div_le_self _ _) ha⟩
  unfold shrI
  have : min (Int.toNat (k : Int)) (IntKind.bits .u32) = k := by simp [IntKind.bits]; omega
  rw [this]
  have h2 : ((2 ^ k : Nat) : Int) = (2 : Int) ^ k := by exact Int.natCast_pow 2 k
  rw [← h2, Int.fdiv_eq_ediv_of_nonneg _ (Int.natCast_nonneg _)]
  rfl
theorem shl32 {a : Nat} (k : Nat) (hk : k ≤ 32) : shlI .u32 (a : Int) (k : Int) = ((Nat.mod (Nat.shiftLeft a k) 4294967296 : Nat) : Int) ∧ Nat.mod (Nat.shiftLeft a k) 4294967296 < 4294967296 := by
  refine ⟨?_, Nat.mod_lt _ (by decide)⟩
  have e0 : Nat.shiftLeft a k = a * 2 ^ k := Nat.shiftLeft_eq a k
  rw [e0]
  unfold shlI
  have : min (Int.toNat (k : Int)) (IntKind.bits .u32) = k := by simp [IntKind.bits]; omega
  rw [this]
  have h2 : ((2 ^ k : Nat) : Int) = (2 : Int) ^ k := by exact Int.natCast_pow 2 k
  rw [← h2]
  generalize 2 ^ k = m
  unfold IntKind.wrap
  simp only [IntKind.bits, IntKind.signed, Bool.false_and]
  show ((a : Int) * (m : Int)) % 4294967296 = ((a * m % 4294967296 : Nat) : Int)
  rw [Int.natCast_emod, Int.natCast_mul]
  rfl
theorem mixRN_ok {s0 s1 s2 a b c : Nat} (h0 : s0 ≤ 32) (h1 : s1 ≤ 32) (h2 : s2 ≤ 32) (ha : a < 4294967296) (hb : b < 4294967296) (hc : c < 4294967296) :
    mixR (s0 : Int) (s1 : Int) (s2 : Int) (toI (a, b, c)) = toI (mixRN s0 s1 s2 a b c) ∧ lt3 (mixRN s0 s1 s2 a b c) := by
  obtain ⟨p1, p2⟩ := shr32 s0 h0 hc
  obtain ⟨a', ha'⟩ : ∃ a', a' = Nat.xor (subN (subN a b) c) (Nat.shiftRight c s0) := ⟨_, rfl⟩
  obtain ⟨q1, q2⟩ := xorI_nat (subN_lt (subN a b) c) p2
  rw [← ha'] at q1 q2
  obtain ⟨p3, p4⟩ := shl32 (a := a') s1 h1
  obtain ⟨b', hb'⟩ : ∃ b', b' = Nat.xor (subN (subN b c) a') (Nat.mod (Nat.shiftLeft a' s1) 4294967296) := ⟨_, rfl⟩
  obtain ⟨q3, q4⟩ := xorI_nat (subN_lt (subN b c) a') p4
  rw [← hb'] at q3 q4
  obtain ⟨p5, p6⟩ := shr32 s2 h2 q4
  obtain ⟨c', hc'⟩ : ∃ c', c' = Nat.xor (subN (subN c a') b') (Nat.shiftRight b' s2) := ⟨_, rfl⟩
  obtain ⟨q5, q6⟩ := xorI_nat (subN_lt (subN c a') b') p6
  rw [← hc'] at q5 q6
  have e : mixRN s0 s1 s2 a b c = (a', b', c') := by
    unfold mixRN
    simp only [fN_eq, ← ha', ← hb', ← hc']
  rw [e]
  refine ⟨?_, q2, q4, q6⟩
  unfold mixR toI
  simp only
  rw [wrap_sub ha hb, wrap_sub (subN_lt a b) hc, p1, q1, wrap_sub hb hc, wrap_sub (subN_lt b c) q2, p3, q3, wrap_sub hc q2, wrap_sub (subN_lt c a') q4, p5, q5]
theorem mix3N_ok {x : N3} (h : lt3 x) : mix3 (toI x) = toI (mix3N x) ∧ lt3 (mix3N x) := by
  obtain ⟨a, b, c⟩ := x
  obtain ⟨e1, l1⟩ := mixRN_ok (s0 := 13) (s1 := 8) (s2 := 13) (by decide) (by decide) (by decide) h.1 h.2.1 h.2.2
  obtain ⟨a1, b1, c1⟩ : N3 := mixRN 13 8 13 a b c
  unfold mix3 mixN mix3N
  simp only
  generalize hx1 : mixRN 13 8 13 a b c = x1 at *
  obtain ⟨a1, b1, c1⟩ := x1
  obtain ⟨e2, l2⟩ := mixRN_ok (s0 := 12) (s1 := 16) (s2 := 5) (by decide) (by decide) (by decide) l1.1 l1.2.1 l1.2.2
  simp only
  generalize hx2 : mixRN 12 16 5 a1 b1 c1 = x2 at *
  obtain ⟨a2, b2, c2⟩ := x2
  obtain ⟨e3, l3⟩ := mixRN_ok (s0 := 3) (s1 := 10) (s2 := 15) (by decide) (by decide) (by decide) l2.1 l2.2.1 l2.2.2
  simp only
  refine ⟨?_, l3⟩
  rw [← e3, ← e2, ← e1]
  rfl
section
variable {M : I3 → I3} {G : N3 → N3}
def GoodG (M : I3 → I3) (G : N3 → N3) : Prop := ∀ x, lt3 x → M (toI x) = toI (G x) ∧ lt3 (G x)
def h2M (M : I3 → I3) (a b w : Int) : Int :=
  let t := M (a, b, w)
  let u := M (231232, t.1, t.2.2)
  (M (t.2.1, 1232, u.2.2)).2.2
def h2G (G : N3 → N3) (a b w : Nat) : Nat := match G (a, b, w) with
  | (ta, tb, tc) => match G (231232, ta, tc) with
    | (_, _, uc) => (G (tb, 1232, uc)).2.2
theorem h2_ok (hG : GoodG M G) {a b w : Nat} (ha : a < 4294967296) (hb : b < 4294967296) (hw : w < 4294967296) : h2M M (a : Int) (b : Int) (w : Int) = ((h2G G a b w : Nat) : Int) ∧ h2G G a b w < 4294967296 := by
  obtain ⟨e1, l1⟩ := hG (a, b, w) ⟨ha, hb, hw⟩
  have f1 : M ((a : Int), (b : Int), (w : Int)) = toI (G (a, b, w)) := e1
  unfold h2M h2G
  rw [f1]
  generalize G (a, b, w) = t at l1
  obtain ⟨ta, tb, tc⟩ := t
  obtain ⟨e2, l2⟩ := hG (231232, ta, tc) ⟨(by decide : 231232 < 4294967296), l1.1, l1.2.2⟩
  have f2 : M (231232, (ta : Int), (tc : Int)) = toI (G (231232, ta, tc)) := e2
  simp only [toI]
  rw [f2]
  generalize G (231232, ta, tc) = u at l2
  obtain ⟨ua, ub, uc⟩ := u
  obtain ⟨e3, l3⟩ := hG (tb, 1232, uc) ⟨l1.2.1, (by decide : 1232 < 4294967296), l2.2.2⟩
  have f3 : M ((tb : Int), 1232, (uc : Int)) = toI (G (tb, 1232, uc)) := e3
  simp only [toI]
  rw [f3]
  exact ⟨rfl, l3.2.2⟩
def h3M (M : I3 → I3) (a b c w : Int) : Int :=
  let t := M (a, b, w)
  let u := M (c, 231232, t.2.2)
  let v := M (1232, t.1, u.2.2)
  let w := M (t.2.1, u.2.1, v.2.2)
  (M (v.1, u.1, w.2.2)).2.2
def h3G (G : N3 → N3) (a b c w : Nat) : Nat := match G (a, b, w) with
  | (ta, tb, tc) => match G (c, 231232, tc) with
    | (ua, ub, uc) => match G (1232, ta, uc) with
      | (va, _, vc) => match G (tb, ub, vc) with
        | (_, _, wc) => (G (va, ua, wc)).2.2
theorem h3_ok (hG : GoodG M G) {a b c w : Nat} (ha : a < 4294967296) (hb : b < 4294967296) (hc : c < 4294967296) (hw : w < 4294967296) : h3M M (a : Int) (b : Int) (c : Int) (w : Int) = ((h3G G a b c w : Nat) : Int) ∧ h3G G a b c w < 4294967296 := by
  obtain ⟨e1, l1⟩ := hG (a, b, w) ⟨ha, hb, hw⟩
  have f1 : M ((a : Int), (b : Int), (w : Int)) = toI (G (a, b, w)) := e1
  unfold h3M h3G
  rw [f1]
  generalize G (a, b, w) = t at l1
  obtain ⟨ta, tb, tc⟩ := t
  obtain ⟨e2, l2⟩ := hG (c, 231232, tc) ⟨hc, (by decide : 231232 < 4294967296), l1.2.2⟩
  have f2 : M ((c : Int), 231232, (tc : Int)) = toI (G (c, 231232, tc)) := e2
  simp only [toI]
  rw [f2]
  generalize G (c, 231232, tc) = u at l2
  obtain ⟨ua, ub, uc⟩ := u
  obtain ⟨e3, l3⟩ := hG (1232, ta, uc) ⟨(by decide : 1232 < 4294967296), l1.1, l2.2.2⟩
  have f3 : M (1232, (ta : Int), (uc : Int)) = toI (G (1232, ta, uc)) := e3
  simp only [toI]
  rw [f3]
  generalize G (1232, ta, uc) = v at l3
  obtain ⟨va, vb, vc⟩ := v
  obtain ⟨e4, l4⟩ := hG (tb, ub, vc) ⟨l1.2.1, l2.2.1, l3.2.2⟩
  have f4 : M ((tb : Int), (ub : Int), (vc : Int)) = toI (G (tb, ub, vc)) := e4
  simp only [toI]
  rw [f4]
  generalize G (tb, ub, vc) = z at l4
  obtain ⟨za, zb, zc⟩ := z
  obtain ⟨e5, l5⟩ := hG (va, ua, zc) ⟨l3.1, l2.1, l4.2.2⟩
  have f5 : M ((va : Int), (ua : Int), (zc : Int)) = toI (G (va, ua, zc)) := e5
  simp only [toI]
  rw [f5]
  exact ⟨rfl, l5.2.2⟩
end
def hash2N (a b : Nat) : Nat := h2G mix3N a b (Nat.xor (Nat.xor 1315423911 a) b)
def hash3N (a b c : Nat) : Nat := h3G mix3N a b c (Nat.xor (Nat.xor (Nat.xor 1315423911 a) b) c)
theorem hash2N_ok {a b : Nat} (ha : a < 4294967296) (hb : b < 4294967296) : hash2F (a : Int) (b : Int) = ((hash2N a b : Nat) : Int) ∧ hash2N a b < 4294967296 := by
  obtain ⟨x1, y1⟩ := xorI_nat (a := 1315423911) (by decide) ha
  obtain ⟨x2, y2⟩ := xorI_nat y1 hb
  have e0 : xorI .u32 (xorI .u32 1315423911 (a : Int)) (b : Int) = ((Nat.xor (Nat.xor 1315423911 a) b : Nat) : Int) := by
    rw [← x2, ← x1]; rfl
  have key := h2_ok (M := mix3) (G := mix3N) (fun x hx => mix3N_ok hx) ha hb y2
  rw [← e0] at key
  exact key
theorem hash3N_ok {a b c : Nat} (ha : a < 4294967296) (hb : b < 4294967296) (hc : c < 4294967296) : hash3F (a : Int) (b : Int) (c : Int) = ((hash3N a b c : Nat) : Int) ∧ hash3N a b c < 4294967296 := by
  obtain ⟨x1, y1⟩ := xorI_nat (a := 1315423911) (by decide) ha
  obtain ⟨x2, y2⟩ := xorI_nat y1 hb
  obtain ⟨x3, y3⟩ := xorI_nat y2 hc
  have e0 : xorI .u32 (xorI .u32 (xorI .u32 1315423911 (a : Int)) (b : Int)) (c : Int) = ((Nat.xor (Nat.xor (Nat.xor 1315423911 a) b) c : Nat) : Int) := by
    rw [← x3, ← x2, ← x1]; rfl
  have key := h3_ok (M := mix3) (G := mix3N) (fun x hx => mix3N_ok hx) ha hb hc y3
  rw [← e0] at key
  exact key
/-! The logarithm. -/
def lnLN : Nat → Nat → Nat → Nat
  | 0, _, o => o
  | n + 1, y, o => fN (Nat.shiftRight (Nat.mul y y) 31) fun y => bif Nat.ble 4294967296 y then fN (Nat.shiftRight y 1) fun y => fN (Nat.add o (Nat.shiftLeft 1 n)) fun o => lnLN n y o else lnLN n y o
def lnN (u : Nat) : Nat := fN (Nat.succ u) fun x => fN (Nat.log2 x) fun e => lnLN 44 (Nat.shiftLeft x (Nat.sub 31 e)) (Nat.shiftLeft e 44)
theorem lnLN_ok : ∀ (n : Nat) (y o : Nat), n ≤ 44 → y < 4294967296 → o + 2 ^ n ≤ 2 ^ 60 → (lnL n ((y : Int), (o : Int))).2 = ((lnLN n y o : Nat) : Int) ∧ lnLN n y o < 2 ^ 60
  | 0, y, o, _, _, ho => ⟨rfl, by have : lnLN 0 y o = o := rfl; rw [this]; simp at ho; omega⟩
  | n + 1, y, o, hn, hy, ho => by
    have hp : (2 : Nat) ^ (n + 1) = 2 ^ n + 2 ^ n := by rw [Nat.pow_succ]; omega
    have h60 : (2 : Nat) ^ 60 = 1152921504606846976 := by decide
    rw [hp, h60] at ho
    obtain ⟨q, hq⟩ : ∃ q, q = (2 : Nat) ^ n := ⟨_, rfl⟩
    rw [← hq] at ho
    have hyy : y * y < 18446744073709551616 := by
      have : y * y ≤ 4294967295 * 4294967295 := Nat.mul_le_mul (by omega) (by omega)
      omega
    have e1 : IntKind.u64.wrap ((y : Int) * (y : Int)) = ((y * y : Nat) : Int) := by
      rw [show ((y : Int) * (y : Int)) = ((y * y : Nat) : Int) from (Int.natCast_mul y y).symm]
      exact wrap_u64 (by omega) (by omega)
    obtain ⟨z, hz⟩ : ∃ z, z = y * y / 2 ^ 31 := ⟨_, rfl⟩
    have e2 : shrI .u64 ((y * y : Nat) : Int) 31 = (z : Int) := by rw [hz]; exact shr_nat (y * y) 31 (by decide)
    have e3 : Nat.shiftRight (Nat.mul y y) 31 = z := by rw [hz]; exact Nat.shiftRight_eq_div_pow _ _
    have hz2 : z < 8589934592 := by rw [hz]; omega
    have key : lnL (n + 1) ((y : Int), (o : Int)) = lnL n (lnS n ((y : Int), (o : Int))) := rfl
    rw [key]
    unfold lnS lnLN
    simp only [e1, e2, e3, fN_eq]
    by_cases hge : 4294967296 ≤ z
    · rw [if_pos (by omega), show Nat.ble 4294967296 z = true from Nat.ble_eq.mpr hge]
      simp only [cond_true]
      have e4 : shrI .u64 (z : Int) 1 = ((z / 2 : Nat) : Int) := shr_nat z 1 (by decide)
      have e5 : Nat.shiftRight z 1 = z / 2 := Nat.shiftRight_eq_div_pow _ _
      have e6 : shlI .i64 1 (n : Int) = (q : Int) := by
        unfold shlI
        have : min (Int.toNat (n : Int)) (IntKind.bits .i64) = n := by simp [IntKind.bits]; omega
        rw [this]
        have h2 : ((2 ^ n : Nat) : Int) = (2 : Int) ^ n := by exact Int.natCast_pow 2 n
        rw [Int.one_mul, ← h2, ← hq]
        exact wrap_in (by omega) (by omega)
      have e7 : Nat.shiftLeft 1 n = q := by rw [show Nat.shiftLeft 1 n = 1 * 2 ^ n from Nat.shiftLeft_eq 1 n, Nat.one_mul, hq]
      have e8 : IntKind.i64.wrap ((o : Int) + (q : Int)) = ((o + q : Nat) : Int) := by
        rw [show ((o : Int) + (q : Int)) = ((o + q : Nat) : Int) from (Int.natCast_add o q).symm]
        exact wrap_in (by omega) (by omega)
      rw [e4, e5, e6, e7, e8]
      exact lnLN_ok n (z / 2) (o + q) (by omega) (by omega) (by rw [← hq, h60]; omega)
    · rw [if_neg (by omega), show Nat.ble 4294967296 z = false from Bool.eq_false_iff.mpr fun h => hge (Nat.ble_eq.mp h)]
      simp only [cond_false]
      exact lnLN_ok n z o (by omega) (by omega) (by rw [← hq, h60]; omega)
theorem lnN_ok {u : Nat} (hu : u ≤ 65535) : lnF (u : Int) = ((lnN u : Nat) : Int) ∧ lnN u < 2 ^ 60 := by
  have hX : clampU (u : Int) = u + 1 := by
    unfold clampU
    rw [if_neg (by omega), if_neg (by omega)]
    rfl
  obtain ⟨e, he⟩ : ∃ e, e = Nat.log2 (u + 1) := ⟨_, rfl⟩
  have hl : e < 17 := by rw [he]; exact (Nat.log2_lt (by omega)).2 (by omega)
  have hlt : u + 1 < 2 ^ (e + 1) := by rw [he]; exact Nat.lt_log2_self
  have he2 : Nat.log2 (Nat.succ u) = e := he.symm
  unfold lnF lnN
  rw [hX]
  simp only [fN_eq]
  rw [he2]
  have e1 : IntKind.i64.wrap (31 - (e : Int)) = ((31 - e : Nat) : Int) := (wrap_in (by omega) (by omega)).trans (by omega)
  have hb : (u + 1) * 2 ^ (31 - e) < 4294967296 := by
    have h1 : (u + 1) * 2 ^ (31 - e) < 2 ^ (e + 1) * 2 ^ (31 - e) := Nat.mul_lt_mul_of_pos_right hlt (Nat.two_pow_pos _)
    rw [← Nat.pow_add, show e + 1 + (31 - e) = 32 by omega] at h1
    exact h1
  have e2 : shlI .u64 ((u + 1 : Nat) : Int) ((31 - e : Nat) : Int) = (((u + 1) * 2 ^ (31 - e) : Nat) : Int) := by
    rw [shl_nat (u + 1) (31 - e) (by omega) _ rfl]
    exact wrap_u64 (by omega) (by omega)
  have e3 : shlI .i64 (e : Int) 44 = ((e * 2 ^ 44 : Nat) : Int) := by
    unfold shlI
    have : min (Int.toNat (44 : Int)) (IntKind.bits .i64) = 44 := by decide
    rw [this, show ((e : Int) * 2 ^ 44) = ((e * 2 ^ 44 : Nat) : Int) by rw [Int.natCast_mul]; rfl]
    exact wrap_in (by omega) (by omega)
  have e4 : Nat.shiftLeft (Nat.succ u) (Nat.sub 31 e) = (u + 1) * 2 ^ (31 - e) := Nat.shiftLeft_eq _ _
  have e5 : Nat.shiftLeft e 44 = e * 2 ^ 44 := Nat.shiftLeft_eq _ _
  rw [e1, e2, e3, e4, e5]
  exact lnLN_ok 44 _ _ (by decide) hb (by omega)
/-! As the sums have them. -/
def okU : Int → Bool
  | .ofNat n => Nat.blt n 4294967296
  | _ => false
theorem okU_out {a : Int} (h : okU a = true) : ∃ n : Nat, a = (n : Int) ∧ n < 4294967296 := by
  cases a with
  | ofNat n => exact ⟨n, rfl, Nat.blt_eq.mp h⟩
  | negSucc n => cases h
def hash2V (a b : Int) : Int := bif okU a && okU b then fN (hash2N a.toNat b.toNat) fun n => Int.ofNat n else hash2F a b
def hash3V (a b c : Int) : Int := bif okU a && (okU b && okU c) then fN (hash3N a.toNat b.toNat c.toNat) fun n => Int.ofNat n else hash3F a b c
def okL : Int → Bool
  | .ofNat n => Nat.ble n 65535
  | _ => false
def lnV (u : Int) : Int := bif okL u then fN (lnN u.toNat) fun n => Int.ofNat n else lnF u
theorem hash2V_eq (a b : Int) : hash2V a b = hash2F a b := by
  unfold hash2V
  cases h : okU a && okU b with
  | false => rfl
  | true =>
    simp only [Bool.and_eq_true] at h
    obtain ⟨n, rfl, hn⟩ := okU_out h.1
    obtain ⟨m, rfl, hm⟩ := okU_out h.2
    rw [cond_true, fN_eq, (hash2N_ok hn hm).1]
    rfl
theorem hash3V_eq (a b c : Int) : hash3V a b c = hash3F a b c := by
  unfold hash3V
  cases h : okU a && (okU b && okU c) with
  | false => rfl
  | true =>
    simp only [Bool.and_eq_true] at h
    obtain ⟨n, rfl, hn⟩ := okU_out h.1
    obtain ⟨m, rfl, hm⟩ := okU_out h.2.1
    obtain ⟨k, rfl, hk⟩ := okU_out h.2.2
    rw [cond_true, fN_eq, (hash3N_ok hn hm hk).1]
    rfl
theorem lnV_eq (u : Int) : lnV u = lnF u := by
  unfold lnV
  cases h : okL u with
  | false => rfl
  | true =>
    cases u with
    | negSucc n => cases h
    | ofNat n =>
      rw [cond_true, fN_eq]
      exact (lnN_ok (Nat.ble_eq.mp h)).1.symm
end Go.Proofs.YtohbdgddnkoenaaGreat.Ex
end

section

set_option linter.unusedSimpArgs false
set_option linter.unusedVariables false
namespace Go.Proofs.YtohbdgddnkoenaaGreat.Ex
open Go Go.RowKit
theorem follows_mixed : Tryz.prog.follows .mixedOrders = true := by kernel_rfl
def sHash2 : List AV → AH → Option (AV × AH)
  | [.ptr _ _, .lit (.int .u32 a), .lit (.int .u32 b)], h => some (.lit (.int .u32 (hash2V a b)), h)
  | _, _ => none
def sHash3 : List AV → AH → Option (AV × AH)
  | [.ptr _ _, .lit (.int .u32 a), .lit (.int .u32 b), .lit (.int .u32 c)], h => some (.lit (.int .u32 (hash3V a b c)), h)
  | _, _ => none
def sHash2R : List AV → AH → Option (AV × AH)
  | [.lit (.int .u32 a), .lit (.int .u32 b)], h => some (.lit (.int .u32 (hash2V a b)), h)
  | _, _ => none
def sHash3R : List AV → AH → Option (AV × AH)
  | [.lit (.int .u32 a), .lit (.int .u32 b), .lit (.int .u32 c)], h => some (.lit (.int .u32 (hash3V a b c)), h)
  | _, _ => none
def sLn : List AV → AH → Option (AV × AH)
  | [.lit (.int .i64 u)], h => some (.lit (.int .i64 (lnV u)), h)
  | _, _ => none
/-- What the sums of the first kind know. -/
def S01 : Sums := fun f =>
  bif Nat.beq f 120 then some sHash2 else
  bif Nat.beq f 164 then some sHash3 else
  bif Nat.beq f 95 then some sHash2R else
  bif Nat.beq f 153 then some sHash3R else
  bif Nat.beq f 166 then some sLn else
  bif Nat.beq f 159 then some sLn else none
theorem bif_some {α : Type} {b : Bool} {x : α} {y : Option α} {z : α} (h : (bif b then some x else y) = some z) : (b = true ∧ x = z) ∨ y = some z := by
  cases b
  · exact .inr h
  · exact .inl ⟨rfl, Option.some.inj h⟩
theorem sums_ok01 (ρ : Nat → Value) (fl : Nat) : SumsOK Tryz.prog ρ fl S01 := by
  intro f g args h v h' hs hg μ w args' hr ha
  unfold S01 at hs
  have key : ∀ (f : FuncId) (x : Value), scal x = true → (WC Tryz.prog (tabOf Tryz.prog NT0) S00 f args h fun r h' => Ext h.n h h' ∧ r = .lit x) → Calls Tryz.prog f args'.toArray w fun e w' => ∃ μ' v', e = .returned v' ∧ Eff Tryz.prog ρ fl μ h w μ' h w' ∧ rel ρ μ' w' (.lit x) v' :=
    fun f x hx hw => sum_of_wc tab_sound noNG follows_mixed (sums_ok00 ρ fl) hx hw hr ha
  rcases bif_some hs with ⟨h1, rfl⟩ | hs
  · obtain rfl := Nat.eq_of_beq_eq_true h1
    unfold sHash2 at hg
    split at hg
    case h_2 => cases hg
    cases hg
    rw [hash2V_eq]; exact key _ _ rfl (hash2_x _ _)
  rcases bif_some hs with ⟨h1, rfl⟩ | hs
  · obtain rfl := Nat.eq_of_beq_eq_true h1
    unfold sHash3 at hg
    split at hg
    case h_2 => cases hg
    cases hg
    rw [hash3V_eq]; exact key _ _ rfl (hash3_x _ _ _)
  rcases bif_some hs with ⟨h1, rfl⟩ | hs
  · obtain rfl := Nat.eq_of_beq_eq_true h1
    unfold sHash2R at hg
    split at hg
    case h_2 => cases hg
    cases hg
    rw [hash2V_eq]; exact key _ _ rfl (hash2Ref_x _ _)
  rcases bif_some hs with ⟨h1, rfl⟩ | hs
  · obtain rfl := Nat.eq_of_beq_eq_true h1
    unfold sHash3R at hg
    split at hg
    case h_2 => cases hg
    cases hg
    rw [hash3V_eq]; exact key _ _ rfl (hash3Ref_x _ _ _)
  rcases bif_some hs with ⟨h1, rfl⟩ | hs
  · obtain rfl := Nat.eq_of_beq_eq_true h1
    unfold sLn at hg
    split at hg
    case h_2 => cases hg
    cases hg
    rw [lnV_eq]; exact key _ _ rfl ((ln_x _).mono fun r h' ⟨e, q⟩ => ⟨e ▸ Ext.refl _ _, q⟩)
  rcases bif_some hs with ⟨h1, rfl⟩ | hs
  · obtain rfl := Nat.eq_of_beq_eq_true h1
    unfold sLn at hg
    split at hg
    case h_2 => cases hg
    cases hg
    rw [lnV_eq]; exact key _ _ rfl ((lnRef_x _).mono fun r h' ⟨e, q⟩ => ⟨e ▸ Ext.refl _ _, q⟩)
  cases hs
end Go.Proofs.YtohbdgddnkoenaaGreat.Ex
end

section

set_option linter.unusedSimpArgs false
set_option linter.unusedVariables false
namespace Go.Proofs.YtohbdgddnkoenaaGreat.Ex
open Go Go.RowKit
set_option maxRecDepth 100000 in
theorem mM0_ok : mM0.ok Tryz.prog (tabOf Tryz.prog NT0) S01 100000 39 = true := by decide +kernel
set_option maxRecDepth 100000 in
theorem mM1_ok : mM1.ok Tryz.prog (tabOf Tryz.prog NT0) S01 100000 60 = true := by decide +kernel
set_option maxRecDepth 100000 in
theorem mM2_ok : mM2.ok Tryz.prog (tabOf Tryz.prog NT0) S01 100000 34 = true := by decide +kernel
set_option maxRecDepth 100000 in
theorem mM3_ok : mM3.ok Tryz.prog (tabOf Tryz.prog NT0) S01 100000 19 = true := by decide +kernel
end Go.Proofs.YtohbdgddnkoenaaGreat.Ex
end

section

set_option linter.unusedSimpArgs false
set_option linter.unusedVariables false
namespace Go.Proofs.YtohbdgddnkoenaaGreat.Ex
open Go Go.RowKit
set_option maxRecDepth 100000 in
theorem mM4_ok : mM4.ok Tryz.prog (tabOf Tryz.prog NT0) S01 100000 19 = true := by decide +kernel
set_option maxRecDepth 100000 in
theorem mM5_ok : mM5.ok Tryz.prog (tabOf Tryz.prog NT0) S01 100000 19 = true := by decide +kernel
set_option maxRecDepth 100000 in
theorem mM6_ok : mM6.ok Tryz.prog (tabOf Tryz.prog NT0) S01 100000 34 = true := by decide +kernel
set_option maxRecDepth 100000 in
theorem mM7_ok : mM7.ok Tryz.prog (tabOf Tryz.prog NT0) S01 100000 19 = true := by decide +kernel
end Go.Proofs.YtohbdgddnkoenaaGreat.Ex
end

section

set_option linter.unusedSimpArgs false
set_option linter.unusedVariables false
namespace Go.Proofs.YtohbdgddnkoenaaGreat.Ex
open Go Go.RowKit
noncomputable def S02 : Sums := fun f =>
  bif Nat.beq f 39 then some (memoS [mM0]) else
  bif Nat.beq f 60 then some (memoS [mM1]) else
  bif Nat.beq f 34 then some (memoS [mM2, mM6]) else
  bif Nat.beq f 19 then some (memoS [mM3, mM4, mM5, mM7]) else
  bif Nat.beq f 97 then some (colS Tryz.prog (tabOf Tryz.prog NT0) S01 100000 97) else S01 f
theorem sums_ok02 (ρ : Nat → Value) (fl : Nat) : SumsOK Tryz.prog ρ fl S02 := by
  intro f g args h v h' hs hg μ w args' hr ha
  unfold S02 at hs
  rcases bif_some hs with ⟨h1, rfl⟩ | hs
  · obtain rfl := Nat.eq_of_beq_eq_true h1
    refine memoS_ok (n := 100000) tab_sound noNG follows_mixed (sums_ok01 ρ fl) hr ha _ (fun m hm => ?_) hg
    simp only [List.mem_cons, List.not_mem_nil, or_false] at hm
    rcases hm with rfl
    · exact mM0_ok
  rcases bif_some hs with ⟨h1, rfl⟩ | hs
  · obtain rfl := Nat.eq_of_beq_eq_true h1
    refine memoS_ok (n := 100000) tab_sound noNG follows_mixed (sums_ok01 ρ fl) hr ha _ (fun m hm => ?_) hg
    simp only [List.mem_cons, List.not_mem_nil, or_false] at hm
    rcases hm with rfl
    · exact mM1_ok
  rcases bif_some hs with ⟨h1, rfl⟩ | hs
  · obtain rfl := Nat.eq_of_beq_eq_true h1
    refine memoS_ok (n := 100000) tab_sound noNG follows_mixed (sums_ok01 ρ fl) hr ha _ (fun m hm => ?_) hg
    simp only [List.mem_cons, List.not_mem_nil, or_false] at hm
    rcases hm with rfl | rfl
    · exact mM2_ok
    · exact mM6_ok
  rcases bif_some hs with ⟨h1, rfl⟩ | hs
  · obtain rfl := Nat.eq_of_beq_eq_true h1
    refine memoS_ok (n := 100000) tab_sound noNG follows_mixed (sums_ok01 ρ fl) hr ha _ (fun m hm => ?_) hg
    simp only [List.mem_cons, List.not_mem_nil, or_false] at hm
    rcases hm with rfl | rfl | rfl | rfl
    · exact mM3_ok
    · exact mM4_ok
    · exact mM5_ok
    · exact mM7_ok
  rcases bif_some hs with ⟨h1, rfl⟩ | hs
  · obtain rfl := Nat.eq_of_beq_eq_true h1
    exact colS_ok tab_sound noNG follows_mixed (sums_ok01 ρ fl) hg hr ha
  exact sums_ok01 ρ fl f g args h v h' hs hg μ w args' hr ha
noncomputable def S03 : Sums := fun f => bif Nat.beq f 20 then some (colS Tryz.prog (tabOf Tryz.prog NT0) S02 100000 20) else S02 f
theorem sums_ok03 (ρ : Nat → Value) (fl : Nat) : SumsOK Tryz.prog ρ fl S03 := by
  intro f g args h v h' hs hg μ w args' hr ha
  unfold S03 at hs
  rcases bif_some hs with ⟨h1, rfl⟩ | hs
  · obtain rfl := Nat.eq_of_beq_eq_true h1
    exact colS_ok tab_sound noNG follows_mixed (sums_ok02 ρ fl) hg hr ha
  exact sums_ok02 ρ fl f g args h v h' hs hg μ w args' hr ha
noncomputable def S04 : Sums := fun f => bif Nat.beq f 61 then some (colS Tryz.prog (tabOf Tryz.prog NT0) S03 100000 61) else S03 f
theorem sums_ok04 (ρ : Nat → Value) (fl : Nat) : SumsOK Tryz.prog ρ fl S04 := by
  intro f g args h v h' hs hg μ w args' hr ha
  unfold S04 at hs
  rcases bif_some hs with ⟨h1, rfl⟩ | hs
  · obtain rfl := Nat.eq_of_beq_eq_true h1
    exact colS_ok tab_sound noNG follows_mixed (sums_ok03 ρ fl) hg hr ha
  exact sums_ok03 ρ fl f g args h v h' hs hg μ w args' hr ha
end Go.Proofs.YtohbdgddnkoenaaGreat.Ex
end

section

namespace Go.Proofs.YtohbdgddnkoenaaGreat.Ex
open Go Go.RowKit
set_option maxRecDepth 100000 in
theorem lives17_run : isTrue (ex Tryz.prog (tabOf Tryz.prog NT0) S04 100000 (.call 14 [] none) .nil) = true := by decide +kernel
theorem lives17_c (w : World) : Calls Tryz.prog 14 #[] w fun e w' => e = .returned (.bool true) ∧ Below w.heap.size w w' := by
  obtain ⟨h', hx⟩ := isTrue_inv lives17_run
  refine (ex_calls (ρ := fun _ => default) (args' := []) tab_sound noNG follows_mixed (sums_ok04 _ _) hx rels_nil (by intro r h; cases h)).mono fun e w' hy => ?_
  obtain ⟨v', μ', rfl, hb, hv⟩ := hy
  exact ⟨by rw [rel_bool_inv hv], hb⟩
/-- The sums with the closed example. -/
noncomputable def S0 : Sums := fun f => bif Nat.beq f 14 then some sTrue else S04 f
theorem sums_ok (ρ : Nat → Value) (fl : Nat) : SumsOK Tryz.prog ρ fl S0 := by
  intro f g args h v h' hs hg μ w args' hr ha
  unfold S0 at hs
  rcases bif_some hs with ⟨h1, rfl⟩ | hs
  · obtain rfl := Nat.eq_of_beq_eq_true h1
    exact sTrue_ok lives17_c hg hr ha
  exact sums_ok04 ρ fl f g args h v h' hs hg μ w args' hr ha
end Go.Proofs.YtohbdgddnkoenaaGreat.Ex
end

section

namespace Go.Proofs.YtohbdgddnkoenaaGreat
open Go.RowKit
set_option maxRecDepth 100000 in
theorem peeringNone_run : Ex.isTrue (Ex.ex Tryz.prog (Ex.tabOf Tryz.prog Ex.NT0) Ex.S0 100000 (.call 3 [.agg ((List.range' 0 54).map .ext)] none) .nil) = true := by decide +kernel
end Go.Proofs.YtohbdgddnkoenaaGreat
end

section

set_option linter.unusedSimpArgs false
set_option linter.unusedVariables false
namespace Go.Proofs.YtohbdgddnkoenaaGreat
open Go.RowKit Go.ChangeShapes Go.WideShapes Go.ChangeAt
open Go.ChangeMaps (open_string shut_string)
theorem own : ownKnob Tryz.prog.godebug = none := by kernel_rfl
theorem laidOut : laidOutB Tryz.prog = true := by kernel_rfl
section
variable {H : Type} {enc : TypeId × Value → H} {P : Program} {W W' : World}
theorem below_trodAll (hl : laidOutB P = true) (hb : Below W.heap.size W W') : ∀ {ts : List TypeId} {vs : List Value} {ds : List (DataW H)} {ps : List MemPlace},
    ts.all (fun t => P.readableRec t && decide (t < P.types.size)) = true → DataW.TrodAll enc P W 0 (fun _ => true) true ts vs ds ps → DataW.TrodAll enc P W' 0 (fun b => decide (b < W.heap.size)) true ts vs ds ps
  | [], _, _, _, _, h => by obtain ⟨rfl, rfl, rfl⟩ := trodAll_nil h; exact trodAll_mk0
  | t :: ts, vs, ds, ps, hr, h => by
    obtain ⟨v, vs', d, ds', p, q, rfl, rfl, rfl, h1, h2⟩ := trodAll_cons h
    simp only [List.all_cons, Bool.and_eq_true, decide_eq_true_eq] at hr
    refine trodAll_cons_mk (Below.trod hl hr.1.1 hr.1.2 h1 hb ?_) (below_trodAll hl hb (by simpa using hr.2) h2)
    obtain ⟨m, hm⟩ := h1
    exact DataW.trod_lt m _ _ _ hm
end
end Go.Proofs.YtohbdgddnkoenaaGreat
end

section

set_option linter.unusedSimpArgs false
set_option linter.unusedVariables false
namespace Go.Proofs.YtohbdgddnkoenaaGreat
open Go.RowKit Go.ChangeShapes Go.WideShapes Go.ChangeAt
theorem arg_cells : Tryz.prog.cellsOf 50 = 54 := by kernel_rfl
set_option maxRecDepth 100000 in
theorem peeringNone_walk {W : World} {base : Nat} {v0 : Value} {A0 A1 : Prop} (k0 : Value.okWide Tryz.prog W .any base 50 v0) (_ : A0) (_ : A1) :
    Calls Tryz.prog 3 #[v0] W fun e w' => e = .returned (.bool true) ∧ Below W.heap.size W w' := by
  obtain ⟨cs, rfl, h1, h2⟩ := Ex.okWide_agg Tryz.underlying50 rfl k0
  rw [arg_cells] at h1
  obtain ⟨h', hx⟩ := Ex.isTrue_inv peeringNone_run
  have hr : Ex.rels (fun i => cs.toList.getD i default) (fun _ => none) W [.agg ((List.range' 0 54).map .ext)] [.agg cs] := by
    refine Ex.rels_cons ?_ Ex.rels_nil
    unfold Ex.rel
    refine ⟨cs.toList, by simp, Ex.rels_exts 54 0 cs.toList (by simpa using h1) fun i v hv => ⟨?_, h2 i v (by simpa using hv)⟩⟩
    rw [Nat.zero_add, List.getD_eq_getElem?_getD, hv]
    rfl
  refine (Ex.ex_calls Ex.tab_sound Ex.noNG Ex.follows_mixed (Ex.sums_ok _ _) hx hr (fun r hh => by
    have hl : cs.toList.length ≤ 1000000 := by simp only [Array.length_toList]; omega
    simp only [List.getD_eq_getElem?_getD, List.getElem?_eq_none hl, Option.getD_none] at hh
    cases hh)).mono fun e w' hy => ?_
  obtain ⟨v', μ', rfl, hb, hv⟩ := hy
  exact ⟨by rw [Ex.rel_bool_inv hv], hb⟩
end Go.Proofs.YtohbdgddnkoenaaGreat
end
