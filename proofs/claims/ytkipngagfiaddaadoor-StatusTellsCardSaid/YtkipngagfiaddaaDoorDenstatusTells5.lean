/- StatusTellsCard: part 5 of what its proof rests on: an evaluator of the program's code, proved sound; plain functions printed from the code by a program of this session, with proofs; plain laws. No condition. -/
import Derived.Test.YtkipngagfiaddaaDoorDenstatusTells4
import Derived.Test.YtkipngagfiaddaaDoorProg
import Derived.Handed
import Derived.Lay
import Derived.MakeChecks
import Derived.FnData
import Derived.Stop.Joined
import Derived.SevenTiedAt
import Derived.Test.YtkipngagfiaddaaDoorRows
import Derived.Test.YtkipngagfiaddaaDoorCards
import Derived.Test.YtkipngagfiaddaaDoorTie

namespace Go.Proofs.YtkipngagfiaddaaDoor.Den
open Go Go.Proofs
set_option maxRecDepth 100000
def S3_0 : C := (.seq1 (.reg [] [⟨(some 16), none, (.fieldA 1 (.t 5))⟩, ⟨(some 17), none, (.load false 1 (.t 16))⟩, ⟨(some 18), none, (.len (.t 17))⟩, ⟨(some 19), none, (.bin .gtr (.t 18) (.v (.d (.int .i64 300))))⟩]) (.cond (.t 19) (.seq (.reg [] [⟨(some 20), none, (.call (.v (.fn (.func 10) [] [])) [])⟩, ⟨(some 6), none, (.mov (.t 20))⟩]) .ret) .skip))
def S3_1 : C := (.seq (.reg [] [⟨(some 22), none, (.mov (.t 0))⟩, ⟨(some 23), none, (.load true 9 (.t 4))⟩, ⟨(some 24), none, (.call (.v (.fn (.func 11) [] [])) [(.t 22), (.t 23)])⟩, ⟨(some 21), none, (.mov (.t 24))⟩, ⟨(some 25), none, (.extract 0 (.t 21))⟩, ⟨(some 26), none, (.extract 1 (.t 21))⟩, ⟨(some 7), none, (.mov (.t 25))⟩, ⟨(some 8), none, (.mov (.t 26))⟩]) (.seq (.reg [] [⟨(some 28), none, (.mov (.t 0))⟩, ⟨(some 29), none, (.load true 9 (.t 4))⟩, ⟨(some 30), none, (.call (.v (.fn (.func 12) [] [])) [(.t 28), (.t 29)])⟩, ⟨(some 27), none, (.mov (.t 30))⟩, ⟨(some 31), none, (.extract 0 (.t 27))⟩, ⟨(some 32), none, (.extract 1 (.t 27))⟩, ⟨(some 9), none, (.mov (.t 31))⟩, ⟨(some 10), none, (.mov (.t 32))⟩]) (.seq (.reg [] [⟨(some 34), none, (.mov (.t 0))⟩, ⟨(some 35), none, (.load true 2 (.t 5))⟩, ⟨(some 36), none, (.call (.v (.fn (.func 13) [] [])) [(.t 34), (.t 35)])⟩, ⟨(some 33), none, (.mov (.t 36))⟩, ⟨(some 37), none, (.extract 0 (.t 33))⟩, ⟨(some 38), none, (.extract 1 (.t 33))⟩, ⟨(some 11), none, (.alloc 24 [(.int .i64 0), (.int .i64 0), (.int .i64 0), (.int .i64 0), (.int .i64 0), (.int .i64 0), (.int .i64 0), (.int .i64 0), (.int .i64 0)] true)⟩, ⟨none, none, (.store 9 (.t 11) (.t 37))⟩, ⟨(some 12), none, (.mov (.t 38))⟩]) (.seq (.reg [] [⟨(some 40), none, (.mov (.t 0))⟩, ⟨(some 41), none, (.load true 2 (.t 5))⟩, ⟨(some 42), none, (.call (.v (.fn (.func 14) [] [])) [(.t 40), (.t 41)])⟩, ⟨(some 39), none, (.mov (.t 42))⟩, ⟨(some 43), none, (.extract 0 (.t 39))⟩, ⟨(some 44), none, (.extract 1 (.t 39))⟩, ⟨(some 13), none, (.alloc 24 [(.int .i64 0), (.int .i64 0), (.int .i64 0), (.int .i64 0), (.int .i64 0), (.int .i64 0), (.int .i64 0), (.int .i64 0), (.int .i64 0)] true)⟩, ⟨none, none, (.store 9 (.t 13) (.t 43))⟩, ⟨(some 14), none, (.mov (.t 44))⟩]) (.seq (.reg [] [⟨(some 45), none, (.mov (.t 7))⟩, ⟨(some 46), none, (.mov (.t 9))⟩, ⟨(some 47), none, (.call (.v (.fn (.func 15) [] [])) [(.t 45), (.t 46)])⟩, ⟨(some 15), none, (.mov (.t 47))⟩]) (.mix [⟨(some 48), none, (.call (.v (.fn (.func 10) [] [])) [])⟩, ⟨(some 49), none, (.mov (.t 48))⟩, ⟨(some 50), (some (49, true)), (.mov (.t 15))⟩, ⟨(some 51), none, (.pick (.t 49) (.t 50) (.v (.d (.bool false))))⟩, ⟨(some 52), none, (.mov (.t 51))⟩, ⟨(some 53), (some (52, true)), (.mov (.t 8))⟩, ⟨(some 54), (some (52, true)), (.mov (.t 10))⟩, ⟨(some 55), (some (52, true)), (.bin .eql (.t 53) (.t 54))⟩, ⟨(some 56), none, (.pick (.t 52) (.t 55) (.v (.d (.bool false))))⟩, ⟨(some 57), none, (.mov (.t 56))⟩, ⟨(some 58), (some (57, true)), (.load true 9 (.t 11))⟩, ⟨(some 59), (some (57, true)), (.load true 9 (.t 13))⟩, ⟨(some 60), (some (57, true)), (.beq (.cells [(.i .i64), (.i .i64), (.i .i64), (.i .i64), (.i .i64), (.i .i64), (.i .i64), (.i .i64), (.i .i64)]) false (.t 58) (.t 59))⟩, ⟨(some 61), none, (.pick (.t 57) (.t 60) (.v (.d (.bool false))))⟩, ⟨(some 62), none, (.mov (.t 61))⟩, ⟨(some 63), (some (62, true)), (.mov (.t 12))⟩, ⟨(some 64), (some (62, true)), (.mov (.t 14))⟩, ⟨(some 65), (some (62, true)), (.bin .eql (.t 63) (.t 64))⟩, ⟨(some 66), none, (.pick (.t 62) (.t 65) (.v (.d (.bool false))))⟩, ⟨(some 67), none, (.mov (.t 66))⟩, ⟨(some 68), (some (67, true)), (.load true 9 (.t 4))⟩, ⟨(some 69), (some (67, true)), (.call (.v (.fn (.func 16) [] [])) [(.t 68)])⟩, ⟨(some 70), (some (67, true)), (.load true 9 (.t 4))⟩, ⟨(some 71), (some (67, true)), (.call (.v (.fn (.func 17) [] [])) [(.t 70)])⟩, ⟨(some 72), (some (67, true)), (.beq .bool false (.t 69) (.t 71))⟩, ⟨(some 73), none, (.pick (.t 67) (.t 72) (.v (.d (.bool false))))⟩, ⟨(some 74), none, (.mov (.t 73))⟩, ⟨(some 75), (some (74, true)), (.mov (.t 0))⟩, ⟨(some 76), (some (74, true)), (.call (.v (.fn (.func 18) [] [])) [(.t 75)])⟩, ⟨(some 77), (some (74, true)), (.mov (.t 0))⟩, ⟨(some 78), (some (74, true)), (.call (.v (.fn (.func 19) [] [])) [(.t 77)])⟩, ⟨(some 79), (some (74, true)), (.bin .eql (.t 76) (.t 78))⟩, ⟨(some 80), none, (.pick (.t 74) (.t 79) (.v (.d (.bool false))))⟩, ⟨(some 6), none, (.mov (.t 80))⟩] [[], [], [], [], [], [], [], [], [], [], [], [], [], [], [], [], [], [], [], [], [], [], [21], [], [], [], [], [], [], [], [], [], [], []] [false, false, false, false, false, false, false, false, false, false, false, false, false, false, false, false, false, false, false, false, false, false, false, true, false, false, false, false, true, false, true, false, false, false]))))))
def F3 : CFunc := ⟨81, [(.tmp 6)], (.seq (.reg [] [⟨(some 4), none, (.box 24 true 9 (.t 1))⟩, ⟨(some 5), none, (.box 27 false 2 (.t 2))⟩, ⟨(some 6), none, (.mov (.v (.d (.bool false))))⟩]) (.cut [0, 4, 5] [6] [0, 4, 5] S3_0 (.cut [0, 4, 5] [] [6] S3_1 .ret)))⟩
theorem c3 : cAt Tryd.prog 3 = some F3.er := by kernel_rfl
def S6_0 : C := (.reg [] [⟨(some 14), none, (.load true 4 (.t 2))⟩, ⟨(some 15), none, (.call (.v (.fn (.func 20) [] [])) [(.t 14)])⟩, ⟨(some 13), none, (.mov (.t 15))⟩, ⟨(some 16), none, (.extract 0 (.t 13))⟩, ⟨(some 17), none, (.extract 1 (.t 13))⟩, ⟨(some 5), none, (.mov (.t 16))⟩, ⟨(some 6), none, (.mov (.t 17))⟩])
def S6_1 : C := (.reg [] [⟨(some 19), none, (.load true 4 (.t 2))⟩, ⟨(some 20), none, (.call (.v (.fn (.func 21) [] [])) [(.t 19)])⟩, ⟨(some 18), none, (.mov (.t 20))⟩, ⟨(some 21), none, (.extract 0 (.t 18))⟩, ⟨(some 22), none, (.extract 1 (.t 18))⟩, ⟨(some 7), none, (.mov (.t 21))⟩, ⟨(some 8), none, (.mov (.t 22))⟩])
def S6_2 : C := (.seq (.reg [] [⟨(some 24), none, (.mov (.t 1))⟩, ⟨(some 25), none, (.call (.v (.fn (.func 22) [] [])) [(.t 24)])⟩, ⟨(some 23), none, (.mov (.t 25))⟩, ⟨(some 26), none, (.extract 0 (.t 23))⟩, ⟨(some 27), none, (.extract 1 (.t 23))⟩, ⟨(some 9), none, (.alloc 42 [(.int .i64 0), (.int .i64 0), (.int .i64 0), (.bool false)] true)⟩, ⟨none, none, (.store 4 (.t 9) (.t 26))⟩, ⟨(some 10), none, (.mov (.t 27))⟩]) (.seq (.reg [] [⟨(some 29), none, (.mov (.t 1))⟩, ⟨(some 30), none, (.call (.v (.fn (.func 23) [] [])) [(.t 29)])⟩, ⟨(some 28), none, (.mov (.t 30))⟩, ⟨(some 31), none, (.extract 0 (.t 28))⟩, ⟨(some 32), none, (.extract 1 (.t 28))⟩, ⟨(some 11), none, (.alloc 42 [(.int .i64 0), (.int .i64 0), (.int .i64 0), (.bool false)] true)⟩, ⟨none, none, (.store 4 (.t 11) (.t 31))⟩, ⟨(some 12), none, (.mov (.t 32))⟩]) (.mix [⟨(some 33), none, (.call (.v (.fn (.func 24) [] [])) [])⟩, ⟨(some 34), none, (.mov (.t 33))⟩, ⟨(some 35), (some (34, true)), (.mov (.t 5))⟩, ⟨(some 36), (some (34, true)), (.mov (.t 7))⟩, ⟨(some 37), (some (34, true)), (.bin .eql (.t 35) (.t 36))⟩, ⟨(some 38), none, (.pick (.t 34) (.t 37) (.v (.d (.bool false))))⟩, ⟨(some 39), none, (.mov (.t 38))⟩, ⟨(some 40), (some (39, true)), (.mov (.t 6))⟩, ⟨(some 41), (some (39, true)), (.mov (.t 8))⟩, ⟨(some 42), (some (39, true)), (.bin .eql (.t 40) (.t 41))⟩, ⟨(some 43), none, (.pick (.t 39) (.t 42) (.v (.d (.bool false))))⟩, ⟨(some 44), none, (.mov (.t 43))⟩, ⟨(some 45), (some (44, true)), (.load true 4 (.t 9))⟩, ⟨(some 46), (some (44, true)), (.load true 4 (.t 11))⟩, ⟨(some 47), (some (44, true)), (.beq (.cells [(.i .i64), (.i .i64), (.i .i64), .b]) false (.t 45) (.t 46))⟩, ⟨(some 48), none, (.pick (.t 44) (.t 47) (.v (.d (.bool false))))⟩, ⟨(some 49), none, (.mov (.t 48))⟩, ⟨(some 50), (some (49, true)), (.mov (.t 10))⟩, ⟨(some 51), (some (49, true)), (.mov (.t 12))⟩, ⟨(some 52), (some (49, true)), (.bin .eql (.t 50) (.t 51))⟩, ⟨(some 53), none, (.pick (.t 49) (.t 52) (.v (.d (.bool false))))⟩, ⟨(some 54), none, (.mov (.t 53))⟩, ⟨(some 55), (some (54, true)), (.load true 4 (.t 2))⟩, ⟨(some 56), (some (54, true)), (.call (.v (.fn (.func 25) [] [])) [(.t 55)])⟩, ⟨(some 57), (some (54, true)), (.load true 4 (.t 2))⟩, ⟨(some 58), (some (54, true)), (.call (.v (.fn (.func 26) [] [])) [(.t 57)])⟩, ⟨(some 59), (some (54, true)), (.beq .bool false (.t 56) (.t 58))⟩, ⟨(some 60), none, (.pick (.t 54) (.t 59) (.v (.d (.bool false))))⟩, ⟨(some 61), none, (.mov (.t 60))⟩, ⟨(some 62), (some (61, true)), (.load true 4 (.t 2))⟩, ⟨(some 63), (some (61, true)), (.call (.v (.fn (.func 27) [] [])) [(.t 62)])⟩, ⟨(some 64), (some (61, true)), (.load true 4 (.t 2))⟩, ⟨(some 65), (some (61, true)), (.call (.v (.fn (.func 28) [] [])) [(.t 64)])⟩, ⟨(some 66), (some (61, true)), (.bin .eql (.t 63) (.t 65))⟩, ⟨(some 67), none, (.pick (.t 61) (.t 66) (.v (.d (.bool false))))⟩, ⟨(some 68), none, (.mov (.t 67))⟩, ⟨(some 69), (some (68, true)), (.load true 4 (.t 2))⟩, ⟨(some 70), (some (68, true)), (.call (.v (.fn (.func 29) [] [])) [(.t 69)])⟩, ⟨(some 71), (some (68, true)), (.load true 4 (.t 2))⟩, ⟨(some 72), (some (68, true)), (.call (.v (.fn (.func 30) [] [])) [(.t 71)])⟩, ⟨(some 73), (some (68, true)), (.bin .eql (.t 70) (.t 72))⟩, ⟨(some 74), none, (.pick (.t 68) (.t 73) (.v (.d (.bool false))))⟩, ⟨(some 4), none, (.mov (.t 74))⟩] [[], [], [], [], [], [], [], [], [], [], [], [], [], [], [], [], [], [], [], [], [], [], [], [], [23], [], [], [], [], [], [], [30], [], [], [], [], [], [], [37], [], [], [], []] [false, false, false, false, false, false, false, false, false, false, false, false, false, false, false, false, false, false, false, false, false, false, false, true, false, true, false, false, false, false, true, false, true, false, false, false, false, false, false, true, false, false, false])))
def F6 : CFunc := ⟨75, [(.tmp 4)], (.seq (.reg [] [⟨(some 2), none, (.box 42 true 4 (.t 0))⟩, ⟨(some 4), none, (.mov (.v (.d (.bool false))))⟩]) (.cut [1, 2] [] [1, 2, 5, 6] S6_0 (.cut [1, 2, 5, 6] [] [1, 2, 5, 6, 7, 8] S6_1 (.cut [1, 2, 5, 6, 7, 8] [] [4] S6_2 .ret))))⟩
theorem c6 : cAt Tryd.prog 6 = some F6.er := by kernel_rfl
def F20 : CFunc := ⟨26, [(.tmp 2), (.tmp 3)], (.seq (.reg [] [⟨(some 1), none, (.box 42 true 4 (.t 0))⟩, ⟨(some 2), none, (.mov (.v (.d (.int .i64 0))))⟩, ⟨(some 3), none, (.mov (.v (.d (.int .i64 0))))⟩]) (.seq (.seq (.reg [] [⟨(some 5), none, (.load true 4 (.t 1))⟩, ⟨(some 6), none, (.call (.v (.fn (.func 25) [] [])) [(.t 5)])⟩, ⟨(some 7), none, (.unop .not (.t 6))⟩]) (.cond (.t 7) (.seq (.reg [] [⟨(some 2), none, (.mov (.v (.d (.int .i64 0))))⟩, ⟨(some 3), none, (.mov (.v (.d (.int .i64 1))))⟩]) .ret) .skip)) (.seq (.reg [] [⟨(some 8), none, (.fieldA 2 (.t 1))⟩, ⟨(some 9), none, (.load false 1 (.t 8))⟩, ⟨(some 4), none, (.mov (.t 9))⟩]) (.seq (.seq (.reg [] [⟨(some 10), none, (.mov (.t 4))⟩, ⟨(some 11), none, (.bin .lss (.t 10) (.v (.d (.int .i64 0))))⟩]) (.cond (.t 11) (.reg [] [⟨(some 4), none, (.mov (.v (.d (.int .i64 7))))⟩]) .skip)) (.seq (.reg [] [⟨(some 12), none, (.fieldA 0 (.t 1))⟩, ⟨(some 13), none, (.load false 1 (.t 12))⟩, ⟨(some 14), none, (.fieldA 1 (.t 1))⟩, ⟨(some 15), none, (.load false 1 (.t 14))⟩, ⟨(some 16), none, (.bin .shl (.t 15) (.v (.d (.int .u64 4))))⟩, ⟨(some 17), none, (.bin .or (.t 13) (.t 16))⟩, ⟨(some 18), none, (.mov (.t 4))⟩, ⟨(some 19), none, (.bin .shl (.t 18) (.v (.d (.int .u64 8))))⟩, ⟨(some 20), none, (.bin .or (.t 17) (.t 19))⟩, ⟨(some 4), none, (.mov (.t 20))⟩]) (.seq (.seq (.reg [] [⟨(some 21), none, (.fieldA 3 (.t 1))⟩, ⟨(some 22), none, (.load false 1 (.t 21))⟩]) (.cond (.t 22) (.reg [] [⟨(some 23), none, (.mov (.t 4))⟩, ⟨(some 24), none, (.bin .or (.t 23) (.v (.d (.int .i64 2048))))⟩, ⟨(some 4), none, (.mov (.t 24))⟩]) .skip)) (.seq (.reg [] [⟨(some 25), none, (.mov (.t 4))⟩, ⟨(some 2), none, (.mov (.t 25))⟩, ⟨(some 3), none, (.mov (.v (.d (.int .i64 0))))⟩]) .ret)))))))⟩
theorem c20 : cAt Tryd.prog 20 = some F20.er := by kernel_rfl
def F21 : CFunc := ⟨31, [(.tmp 2), (.tmp 3)], (.seq (.reg [] [⟨(some 1), none, (.box 42 true 4 (.t 0))⟩, ⟨(some 2), none, (.mov (.v (.d (.int .i64 0))))⟩, ⟨(some 3), none, (.mov (.v (.d (.int .i64 0))))⟩]) (.seq (.reg [] [⟨(some 6), none, (.load true 4 (.t 1))⟩, ⟨(some 7), none, (.call (.v (.fn (.func 26) [] [])) [(.t 6)])⟩, ⟨(some 4), none, (.mov (.t 7))⟩]) (.seq (.seq (.reg [] [⟨(some 8), none, (.mov (.t 4))⟩, ⟨(some 9), none, (.unop .not (.t 8))⟩]) (.cond (.t 9) (.seq (.reg [] [⟨(some 2), none, (.mov (.v (.d (.int .i64 0))))⟩, ⟨(some 3), none, (.mov (.v (.d (.int .i64 1))))⟩]) .ret) .skip)) (.seq (.reg [] [⟨(some 10), none, (.fieldA 0 (.t 1))⟩, ⟨(some 11), none, (.load false 1 (.t 10))⟩, ⟨(some 12), none, (.fieldA 1 (.t 1))⟩, ⟨(some 13), none, (.load false 1 (.t 12))⟩, ⟨(some 14), none, (.bin .mul (.v (.d (.int .i64 16))) (.t 13))⟩, ⟨(some 15), none, (.bin .add (.t 11) (.t 14))⟩, ⟨(some 5), none, (.mov (.t 15))⟩]) (.seq (.seq (.reg [] [⟨(some 16), none, (.fieldA 2 (.t 1))⟩, ⟨(some 17), none, (.load false 1 (.t 16))⟩, ⟨(some 18), none, (.bin .lss (.t 17) (.v (.d (.int .i64 0))))⟩]) (.cond (.t 18) (.reg [] [⟨(some 19), none, (.mov (.t 5))⟩, ⟨(some 20), none, (.bin .add (.t 19) (.v (.d (.int .i64 1792))))⟩, ⟨(some 5), none, (.mov (.t 20))⟩]) (.reg [] [⟨(some 21), none, (.mov (.t 5))⟩, ⟨(some 22), none, (.fieldA 2 (.t 1))⟩, ⟨(some 23), none, (.load false 1 (.t 22))⟩, ⟨(some 24), none, (.bin .mul (.v (.d (.int .i64 256))) (.t 23))⟩, ⟨(some 25), none, (.bin .add (.t 21) (.t 24))⟩, ⟨(some 5), none, (.mov (.t 25))⟩]))) (.seq (.seq (.reg [] [⟨(some 26), none, (.fieldA 3 (.t 1))⟩, ⟨(some 27), none, (.load false 1 (.t 26))⟩]) (.cond (.t 27) (.reg [] [⟨(some 28), none, (.mov (.t 5))⟩, ⟨(some 29), none, (.bin .add (.t 28) (.v (.d (.int .i64 2048))))⟩, ⟨(some 5), none, (.mov (.t 29))⟩]) .skip)) (.seq (.reg [] [⟨(some 30), none, (.mov (.t 5))⟩, ⟨(some 2), none, (.mov (.t 30))⟩, ⟨(some 3), none, (.mov (.v (.d (.int .i64 0))))⟩]) .ret)))))))⟩
theorem c21 : cAt Tryd.prog 21 = some F21.er := by kernel_rfl
def F22 : CFunc := ⟨32, [(.cell true 4 2), (.tmp 3)], (.seq (.reg [] [⟨(some 2), none, (.alloc 42 [(.int .i64 0), (.int .i64 0), (.int .i64 0), (.bool false)] true)⟩, ⟨(some 3), none, (.mov (.v (.d (.int .i64 0))))⟩]) (.seq (.seq (.reg [] [⟨(some 5), none, (.mov (.t 0))⟩, ⟨(some 6), none, (.bin .lss (.t 5) (.v (.d (.int .i64 0))))⟩, ⟨(some 7), none, (.mov (.t 6))⟩, ⟨(some 8), (some (7, false)), (.mov (.t 0))⟩, ⟨(some 9), (some (7, false)), (.bin .geq (.t 8) (.v (.d (.int .i64 4096))))⟩, ⟨(some 10), none, (.pick (.t 7) (.v (.d (.bool true))) (.t 9))⟩]) (.cond (.t 10) (.seq (.reg [] [⟨(some 11), none, (.build [(.int .i64 0), (.int .i64 0), (.int .i64 0), (.bool false)] [])⟩, ⟨none, none, (.store 4 (.t 2) (.t 11))⟩, ⟨(some 3), none, (.mov (.v (.d (.int .i64 3))))⟩]) .ret) .skip)) (.seq (.reg [] [⟨(some 12), none, (.mov (.t 0))⟩, ⟨(some 13), none, (.bin .and (.t 12) (.v (.d (.int .i64 15))))⟩, ⟨(some 14), none, (.mov (.t 0))⟩, ⟨(some 15), none, (.bin .shr (.t 14) (.v (.d (.int .u64 4))))⟩, ⟨(some 16), none, (.bin .and (.t 15) (.v (.d (.int .i64 15))))⟩, ⟨(some 17), none, (.mov (.t 0))⟩, ⟨(some 18), none, (.bin .shr (.t 17) (.v (.d (.int .u64 8))))⟩, ⟨(some 19), none, (.bin .and (.t 18) (.v (.d (.int .i64 7))))⟩, ⟨(some 20), none, (.mov (.t 0))⟩, ⟨(some 21), none, (.call (.v (.fn (.func 33) [] [])) [(.t 20), (.v (.d (.int .i64 11)))])⟩, ⟨(some 22), none, (.build [(.int .i64 0), (.int .i64 0), (.int .i64 0), (.bool false)] [(0, (1, (.t 13))), (1, (1, (.t 16))), (2, (1, (.t 19))), (3, (1, (.t 21)))])⟩, ⟨(some 4), none, (.alloc 42 [(.int .i64 0), (.int .i64 0), (.int .i64 0), (.bool false)] true)⟩, ⟨none, none, (.store 4 (.t 4) (.t 22))⟩]) (.seq (.seq (.reg [] [⟨(some 23), none, (.fieldA 2 (.t 4))⟩, ⟨(some 24), none, (.load false 1 (.t 23))⟩, ⟨(some 25), none, (.bin .eql (.t 24) (.v (.d (.int .i64 7))))⟩]) (.cond (.t 25) (.reg [] [⟨(some 26), none, (.fieldA 2 (.t 4))⟩, ⟨none, none, (.store 1 (.t 26) (.v (.d (.int .i64 (-1)))))⟩]) .skip)) (.seq (.seq (.reg [] [⟨(some 27), none, (.load true 4 (.t 4))⟩, ⟨(some 28), none, (.call (.v (.fn (.func 25) [] [])) [(.t 27)])⟩, ⟨(some 29), none, (.unop .not (.t 28))⟩]) (.cond (.t 29) (.seq (.reg [] [⟨(some 30), none, (.build [(.int .i64 0), (.int .i64 0), (.int .i64 0), (.bool false)] [])⟩, ⟨none, none, (.store 4 (.t 2) (.t 30))⟩, ⟨(some 3), none, (.mov (.v (.d (.int .i64 3))))⟩]) .ret) .skip)) (.seq (.reg [] [⟨(some 31), none, (.load true 4 (.t 4))⟩, ⟨none, none, (.store 4 (.t 2) (.t 31))⟩, ⟨(some 3), none, (.mov (.v (.d (.int .i64 0))))⟩]) .ret))))))⟩
theorem c22 : cAt Tryd.prog 22 = some F22.er := by kernel_rfl
def S23_0 : C := (.seq1 (.reg [] [⟨(some 7), none, (.mov (.t 0))⟩, ⟨(some 8), none, (.bin .lss (.t 7) (.v (.d (.int .i64 0))))⟩, ⟨(some 9), none, (.mov (.t 8))⟩, ⟨(some 10), (some (9, false)), (.mov (.t 0))⟩, ⟨(some 11), (some (9, false)), (.bin .gtr (.t 10) (.v (.d (.int .i64 4095))))⟩, ⟨(some 12), none, (.pick (.t 9) (.v (.d (.bool true))) (.t 11))⟩]) (.cond (.t 12) (.seq (.reg [] [⟨(some 13), none, (.build [(.int .i64 0), (.int .i64 0), (.int .i64 0), (.bool false)] [])⟩, ⟨none, none, (.store 4 (.t 2) (.t 13))⟩, ⟨(some 3), none, (.mov (.v (.d (.int .i64 3))))⟩]) .ret) .skip))
def S23_1 : C := (.seq1 (.reg [] [⟨(some 25), none, (.fieldA 2 (.t 4))⟩, ⟨(some 26), none, (.load false 1 (.t 25))⟩, ⟨(some 27), none, (.bin .eql (.t 26) (.v (.d (.int .i64 7))))⟩]) (.cond (.t 27) (.reg [] [⟨(some 28), none, (.fieldA 2 (.t 4))⟩, ⟨none, none, (.store 1 (.t 28) (.v (.d (.int .i64 (-1)))))⟩]) .skip))
def S23_2 : C := (.reg [] [⟨(some 30), none, (.load true 4 (.t 4))⟩, ⟨(some 31), none, (.call (.v (.fn (.func 21) [] [])) [(.t 30)])⟩, ⟨(some 29), none, (.mov (.t 31))⟩, ⟨(some 32), none, (.extract 0 (.t 29))⟩, ⟨(some 33), none, (.extract 1 (.t 29))⟩, ⟨(some 5), none, (.mov (.t 32))⟩, ⟨(some 6), none, (.mov (.t 33))⟩])
def S23_3 : C := (.seq1 (.reg [] [⟨(some 34), none, (.mov (.t 6))⟩, ⟨(some 35), none, (.bin .neq (.t 34) (.v (.d (.int .i64 0))))⟩, ⟨(some 36), none, (.mov (.t 35))⟩, ⟨(some 37), (some (36, false)), (.mov (.t 5))⟩, ⟨(some 38), (some (36, false)), (.mov (.t 0))⟩, ⟨(some 39), (some (36, false)), (.bin .neq (.t 37) (.t 38))⟩, ⟨(some 40), none, (.pick (.t 36) (.v (.d (.bool true))) (.t 39))⟩]) (.cond (.t 40) (.seq (.reg [] [⟨(some 41), none, (.build [(.int .i64 0), (.int .i64 0), (.int .i64 0), (.bool false)] [])⟩, ⟨none, none, (.store 4 (.t 2) (.t 41))⟩, ⟨(some 3), none, (.mov (.v (.d (.int .i64 3))))⟩]) .ret) .skip))
def F23 : CFunc := ⟨43, [(.cell true 4 2), (.tmp 3)], (.seq (.reg [] [⟨(some 2), none, (.alloc 42 [(.int .i64 0), (.int .i64 0), (.int .i64 0), (.bool false)] true)⟩, ⟨(some 3), none, (.mov (.v (.d (.int .i64 0))))⟩]) (.cut [0, 2] [2, 3] [0, 2] S23_0 (.seq (.reg [] [⟨(some 14), none, (.mov (.t 0))⟩, ⟨(some 15), none, (.bin .rem (.t 14) (.v (.d (.int .i64 16))))⟩, ⟨(some 16), none, (.mov (.t 0))⟩, ⟨(some 17), none, (.bin .quo (.t 16) (.v (.d (.int .i64 16))))⟩, ⟨(some 18), none, (.bin .rem (.t 17) (.v (.d (.int .i64 16))))⟩, ⟨(some 19), none, (.mov (.t 0))⟩, ⟨(some 20), none, (.bin .quo (.t 19) (.v (.d (.int .i64 256))))⟩, ⟨(some 21), none, (.bin .rem (.t 20) (.v (.d (.int .i64 8))))⟩, ⟨(some 22), none, (.mov (.t 0))⟩, ⟨(some 23), none, (.bin .geq (.t 22) (.v (.d (.int .i64 2048))))⟩, ⟨(some 24), none, (.build [(.int .i64 0), (.int .i64 0), (.int .i64 0), (.bool false)] [(0, (1, (.t 15))), (1, (1, (.t 18))), (2, (1, (.t 21))), (3, (1, (.t 23)))])⟩, ⟨(some 4), none, (.alloc 42 [(.int .i64 0), (.int .i64 0), (.int .i64 0), (.bool false)] true)⟩, ⟨none, none, (.store 4 (.t 4) (.t 24))⟩]) (.cut [0, 2, 4] [] [0, 2, 4] S23_1 (.cut [0, 2, 4] [] [0, 2, 4, 5, 6] S23_2 (.cut [0, 2, 4, 5, 6] [2, 3] [2, 4] S23_3 (.seq (.reg [] [⟨(some 42), none, (.load true 4 (.t 4))⟩, ⟨none, none, (.store 4 (.t 2) (.t 42))⟩, ⟨(some 3), none, (.mov (.v (.d (.int .i64 0))))⟩]) .ret)))))))⟩
theorem c23 : cAt Tryd.prog 23 = some F23.er := by kernel_rfl
def S24_0 : C := (.reg [] [⟨(some 14), none, (.load true 4 (.t 1))⟩, ⟨(some 15), none, (.call (.v (.fn (.func 20) [] [])) [(.t 14)])⟩, ⟨(some 13), none, (.mov (.t 15))⟩, ⟨(some 16), none, (.extract 0 (.t 13))⟩, ⟨(some 17), none, (.extract 1 (.t 13))⟩, ⟨(some 2), none, (.mov (.t 16))⟩, ⟨(some 3), none, (.mov (.t 17))⟩])
def S24_1 : C := (.seq (.reg [] [⟨(some 19), none, (.mov (.t 2))⟩, ⟨(some 20), none, (.call (.v (.fn (.func 22) [] [])) [(.t 19)])⟩, ⟨(some 18), none, (.mov (.t 20))⟩, ⟨(some 21), none, (.extract 0 (.t 18))⟩, ⟨(some 22), none, (.extract 1 (.t 18))⟩, ⟨(some 4), none, (.alloc 42 [(.int .i64 0), (.int .i64 0), (.int .i64 0), (.bool false)] true)⟩, ⟨none, none, (.store 4 (.t 4) (.t 21))⟩, ⟨(some 5), none, (.mov (.t 22))⟩]) (.seq (.reg [] [⟨(some 24), none, (.call (.v (.fn (.func 22) [] [])) [(.v (.d (.int .i64 2049)))])⟩, ⟨(some 23), none, (.mov (.t 24))⟩, ⟨(some 25), none, (.extract 0 (.t 23))⟩, ⟨(some 26), none, (.extract 1 (.t 23))⟩, ⟨(some 6), none, (.alloc 42 [(.int .i64 0), (.int .i64 0), (.int .i64 0), (.bool false)] true)⟩, ⟨none, none, (.store 4 (.t 6) (.t 25))⟩, ⟨(some 7), none, (.mov (.t 26))⟩]) (.seq (.reg [] [⟨(some 28), none, (.call (.v (.fn (.func 22) [] [])) [(.v (.d (.int .i64 4080)))])⟩, ⟨(some 27), none, (.mov (.t 28))⟩, ⟨(some 29), none, (.extract 0 (.t 27))⟩, ⟨(some 30), none, (.extract 1 (.t 27))⟩, ⟨(some 8), none, (.alloc 42 [(.int .i64 0), (.int .i64 0), (.int .i64 0), (.bool false)] true)⟩, ⟨none, none, (.store 4 (.t 8) (.t 29))⟩, ⟨(some 9), none, (.mov (.t 30))⟩]) (.seq (.reg [] [⟨(some 32), none, (.build [(.int .i64 0), (.int .i64 0), (.int .i64 0), (.bool false)] [(0, (1, (.v (.d (.int .i64 1))))), (2, (1, (.v (.d (.int .i64 1)))))])⟩, ⟨(some 33), none, (.call (.v (.fn (.func 20) [] [])) [(.t 32)])⟩, ⟨(some 31), none, (.mov (.t 33))⟩, ⟨(some 34), none, (.extract 0 (.t 31))⟩, ⟨(some 35), none, (.extract 1 (.t 31))⟩, ⟨(some 10), none, (.mov (.t 34))⟩, ⟨(some 11), none, (.mov (.t 35))⟩]) (.reg [] [⟨(some 36), none, (.mov (.t 2))⟩, ⟨(some 37), none, (.bin .eql (.t 36) (.v (.d (.int .i64 813))))⟩, ⟨(some 38), none, (.mov (.t 37))⟩, ⟨(some 39), (some (38, true)), (.mov (.t 3))⟩, ⟨(some 40), (some (38, true)), (.bin .eql (.t 39) (.v (.d (.int .i64 0))))⟩, ⟨(some 41), none, (.pick (.t 38) (.t 40) (.v (.d (.bool false))))⟩, ⟨(some 42), none, (.mov (.t 41))⟩, ⟨(some 43), (some (42, true)), (.load true 4 (.t 4))⟩, ⟨(some 44), (some (42, true)), (.load true 4 (.t 1))⟩, ⟨(some 45), (some (42, true)), (.beq (.cells [(.i .i64), (.i .i64), (.i .i64), .b]) false (.t 43) (.t 44))⟩, ⟨(some 46), none, (.pick (.t 42) (.t 45) (.v (.d (.bool false))))⟩, ⟨(some 47), none, (.mov (.t 46))⟩, ⟨(some 48), (some (47, true)), (.mov (.t 5))⟩, ⟨(some 49), (some (47, true)), (.bin .eql (.t 48) (.v (.d (.int .i64 0))))⟩, ⟨(some 50), none, (.pick (.t 47) (.t 49) (.v (.d (.bool false))))⟩, ⟨(some 51), none, (.mov (.t 50))⟩, ⟨(some 52), (some (51, true)), (.mov (.t 7))⟩, ⟨(some 53), (some (51, true)), (.bin .eql (.t 52) (.v (.d (.int .i64 3))))⟩, ⟨(some 54), none, (.pick (.t 51) (.t 53) (.v (.d (.bool false))))⟩, ⟨(some 55), none, (.mov (.t 54))⟩, ⟨(some 56), (some (55, true)), (.load true 4 (.t 8))⟩, ⟨(some 57), (some (55, true)), (.build [(.int .i64 0), (.int .i64 0), (.int .i64 0), (.bool false)] [(1, (1, (.v (.d (.int .i64 15))))), (2, (1, (.v (.d (.int .i64 (-1)))))), (3, (1, (.v (.d (.bool true)))))])⟩, ⟨(some 58), (some (55, true)), (.beq (.cells [(.i .i64), (.i .i64), (.i .i64), .b]) false (.t 56) (.t 57))⟩, ⟨(some 59), none, (.pick (.t 55) (.t 58) (.v (.d (.bool false))))⟩, ⟨(some 60), none, (.mov (.t 59))⟩, ⟨(some 61), (some (60, true)), (.mov (.t 9))⟩, ⟨(some 62), (some (60, true)), (.bin .eql (.t 61) (.v (.d (.int .i64 0))))⟩, ⟨(some 63), none, (.pick (.t 60) (.t 62) (.v (.d (.bool false))))⟩, ⟨(some 64), none, (.mov (.t 63))⟩, ⟨(some 65), (some (64, true)), (.mov (.t 11))⟩, ⟨(some 66), (some (64, true)), (.bin .eql (.t 65) (.v (.d (.int .i64 1))))⟩, ⟨(some 67), none, (.pick (.t 64) (.t 66) (.v (.d (.bool false))))⟩, ⟨(some 68), none, (.mov (.t 67))⟩, ⟨(some 69), (some (68, true)), (.load true 4 (.t 1))⟩, ⟨(some 70), (some (68, true)), (.call (.v (.fn (.func 29) [] [])) [(.t 69)])⟩, ⟨(some 71), (some (68, true)), (.bin .eql (.t 70) (.v (.d (.str ⟨#[105, 110, 32, 48, 50, 51, 32, 108, 97, 116, 99, 104, 101, 100, 32, 49, 32, 115, 117, 115, 112, 101, 99, 116, 32, 51, 32, 116, 114, 105, 112, 108, 101]⟩))))⟩, ⟨(some 72), none, (.pick (.t 68) (.t 71) (.v (.d (.bool false))))⟩, ⟨(some 73), none, (.mov (.t 72))⟩, ⟨(some 74), (some (73, true)), (.load true 4 (.t 8))⟩, ⟨(some 75), (some (73, true)), (.call (.v (.fn (.func 29) [] [])) [(.t 74)])⟩, ⟨(some 76), (some (73, true)), (.bin .eql (.t 75) (.v (.d (.str ⟨#[105, 110, 32, 45, 32, 108, 97, 116, 99, 104, 101, 100, 32, 48, 49, 50, 51, 32, 115, 117, 115, 112, 101, 99, 116, 32, 45, 32, 104, 111, 108, 100]⟩))))⟩, ⟨(some 77), none, (.pick (.t 73) (.t 76) (.v (.d (.bool false))))⟩, ⟨(some 78), none, (.mov (.t 77))⟩, ⟨(some 79), (some (78, true)), (.load true 4 (.t 1))⟩, ⟨(some 80), (some (78, true)), (.call (.v (.fn (.func 27) [] [])) [(.t 79)])⟩, ⟨(some 81), (some (78, true)), (.bin .eql (.t 80) (.v (.d (.str ⟨#[116, 114, 105, 112, 108, 101]⟩))))⟩, ⟨(some 82), none, (.pick (.t 78) (.t 81) (.v (.d (.bool false))))⟩, ⟨(some 83), none, (.mov (.t 82))⟩, ⟨(some 84), (some (83, true)), (.load true 4 (.t 1))⟩, ⟨(some 85), (some (83, true)), (.call (.v (.fn (.func 25) [] [])) [(.t 84)])⟩, ⟨(some 86), none, (.pick (.t 83) (.t 85) (.v (.d (.bool false))))⟩, ⟨(some 0), none, (.mov (.t 86))⟩])))))
def F24 : CFunc := ⟨87, [(.tmp 0)], (.seq (.reg [] [⟨(some 0), none, (.mov (.v (.d (.bool false))))⟩]) (.seq (.reg [] [⟨(some 12), none, (.build [(.int .i64 0), (.int .i64 0), (.int .i64 0), (.bool false)] [(0, (1, (.v (.d (.int .i64 13))))), (1, (1, (.v (.d (.int .i64 2))))), (2, (1, (.v (.d (.int .i64 3)))))])⟩, ⟨(some 1), none, (.alloc 42 [(.int .i64 0), (.int .i64 0), (.int .i64 0), (.bool false)] true)⟩, ⟨none, none, (.store 4 (.t 1) (.t 12))⟩]) (.cut [1] [] [1, 2, 3] S24_0 (.cut [1, 2, 3] [] [0] S24_1 .ret))))⟩
theorem c24 : cAt Tryd.prog 24 = some F24.er := by kernel_rfl
def S25_0 : C := (.reg [] [⟨(some 4), none, (.fieldA 2 (.t 1))⟩, ⟨(some 5), none, (.load false 1 (.t 4))⟩, ⟨(some 6), none, (.bin .eql (.t 5) (.v (.d (.int .i64 (-1)))))⟩, ⟨(some 7), none, (.mov (.t 6))⟩, ⟨(some 8), (some (7, false)), (.fieldA 2 (.t 1))⟩, ⟨(some 9), (some (7, false)), (.load false 1 (.t 8))⟩, ⟨(some 10), (some (7, false)), (.bin .geq (.t 9) (.v (.d (.int .i64 0))))⟩, ⟨(some 11), (some (7, false)), (.mov (.t 10))⟩, ⟨(some 12), (some (11, true)), (.fieldA 2 (.t 1))⟩, ⟨(some 13), (some (11, true)), (.load false 1 (.t 12))⟩, ⟨(some 14), (some (11, true)), (.bin .lss (.t 13) (.v (.d (.int .i64 4))))⟩, ⟨(some 15), (some (7, false)), (.pick (.t 11) (.t 14) (.v (.d (.bool false))))⟩, ⟨(some 16), (some (7, false)), (.mov (.t 15))⟩, ⟨(some 17), (some (16, true)), (.fieldA 0 (.t 1))⟩, ⟨(some 18), (some (16, true)), (.load false 1 (.t 17))⟩, ⟨(some 19), (some (16, true)), (.fieldA 2 (.t 1))⟩, ⟨(some 20), (some (16, true)), (.load false 1 (.t 19))⟩, ⟨(some 21), (some (16, true)), (.call (.v (.fn (.func 33) [] [])) [(.t 18), (.t 20)])⟩, ⟨(some 22), (some (7, false)), (.pick (.t 16) (.t 21) (.v (.d (.bool false))))⟩, ⟨(some 23), none, (.pick (.t 7) (.v (.d (.bool true))) (.t 22))⟩, ⟨(some 3), none, (.mov (.t 23))⟩])
def S25_1 : C := (.reg [] [⟨(some 24), none, (.fieldA 0 (.t 1))⟩, ⟨(some 25), none, (.load false 1 (.t 24))⟩, ⟨(some 26), none, (.call (.v (.fn (.func 60) [] [])) [(.t 25)])⟩, ⟨(some 27), none, (.mov (.t 26))⟩, ⟨(some 28), (some (27, true)), (.fieldA 1 (.t 1))⟩, ⟨(some 29), (some (27, true)), (.load false 1 (.t 28))⟩, ⟨(some 30), (some (27, true)), (.call (.v (.fn (.func 60) [] [])) [(.t 29)])⟩, ⟨(some 31), none, (.pick (.t 27) (.t 30) (.v (.d (.bool false))))⟩, ⟨(some 32), none, (.mov (.t 31))⟩, ⟨(some 33), (some (32, true)), (.fieldA 3 (.t 1))⟩, ⟨(some 34), (some (32, true)), (.load false 1 (.t 33))⟩, ⟨(some 35), (some (32, true)), (.fieldA 0 (.t 1))⟩, ⟨(some 36), (some (32, true)), (.load false 1 (.t 35))⟩, ⟨(some 37), (some (32, true)), (.bin .eql (.t 36) (.v (.d (.int .i64 0))))⟩, ⟨(some 38), (some (32, true)), (.beq .bool false (.t 34) (.t 37))⟩, ⟨(some 39), none, (.pick (.t 32) (.t 38) (.v (.d (.bool false))))⟩, ⟨(some 40), none, (.mov (.t 39))⟩, ⟨(some 41), (some (40, true)), (.mov (.t 3))⟩, ⟨(some 42), none, (.pick (.t 40) (.t 41) (.v (.d (.bool false))))⟩, ⟨(some 2), none, (.mov (.t 42))⟩])
def F25 : CFunc := ⟨43, [(.tmp 2)], (.seq (.reg [] [⟨(some 1), none, (.box 42 true 4 (.t 0))⟩, ⟨(some 2), none, (.mov (.v (.d (.bool false))))⟩]) (.cut [1] [] [1, 3] S25_0 (.cut [1, 3] [] [2] S25_1 .ret)))⟩
theorem c25 : cAt Tryd.prog 25 = some F25.er := by kernel_rfl
def S26_0 : C := (.reg [] [⟨(some 4), none, (.fieldA 0 (.t 1))⟩, ⟨(some 5), none, (.load false 1 (.t 4))⟩, ⟨(some 6), none, (.bin .lss (.t 5) (.v (.d (.int .i64 0))))⟩, ⟨(some 7), none, (.mov (.t 6))⟩, ⟨(some 8), (some (7, false)), (.fieldA 0 (.t 1))⟩, ⟨(some 9), (some (7, false)), (.load false 1 (.t 8))⟩, ⟨(some 10), (some (7, false)), (.bin .gtr (.t 9) (.v (.d (.int .i64 15))))⟩, ⟨(some 11), none, (.pick (.t 7) (.v (.d (.bool true))) (.t 10))⟩, ⟨(some 12), none, (.mov (.t 11))⟩, ⟨(some 13), (some (12, false)), (.fieldA 1 (.t 1))⟩, ⟨(some 14), (some (12, false)), (.load false 1 (.t 13))⟩, ⟨(some 15), (some (12, false)), (.bin .lss (.t 14) (.v (.d (.int .i64 0))))⟩, ⟨(some 16), none, (.pick (.t 12) (.v (.d (.bool true))) (.t 15))⟩, ⟨(some 17), none, (.mov (.t 16))⟩, ⟨(some 18), (some (17, false)), (.fieldA 1 (.t 1))⟩, ⟨(some 19), (some (17, false)), (.load false 1 (.t 18))⟩, ⟨(some 20), (some (17, false)), (.bin .gtr (.t 19) (.v (.d (.int .i64 15))))⟩, ⟨(some 21), none, (.pick (.t 17) (.v (.d (.bool true))) (.t 20))⟩, ⟨(some 22), none, (.mov (.t 21))⟩, ⟨(some 23), (some (22, false)), (.fieldA 3 (.t 1))⟩, ⟨(some 24), (some (22, false)), (.load false 1 (.t 23))⟩, ⟨(some 25), (some (22, false)), (.fieldA 0 (.t 1))⟩, ⟨(some 26), (some (22, false)), (.load false 1 (.t 25))⟩, ⟨(some 27), (some (22, false)), (.bin .eql (.t 26) (.v (.d (.int .i64 0))))⟩, ⟨(some 28), (some (22, false)), (.beq .bool true (.t 24) (.t 27))⟩, ⟨(some 29), none, (.pick (.t 22) (.v (.d (.bool true))) (.t 28))⟩, ⟨(some 30), none, (.mov (.t 29))⟩, ⟨(some 31), (some (30, false)), (.fieldA 2 (.t 1))⟩, ⟨(some 32), (some (30, false)), (.load false 1 (.t 31))⟩, ⟨(some 33), (some (30, false)), (.bin .lss (.t 32) (.v (.d (.int .i64 (-1)))))⟩, ⟨(some 34), none, (.pick (.t 30) (.v (.d (.bool true))) (.t 33))⟩, ⟨(some 35), none, (.mov (.t 34))⟩, ⟨(some 36), (some (35, false)), (.fieldA 2 (.t 1))⟩, ⟨(some 37), (some (35, false)), (.load false 1 (.t 36))⟩, ⟨(some 38), (some (35, false)), (.bin .gtr (.t 37) (.v (.d (.int .i64 3))))⟩, ⟨(some 39), none, (.pick (.t 35) (.v (.d (.bool true))) (.t 38))⟩])
def S26_1 : C := (.cut [1] [] [1, 39] S26_0 (.cond (.t 39) (.seq (.reg [] [⟨(some 2), none, (.mov (.v (.d (.bool false))))⟩]) .ret) .skip))
def S26_2 : C := (.reg [] [⟨(some 45), none, (.fieldA 2 (.t 1))⟩, ⟨(some 46), none, (.load false 1 (.t 45))⟩, ⟨(some 47), none, (.bin .eql (.t 46) (.v (.d (.int .i64 (-1)))))⟩, ⟨(some 48), none, (.mov (.t 47))⟩, ⟨(some 49), (some (48, false)), (.mov (.t 3))⟩, ⟨(some 50), none, (.pick (.t 48) (.v (.d (.bool true))) (.t 49))⟩, ⟨(some 2), none, (.mov (.t 50))⟩])
def F26 : CFunc := ⟨51, [(.tmp 2)], (.seq (.reg [] [⟨(some 1), none, (.box 42 true 4 (.t 0))⟩, ⟨(some 2), none, (.mov (.v (.d (.bool false))))⟩]) (.cut [1] [2] [1] S26_1 (.seq (.reg [] [⟨(some 40), none, (.fieldA 0 (.t 1))⟩, ⟨(some 41), none, (.load false 1 (.t 40))⟩, ⟨(some 42), none, (.fieldA 2 (.t 1))⟩, ⟨(some 43), none, (.load false 1 (.t 42))⟩, ⟨(some 44), none, (.call (.v (.fn (.func 61) [] [])) [(.t 41), (.t 43)])⟩, ⟨(some 3), none, (.mov (.t 44))⟩]) (.cut [1, 3] [] [2] S26_2 .ret))))⟩
theorem c26 : cAt Tryd.prog 26 = some F26.er := by kernel_rfl
def F27 : CFunc := ⟨11, [(.tmp 2)], (.seq (.reg [] [⟨(some 1), none, (.box 42 true 4 (.t 0))⟩, ⟨(some 2), none, (.mov (.v (.d (.str ⟨#[]⟩))))⟩]) (.seq (.seq (.reg [] [⟨(some 3), none, (.load true 4 (.t 1))⟩, ⟨(some 4), none, (.call (.v (.fn (.func 25) [] [])) [(.t 3)])⟩, ⟨(some 5), none, (.unop .not (.t 4))⟩]) (.cond (.t 5) (.seq (.reg [] [⟨(some 2), none, (.mov (.v (.d (.str ⟨#[]⟩))))⟩]) .ret) .skip)) (.seq (.reg [] [⟨(some 6), none, (.build [(.str ⟨#[]⟩), (.str ⟨#[]⟩), (.str ⟨#[]⟩), (.str ⟨#[]⟩), (.str ⟨#[]⟩)] [(0, (1, (.v (.d (.str ⟨#[104, 111, 108, 100]⟩))))), (1, (1, (.v (.d (.str ⟨#[115, 105, 110, 103, 108, 101]⟩))))), (2, (1, (.v (.d (.str ⟨#[100, 117, 112, 108, 101, 120]⟩))))), (3, (1, (.v (.d (.str ⟨#[116, 114, 105, 112, 108, 101]⟩))))), (4, (1, (.v (.d (.str ⟨#[113, 117, 97, 100]⟩)))))])⟩, ⟨(some 7), none, (.fieldA 0 (.t 1))⟩, ⟨(some 8), none, (.load false 1 (.t 7))⟩, ⟨(some 9), none, (.call (.v (.fn (.func 32) [] [])) [(.t 8)])⟩, ⟨(some 10), none, (.idx false 5 1 (.t 6) (.t 9))⟩, ⟨(some 2), none, (.mov (.t 10))⟩]) .ret)))⟩
theorem c27 : cAt Tryd.prog 27 = some F27.er := by kernel_rfl
def F28 : CFunc := ⟨19, [(.tmp 2)], (.seq (.reg [] [⟨(some 1), none, (.box 42 true 4 (.t 0))⟩, ⟨(some 2), none, (.mov (.v (.d (.str ⟨#[]⟩))))⟩]) (.seq (.reg [] [⟨(some 4), none, (.load true 4 (.t 1))⟩, ⟨(some 5), none, (.call (.v (.fn (.func 26) [] [])) [(.t 4)])⟩, ⟨(some 3), none, (.mov (.t 5))⟩]) (.seq (.seq (.reg [] [⟨(some 6), none, (.mov (.t 3))⟩, ⟨(some 7), none, (.unop .not (.t 6))⟩]) (.cond (.t 7) (.seq (.reg [] [⟨(some 2), none, (.mov (.v (.d (.str ⟨#[]⟩))))⟩]) .ret) .skip)) (.seq (.seq (.reg [] [⟨(some 8), none, (.fieldA 0 (.t 1))⟩, ⟨(some 9), none, (.load false 1 (.t 8))⟩, ⟨(some 10), none, (.call (.v (.fn (.func 62) [] [])) [(.t 9)])⟩]) (.block 0 (.seq (.reg [] [⟨(some 12), none, (.bin .eql (.t 10) (.v (.d (.int .i64 4))))⟩, ⟨(some 11), none, (.mov (.t 12))⟩]) (.cond (.t 11) (.seq (.reg [] [⟨(some 2), none, (.mov (.v (.d (.str ⟨#[113, 117, 97, 100]⟩))))⟩]) .ret) (.seq (.reg [] [⟨(some 14), none, (.bin .eql (.t 10) (.v (.d (.int .i64 3))))⟩, ⟨(some 13), none, (.mov (.t 14))⟩]) (.cond (.t 13) (.seq (.reg [] [⟨(some 2), none, (.mov (.v (.d (.str ⟨#[116, 114, 105, 112, 108, 101]⟩))))⟩]) .ret) (.seq (.reg [] [⟨(some 16), none, (.bin .eql (.t 10) (.v (.d (.int .i64 2))))⟩, ⟨(some 15), none, (.mov (.t 16))⟩]) (.cond (.t 15) (.seq (.reg [] [⟨(some 2), none, (.mov (.v (.d (.str ⟨#[100, 117, 112, 108, 101, 120]⟩))))⟩]) .ret) (.seq (.reg [] [⟨(some 18), none, (.bin .eql (.t 10) (.v (.d (.int .i64 1))))⟩, ⟨(some 17), none, (.mov (.t 18))⟩]) (.cond (.t 17) (.seq (.reg [] [⟨(some 2), none, (.mov (.v (.d (.str ⟨#[115, 105, 110, 103, 108, 101]⟩))))⟩]) .ret) .skip)))))))))) (.seq (.reg [] [⟨(some 2), none, (.mov (.v (.d (.str ⟨#[104, 111, 108, 100]⟩))))⟩]) .ret)))))⟩
theorem c28 : cAt Tryd.prog 28 = some F28.er := by kernel_rfl
def F29 : CFunc := ⟨29, [(.tmp 2)], (.seq (.reg [] [⟨(some 1), none, (.box 42 true 4 (.t 0))⟩, ⟨(some 2), none, (.mov (.v (.d (.str ⟨#[]⟩))))⟩]) (.seq (.seq (.reg [] [⟨(some 4), none, (.load true 4 (.t 1))⟩, ⟨(some 5), none, (.call (.v (.fn (.func 25) [] [])) [(.t 4)])⟩, ⟨(some 6), none, (.unop .not (.t 5))⟩]) (.cond (.t 6) (.seq (.reg [] [⟨(some 2), none, (.mov (.v (.d (.str ⟨#[]⟩))))⟩]) .ret) .skip)) (.seq (.reg [] [⟨(some 3), none, (.mov (.v (.d (.str ⟨#[45]⟩))))⟩]) (.seq (.seq (.reg [] [⟨(some 7), none, (.fieldA 2 (.t 1))⟩, ⟨(some 8), none, (.load false 1 (.t 7))⟩, ⟨(some 9), none, (.bin .geq (.t 8) (.v (.d (.int .i64 0))))⟩]) (.cond (.t 9) (.reg [] [⟨(some 10), none, (.fieldA 2 (.t 1))⟩, ⟨(some 11), none, (.load false 1 (.t 10))⟩, ⟨(some 12), none, (.call (.v (.fn (.func 63) [] [])) [(.t 11)])⟩, ⟨(some 3), none, (.mov (.t 12))⟩]) .skip)) (.seq (.mix [⟨(some 13), none, (.fieldA 0 (.t 1))⟩, ⟨(some 14), none, (.load false 1 (.t 13))⟩, ⟨(some 15), none, (.call (.v (.fn (.func 64) [] [])) [(.t 14)])⟩, ⟨(some 16), none, (.bin .add (.v (.d (.str ⟨#[105, 110, 32]⟩))) (.t 15))⟩, ⟨(some 17), none, (.bin .add (.t 16) (.v (.d (.str ⟨#[32, 108, 97, 116, 99, 104, 101, 100, 32]⟩))))⟩, ⟨(some 18), none, (.fieldA 1 (.t 1))⟩, ⟨(some 19), none, (.load false 1 (.t 18))⟩, ⟨(some 20), none, (.call (.v (.fn (.func 64) [] [])) [(.t 19)])⟩, ⟨(some 21), none, (.bin .add (.t 17) (.t 20))⟩, ⟨(some 22), none, (.bin .add (.t 21) (.v (.d (.str ⟨#[32, 115, 117, 115, 112, 101, 99, 116, 32]⟩))))⟩, ⟨(some 23), none, (.mov (.t 3))⟩, ⟨(some 24), none, (.bin .add (.t 22) (.t 23))⟩, ⟨(some 25), none, (.bin .add (.t 24) (.v (.d (.str ⟨#[32]⟩))))⟩, ⟨(some 26), none, (.load true 4 (.t 1))⟩, ⟨(some 27), none, (.call (.v (.fn (.func 27) [] [])) [(.t 26)])⟩, ⟨(some 28), none, (.bin .add (.t 25) (.t 27))⟩, ⟨(some 2), none, (.mov (.t 28))⟩] [[], [], [], [], [], [], [2], [], [], [], [], [], [], [2, 7], [], [], []] [false, false, false, false, false, false, false, false, false, false, false, false, false, false, true, false, false]) .ret)))))⟩
theorem c29 : cAt Tryd.prog 29 = some F29.er := by kernel_rfl
def F30 : CFunc := ⟨37, [(.tmp 2)], (.seq (.reg [] [⟨(some 1), none, (.box 42 true 4 (.t 0))⟩, ⟨(some 2), none, (.mov (.v (.d (.str ⟨#[]⟩))))⟩]) (.seq (.reg [] [⟨(some 7), none, (.load true 4 (.t 1))⟩, ⟨(some 8), none, (.call (.v (.fn (.func 28) [] [])) [(.t 7)])⟩, ⟨(some 3), none, (.mov (.t 8))⟩]) (.seq (.seq (.reg [] [⟨(some 9), none, (.mov (.t 3))⟩, ⟨(some 10), none, (.bin .eql (.t 9) (.v (.d (.str ⟨#[]⟩))))⟩]) (.cond (.t 10) (.seq (.reg [] [⟨(some 2), none, (.mov (.v (.d (.str ⟨#[]⟩))))⟩]) .ret) .skip)) (.seq (.reg [] [⟨(some 4), none, (.mov (.v (.d (.str ⟨#[45]⟩))))⟩]) (.seq (.seq (.reg [] [⟨(some 11), none, (.fieldA 2 (.t 1))⟩, ⟨(some 12), none, (.load false 1 (.t 11))⟩, ⟨(some 13), none, (.bin .geq (.t 12) (.v (.d (.int .i64 0))))⟩]) (.cond (.t 13) (.reg [] [⟨(some 14), none, (.fieldA 2 (.t 1))⟩, ⟨(some 15), none, (.load false 1 (.t 14))⟩, ⟨(some 16), none, (.bin .add (.v (.d (.int .i64 48))) (.t 15))⟩, ⟨(some 17), none, (.conv (.int .u8) (.t 16))⟩, ⟨(some 18), none, (.bslice 5 true 1 1 [(.int .u8 0)] [(0, (.t 17))])⟩, ⟨(some 19), none, (.conv .toStr (.t 18))⟩, ⟨(some 4), none, (.mov (.t 19))⟩]) .skip)) (.seq (.reg [] [⟨(some 20), none, (.fieldA 0 (.t 1))⟩, ⟨(some 21), none, (.load false 1 (.t 20))⟩, ⟨(some 22), none, (.call (.v (.fn (.func 65) [] [])) [(.t 21)])⟩, ⟨(some 5), none, (.mov (.t 22))⟩]) (.seq (.reg [] [⟨(some 23), none, (.fieldA 1 (.t 1))⟩, ⟨(some 24), none, (.load false 1 (.t 23))⟩, ⟨(some 25), none, (.call (.v (.fn (.func 65) [] [])) [(.t 24)])⟩, ⟨(some 6), none, (.mov (.t 25))⟩]) (.seq (.reg [] [⟨(some 26), none, (.mov (.t 5))⟩, ⟨(some 27), none, (.bin .add (.v (.d (.str ⟨#[105, 110, 32]⟩))) (.t 26))⟩, ⟨(some 28), none, (.bin .add (.t 27) (.v (.d (.str ⟨#[32, 108, 97, 116, 99, 104, 101, 100, 32]⟩))))⟩, ⟨(some 29), none, (.mov (.t 6))⟩, ⟨(some 30), none, (.bin .add (.t 28) (.t 29))⟩, ⟨(some 31), none, (.bin .add (.t 30) (.v (.d (.str ⟨#[32, 115, 117, 115, 112, 101, 99, 116, 32]⟩))))⟩, ⟨(some 32), none, (.mov (.t 4))⟩, ⟨(some 33), none, (.bin .add (.t 31) (.t 32))⟩, ⟨(some 34), none, (.bin .add (.t 33) (.v (.d (.str ⟨#[32]⟩))))⟩, ⟨(some 35), none, (.mov (.t 3))⟩, ⟨(some 36), none, (.bin .add (.t 34) (.t 35))⟩, ⟨(some 2), none, (.mov (.t 36))⟩]) .ret))))))))⟩
theorem c30 : cAt Tryd.prog 30 = some F30.er := by kernel_rfl
def F32 : CFunc := ⟨9, [(.tmp 2)], (.seq (.reg [] [⟨(some 2), none, (.mov (.v (.d (.int .i64 0))))⟩]) (.seq (.seq (.reg [] [⟨(some 3), none, (.mov (.t 0))⟩, ⟨(some 4), none, (.call (.v (.fn (.func 67) [] [])) [(.t 3)])⟩, ⟨(some 5), none, (.unop .not (.t 4))⟩]) (.cond (.t 5) (.seq (.reg [] [⟨(some 2), none, (.mov (.v (.d (.int .i64 0))))⟩]) .ret) .skip)) (.seq (.reg [] [⟨(some 6), none, (.mov (.t 0))⟩, ⟨(some 7), none, (.conv (.int .u64) (.t 6))⟩, ⟨(some 8), none, (.call (.v (.fn (.func 68) [] [])) [(.t 7)])⟩, ⟨(some 2), none, (.mov (.t 8))⟩]) .ret)))⟩
theorem c32 : cAt Tryd.prog 32 = some F32.er := by kernel_rfl
def F33 : CFunc := ⟨22, [(.tmp 4)], (.seq (.reg [] [⟨(some 4), none, (.mov (.v (.d (.bool false))))⟩]) (.seq (.reg [] [⟨(some 5), none, (.mov (.t 0))⟩, ⟨(some 6), none, (.call (.v (.fn (.func 67) [] [])) [(.t 5)])⟩, ⟨(some 7), none, (.mov (.t 6))⟩, ⟨(some 8), (some (7, true)), (.mov (.t 1))⟩, ⟨(some 9), (some (7, true)), (.bin .geq (.t 8) (.v (.d (.int .i64 0))))⟩, ⟨(some 10), none, (.pick (.t 7) (.t 9) (.v (.d (.bool false))))⟩, ⟨(some 11), none, (.mov (.t 10))⟩, ⟨(some 12), (some (11, true)), (.mov (.t 1))⟩, ⟨(some 13), (some (11, true)), (.bin .lss (.t 12) (.v (.d (.int .i64 16))))⟩, ⟨(some 14), none, (.pick (.t 11) (.t 13) (.v (.d (.bool false))))⟩, ⟨(some 15), none, (.mov (.t 14))⟩, ⟨(some 16), (some (15, true)), (.mov (.t 0))⟩, ⟨(some 17), (some (15, true)), (.mov (.t 1))⟩, ⟨(some 18), (some (15, true)), (.bin .shr (.t 16) (.t 17))⟩, ⟨(some 19), (some (15, true)), (.bin .and (.t 18) (.v (.d (.int .i64 1))))⟩, ⟨(some 20), (some (15, true)), (.bin .eql (.t 19) (.v (.d (.int .i64 1))))⟩, ⟨(some 21), none, (.pick (.t 15) (.t 20) (.v (.d (.bool false))))⟩, ⟨(some 4), none, (.mov (.t 21))⟩]) .ret))⟩
theorem c33 : cAt Tryd.prog 33 = some F33.er := by kernel_rfl
def F60 : CFunc := ⟨9, [(.tmp 2)], (.seq (.reg [] [⟨(some 2), none, (.mov (.v (.d (.bool false))))⟩]) (.seq (.reg [] [⟨(some 3), none, (.mov (.t 0))⟩, ⟨(some 4), none, (.bin .geq (.t 3) (.v (.d (.int .i64 0))))⟩, ⟨(some 5), none, (.mov (.t 4))⟩, ⟨(some 6), (some (5, true)), (.mov (.t 0))⟩, ⟨(some 7), (some (5, true)), (.bin .leq (.t 6) (.v (.d (.int .i64 15))))⟩, ⟨(some 8), none, (.pick (.t 5) (.t 7) (.v (.d (.bool false))))⟩, ⟨(some 2), none, (.mov (.t 8))⟩]) .ret))⟩
theorem c60 : cAt Tryd.prog 60 = some F60.er := by kernel_rfl
def S61_0 : C := (.seq1 (.reg [] [⟨(some 7), none, (.mov (.t 0))⟩, ⟨(some 8), none, (.bin .lss (.t 7) (.v (.d (.int .i64 0))))⟩, ⟨(some 9), none, (.mov (.t 8))⟩, ⟨(some 10), (some (9, false)), (.mov (.t 0))⟩, ⟨(some 11), (some (9, false)), (.bin .gtr (.t 10) (.v (.d (.int .i64 65535))))⟩, ⟨(some 12), none, (.pick (.t 9) (.v (.d (.bool true))) (.t 11))⟩, ⟨(some 13), none, (.mov (.t 12))⟩, ⟨(some 14), (some (13, false)), (.mov (.t 1))⟩, ⟨(some 15), (some (13, false)), (.bin .lss (.t 14) (.v (.d (.int .i64 0))))⟩, ⟨(some 16), none, (.pick (.t 13) (.v (.d (.bool true))) (.t 15))⟩, ⟨(some 17), none, (.mov (.t 16))⟩, ⟨(some 18), (some (17, false)), (.mov (.t 1))⟩, ⟨(some 19), (some (17, false)), (.bin .gtr (.t 18) (.v (.d (.int .i64 15))))⟩, ⟨(some 20), none, (.pick (.t 17) (.v (.d (.bool true))) (.t 19))⟩]) (.cond (.t 20) (.seq (.reg [] [⟨(some 4), none, (.mov (.v (.d (.bool false))))⟩]) .ret) .skip))
def L61_1 : C := (.seq (.seq (.reg [] [⟨(some 22), none, (.mov (.t 6))⟩, ⟨(some 23), none, (.mov (.t 1))⟩, ⟨(some 24), none, (.bin .lss (.t 22) (.t 23))⟩]) (.cond (.t 24) .skip (.exit 0))) (.seq (.block 1 (.reg [] [⟨(some 27), none, (.mov (.t 5))⟩, ⟨(some 28), none, (.bin .quo (.t 27) (.v (.d (.int .i64 2))))⟩, ⟨(some 5), none, (.mov (.t 28))⟩])) (.reg [] [⟨(some 25), none, (.mov (.t 6))⟩, ⟨(some 26), none, (.bin .add (.t 25) (.v (.d (.int .i64 1))))⟩, ⟨(some 6), none, (.mov (.t 26))⟩])))
def S61_2 : C := (.seq1 (.reg [] [⟨(some 6), none, (.mov (.v (.d (.int .i64 0))))⟩]) (.block 0 (.loop [1, 5, 6] [5] L61_1)))
def F61 : CFunc := ⟨32, [(.tmp 4)], (.seq (.reg [] [⟨(some 4), none, (.mov (.v (.d (.bool false))))⟩]) (.cut [0, 1] [4] [0, 1] S61_0 (.seq (.reg [] [⟨(some 21), none, (.mov (.t 0))⟩, ⟨(some 5), none, (.mov (.t 21))⟩]) (.cut [1, 5] [] [5] S61_2 (.seq (.reg [] [⟨(some 29), none, (.mov (.t 5))⟩, ⟨(some 30), none, (.bin .rem (.t 29) (.v (.d (.int .i64 2))))⟩, ⟨(some 31), none, (.bin .eql (.t 30) (.v (.d (.int .i64 1))))⟩, ⟨(some 4), none, (.mov (.t 31))⟩]) .ret)))))⟩
theorem c61 : cAt Tryd.prog 61 = some F61.er := by kernel_rfl
def L62_0 : C := (.seq (.seq (.reg [] [⟨(some 6), none, (.mov (.t 4))⟩, ⟨(some 7), none, (.bin .lss (.t 6) (.v (.d (.int .i64 16))))⟩]) (.cond (.t 7) .skip (.exit 0))) (.seq (.block 1 (.seq (.reg [] [⟨(some 10), none, (.mov (.t 0))⟩, ⟨(some 11), none, (.mov (.t 4))⟩, ⟨(some 12), none, (.call (.v (.fn (.func 61) [] [])) [(.t 10), (.t 11)])⟩, ⟨(some 5), none, (.mov (.t 12))⟩]) (.seq (.reg [] [⟨(some 13), none, (.mov (.t 5))⟩]) (.cond (.t 13) (.reg [] [⟨(some 14), none, (.mov (.t 3))⟩, ⟨(some 15), none, (.bin .add (.t 14) (.v (.d (.int .i64 1))))⟩, ⟨(some 3), none, (.mov (.t 15))⟩]) .skip)))) (.reg [] [⟨(some 8), none, (.mov (.t 4))⟩, ⟨(some 9), none, (.bin .add (.t 8) (.v (.d (.int .i64 1))))⟩, ⟨(some 4), none, (.mov (.t 9))⟩])))
def F62 : CFunc := ⟨17, [(.tmp 2)], (.seq (.reg [] [⟨(some 2), none, (.mov (.v (.d (.int .i64 0))))⟩]) (.seq (.reg [] [⟨(some 3), none, (.mov (.v (.d (.int .i64 0))))⟩]) (.seq (.seq (.reg [] [⟨(some 4), none, (.mov (.v (.d (.int .i64 0))))⟩]) (.block 0 (.loop [0, 3, 4] [3] L62_0))) (.seq (.reg [] [⟨(some 16), none, (.mov (.t 3))⟩, ⟨(some 2), none, (.mov (.t 16))⟩]) .ret))))⟩
theorem c62 : cAt Tryd.prog 62 = some F62.er := by kernel_rfl
def L64_0 : C := (.seq (.reg [] [⟨(some 6), none, (.bin .lss (.t 5) (.v (.d (.int .i64 4))))⟩]) (.seq (.cond (.t 6) .skip (.exit 0)) (.seq (.block 1 (.seq (.reg [] [⟨(some 7), none, (.mov (.t 5))⟩, ⟨(some 4), none, (.mov (.t 7))⟩]) (.seq (.reg [] [⟨(some 8), none, (.mov (.t 0))⟩, ⟨(some 9), none, (.mov (.t 4))⟩, ⟨(some 10), none, (.call (.v (.fn (.func 33) [] [])) [(.t 8), (.t 9)])⟩]) (.cond (.t 10) (.reg [] [⟨(some 11), none, (.mov (.t 3))⟩, ⟨(some 12), none, (.mov (.t 4))⟩, ⟨(some 13), none, (.call (.v (.fn (.func 63) [] [])) [(.t 12)])⟩, ⟨(some 14), none, (.bin .add (.t 11) (.t 13))⟩, ⟨(some 3), none, (.mov (.t 14))⟩]) .skip)))) (.reg [] [⟨(some 15), none, (.bin .add (.t 5) (.v (.d (.int .i64 1))))⟩, ⟨(some 5), none, (.mov (.t 15))⟩]))))
def F64 : CFunc := ⟨19, [(.tmp 2)], (.seq (.reg [] [⟨(some 2), none, (.mov (.v (.d (.str ⟨#[]⟩))))⟩]) (.seq (.reg [] [⟨(some 3), none, (.mov (.v (.d (.str ⟨#[]⟩))))⟩]) (.seq (.seq (.reg [] [⟨(some 5), none, (.mov (.v (.d (.int .i64 0))))⟩]) (.block 0 (.loop [0, 3, 5] [3] L64_0))) (.seq (.seq (.reg [] [⟨(some 16), none, (.mov (.t 3))⟩, ⟨(some 17), none, (.bin .eql (.t 16) (.v (.d (.str ⟨#[]⟩))))⟩]) (.cond (.t 17) (.seq (.reg [] [⟨(some 2), none, (.mov (.v (.d (.str ⟨#[45]⟩))))⟩]) .ret) .skip)) (.seq (.reg [] [⟨(some 18), none, (.mov (.t 3))⟩, ⟨(some 2), none, (.mov (.t 18))⟩]) .ret)))))⟩
theorem c64 : cAt Tryd.prog 64 = some F64.er := by kernel_rfl
def L65_0 : C := (.seq (.seq (.reg [] [⟨(some 6), none, (.mov (.t 4))⟩, ⟨(some 7), none, (.bin .lss (.t 6) (.v (.d (.int .i64 4))))⟩]) (.cond (.t 7) .skip (.exit 0))) (.seq (.block 1 (.seq (.reg [] [⟨(some 10), none, (.mov (.t 0))⟩, ⟨(some 11), none, (.mov (.t 4))⟩, ⟨(some 12), none, (.call (.v (.fn (.func 61) [] [])) [(.t 10), (.t 11)])⟩, ⟨(some 5), none, (.mov (.t 12))⟩]) (.seq (.reg [] [⟨(some 13), none, (.mov (.t 5))⟩]) (.cond (.t 13) (.reg [] [⟨(some 14), none, (.mov (.t 3))⟩, ⟨(some 15), none, (.mov (.t 4))⟩, ⟨(some 16), none, (.bin .add (.v (.d (.int .i64 48))) (.t 15))⟩, ⟨(some 17), none, (.conv (.int .u8) (.t 16))⟩, ⟨(some 18), none, (.bslice 5 true 1 1 [(.int .u8 0)] [(0, (.t 17))])⟩, ⟨(some 19), none, (.conv .toStr (.t 18))⟩, ⟨(some 20), none, (.bin .add (.t 14) (.t 19))⟩, ⟨(some 3), none, (.mov (.t 20))⟩]) .skip)))) (.reg [] [⟨(some 8), none, (.mov (.t 4))⟩, ⟨(some 9), none, (.bin .add (.t 8) (.v (.d (.int .i64 1))))⟩, ⟨(some 4), none, (.mov (.t 9))⟩])))
def F65 : CFunc := ⟨24, [(.tmp 2)], (.seq (.reg [] [⟨(some 2), none, (.mov (.v (.d (.str ⟨#[]⟩))))⟩]) (.seq (.reg [] [⟨(some 3), none, (.mov (.v (.d (.str ⟨#[]⟩))))⟩]) (.seq (.seq (.reg [] [⟨(some 4), none, (.mov (.v (.d (.int .i64 0))))⟩]) (.block 0 (.loop [0, 3, 4] [3] L65_0))) (.seq (.seq (.reg [] [⟨(some 21), none, (.mov (.t 3))⟩, ⟨(some 22), none, (.bin .eql (.t 21) (.v (.d (.str ⟨#[]⟩))))⟩]) (.cond (.t 22) (.seq (.reg [] [⟨(some 2), none, (.mov (.v (.d (.str ⟨#[45]⟩))))⟩]) .ret) .skip)) (.seq (.reg [] [⟨(some 23), none, (.mov (.t 3))⟩, ⟨(some 2), none, (.mov (.t 23))⟩]) .ret)))))⟩
theorem c65 : cAt Tryd.prog 65 = some F65.er := by kernel_rfl
def F67 : CFunc := ⟨9, [(.tmp 2)], (.seq (.reg [] [⟨(some 2), none, (.mov (.v (.d (.bool false))))⟩]) (.seq (.reg [] [⟨(some 3), none, (.mov (.t 0))⟩, ⟨(some 4), none, (.bin .geq (.t 3) (.v (.d (.int .i64 0))))⟩, ⟨(some 5), none, (.mov (.t 4))⟩, ⟨(some 6), (some (5, true)), (.mov (.t 0))⟩, ⟨(some 7), (some (5, true)), (.bin .lss (.t 6) (.v (.d (.int .i64 65536))))⟩, ⟨(some 8), none, (.pick (.t 5) (.t 7) (.v (.d (.bool false))))⟩, ⟨(some 2), none, (.mov (.t 8))⟩]) .ret))⟩
theorem c67 : cAt Tryd.prog 67 = some F67.er := by kernel_rfl
def F68 : CFunc := ⟨8, [(.tmp 2)], (.seq (.reg [] [⟨(some 2), none, (.mov (.v (.d (.int .i64 0))))⟩]) (.seq (.cond (.v (.d (.bool false))) (.seq (.reg [] [⟨(some 3), none, (.mov (.t 0))⟩, ⟨(some 4), none, (.conv (.int .u32) (.t 3))⟩, ⟨(some 5), none, (.call (.v (.fn (.func 84) [] [])) [(.t 4)])⟩, ⟨(some 2), none, (.mov (.t 5))⟩]) .ret) .skip) (.seq (.reg [] [⟨(some 6), none, (.mov (.t 0))⟩, ⟨(some 7), none, (.call (.v (.fn (.func 85) [] [])) [(.t 6)])⟩, ⟨(some 2), none, (.mov (.t 7))⟩]) .ret)))⟩
theorem c68 : cAt Tryd.prog 68 = some F68.er := by kernel_rfl
def F84 : CFunc := ⟨21, [(.tmp 2)], (.seq (.reg [] [⟨(some 2), none, (.mov (.v (.d (.int .i64 0))))⟩]) (.seq (.reg [⟨(some 3), none, (.mov (.t 0))⟩, ⟨(some 4), none, (.bin .shr (.t 3) (.v (.d (.int .u64 24))))⟩, ⟨(some 5), none, (.idxs (.v (.d (.str ⟨#[0, 1, 1, 2, 1, 2, 2, 3, 1, 2, 2, 3, 2, 3, 3, 4, 1, 2, 2, 3, 2, 3, 3, 4, 2, 3, 3, 4, 3, 4, 4, 5, 1, 2, 2, 3, 2, 3, 3, 4, 2, 3, 3, 4, 3, 4, 4, 5, 2, 3, 3, 4, 3, 4, 4, 5, 3, 4, 4, 5, 4, 5, 5, 6, 1, 2, 2, 3, 2, 3, 3, 4, 2, 3, 3, 4, 3, 4, 4, 5, 2, 3, 3, 4, 3, 4, 4, 5, 3, 4, 4, 5, 4, 5, 5, 6, 2, 3, 3, 4, 3, 4, 4, 5, 3, 4, 4, 5, 4, 5, 5, 6, 3, 4, 4, 5, 4, 5, 5, 6, 4, 5, 5, 6, 5, 6, 6, 7, 1, 2, 2, 3, 2, 3, 3, 4, 2, 3, 3, 4, 3, 4, 4, 5, 2, 3, 3, 4, 3, 4, 4, 5, 3, 4, 4, 5, 4, 5, 5, 6, 2, 3, 3, 4, 3, 4, 4, 5, 3, 4, 4, 5, 4, 5, 5, 6, 3, 4, 4, 5, 4, 5, 5, 6, 4, 5, 5, 6, 5, 6, 6, 7, 2, 3, 3, 4, 3, 4, 4, 5, 3, 4, 4, 5, 4, 5, 5, 6, 3, 4, 4, 5, 4, 5, 5, 6, 4, 5, 5, 6, 5, 6, 6, 7, 3, 4, 4, 5, 4, 5, 5, 6, 4, 5, 5, 6, 5, 6, 6, 7, 4, 5, 5, 6, 5, 6, 6, 7, 5, 6, 6, 7, 6, 7, 7, 8]⟩))) (.t 4))⟩, ⟨(some 6), none, (.mov (.t 0))⟩, ⟨(some 7), none, (.bin .shr (.t 6) (.v (.d (.int .u64 16))))⟩, ⟨(some 8), none, (.bin .and (.t 7) (.v (.d (.int .u32 255))))⟩, ⟨(some 9), none, (.idxs (.v (.d (.str ⟨#[0, 1, 1, 2, 1, 2, 2, 3, 1, 2, 2, 3, 2, 3, 3, 4, 1, 2, 2, 3, 2, 3, 3, 4, 2, 3, 3, 4, 3, 4, 4, 5, 1, 2, 2, 3, 2, 3, 3, 4, 2, 3, 3, 4, 3, 4, 4, 5, 2, 3, 3, 4, 3, 4, 4, 5, 3, 4, 4, 5, 4, 5, 5, 6, 1, 2, 2, 3, 2, 3, 3, 4, 2, 3, 3, 4, 3, 4, 4, 5, 2, 3, 3, 4, 3, 4, 4, 5, 3, 4, 4, 5, 4, 5, 5, 6, 2, 3, 3, 4, 3, 4, 4, 5, 3, 4, 4, 5, 4, 5, 5, 6, 3, 4, 4, 5, 4, 5, 5, 6, 4, 5, 5, 6, 5, 6, 6, 7, 1, 2, 2, 3, 2, 3, 3, 4, 2, 3, 3, 4, 3, 4, 4, 5, 2, 3, 3, 4, 3, 4, 4, 5, 3, 4, 4, 5, 4, 5, 5, 6, 2, 3, 3, 4, 3, 4, 4, 5, 3, 4, 4, 5, 4, 5, 5, 6, 3, 4, 4, 5, 4, 5, 5, 6, 4, 5, 5, 6, 5, 6, 6, 7, 2, 3, 3, 4, 3, 4, 4, 5, 3, 4, 4, 5, 4, 5, 5, 6, 3, 4, 4, 5, 4, 5, 5, 6, 4, 5, 5, 6, 5, 6, 6, 7, 3, 4, 4, 5, 4, 5, 5, 6, 4, 5, 5, 6, 5, 6, 6, 7, 4, 5, 5, 6, 5, 6, 6, 7, 5, 6, 6, 7, 6, 7, 7, 8]⟩))) (.t 8))⟩, ⟨(some 10), none, (.bin .add (.t 5) (.t 9))⟩, ⟨(some 11), none, (.mov (.t 0))⟩, ⟨(some 12), none, (.bin .shr (.t 11) (.v (.d (.int .u64 8))))⟩, ⟨(some 13), none, (.bin .and (.t 12) (.v (.d (.int .u32 255))))⟩, ⟨(some 14), none, (.idxs (.v (.d (.str ⟨#[0, 1, 1, 2, 1, 2, 2, 3, 1, 2, 2, 3, 2, 3, 3, 4, 1, 2, 2, 3, 2, 3, 3, 4, 2, 3, 3, 4, 3, 4, 4, 5, 1, 2, 2, 3, 2, 3, 3, 4, 2, 3, 3, 4, 3, 4, 4, 5, 2, 3, 3, 4, 3, 4, 4, 5, 3, 4, 4, 5, 4, 5, 5, 6, 1, 2, 2, 3, 2, 3, 3, 4, 2, 3, 3, 4, 3, 4, 4, 5, 2, 3, 3, 4, 3, 4, 4, 5, 3, 4, 4, 5, 4, 5, 5, 6, 2, 3, 3, 4, 3, 4, 4, 5, 3, 4, 4, 5, 4, 5, 5, 6, 3, 4, 4, 5, 4, 5, 5, 6, 4, 5, 5, 6, 5, 6, 6, 7, 1, 2, 2, 3, 2, 3, 3, 4, 2, 3, 3, 4, 3, 4, 4, 5, 2, 3, 3, 4, 3, 4, 4, 5, 3, 4, 4, 5, 4, 5, 5, 6, 2, 3, 3, 4, 3, 4, 4, 5, 3, 4, 4, 5, 4, 5, 5, 6, 3, 4, 4, 5, 4, 5, 5, 6, 4, 5, 5, 6, 5, 6, 6, 7, 2, 3, 3, 4, 3, 4, 4, 5, 3, 4, 4, 5, 4, 5, 5, 6, 3, 4, 4, 5, 4, 5, 5, 6, 4, 5, 5, 6, 5, 6, 6, 7, 3, 4, 4, 5, 4, 5, 5, 6, 4, 5, 5, 6, 5, 6, 6, 7, 4, 5, 5, 6, 5, 6, 6, 7, 5, 6, 6, 7, 6, 7, 7, 8]⟩))) (.t 13))⟩, ⟨(some 15), none, (.bin .add (.t 10) (.t 14))⟩, ⟨(some 16), none, (.mov (.t 0))⟩, ⟨(some 17), none, (.bin .and (.t 16) (.v (.d (.int .u32 255))))⟩, ⟨(some 18), none, (.idxs (.v (.d (.str ⟨#[0, 1, 1, 2, 1, 2, 2, 3, 1, 2, 2, 3, 2, 3, 3, 4, 1, 2, 2, 3, 2, 3, 3, 4, 2, 3, 3, 4, 3, 4, 4, 5, 1, 2, 2, 3, 2, 3, 3, 4, 2, 3, 3, 4, 3, 4, 4, 5, 2, 3, 3, 4, 3, 4, 4, 5, 3, 4, 4, 5, 4, 5, 5, 6, 1, 2, 2, 3, 2, 3, 3, 4, 2, 3, 3, 4, 3, 4, 4, 5, 2, 3, 3, 4, 3, 4, 4, 5, 3, 4, 4, 5, 4, 5, 5, 6, 2, 3, 3, 4, 3, 4, 4, 5, 3, 4, 4, 5, 4, 5, 5, 6, 3, 4, 4, 5, 4, 5, 5, 6, 4, 5, 5, 6, 5, 6, 6, 7, 1, 2, 2, 3, 2, 3, 3, 4, 2, 3, 3, 4, 3, 4, 4, 5, 2, 3, 3, 4, 3, 4, 4, 5, 3, 4, 4, 5, 4, 5, 5, 6, 2, 3, 3, 4, 3, 4, 4, 5, 3, 4, 4, 5, 4, 5, 5, 6, 3, 4, 4, 5, 4, 5, 5, 6, 4, 5, 5, 6, 5, 6, 6, 7, 2, 3, 3, 4, 3, 4, 4, 5, 3, 4, 4, 5, 4, 5, 5, 6, 3, 4, 4, 5, 4, 5, 5, 6, 4, 5, 5, 6, 5, 6, 6, 7, 3, 4, 4, 5, 4, 5, 5, 6, 4, 5, 5, 6, 5, 6, 6, 7, 4, 5, 5, 6, 5, 6, 6, 7, 5, 6, 6, 7, 6, 7, 7, 8]⟩))) (.t 17))⟩] [⟨(some 19), none, (.bin .add (.t 15) (.t 18))⟩, ⟨(some 20), none, (.conv (.int .i64) (.t 19))⟩, ⟨(some 2), none, (.mov (.t 20))⟩]) .ret))⟩
theorem c84 : cAt Tryd.prog 84 = some F84.er := by kernel_rfl
def F85 : CFunc := ⟨35, [(.tmp 2)], (.seq (.reg [] [⟨(some 2), none, (.mov (.v (.d (.int .i64 0))))⟩]) (.seq (.reg [] [⟨(some 3), none, (.mov (.t 0))⟩, ⟨(some 4), none, (.bin .shr (.t 3) (.v (.d (.int .u64 1))))⟩, ⟨(some 5), none, (.bin .and (.t 4) (.v (.d (.int .u64 6148914691236517205))))⟩, ⟨(some 6), none, (.mov (.t 0))⟩, ⟨(some 7), none, (.bin .and (.t 6) (.v (.d (.int .u64 6148914691236517205))))⟩, ⟨(some 8), none, (.bin .add (.t 5) (.t 7))⟩, ⟨(some 0), none, (.mov (.t 8))⟩]) (.seq (.reg [] [⟨(some 9), none, (.mov (.t 0))⟩, ⟨(some 10), none, (.bin .shr (.t 9) (.v (.d (.int .u64 2))))⟩, ⟨(some 11), none, (.bin .and (.t 10) (.v (.d (.int .u64 3689348814741910323))))⟩, ⟨(some 12), none, (.mov (.t 0))⟩, ⟨(some 13), none, (.bin .and (.t 12) (.v (.d (.int .u64 3689348814741910323))))⟩, ⟨(some 14), none, (.bin .add (.t 11) (.t 13))⟩, ⟨(some 0), none, (.mov (.t 14))⟩]) (.seq (.reg [] [⟨(some 15), none, (.mov (.t 0))⟩, ⟨(some 16), none, (.bin .shr (.t 15) (.v (.d (.int .u64 4))))⟩, ⟨(some 17), none, (.mov (.t 0))⟩, ⟨(some 18), none, (.bin .add (.t 16) (.t 17))⟩, ⟨(some 19), none, (.bin .and (.t 18) (.v (.d (.int .u64 1085102592571150095))))⟩, ⟨(some 0), none, (.mov (.t 19))⟩]) (.seq (.reg [] [⟨(some 20), none, (.mov (.t 0))⟩, ⟨(some 21), none, (.mov (.t 0))⟩, ⟨(some 22), none, (.bin .shr (.t 21) (.v (.d (.int .u64 8))))⟩, ⟨(some 23), none, (.bin .add (.t 20) (.t 22))⟩, ⟨(some 0), none, (.mov (.t 23))⟩]) (.seq (.reg [] [⟨(some 24), none, (.mov (.t 0))⟩, ⟨(some 25), none, (.mov (.t 0))⟩, ⟨(some 26), none, (.bin .shr (.t 25) (.v (.d (.int .u64 16))))⟩, ⟨(some 27), none, (.bin .add (.t 24) (.t 26))⟩, ⟨(some 0), none, (.mov (.t 27))⟩]) (.seq (.reg [] [⟨(some 28), none, (.mov (.t 0))⟩, ⟨(some 29), none, (.mov (.t 0))⟩, ⟨(some 30), none, (.bin .shr (.t 29) (.v (.d (.int .u64 32))))⟩, ⟨(some 31), none, (.bin .add (.t 28) (.t 30))⟩, ⟨(some 0), none, (.mov (.t 31))⟩]) (.seq (.reg [] [⟨(some 32), none, (.mov (.t 0))⟩, ⟨(some 33), none, (.conv (.int .i64) (.t 32))⟩, ⟨(some 34), none, (.bin .and (.t 33) (.v (.d (.int .i64 127))))⟩, ⟨(some 2), none, (.mov (.t 34))⟩]) .ret))))))))⟩
theorem c85 : cAt Tryd.prog 85 = some F85.er := by kernel_rfl
def cfT : List (Nat × CFunc) := [(3, F3), (6, F6), (20, F20), (21, F21), (22, F22), (23, F23), (24, F24), (25, F25), (26, F26), (27, F27), (28, F28), (29, F29), (30, F30), (32, F32), (33, F33), (60, F60), (61, F61), (62, F62), (64, F64), (65, F65), (67, F67), (68, F68), (84, F84), (85, F85)]
def lookT : List (Nat × CFunc) → Nat → Option CFunc
  | [], _ => none
  | (i, F) :: r, j => match Nat.beq j i with | true => some F | false => lookT r j
def extT : List (FuncId × XK) := [(76, .grow 5 true 1 1), (63, .itoa)]
def E0 : Env := ⟨lookT cfT, extOf extT, fun _ => none, fun _ => false, fun f => Nat.beq f 47⟩
theorem lookT_ok : ∀ (l : List (Nat × CFunc)), (∀ p, p ∈ l → cAt Tryd.prog p.1 = some p.2.er) → ∀ f F, lookT l f = some F → cAt Tryd.prog f = some F.er
  | [], _, f, F, h => by simp [lookT] at h
  | (i, G) :: r, hl, f, F, h => by
    simp only [lookT] at h
    split at h
    · rename_i hb
      cases h
      rw [Nat.eq_of_beq_eq_true hb]
      exact hl (i, _) (List.mem_cons_self ..)
    · exact lookT_ok r (fun p hp => hl p (by simp [hp])) f F h
theorem cfT_ok : ∀ p, p ∈ cfT → cAt Tryd.prog p.1 = some p.2.er := by
  unfold cfT
  simp only [List.forall_mem_cons]
  exact ⟨c3, c6, c20, c21, c22, c23, c24, c25, c26, c27, c28, c29, c30, c32, c33, c60, c61, c62, c64, c65, c67, c68, c84, c85, fun p h => by simp at h⟩
theorem e0_ext {f : FuncId} (h : lookX extT f = none) : ∀ a m, E0.ext f a m = none := ext_none h
theorem e0_cf : ∀ f F, E0.cf f = some F → cAt Tryd.prog f = some F.er := lookT_ok cfT cfT_ok
theorem w3 {args : List V} {m : Mem} (os : List (A E0)) {r : List V × Mem} (h : walkF E0 F3 args m os = some (r, want os)) : cl E0 3 args m = some r := cl_walk (e0_ext (by kernel_rfl)) (by kernel_rfl) (by decide) os h
theorem w6 {args : List V} {m : Mem} (os : List (A E0)) {r : List V × Mem} (h : walkF E0 F6 args m os = some (r, want os)) : cl E0 6 args m = some r := cl_walk (e0_ext (by kernel_rfl)) (by kernel_rfl) (by decide) os h
theorem w20 {args : List V} {m : Mem} (os : List (A E0)) {r : List V × Mem} (h : walkF E0 F20 args m os = some (r, want os)) : cl E0 20 args m = some r := cl_walk (e0_ext (by kernel_rfl)) (by kernel_rfl) (by decide) os h
theorem w21 {args : List V} {m : Mem} (os : List (A E0)) {r : List V × Mem} (h : walkF E0 F21 args m os = some (r, want os)) : cl E0 21 args m = some r := cl_walk (e0_ext (by kernel_rfl)) (by kernel_rfl) (by decide) os h
theorem w22 {args : List V} {m : Mem} (os : List (A E0)) {r : List V × Mem} (h : walkF E0 F22 args m os = some (r, want os)) : cl E0 22 args m = some r := cl_walk (e0_ext (by kernel_rfl)) (by kernel_rfl) (by decide) os h
theorem w23 {args : List V} {m : Mem} (os : List (A E0)) {r : List V × Mem} (h : walkF E0 F23 args m os = some (r, want os)) : cl E0 23 args m = some r := cl_walk (e0_ext (by kernel_rfl)) (by kernel_rfl) (by decide) os h
theorem w25 {args : List V} {m : Mem} (os : List (A E0)) {r : List V × Mem} (h : walkF E0 F25 args m os = some (r, want os)) : cl E0 25 args m = some r := cl_walk (e0_ext (by kernel_rfl)) (by kernel_rfl) (by decide) os h
theorem w26 {args : List V} {m : Mem} (os : List (A E0)) {r : List V × Mem} (h : walkF E0 F26 args m os = some (r, want os)) : cl E0 26 args m = some r := cl_walk (e0_ext (by kernel_rfl)) (by kernel_rfl) (by decide) os h
theorem w27 {args : List V} {m : Mem} (os : List (A E0)) {r : List V × Mem} (h : walkF E0 F27 args m os = some (r, want os)) : cl E0 27 args m = some r := cl_walk (e0_ext (by kernel_rfl)) (by kernel_rfl) (by decide) os h
theorem w28 {args : List V} {m : Mem} (os : List (A E0)) {r : List V × Mem} (h : walkF E0 F28 args m os = some (r, want os)) : cl E0 28 args m = some r := cl_walk (e0_ext (by kernel_rfl)) (by kernel_rfl) (by decide) os h
theorem w29 {args : List V} {m : Mem} (os : List (A E0)) {r : List V × Mem} (h : walkF E0 F29 args m os = some (r, want os)) : cl E0 29 args m = some r := cl_walk (e0_ext (by kernel_rfl)) (by kernel_rfl) (by decide) os h
theorem w30 {args : List V} {m : Mem} (os : List (A E0)) {r : List V × Mem} (h : walkF E0 F30 args m os = some (r, want os)) : cl E0 30 args m = some r := cl_walk (e0_ext (by kernel_rfl)) (by kernel_rfl) (by decide) os h
theorem w32 {args : List V} {m : Mem} (os : List (A E0)) {r : List V × Mem} (h : walkF E0 F32 args m os = some (r, want os)) : cl E0 32 args m = some r := cl_walk (e0_ext (by kernel_rfl)) (by kernel_rfl) (by decide) os h
theorem w33 {args : List V} {m : Mem} (os : List (A E0)) {r : List V × Mem} (h : walkF E0 F33 args m os = some (r, want os)) : cl E0 33 args m = some r := cl_walk (e0_ext (by kernel_rfl)) (by kernel_rfl) (by decide) os h
theorem w60 {args : List V} {m : Mem} (os : List (A E0)) {r : List V × Mem} (h : walkF E0 F60 args m os = some (r, want os)) : cl E0 60 args m = some r := cl_walk (e0_ext (by kernel_rfl)) (by kernel_rfl) (by decide) os h
theorem w61 {args : List V} {m : Mem} (os : List (A E0)) {r : List V × Mem} (h : walkF E0 F61 args m os = some (r, want os)) : cl E0 61 args m = some r := cl_walk (e0_ext (by kernel_rfl)) (by kernel_rfl) (by decide) os h
theorem w62 {args : List V} {m : Mem} (os : List (A E0)) {r : List V × Mem} (h : walkF E0 F62 args m os = some (r, want os)) : cl E0 62 args m = some r := cl_walk (e0_ext (by kernel_rfl)) (by kernel_rfl) (by decide) os h
theorem w64 {args : List V} {m : Mem} (os : List (A E0)) {r : List V × Mem} (h : walkF E0 F64 args m os = some (r, want os)) : cl E0 64 args m = some r := cl_walk (e0_ext (by kernel_rfl)) (by kernel_rfl) (by decide) os h
theorem w65 {args : List V} {m : Mem} (os : List (A E0)) {r : List V × Mem} (h : walkF E0 F65 args m os = some (r, want os)) : cl E0 65 args m = some r := cl_walk (e0_ext (by kernel_rfl)) (by kernel_rfl) (by decide) os h
theorem w67 {args : List V} {m : Mem} (os : List (A E0)) {r : List V × Mem} (h : walkF E0 F67 args m os = some (r, want os)) : cl E0 67 args m = some r := cl_walk (e0_ext (by kernel_rfl)) (by kernel_rfl) (by decide) os h
theorem w68 {args : List V} {m : Mem} (os : List (A E0)) {r : List V × Mem} (h : walkF E0 F68 args m os = some (r, want os)) : cl E0 68 args m = some r := cl_walk (e0_ext (by kernel_rfl)) (by kernel_rfl) (by decide) os h
theorem w85 {args : List V} {m : Mem} (os : List (A E0)) {r : List V × Mem} (h : walkF E0 F85 args m os = some (r, want os)) : cl E0 85 args m = some r := cl_walk (e0_ext (by kernel_rfl)) (by kernel_rfl) (by decide) os h
theorem e0_del : ∀ f, E0.del f = true → DelOK Tryd.prog f := fun f h => by cases h
def rhoG76 : Shelf.Ren := ⟨fun x => if x = 4 then 76 else x, fun x => match x with | 0 => 0 | 3 => 3 | 4 => 4 | 9 => 9 | 20 => 20 | 22 => 25 | 25 => 5 | x => x, fun x => x⟩
theorem laysG76 : Lays8.n4 Tryd.prog rhoG76 := by
  constructor
  case f4 => exact ⟨"slices.Grow[[]byte,byte]", by kernel_rfl, by kernel_rfl⟩
  all_goals first | kernel_rfl | (intro w; kernel_rfl)
theorem xok76 : XOK Tryd.prog 76 (.grow 5 true 1 1) := ⟨by decide, ⟨_, rfl, by kernel_rfl, by kernel_rfl⟩, growOK_of laysG76 rfl rfl (i0 := (Tryd.prog.info? 5).getD default) (z := (((Tryd.prog.info? 5).bind (·.zero)).getD default)) (by kernel_rfl) (by kernel_rfl) (by kernel_rfl) (by kernel_rfl) (by kernel_rfl) (by decide) (by decide)⟩
open Go.Shelf
def rhoI : Shelf.Ren := ⟨fun x => match x with | 171 => 63 | 243 => 83 | 246 => 93 | 283 => 98 | 284 => 99 | 285 => 100 | 286 => 101 | 129 => 105 | 317 => 104 | 318 => 106 | 319 => 107 | 320 => 108 | 337 => 109 | 338 => 110 | n => n,
  fun x => match x with | 3 => 3 | 9 => 9 | 2 => 2 | 4 => 4 | 171 => 116 | 0 => 0 | 53 => 99 | 37 => 25 | 5 => 5 | 173 => 118 | 212 => 123 | 51 => 97 | 20 => 20 | 213 => 124 | 46 => 80 | 232 => 125 | 233 => 126 | n => n,
  fun x => match x with | 17 => 3 | 18 => 5 | 19 => 6 | n => n⟩
theorem laysI : Lays.n171 Tryd.prog rhoI := by
  constructor
  all_goals first | kernel_rfl | (intro w; kernel_rfl)
theorem xok63 : XOK Tryd.prog 63 .itoa := ⟨by decide, ⟨_, rfl, by kernel_rfl, by kernel_rfl⟩, itoaOK_of laysI rfl⟩
theorem e0_x : ∀ p, p ∈ extT → XOK Tryd.prog p.1 p.2 := by
  unfold extT
  simp only [List.forall_mem_cons]
  exact ⟨xok76, xok63, fun p h => by simp at h⟩
end Go.Proofs.YtkipngagfiaddaaDoor.Den

namespace Go.Proofs.YtkipngagfiaddaaDoor.Den
open Go
set_option linter.unusedVariables false
set_option linter.unusedSimpArgs false
set_option linter.unusedSectionVars false
section
variable {α : Type} [Inhabited α]
variable {E : Env} {c : CallT} {t : Nat → V} {m : Mem}
end
end Go.Proofs.YtkipngagfiaddaaDoor.Den

namespace Go.Proofs.YtkipngagfiaddaaDoor.Den
open Go Go.Proofs
set_option maxRecDepth 100000
set_option maxHeartbeats 4000000
set_option linter.unusedVariables false
set_option linter.unusedSimpArgs false
end Go.Proofs.YtkipngagfiaddaaDoor.Den

namespace Go.Proofs.YtkipngagfiaddaaDoor.Den
open Go Go.Proofs
set_option maxRecDepth 100000
set_option maxHeartbeats 4000000
set_option linter.unusedVariables false
set_option linter.unusedSimpArgs false
theorem law16_alive_t0 : cl E0 24 [] [] = some ([(V.d (.bool true))], []) := cl_of (n := 60) (by kernel_rfl)
end Go.Proofs.YtkipngagfiaddaaDoor.Den

namespace Go.Proofs.YtkipngagfiaddaaDoor.Den
open Go Go.Proofs
set_option maxRecDepth 100000
set_option maxHeartbeats 4000000
set_option linter.unusedVariables false
set_option linter.unusedSimpArgs false
def ref01_Has_ii_S0_c0 (x0 : Int) (x1 : Int) : Bool := (bif tb (decide (x0 < 0)) then true else (bif tb (decide (65535 < x0)) then true else (bif tb (decide (x1 < 0)) then true else (bif tb (decide (15 < x1)) then true else false))))
theorem ref01_Has_ii_S0_t0 (x0 : Int) (x1 : Int) : ref01_Has_ii_S0_c0 x0 x1 = true → segG (runC E0 (cl E0) S61_0) [0, 1] [4] [0, 1] 0 ([(V.d (.int .i64 x0)), (V.d (.int .i64 x1))], []) = some (.ret, ([(V.d (.bool false))], [])) := by
  unfold ref01_Has_ii_S0_c0
  cases h1 : tb (decide (x0 < 0))
  · cases h2 : tb (decide (65535 < x0))
    · cases h3 : tb (decide (x1 < 0))
      · cases h4 : tb (decide (15 < x1))
        · intro g0
          exact absurd g0 ft
        · intro g0
          exact seg_walk [.b (tbE h1), .b (tbE h2), .b (tbE h3), .b (tbE h4)] (by kernel_rfl)
      · intro g0
        exact seg_walk [.b (tbE h1), .b (tbE h2), .b (tbE h3)] (by kernel_rfl)
    · intro g0
      exact seg_walk [.b (tbE h1), .b (tbE h2)] (by kernel_rfl)
  · intro g0
    exact seg_walk [.b (tbE h1)] (by kernel_rfl)
theorem ref01_Has_ii_S0_t1 (x0 : Int) (x1 : Int) : ref01_Has_ii_S0_c0 x0 x1 = false → segG (runC E0 (cl E0) S61_0) [0, 1] [4] [0, 1] 0 ([(V.d (.int .i64 x0)), (V.d (.int .i64 x1))], []) = some (.normal, ([(V.d (.int .i64 x0)), (V.d (.int .i64 x1))], [])) := by
  unfold ref01_Has_ii_S0_c0
  cases h1 : tb (decide (x0 < 0))
  · cases h2 : tb (decide (65535 < x0))
    · cases h3 : tb (decide (x1 < 0))
      · cases h4 : tb (decide (15 < x1))
        · intro g0
          exact seg_walk [.b (tbE h1), .b (tbE h2), .b (tbE h3), .b (tbE h4)] (by kernel_rfl)
        · intro g0
          exact absurd g0 tf
      · intro g0
        exact absurd g0 tf
    · intro g0
      exact absurd g0 tf
  · intro g0
    exact absurd g0 tf
structure ref01_Has_ii_L1_s0 where
  c1 : Int
  c2 : Int
  deriving Inhabited
def ref01_Has_ii_L1_enc (x0 : Int) (x1 : Int) (x2 : Int) (s0 : ref01_Has_ii_L1_s0) : List V × Mem := ([(V.d (.int .i64 x0)), (V.d (.int .i64 s0.c1)), (V.d (.int .i64 s0.c2))], [])
def ref01_Has_ii_L1_sel (x0 : Int) (s0 : ref01_Has_ii_L1_s0) : Bool := (bif tb (decide (s0.c2 < x0)) then true else false)
def ref01_Has_ii_L1_nx (x0 : Int) (s0 : ref01_Has_ii_L1_s0) : ref01_Has_ii_L1_s0 := ⟨(quoI .i64 s0.c1 2), (wi (s0.c2 + 1))⟩
def ref01_Has_ii_L1_ok (x0 : Int) (s0 : ref01_Has_ii_L1_s0) : Bool := (itS (ref01_Has_ii_L1_sel x0) (ref01_Has_ii_L1_nx x0) bound s0).isSome
def ref01_Has_ii_L1_end (x0 : Int) (s0 : ref01_Has_ii_L1_s0) : ref01_Has_ii_L1_s0 := (itS (ref01_Has_ii_L1_sel x0) (ref01_Has_ii_L1_nx x0) bound s0).getD default
theorem ref01_Has_ii_L1_go (x0 : Int) (x1 : Int) (x2 : Int) (s0 : ref01_Has_ii_L1_s0) : ref01_Has_ii_L1_sel x0 s0 = true → (roundG (runC E0 (cl E0) L61_1) [1, 5, 6] [5] 0) (ref01_Has_ii_L1_enc x0 x1 x2 s0) = some (.normal, ref01_Has_ii_L1_enc x0 x1 x2 (ref01_Has_ii_L1_nx x0 s0)) := by
  unfold ref01_Has_ii_L1_sel ref01_Has_ii_L1_nx
  cases h1 : tb (decide (s0.c2 < x0))
  · intro g0
    exact absurd g0 ft
  · intro _
    exact round_walk [.b (tbE h1)] (by kernel_rfl)
theorem ref01_Has_ii_L1_x0 (x0 : Int) (x1 : Int) (x2 : Int) (s0 : ref01_Has_ii_L1_s0) : ref01_Has_ii_L1_sel x0 s0 = false → (roundG (runC E0 (cl E0) L61_1) [1, 5, 6] [5] 0) (ref01_Has_ii_L1_enc x0 x1 x2 s0) = some ((.exit 0), ([(V.d (.int .i64 s0.c1))], [])) := by
  unfold ref01_Has_ii_L1_sel
  cases h1 : tb (decide (s0.c2 < x0))
  · intro g0
    exact round_walk [.b (tbE h1)] (by kernel_rfl)
  · intro g0
    exact absurd g0 tf
theorem ref01_Has_ii_L1_f0_0 (x0 : Int) (x1 : Int) (x2 : Int) (s : ref01_Has_ii_L1_s0) (hok : ref01_Has_ii_L1_ok x0 s = true) : loopG (roundG (runC E0 (cl E0) L61_1) [1, 5, 6] [5] 0) bound (ref01_Has_ii_L1_enc x0 x1 x2 s) = some ((.exit 0), ([(V.d (.int .i64 ((ref01_Has_ii_L1_end x0 s).c1)))], [])) := by
  have e : itS (ref01_Has_ii_L1_sel x0) (ref01_Has_ii_L1_nx x0) bound s = some (ref01_Has_ii_L1_end x0 s) := itS_get hok
  have f := itS_false e
  exact loop_it (ref01_Has_ii_L1_go x0 x1 x2) bound s _ _ _ e (fun h => by cases h) (ref01_Has_ii_L1_x0 x0 x1 x2 (ref01_Has_ii_L1_end x0 s) f )
def ref01_Has_ii_S2_c0 (x0 : Int) (x1 : Int) : Bool := (bif tb (ref01_Has_ii_L1_ok x0 (⟨x1, 0⟩ : ref01_Has_ii_L1_s0)) then true else false)
theorem ref01_Has_ii_S2_t0 (x0 : Int) (x1 : Int) : ref01_Has_ii_S2_c0 x0 x1 = true → segG (runC E0 (cl E0) S61_2) [1, 5] [] [5] 0 ([(V.d (.int .i64 x0)), (V.d (.int .i64 x1))], []) = some (.normal, ([(V.d (.int .i64 ((ref01_Has_ii_L1_end x0 (⟨x1, 0⟩ : ref01_Has_ii_L1_s0)).c1)))], [])) := by
  unfold ref01_Has_ii_S2_c0
  cases h1 : tb (ref01_Has_ii_L1_ok x0 (⟨x1, 0⟩ : ref01_Has_ii_L1_s0))
  · intro g0
    exact absurd g0 ft
  · intro g0
    exact seg_walk [.l (ref01_Has_ii_L1_f0_0 x0 x1 0 (⟨x1, 0⟩ : ref01_Has_ii_L1_s0) (tbE h1))] (by kernel_rfl)
def ref01_Has_ii_e0 (x0 : Int) (x1 : Int) : Int := remI .i64 ((ref01_Has_ii_L1_end x1 (⟨x0, 0⟩ : ref01_Has_ii_L1_s0)).c1) 2
def ref01_Has_ii_c0 (x0 : Int) (x1 : Int) : Bool := (bif tb (ref01_Has_ii_S0_c0 x0 x1) then true else (bif tb (ref01_Has_ii_S2_c0 x1 x0) then true else false))
def ref01_Has_ii_r0_0 (x0 : Int) (x1 : Int) : Bool := (bif tb (ref01_Has_ii_S0_c0 x0 x1) then false else (((ref01_Has_ii_e0 x0 x1) : Int) == 1))
theorem ref01_Has_ii_t0 (x0 : Int) (x1 : Int) : ref01_Has_ii_c0 x0 x1 = true → cl E0 61 [(V.d (.int .i64 x0)), (V.d (.int .i64 x1))] [] = some ([(V.d (.bool (ref01_Has_ii_r0_0 x0 x1)))], []) := by
  unfold ref01_Has_ii_c0 ref01_Has_ii_r0_0
  cases h1 : tb (ref01_Has_ii_S0_c0 x0 x1)
  · cases h2 : tb (ref01_Has_ii_S2_c0 x1 x0)
    · intro g0
      exact absurd g0 ft
    · intro g0
      exact w61 [.s (ref01_Has_ii_S0_t1 x0 x1 (tbE h1)), .s (ref01_Has_ii_S2_t0 x1 x0 (tbE h2))] (by kernel_rfl)
  · intro g0
    exact w61 [.s (ref01_Has_ii_S0_t0 x0 x1 (tbE h1))] (by kernel_rfl)
structure ref01_Count_i_L0_s0 where
  c1 : Int
  c2 : Int
  deriving Inhabited
def ref01_Count_i_L0_enc (x0 : Int) (x1 : Int) (x2 : Int) (s0 : ref01_Count_i_L0_s0) : List V × Mem := ([(V.d (.int .i64 x0)), (V.d (.int .i64 s0.c1)), (V.d (.int .i64 s0.c2))], [])
def ref01_Count_i_L0_sel (x0 : Int) (s0 : ref01_Count_i_L0_s0) : Bool := (bif tb (decide (s0.c2 < 16)) then (bif tb (ref01_Has_ii_c0 x0 s0.c2) then true else false) else false)
def ref01_Count_i_L0_nx (x0 : Int) (s0 : ref01_Count_i_L0_s0) : ref01_Count_i_L0_s0 := (bif tb (ref01_Has_ii_r0_0 x0 s0.c2) then ⟨(wi (s0.c1 + 1)), (wi (s0.c2 + 1))⟩ else ⟨s0.c1, (wi (s0.c2 + 1))⟩)
def ref01_Count_i_L0_ok (x0 : Int) (s0 : ref01_Count_i_L0_s0) : Bool := (itS (ref01_Count_i_L0_sel x0) (ref01_Count_i_L0_nx x0) bound s0).isSome
def ref01_Count_i_L0_end (x0 : Int) (s0 : ref01_Count_i_L0_s0) : ref01_Count_i_L0_s0 := (itS (ref01_Count_i_L0_sel x0) (ref01_Count_i_L0_nx x0) bound s0).getD default
theorem ref01_Count_i_L0_go (x0 : Int) (x1 : Int) (x2 : Int) (s0 : ref01_Count_i_L0_s0) : ref01_Count_i_L0_sel x0 s0 = true → (roundG (runC E0 (cl E0) L62_0) [0, 3, 4] [3] 0) (ref01_Count_i_L0_enc x0 x1 x2 s0) = some (.normal, ref01_Count_i_L0_enc x0 x1 x2 (ref01_Count_i_L0_nx x0 s0)) := by
  unfold ref01_Count_i_L0_sel ref01_Count_i_L0_nx
  cases h1 : tb (decide (s0.c2 < 16))
  · intro g0
    exact absurd g0 ft
  · cases h2 : tb (ref01_Has_ii_c0 x0 s0.c2)
    · intro g0
      exact absurd g0 ft
    · cases h3 : tb (ref01_Has_ii_r0_0 x0 s0.c2)
      · intro _
        exact round_walk [.b (tbE h1), .c (ref01_Has_ii_t0 x0 s0.c2 (tbE h2)), .b (tbE h3)] (by kernel_rfl)
      · intro _
        exact round_walk [.b (tbE h1), .c (ref01_Has_ii_t0 x0 s0.c2 (tbE h2)), .b (tbE h3)] (by kernel_rfl)
def ref01_Count_i_L0_c0 (s0 : ref01_Count_i_L0_s0) : Bool := (bif tb (decide (s0.c2 < 16)) then false else true)
theorem ref01_Count_i_L0_x0 (x0 : Int) (x1 : Int) (x2 : Int) (s0 : ref01_Count_i_L0_s0) : ref01_Count_i_L0_sel x0 s0 = false → ref01_Count_i_L0_c0 s0 = true → (roundG (runC E0 (cl E0) L62_0) [0, 3, 4] [3] 0) (ref01_Count_i_L0_enc x0 x1 x2 s0) = some ((.exit 0), ([(V.d (.int .i64 s0.c1))], [])) := by
  unfold ref01_Count_i_L0_sel ref01_Count_i_L0_c0
  cases h1 : tb (decide (s0.c2 < 16))
  · intro g0 g1
    exact round_walk [.b (tbE h1)] (by kernel_rfl)
  · cases h2 : tb (ref01_Has_ii_c0 x0 s0.c2)
    · intro g0 g1
      exact absurd g1 ft
    · cases h3 : tb (ref01_Has_ii_r0_0 x0 s0.c2)
      · intro g0 g1
        exact absurd g0 tf
      · intro g0 g1
        exact absurd g0 tf
theorem ref01_Count_i_L0_f0_0 (x0 : Int) (x1 : Int) (x2 : Int) (s : ref01_Count_i_L0_s0) (hok : ref01_Count_i_L0_ok x0 s = true) (c0 : ref01_Count_i_L0_c0 (ref01_Count_i_L0_end x0 s) = true) : loopG (roundG (runC E0 (cl E0) L62_0) [0, 3, 4] [3] 0) bound (ref01_Count_i_L0_enc x0 x1 x2 s) = some ((.exit 0), ([(V.d (.int .i64 ((ref01_Count_i_L0_end x0 s).c1)))], [])) := by
  have e : itS (ref01_Count_i_L0_sel x0) (ref01_Count_i_L0_nx x0) bound s = some (ref01_Count_i_L0_end x0 s) := itS_get hok
  have f := itS_false e
  exact loop_it (ref01_Count_i_L0_go x0 x1 x2) bound s _ _ _ e (fun h => by cases h) (ref01_Count_i_L0_x0 x0 x1 x2 (ref01_Count_i_L0_end x0 s) f c0)
def ref01_Count_i_c0 (x0 : Int) : Bool := (bif tb (ref01_Count_i_L0_ok x0 (⟨0, 0⟩ : ref01_Count_i_L0_s0)) then (bif tb (ref01_Count_i_L0_c0 (ref01_Count_i_L0_end x0 (⟨0, 0⟩ : ref01_Count_i_L0_s0))) then true else false) else false)
theorem ref01_Count_i_t0 (x0 : Int) : ref01_Count_i_c0 x0 = true → cl E0 62 [(V.d (.int .i64 x0))] [] = some ([(V.d (.int .i64 ((ref01_Count_i_L0_end x0 (⟨0, 0⟩ : ref01_Count_i_L0_s0)).c1)))], []) := by
  unfold ref01_Count_i_c0
  cases h1 : tb (ref01_Count_i_L0_ok x0 (⟨0, 0⟩ : ref01_Count_i_L0_s0))
  · intro g0
    exact absurd g0 ft
  · cases h2 : tb (ref01_Count_i_L0_c0 (ref01_Count_i_L0_end x0 (⟨0, 0⟩ : ref01_Count_i_L0_s0)))
    · intro g0
      exact absurd g0 ft
    · intro g0
      exact w62 [.l (ref01_Count_i_L0_f0_0 x0 0 0 (⟨0, 0⟩ : ref01_Count_i_L0_s0) (tbE h1) (tbE h2))] (by kernel_rfl)
end Go.Proofs.YtkipngagfiaddaaDoor.Den

namespace Go.Proofs.YtkipngagfiaddaaDoor.Den
open Go Go.Proofs
set_option maxRecDepth 100000
set_option maxHeartbeats 4000000
set_option linter.unusedVariables false
set_option linter.unusedSimpArgs false
def ref16_Right_ai3b_S0_r0_0 (x0 : Int) (x1 : Int) (x2 : Int) (x3 : Bool) : Bool := (bif tb (decide (x0 < 0)) then true else (bif tb (decide (15 < x0)) then true else (bif tb (decide (x1 < 0)) then true else (bif tb (decide (15 < x1)) then true else (bif tb (true != (x3 == ((x0 : Int) == 0))) then true else (bif tb (decide (x2 < (-1))) then true else (decide (3 < x2))))))))
theorem ref16_Right_ai3b_S0_t0 (x0 : Int) (x1 : Int) (x2 : Int) (x3 : Bool) (x4 : Bool) : segG (runC E0 (cl E0) S26_0) [1] [] [1, 39] 1 ([(V.ptr 0 1 0 0)], [(Blk.flat 42 4 [[(.int .i64 x0), (.int .i64 x1), (.int .i64 x2), (.bool x3)]] x4)]) = some (.normal, ([(V.ptr 0 1 0 0), (V.d (.bool (ref16_Right_ai3b_S0_r0_0 x0 x1 x2 x3)))], [(Blk.flat 42 4 [[(.int .i64 x0), (.int .i64 x1), (.int .i64 x2), (.bool x3)]] x4)])) := by
  unfold ref16_Right_ai3b_S0_r0_0
  cases h1 : tb (decide (x0 < 0))
  · cases h2 : tb (decide (15 < x0))
    · cases h3 : tb (decide (x1 < 0))
      · cases h4 : tb (decide (15 < x1))
        · cases h5 : tb (true != (x3 == ((x0 : Int) == 0)))
          · cases h6 : tb (decide (x2 < (-1)))
            · exact seg_walk [.b (tbE h1), .b (tbE h2), .b (tbE h3), .b (tbE h4), .b (tbE h5), .b (tbE h6)] (by kernel_rfl)
            · exact seg_walk [.b (tbE h1), .b (tbE h2), .b (tbE h3), .b (tbE h4), .b (tbE h5), .b (tbE h6)] (by kernel_rfl)
          · exact seg_walk [.b (tbE h1), .b (tbE h2), .b (tbE h3), .b (tbE h4), .b (tbE h5)] (by kernel_rfl)
        · exact seg_walk [.b (tbE h1), .b (tbE h2), .b (tbE h3), .b (tbE h4)] (by kernel_rfl)
      · exact seg_walk [.b (tbE h1), .b (tbE h2), .b (tbE h3)] (by kernel_rfl)
    · exact seg_walk [.b (tbE h1), .b (tbE h2)] (by kernel_rfl)
  · exact seg_walk [.b (tbE h1)] (by kernel_rfl)
def ref16_Right_ai3b_S1_c0 (x0 : Int) (x1 : Int) (x2 : Int) (x3 : Bool) : Bool := (bif tb (ref16_Right_ai3b_S0_r0_0 x0 x1 x2 x3) then true else false)
theorem ref16_Right_ai3b_S1_t0 (x0 : Int) (x1 : Int) (x2 : Int) (x3 : Bool) (x4 : Bool) : ref16_Right_ai3b_S1_c0 x0 x1 x2 x3 = true → segG (runC E0 (cl E0) S26_1) [1] [2] [1] 1 ([(V.ptr 0 1 0 0)], [(Blk.flat 42 4 [[(.int .i64 x0), (.int .i64 x1), (.int .i64 x2), (.bool x3)]] x4)]) = some (.ret, ([(V.d (.bool false))], [(Blk.flat 42 4 [[(.int .i64 x0), (.int .i64 x1), (.int .i64 x2), (.bool x3)]] x4)])) := by
  unfold ref16_Right_ai3b_S1_c0
  cases h1 : tb (ref16_Right_ai3b_S0_r0_0 x0 x1 x2 x3)
  · intro g0
    exact absurd g0 ft
  · intro g0
    exact seg_walk [.s (ref16_Right_ai3b_S0_t0 x0 x1 x2 x3 x4), .b (tbE h1)] (by kernel_rfl)
theorem ref16_Right_ai3b_S1_t1 (x0 : Int) (x1 : Int) (x2 : Int) (x3 : Bool) (x4 : Bool) : ref16_Right_ai3b_S1_c0 x0 x1 x2 x3 = false → segG (runC E0 (cl E0) S26_1) [1] [2] [1] 1 ([(V.ptr 0 1 0 0)], [(Blk.flat 42 4 [[(.int .i64 x0), (.int .i64 x1), (.int .i64 x2), (.bool x3)]] x4)]) = some (.normal, ([(V.ptr 0 1 0 0)], [(Blk.flat 42 4 [[(.int .i64 x0), (.int .i64 x1), (.int .i64 x2), (.bool x3)]] x4)])) := by
  unfold ref16_Right_ai3b_S1_c0
  cases h1 : tb (ref16_Right_ai3b_S0_r0_0 x0 x1 x2 x3)
  · intro g0
    exact seg_walk [.s (ref16_Right_ai3b_S0_t0 x0 x1 x2 x3 x4), .b (tbE h1)] (by kernel_rfl)
  · intro g0
    exact absurd g0 tf
def ref16_Right_ai3b_S2_r0_0 (x2 : Int) (x5 : Bool) : Bool := (bif tb ((x2 : Int) == (-1)) then true else x5)
theorem ref16_Right_ai3b_S2_t0 (x0 : Int) (x1 : Int) (x2 : Int) (x3 : Bool) (x4 : Bool) (x5 : Bool) : segG (runC E0 (cl E0) S26_2) [1, 3] [] [2] 1 ([(V.ptr 0 1 0 0), (V.d (.bool x5))], [(Blk.flat 42 4 [[(.int .i64 x0), (.int .i64 x1), (.int .i64 x2), (.bool x3)]] x4)]) = some (.normal, ([(V.d (.bool (ref16_Right_ai3b_S2_r0_0 x2 x5)))], [(Blk.flat 42 4 [[(.int .i64 x0), (.int .i64 x1), (.int .i64 x2), (.bool x3)]] x4)])) := by
  unfold ref16_Right_ai3b_S2_r0_0
  cases h1 : tb ((x2 : Int) == (-1))
  · exact seg_walk [.b (tbE h1)] (by kernel_rfl)
  · exact seg_walk [.b (tbE h1)] (by kernel_rfl)
def ref16_Right_ai3b_c0 (x0 : Int) (x1 : Int) (x2 : Int) (x3 : Bool) : Bool := (bif tb (ref16_Right_ai3b_S1_c0 x0 x1 x2 x3) then true else (bif tb (ref01_Has_ii_c0 x0 x2) then true else false))
def ref16_Right_ai3b_r0_0 (x0 : Int) (x1 : Int) (x2 : Int) (x3 : Bool) : Bool := (bif tb (ref16_Right_ai3b_S1_c0 x0 x1 x2 x3) then false else (ref16_Right_ai3b_S2_r0_0 x2 (ref01_Has_ii_r0_0 x0 x2)))
theorem ref16_Right_ai3b_t0 (x0 : Int) (x1 : Int) (x2 : Int) (x3 : Bool) : ref16_Right_ai3b_c0 x0 x1 x2 x3 = true → cl E0 26 [(V.agg [(V.d (.int .i64 x0)), (V.d (.int .i64 x1)), (V.d (.int .i64 x2)), (V.d (.bool x3))])] [] = some ([(V.d (.bool (ref16_Right_ai3b_r0_0 x0 x1 x2 x3)))], []) := by
  unfold ref16_Right_ai3b_c0 ref16_Right_ai3b_r0_0
  cases h1 : tb (ref16_Right_ai3b_S1_c0 x0 x1 x2 x3)
  · cases h2 : tb (ref01_Has_ii_c0 x0 x2)
    · intro g0
      exact absurd g0 ft
    · intro g0
      exact w26 [.s (ref16_Right_ai3b_S1_t1 x0 x1 x2 x3 false (tbE h1)), .c (ref01_Has_ii_t0 x0 x2 (tbE h2)), .s (ref16_Right_ai3b_S2_t0 x0 x1 x2 x3 false (ref01_Has_ii_r0_0 x0 x2))] (by kernel_rfl)
  · intro g0
    exact w26 [.s (ref16_Right_ai3b_S1_t0 x0 x1 x2 x3 false (tbE h1))] (by kernel_rfl)
def ref16_Word_ai3b_e0 (x0 : Int) (x1 : Int) (x2 : Int) : Int := wi ((wi ((wi (x0 + (wi (16 * x1)))) + (wi (256 * x2)))) + 2048)
def ref16_Word_ai3b_c0 (x0 : Int) (x1 : Int) (x2 : Int) (x3 : Bool) : Bool := (bif tb (ref16_Right_ai3b_c0 x0 x1 x2 x3) then true else false)
def ref16_Word_ai3b_r0_0 (x0 : Int) (x1 : Int) (x2 : Int) (x3 : Bool) : Int := (bif tb (ref16_Right_ai3b_r0_0 x0 x1 x2 x3) then (bif tb (decide (x2 < 0)) then (bif tb (x3) then (wi ((wi ((wi (x0 + (wi (16 * x1)))) + 1792)) + 2048)) else (wi ((wi (x0 + (wi (16 * x1)))) + 1792))) else (bif tb (x3) then (ref16_Word_ai3b_e0 x0 x1 x2) else (wi ((wi (x0 + (wi (16 * x1)))) + (wi (256 * x2)))))) else 0)
def ref16_Word_ai3b_r0_1 (x0 : Int) (x1 : Int) (x2 : Int) (x3 : Bool) : Int := (bif tb (ref16_Right_ai3b_r0_0 x0 x1 x2 x3) then 0 else 1)
theorem ref16_Word_ai3b_t0 (x0 : Int) (x1 : Int) (x2 : Int) (x3 : Bool) : ref16_Word_ai3b_c0 x0 x1 x2 x3 = true → cl E0 21 [(V.agg [(V.d (.int .i64 x0)), (V.d (.int .i64 x1)), (V.d (.int .i64 x2)), (V.d (.bool x3))])] [] = some ([(V.d (.int .i64 (ref16_Word_ai3b_r0_0 x0 x1 x2 x3))), (V.d (.int .i64 (ref16_Word_ai3b_r0_1 x0 x1 x2 x3)))], []) := by
  unfold ref16_Word_ai3b_c0 ref16_Word_ai3b_r0_0 ref16_Word_ai3b_r0_1
  cases h1 : tb (ref16_Right_ai3b_c0 x0 x1 x2 x3)
  · intro g0
    exact absurd g0 ft
  · cases h2 : tb (ref16_Right_ai3b_r0_0 x0 x1 x2 x3)
    · intro g0
      exact w21 [.c (ref16_Right_ai3b_t0 x0 x1 x2 x3 (tbE h1)), .b (notF (tbE h2))] (by kernel_rfl)
    · cases h3 : tb (decide (x2 < 0))
      · cases h4 : tb (x3)
        · intro g0
          exact w21 [.c (ref16_Right_ai3b_t0 x0 x1 x2 x3 (tbE h1)), .b (notT (tbE h2)), .b (tbE h3), .b (tbE h4)] (by kernel_rfl)
        · intro g0
          exact w21 [.c (ref16_Right_ai3b_t0 x0 x1 x2 x3 (tbE h1)), .b (notT (tbE h2)), .b (tbE h3), .b (tbE h4)] (by kernel_rfl)
      · cases h4 : tb (x3)
        · intro g0
          exact w21 [.c (ref16_Right_ai3b_t0 x0 x1 x2 x3 (tbE h1)), .b (notT (tbE h2)), .b (tbE h3), .b (tbE h4)] (by kernel_rfl)
        · intro g0
          exact w21 [.c (ref16_Right_ai3b_t0 x0 x1 x2 x3 (tbE h1)), .b (notT (tbE h2)), .b (tbE h3), .b (tbE h4)] (by kernel_rfl)
def ref16_Parse_i_S0_c0 (x1 : Int) : Bool := (bif tb (decide (x1 < 0)) then true else (bif tb (decide (4095 < x1)) then true else false))
theorem ref16_Parse_i_S0_t0 (x1 : Int) : ref16_Parse_i_S0_c0 x1 = true → segG (runC E0 (cl E0) S23_0) [0, 2] [2, 3] [0, 2] 1 ([(V.d (.int .i64 x1)), (V.ptr 0 1 0 0)], [(Blk.flat 42 4 [[(.int .i64 0), (.int .i64 0), (.int .i64 0), (.bool false)]] false)]) = some (.ret, ([(V.ptr 0 1 0 0), (V.d (.int .i64 3))], [(Blk.flat 42 4 [[(.int .i64 0), (.int .i64 0), (.int .i64 0), (.bool false)]] false)])) := by
  unfold ref16_Parse_i_S0_c0
  cases h1 : tb (decide (x1 < 0))
  · cases h2 : tb (decide (4095 < x1))
    · intro g0
      exact absurd g0 ft
    · intro g0
      exact seg_walk [.b (tbE h1), .b (tbE h2)] (by kernel_rfl)
  · intro g0
    exact seg_walk [.b (tbE h1)] (by kernel_rfl)
theorem ref16_Parse_i_S0_t1 (x1 : Int) : ref16_Parse_i_S0_c0 x1 = false → segG (runC E0 (cl E0) S23_0) [0, 2] [2, 3] [0, 2] 1 ([(V.d (.int .i64 x1)), (V.ptr 0 1 0 0)], [(Blk.flat 42 4 [[(.int .i64 0), (.int .i64 0), (.int .i64 0), (.bool false)]] false)]) = some (.normal, ([(V.d (.int .i64 x1)), (V.ptr 0 1 0 0)], [(Blk.flat 42 4 [[(.int .i64 0), (.int .i64 0), (.int .i64 0), (.bool false)]] false)])) := by
  unfold ref16_Parse_i_S0_c0
  cases h1 : tb (decide (x1 < 0))
  · cases h2 : tb (decide (4095 < x1))
    · intro g0
      exact seg_walk [.b (tbE h1), .b (tbE h2)] (by kernel_rfl)
    · intro g0
      exact absurd g0 tf
  · intro g0
    exact absurd g0 tf
def ref16_Parse_i_S1_r0_8 (x2 : Int) : Int := (bif tb ((x2 : Int) == 7) then (-1) else x2)
theorem ref16_Parse_i_S1_t0 (x0 : Int) (x1 : Int) (x2 : Int) (x3 : Bool) (x4 : Bool) (x6 : Int) : segG (runC E0 (cl E0) S23_1) [0, 2, 4] [] [0, 2, 4] 2 ([(V.d (.int .i64 x6)), (V.ptr 0 1 0 0), (V.ptr 1 1 0 0)], [(Blk.flat 42 4 [[(.int .i64 0), (.int .i64 0), (.int .i64 0), (.bool false)]] x4), (Blk.flat 42 4 [[(.int .i64 x0), (.int .i64 x1), (.int .i64 x2), (.bool x3)]] false)]) = some (.normal, ([(V.d (.int .i64 x6)), (V.ptr 0 1 0 0), (V.ptr 1 1 0 0)], [(Blk.flat 42 4 [[(.int .i64 0), (.int .i64 0), (.int .i64 0), (.bool false)]] x4), (Blk.flat 42 4 [[(.int .i64 x0), (.int .i64 x1), (.int .i64 (ref16_Parse_i_S1_r0_8 x2)), (.bool x3)]] false)])) := by
  unfold ref16_Parse_i_S1_r0_8
  cases h1 : tb ((x2 : Int) == 7)
  · exact seg_walk [.b (tbE h1)] (by kernel_rfl)
  · exact seg_walk [.b (tbE h1)] (by kernel_rfl)
def ref16_Parse_i_S2_c0 (x0 : Int) (x1 : Int) (x2 : Int) (x3 : Bool) : Bool := (bif tb (ref16_Word_ai3b_c0 x0 x1 x2 x3) then true else false)
theorem ref16_Parse_i_S2_t0 (x0 : Int) (x1 : Int) (x2 : Int) (x3 : Bool) (x4 : Bool) (x5 : Bool) (x6 : Int) : ref16_Parse_i_S2_c0 x0 x1 x2 x3 = true → segG (runC E0 (cl E0) S23_2) [0, 2, 4] [] [0, 2, 4, 5, 6] 2 ([(V.d (.int .i64 x6)), (V.ptr 0 1 0 0), (V.ptr 1 1 0 0)], [(Blk.flat 42 4 [[(.int .i64 0), (.int .i64 0), (.int .i64 0), (.bool false)]] x4), (Blk.flat 42 4 [[(.int .i64 x0), (.int .i64 x1), (.int .i64 x2), (.bool x3)]] x5)]) = some (.normal, ([(V.d (.int .i64 x6)), (V.ptr 0 1 0 0), (V.ptr 1 1 0 0), (V.d (.int .i64 (ref16_Word_ai3b_r0_0 x0 x1 x2 x3))), (V.d (.int .i64 (ref16_Word_ai3b_r0_1 x0 x1 x2 x3)))], [(Blk.flat 42 4 [[(.int .i64 0), (.int .i64 0), (.int .i64 0), (.bool false)]] x4), (Blk.flat 42 4 [[(.int .i64 x0), (.int .i64 x1), (.int .i64 x2), (.bool x3)]] x5)])) := by
  unfold ref16_Parse_i_S2_c0
  cases h1 : tb (ref16_Word_ai3b_c0 x0 x1 x2 x3)
  · intro g0
    exact absurd g0 ft
  · intro g0
    exact seg_walk [.c (ref16_Word_ai3b_t0 x0 x1 x2 x3 (tbE h1))] (by kernel_rfl)
def ref16_Parse_i_S3_c0 (x6 : Int) (x7 : Int) (x8 : Int) : Bool := (bif tb ((x8 : Int) != 0) then true else (bif tb ((x7 : Int) != x6) then true else false))
theorem ref16_Parse_i_S3_t0 (x0 : Int) (x1 : Int) (x2 : Int) (x3 : Bool) (x5 : Bool) (x6 : Int) (x7 : Int) (x8 : Int) : ref16_Parse_i_S3_c0 x6 x7 x8 = true → segG (runC E0 (cl E0) S23_3) [0, 2, 4, 5, 6] [2, 3] [2, 4] 2 ([(V.d (.int .i64 x6)), (V.ptr 0 1 0 0), (V.ptr 1 1 0 0), (V.d (.int .i64 x7)), (V.d (.int .i64 x8))], [(Blk.flat 42 4 [[(.int .i64 0), (.int .i64 0), (.int .i64 0), (.bool false)]] false), (Blk.flat 42 4 [[(.int .i64 x0), (.int .i64 x1), (.int .i64 x2), (.bool x3)]] x5)]) = some (.ret, ([(V.ptr 0 1 0 0), (V.d (.int .i64 3))], [(Blk.flat 42 4 [[(.int .i64 0), (.int .i64 0), (.int .i64 0), (.bool false)]] false), (Blk.flat 42 4 [[(.int .i64 x0), (.int .i64 x1), (.int .i64 x2), (.bool x3)]] x5)])) := by
  unfold ref16_Parse_i_S3_c0
  cases h1 : tb ((x8 : Int) != 0)
  · cases h2 : tb ((x7 : Int) != x6)
    · intro g0
      exact absurd g0 ft
    · intro g0
      exact seg_walk [.b (tbE h1), .b (tbE h2)] (by kernel_rfl)
  · intro g0
    exact seg_walk [.b (tbE h1)] (by kernel_rfl)
theorem ref16_Parse_i_S3_t1 (x0 : Int) (x1 : Int) (x2 : Int) (x3 : Bool) (x5 : Bool) (x6 : Int) (x7 : Int) (x8 : Int) : ref16_Parse_i_S3_c0 x6 x7 x8 = false → segG (runC E0 (cl E0) S23_3) [0, 2, 4, 5, 6] [2, 3] [2, 4] 2 ([(V.d (.int .i64 x6)), (V.ptr 0 1 0 0), (V.ptr 1 1 0 0), (V.d (.int .i64 x7)), (V.d (.int .i64 x8))], [(Blk.flat 42 4 [[(.int .i64 0), (.int .i64 0), (.int .i64 0), (.bool false)]] false), (Blk.flat 42 4 [[(.int .i64 x0), (.int .i64 x1), (.int .i64 x2), (.bool x3)]] x5)]) = some (.normal, ([(V.ptr 0 1 0 0), (V.ptr 1 1 0 0)], [(Blk.flat 42 4 [[(.int .i64 0), (.int .i64 0), (.int .i64 0), (.bool false)]] false), (Blk.flat 42 4 [[(.int .i64 x0), (.int .i64 x1), (.int .i64 x2), (.bool x3)]] x5)])) := by
  unfold ref16_Parse_i_S3_c0
  cases h1 : tb ((x8 : Int) != 0)
  · cases h2 : tb ((x7 : Int) != x6)
    · intro g0
      exact seg_walk [.b (tbE h1), .b (tbE h2)] (by kernel_rfl)
    · intro g0
      exact absurd g0 tf
  · intro g0
    exact absurd g0 tf
def ref16_Parse_i_e0 (x0 : Int) : Int := (ref16_Word_ai3b_r0_0 (remI .i64 x0 16) (remI .i64 (quoI .i64 x0 16) 16) (ref16_Parse_i_S1_r0_8 (remI .i64 (quoI .i64 x0 256) 8)) (decide (2048 ≤ x0)))
def ref16_Parse_i_e1 (x0 : Int) : Int := (ref16_Word_ai3b_r0_1 (remI .i64 x0 16) (remI .i64 (quoI .i64 x0 16) 16) (ref16_Parse_i_S1_r0_8 (remI .i64 (quoI .i64 x0 256) 8)) (decide (2048 ≤ x0)))
def ref16_Parse_i_c0 (x0 : Int) : Bool := (bif tb (ref16_Parse_i_S0_c0 x0) then true else (bif tb (ref16_Parse_i_S2_c0 (remI .i64 x0 16) (remI .i64 (quoI .i64 x0 16) 16) (ref16_Parse_i_S1_r0_8 (remI .i64 (quoI .i64 x0 256) 8)) (decide (2048 ≤ x0))) then true else false))
def ref16_Parse_i_r0_0 (x0 : Int) : Int := (bif tb (ref16_Parse_i_S0_c0 x0) then 0 else (bif tb (ref16_Parse_i_S3_c0 x0 (ref16_Parse_i_e0 x0) (ref16_Parse_i_e1 x0)) then 0 else (remI .i64 x0 16)))
def ref16_Parse_i_r0_1 (x0 : Int) : Int := (bif tb (ref16_Parse_i_S0_c0 x0) then 0 else (bif tb (ref16_Parse_i_S3_c0 x0 (ref16_Parse_i_e0 x0) (ref16_Parse_i_e1 x0)) then 0 else (remI .i64 (quoI .i64 x0 16) 16)))
def ref16_Parse_i_r0_2 (x0 : Int) : Int := (bif tb (ref16_Parse_i_S0_c0 x0) then 0 else (bif tb (ref16_Parse_i_S3_c0 x0 (ref16_Parse_i_e0 x0) (ref16_Parse_i_e1 x0)) then 0 else (ref16_Parse_i_S1_r0_8 (remI .i64 (quoI .i64 x0 256) 8))))
def ref16_Parse_i_r0_3 (x0 : Int) : Bool := (bif tb (ref16_Parse_i_S0_c0 x0) then false else (bif tb (ref16_Parse_i_S3_c0 x0 (ref16_Parse_i_e0 x0) (ref16_Parse_i_e1 x0)) then false else (decide (2048 ≤ x0))))
def ref16_Parse_i_r0_4 (x0 : Int) : Int := (bif tb (ref16_Parse_i_S0_c0 x0) then 3 else (bif tb (ref16_Parse_i_S3_c0 x0 (ref16_Parse_i_e0 x0) (ref16_Parse_i_e1 x0)) then 3 else 0))
theorem ref16_Parse_i_t0 (x0 : Int) : ref16_Parse_i_c0 x0 = true → cl E0 23 [(V.d (.int .i64 x0))] [] = some ([(V.agg [(V.d (.int .i64 (ref16_Parse_i_r0_0 x0))), (V.d (.int .i64 (ref16_Parse_i_r0_1 x0))), (V.d (.int .i64 (ref16_Parse_i_r0_2 x0))), (V.d (.bool (ref16_Parse_i_r0_3 x0)))]), (V.d (.int .i64 (ref16_Parse_i_r0_4 x0)))], []) := by
  unfold ref16_Parse_i_c0 ref16_Parse_i_r0_0 ref16_Parse_i_r0_1 ref16_Parse_i_r0_2 ref16_Parse_i_r0_3 ref16_Parse_i_r0_4
  cases h1 : tb (ref16_Parse_i_S0_c0 x0)
  · cases h2 : tb (ref16_Parse_i_S2_c0 (remI .i64 x0 16) (remI .i64 (quoI .i64 x0 16) 16) (ref16_Parse_i_S1_r0_8 (remI .i64 (quoI .i64 x0 256) 8)) (decide (2048 ≤ x0)))
    · intro g0
      exact absurd g0 ft
    · cases h3 : tb (ref16_Parse_i_S3_c0 x0 (ref16_Parse_i_e0 x0) (ref16_Parse_i_e1 x0))
      · intro g0
        exact w23 [.s (ref16_Parse_i_S0_t1 x0 (tbE h1)), .s (ref16_Parse_i_S1_t0 (remI .i64 x0 16) (remI .i64 (quoI .i64 x0 16) 16) (remI .i64 (quoI .i64 x0 256) 8) (decide (2048 ≤ x0)) false x0), .s (ref16_Parse_i_S2_t0 (remI .i64 x0 16) (remI .i64 (quoI .i64 x0 16) 16) (ref16_Parse_i_S1_r0_8 (remI .i64 (quoI .i64 x0 256) 8)) (decide (2048 ≤ x0)) false false x0 (tbE h2)), .s (ref16_Parse_i_S3_t1 (remI .i64 x0 16) (remI .i64 (quoI .i64 x0 16) 16) (ref16_Parse_i_S1_r0_8 (remI .i64 (quoI .i64 x0 256) 8)) (decide (2048 ≤ x0)) false x0 (ref16_Parse_i_e0 x0) (ref16_Parse_i_e1 x0) (tbE h3))] (by kernel_rfl)
      · intro g0
        exact w23 [.s (ref16_Parse_i_S0_t1 x0 (tbE h1)), .s (ref16_Parse_i_S1_t0 (remI .i64 x0 16) (remI .i64 (quoI .i64 x0 16) 16) (remI .i64 (quoI .i64 x0 256) 8) (decide (2048 ≤ x0)) false x0), .s (ref16_Parse_i_S2_t0 (remI .i64 x0 16) (remI .i64 (quoI .i64 x0 16) 16) (ref16_Parse_i_S1_r0_8 (remI .i64 (quoI .i64 x0 256) 8)) (decide (2048 ≤ x0)) false false x0 (tbE h2)), .s (ref16_Parse_i_S3_t0 (remI .i64 x0 16) (remI .i64 (quoI .i64 x0 16) 16) (ref16_Parse_i_S1_r0_8 (remI .i64 (quoI .i64 x0 256) 8)) (decide (2048 ≤ x0)) false x0 (ref16_Parse_i_e0 x0) (ref16_Parse_i_e1 x0) (tbE h3))] (by kernel_rfl)
  · intro g0
    exact w23 [.s (ref16_Parse_i_S0_t0 x0 (tbE h1))] (by kernel_rfl)
def ref16_Mode_ai3b_c0 (x0 : Int) (x1 : Int) (x2 : Int) (x3 : Bool) : Bool := (bif tb (ref16_Right_ai3b_c0 x0 x1 x2 x3) then (bif tb (ref16_Right_ai3b_r0_0 x0 x1 x2 x3) then (bif tb (ref01_Count_i_c0 x0) then true else false) else true) else false)
def ref16_Mode_ai3b_r0_0 (x0 : Int) (x1 : Int) (x2 : Int) (x3 : Bool) : ByteArray := (bif tb (ref16_Right_ai3b_r0_0 x0 x1 x2 x3) then (bif tb ((((ref01_Count_i_L0_end x0 (⟨0, 0⟩ : ref01_Count_i_L0_s0)).c1) : Int) == 4) then ⟨#[113, 117, 97, 100]⟩ else (bif tb ((((ref01_Count_i_L0_end x0 (⟨0, 0⟩ : ref01_Count_i_L0_s0)).c1) : Int) == 3) then ⟨#[116, 114, 105, 112, 108, 101]⟩ else (bif tb ((((ref01_Count_i_L0_end x0 (⟨0, 0⟩ : ref01_Count_i_L0_s0)).c1) : Int) == 2) then ⟨#[100, 117, 112, 108, 101, 120]⟩ else (bif tb ((((ref01_Count_i_L0_end x0 (⟨0, 0⟩ : ref01_Count_i_L0_s0)).c1) : Int) == 1) then ⟨#[115, 105, 110, 103, 108, 101]⟩ else ⟨#[104, 111, 108, 100]⟩)))) else ⟨#[]⟩)
theorem ref16_Mode_ai3b_t0 (x0 : Int) (x1 : Int) (x2 : Int) (x3 : Bool) : ref16_Mode_ai3b_c0 x0 x1 x2 x3 = true → cl E0 28 [(V.agg [(V.d (.int .i64 x0)), (V.d (.int .i64 x1)), (V.d (.int .i64 x2)), (V.d (.bool x3))])] [] = some ([(V.d (.str (ref16_Mode_ai3b_r0_0 x0 x1 x2 x3)))], []) := by
  unfold ref16_Mode_ai3b_c0 ref16_Mode_ai3b_r0_0
  cases h1 : tb (ref16_Right_ai3b_c0 x0 x1 x2 x3)
  · intro g0
    exact absurd g0 ft
  · cases h2 : tb (ref16_Right_ai3b_r0_0 x0 x1 x2 x3)
    · intro g0
      exact w28 [.c (ref16_Right_ai3b_t0 x0 x1 x2 x3 (tbE h1)), .b (notF (tbE h2))] (by kernel_rfl)
    · cases h3 : tb (ref01_Count_i_c0 x0)
      · intro g0
        exact absurd g0 ft
      · cases h4 : tb ((((ref01_Count_i_L0_end x0 (⟨0, 0⟩ : ref01_Count_i_L0_s0)).c1) : Int) == 4)
        · cases h5 : tb ((((ref01_Count_i_L0_end x0 (⟨0, 0⟩ : ref01_Count_i_L0_s0)).c1) : Int) == 3)
          · cases h6 : tb ((((ref01_Count_i_L0_end x0 (⟨0, 0⟩ : ref01_Count_i_L0_s0)).c1) : Int) == 2)
            · cases h7 : tb ((((ref01_Count_i_L0_end x0 (⟨0, 0⟩ : ref01_Count_i_L0_s0)).c1) : Int) == 1)
              · intro g0
                exact w28 [.c (ref16_Right_ai3b_t0 x0 x1 x2 x3 (tbE h1)), .b (notT (tbE h2)), .c (ref01_Count_i_t0 x0 (tbE h3)), .b (tbE h4), .b (tbE h5), .b (tbE h6), .b (tbE h7)] (by kernel_rfl)
              · intro g0
                exact w28 [.c (ref16_Right_ai3b_t0 x0 x1 x2 x3 (tbE h1)), .b (notT (tbE h2)), .c (ref01_Count_i_t0 x0 (tbE h3)), .b (tbE h4), .b (tbE h5), .b (tbE h6), .b (tbE h7)] (by kernel_rfl)
            · intro g0
              exact w28 [.c (ref16_Right_ai3b_t0 x0 x1 x2 x3 (tbE h1)), .b (notT (tbE h2)), .c (ref01_Count_i_t0 x0 (tbE h3)), .b (tbE h4), .b (tbE h5), .b (tbE h6)] (by kernel_rfl)
          · intro g0
            exact w28 [.c (ref16_Right_ai3b_t0 x0 x1 x2 x3 (tbE h1)), .b (notT (tbE h2)), .c (ref01_Count_i_t0 x0 (tbE h3)), .b (tbE h4), .b (tbE h5)] (by kernel_rfl)
        · intro g0
          exact w28 [.c (ref16_Right_ai3b_t0 x0 x1 x2 x3 (tbE h1)), .b (notT (tbE h2)), .c (ref01_Count_i_t0 x0 (tbE h3)), .b (tbE h4)] (by kernel_rfl)
structure ref16_channels_i_L0_s0 where
  c1 : ByteArray
  c2 : Int
  deriving Inhabited
def ref16_channels_i_L0_h0_e0 (s0 : ref16_channels_i_L0_s0) : ByteArray := s0.c1 ++ (⟨#[UInt8.ofNat ((IntKind.u8.wrap (wi (48 + s0.c2))) : Int).toNat]⟩ : ByteArray)
def ref16_channels_i_L0_enc (x0 : Int) (x1 : ByteArray) (x2 : Int) (s0 : ref16_channels_i_L0_s0) : List V × Mem := ([(V.d (.int .i64 x0)), (V.d (.str s0.c1)), (V.d (.int .i64 s0.c2))], [])
def ref16_channels_i_L0_sel (x0 : Int) (s0 : ref16_channels_i_L0_s0) : Bool := (bif tb (decide (s0.c2 < 4)) then (bif tb (ref01_Has_ii_c0 x0 s0.c2) then (bif tb (ref01_Has_ii_r0_0 x0 s0.c2) then (bif tb (decide (s0.c1.size + (⟨#[UInt8.ofNat ((IntKind.u8.wrap (wi (48 + s0.c2))) : Int).toNat]⟩ : ByteArray).size ≤ 9223372036854775807)) then true else false) else true) else false) else false)
def ref16_channels_i_L0_nx (x0 : Int) (s0 : ref16_channels_i_L0_s0) : ref16_channels_i_L0_s0 := (bif tb (ref01_Has_ii_r0_0 x0 s0.c2) then ⟨(ref16_channels_i_L0_h0_e0 s0), (wi (s0.c2 + 1))⟩ else ⟨s0.c1, (wi (s0.c2 + 1))⟩)
def ref16_channels_i_L0_ok (x0 : Int) (s0 : ref16_channels_i_L0_s0) : Bool := (itS (ref16_channels_i_L0_sel x0) (ref16_channels_i_L0_nx x0) bound s0).isSome
def ref16_channels_i_L0_end (x0 : Int) (s0 : ref16_channels_i_L0_s0) : ref16_channels_i_L0_s0 := (itS (ref16_channels_i_L0_sel x0) (ref16_channels_i_L0_nx x0) bound s0).getD default
theorem ref16_channels_i_L0_go (x0 : Int) (x1 : ByteArray) (x2 : Int) (s0 : ref16_channels_i_L0_s0) : ref16_channels_i_L0_sel x0 s0 = true → (roundG (runC E0 (cl E0) L65_0) [0, 3, 4] [3] 0) (ref16_channels_i_L0_enc x0 x1 x2 s0) = some (.normal, ref16_channels_i_L0_enc x0 x1 x2 (ref16_channels_i_L0_nx x0 s0)) := by
  unfold ref16_channels_i_L0_sel ref16_channels_i_L0_nx
  cases h1 : tb (decide (s0.c2 < 4))
  · intro g0
    exact absurd g0 ft
  · cases h2 : tb (ref01_Has_ii_c0 x0 s0.c2)
    · intro g0
      exact absurd g0 ft
    · cases h3 : tb (ref01_Has_ii_r0_0 x0 s0.c2)
      · intro _
        exact round_walk [.b (tbE h1), .c (ref01_Has_ii_t0 x0 s0.c2 (tbE h2)), .b (tbE h3)] (by kernel_rfl)
      · cases h4 : tb (decide (s0.c1.size + (⟨#[UInt8.ofNat ((IntKind.u8.wrap (wi (48 + s0.c2))) : Int).toNat]⟩ : ByteArray).size ≤ 9223372036854775807))
        · intro g0
          exact absurd g0 ft
        · intro _
          exact round_walk [.b (tbE h1), .c (ref01_Has_ii_t0 x0 s0.c2 (tbE h2)), .b (tbE h3), .o 20 (fun _ => o_addstr (x := s0.c1) (y := (⟨#[UInt8.ofNat ((IntKind.u8.wrap (wi (48 + s0.c2))) : Int).toNat]⟩ : ByteArray)) (tbE h4))] (by kernel_rfl)
def ref16_channels_i_L0_c0 (s0 : ref16_channels_i_L0_s0) : Bool := (bif tb (decide (s0.c2 < 4)) then false else true)
theorem ref16_channels_i_L0_x0 (x0 : Int) (x1 : ByteArray) (x2 : Int) (s0 : ref16_channels_i_L0_s0) : ref16_channels_i_L0_sel x0 s0 = false → ref16_channels_i_L0_c0 s0 = true → (roundG (runC E0 (cl E0) L65_0) [0, 3, 4] [3] 0) (ref16_channels_i_L0_enc x0 x1 x2 s0) = some ((.exit 0), ([(V.d (.str s0.c1))], [])) := by
  unfold ref16_channels_i_L0_sel ref16_channels_i_L0_c0
  cases h1 : tb (decide (s0.c2 < 4))
  · intro g0 g1
    exact round_walk [.b (tbE h1)] (by kernel_rfl)
  · cases h2 : tb (ref01_Has_ii_c0 x0 s0.c2)
    · intro g0 g1
      exact absurd g1 ft
    · cases h3 : tb (ref01_Has_ii_r0_0 x0 s0.c2)
      · intro g0 g1
        exact absurd g0 tf
      · cases h4 : tb (decide (s0.c1.size + (⟨#[UInt8.ofNat ((IntKind.u8.wrap (wi (48 + s0.c2))) : Int).toNat]⟩ : ByteArray).size ≤ 9223372036854775807))
        · intro g0 g1
          exact absurd g1 ft
        · intro g0 g1
          exact absurd g0 tf
theorem ref16_channels_i_L0_f0_0 (x0 : Int) (x1 : ByteArray) (x2 : Int) (s : ref16_channels_i_L0_s0) (hok : ref16_channels_i_L0_ok x0 s = true) (c0 : ref16_channels_i_L0_c0 (ref16_channels_i_L0_end x0 s) = true) : loopG (roundG (runC E0 (cl E0) L65_0) [0, 3, 4] [3] 0) bound (ref16_channels_i_L0_enc x0 x1 x2 s) = some ((.exit 0), ([(V.d (.str ((ref16_channels_i_L0_end x0 s).c1)))], [])) := by
  have e : itS (ref16_channels_i_L0_sel x0) (ref16_channels_i_L0_nx x0) bound s = some (ref16_channels_i_L0_end x0 s) := itS_get hok
  have f := itS_false e
  exact loop_it (ref16_channels_i_L0_go x0 x1 x2) bound s _ _ _ e (fun h => by cases h) (ref16_channels_i_L0_x0 x0 x1 x2 (ref16_channels_i_L0_end x0 s) f c0)
def ref16_channels_i_e0 (x0 : Int) : ref16_channels_i_L0_s0 := ref16_channels_i_L0_end x0 (⟨⟨#[]⟩, 0⟩ : ref16_channels_i_L0_s0)
def ref16_channels_i_c0 (x0 : Int) : Bool := (bif tb (ref16_channels_i_L0_ok x0 (⟨⟨#[]⟩, 0⟩ : ref16_channels_i_L0_s0)) then (bif tb (ref16_channels_i_L0_c0 (ref16_channels_i_e0 x0)) then true else false) else false)
def ref16_channels_i_r0_0 (x0 : Int) : ByteArray := (bif tb (((ref16_channels_i_e0 x0).c1).toList == (⟨#[]⟩ : ByteArray).toList) then ⟨#[45]⟩ else ((ref16_channels_i_e0 x0).c1))
theorem ref16_channels_i_t0 (x0 : Int) : ref16_channels_i_c0 x0 = true → cl E0 65 [(V.d (.int .i64 x0))] [] = some ([(V.d (.str (ref16_channels_i_r0_0 x0)))], []) := by
  unfold ref16_channels_i_c0 ref16_channels_i_r0_0
  cases h1 : tb (ref16_channels_i_L0_ok x0 (⟨⟨#[]⟩, 0⟩ : ref16_channels_i_L0_s0))
  · intro g0
    exact absurd g0 ft
  · cases h2 : tb (ref16_channels_i_L0_c0 (ref16_channels_i_e0 x0))
    · intro g0
      exact absurd g0 ft
    · cases h3 : tb (((ref16_channels_i_e0 x0).c1).toList == (⟨#[]⟩ : ByteArray).toList)
      · intro g0
        exact w65 [.l (ref16_channels_i_L0_f0_0 x0 ⟨#[]⟩ 0 (⟨⟨#[]⟩, 0⟩ : ref16_channels_i_L0_s0) (tbE h1) (tbE h2)), .b (tbE h3)] (by kernel_rfl)
      · intro g0
        exact w65 [.l (ref16_channels_i_L0_f0_0 x0 ⟨#[]⟩ 0 (⟨⟨#[]⟩, 0⟩ : ref16_channels_i_L0_s0) (tbE h1) (tbE h2)), .b (tbE h3)] (by kernel_rfl)
def ref16_Text_ai3b_e0 (x0 : Int) : ByteArray := (⟨#[105, 110, 32]⟩ : ByteArray) ++ (ref16_channels_i_r0_0 x0)
def ref16_Text_ai3b_e1 (x0 : Int) : ByteArray := (ref16_Text_ai3b_e0 x0) ++ (⟨#[32, 108, 97, 116, 99, 104, 101, 100, 32]⟩ : ByteArray)
def ref16_Text_ai3b_e2 (x0 : Int) (x1 : Int) : ByteArray := ((ref16_Text_ai3b_e1 x0) ++ (ref16_channels_i_r0_0 x1)) ++ (⟨#[32, 115, 117, 115, 112, 101, 99, 116, 32]⟩ : ByteArray)
def ref16_Text_ai3b_e3 (x0 : Int) (x1 : Int) (x2 : Int) : ByteArray := (ref16_Text_ai3b_e2 x0 x1) ++ (⟨#[UInt8.ofNat ((IntKind.u8.wrap (wi (48 + x2))) : Int).toNat]⟩ : ByteArray)
def ref16_Text_ai3b_e4 (x0 : Int) (x1 : Int) (x2 : Int) (x3 : Bool) : ByteArray := ((ref16_Text_ai3b_e3 x0 x1 x2) ++ (⟨#[32]⟩ : ByteArray)) ++ (ref16_Mode_ai3b_r0_0 x0 x1 x2 x3)
def ref16_Text_ai3b_e5 (x0 : Int) (x1 : Int) : ByteArray := ((ref16_Text_ai3b_e2 x0 x1) ++ (⟨#[45]⟩ : ByteArray)) ++ (⟨#[32]⟩ : ByteArray)
def ref16_Text_ai3b_e6 (x0 : Int) (x1 : Int) (x2 : Int) (x3 : Bool) : ByteArray := (ref16_Text_ai3b_e5 x0 x1) ++ (ref16_Mode_ai3b_r0_0 x0 x1 x2 x3)
def ref16_Text_ai3b_c0 (x0 : Int) (x1 : Int) (x2 : Int) (x3 : Bool) : Bool := (bif tb (ref16_Mode_ai3b_c0 x0 x1 x2 x3) then (bif tb ((ref16_Mode_ai3b_r0_0 x0 x1 x2 x3).toList == (⟨#[]⟩ : ByteArray).toList) then true else (bif tb (decide (0 ≤ x2)) then (bif tb (ref16_channels_i_c0 x0) then (bif tb (ref16_channels_i_c0 x1) then (bif tb (decide ((⟨#[105, 110, 32]⟩ : ByteArray).size + (ref16_channels_i_r0_0 x0).size ≤ 9223372036854775807)) then (bif tb (decide ((ref16_Text_ai3b_e0 x0).size + (⟨#[32, 108, 97, 116, 99, 104, 101, 100, 32]⟩ : ByteArray).size ≤ 9223372036854775807)) then (bif tb (decide ((ref16_Text_ai3b_e1 x0).size + (ref16_channels_i_r0_0 x1).size ≤ 9223372036854775807)) then (bif tb (decide (((ref16_Text_ai3b_e1 x0) ++ (ref16_channels_i_r0_0 x1)).size + (⟨#[32, 115, 117, 115, 112, 101, 99, 116, 32]⟩ : ByteArray).size ≤ 9223372036854775807)) then (bif tb (decide ((ref16_Text_ai3b_e2 x0 x1).size + (⟨#[UInt8.ofNat ((IntKind.u8.wrap (wi (48 + x2))) : Int).toNat]⟩ : ByteArray).size ≤ 9223372036854775807)) then (bif tb (decide ((ref16_Text_ai3b_e3 x0 x1 x2).size + (⟨#[32]⟩ : ByteArray).size ≤ 9223372036854775807)) then (bif tb (decide (((ref16_Text_ai3b_e3 x0 x1 x2) ++ (⟨#[32]⟩ : ByteArray)).size + (ref16_Mode_ai3b_r0_0 x0 x1 x2 x3).size ≤ 9223372036854775807)) then true else false) else false) else false) else false) else false) else false) else false) else false) else false) else (bif tb (ref16_channels_i_c0 x0) then (bif tb (ref16_channels_i_c0 x1) then (bif tb (decide ((⟨#[105, 110, 32]⟩ : ByteArray).size + (ref16_channels_i_r0_0 x0).size ≤ 9223372036854775807)) then (bif tb (decide ((ref16_Text_ai3b_e0 x0).size + (⟨#[32, 108, 97, 116, 99, 104, 101, 100, 32]⟩ : ByteArray).size ≤ 9223372036854775807)) then (bif tb (decide ((ref16_Text_ai3b_e1 x0).size + (ref16_channels_i_r0_0 x1).size ≤ 9223372036854775807)) then (bif tb (decide (((ref16_Text_ai3b_e1 x0) ++ (ref16_channels_i_r0_0 x1)).size + (⟨#[32, 115, 117, 115, 112, 101, 99, 116, 32]⟩ : ByteArray).size ≤ 9223372036854775807)) then (bif tb (decide ((ref16_Text_ai3b_e2 x0 x1).size + (⟨#[45]⟩ : ByteArray).size ≤ 9223372036854775807)) then (bif tb (decide (((ref16_Text_ai3b_e2 x0 x1) ++ (⟨#[45]⟩ : ByteArray)).size + (⟨#[32]⟩ : ByteArray).size ≤ 9223372036854775807)) then (bif tb (decide ((ref16_Text_ai3b_e5 x0 x1).size + (ref16_Mode_ai3b_r0_0 x0 x1 x2 x3).size ≤ 9223372036854775807)) then true else false) else false) else false) else false) else false) else false) else false) else false) else false))) else false)
def ref16_Text_ai3b_r0_0 (x0 : Int) (x1 : Int) (x2 : Int) (x3 : Bool) : ByteArray := (bif tb ((ref16_Mode_ai3b_r0_0 x0 x1 x2 x3).toList == (⟨#[]⟩ : ByteArray).toList) then ⟨#[]⟩ else (bif tb (decide (0 ≤ x2)) then (ref16_Text_ai3b_e4 x0 x1 x2 x3) else (ref16_Text_ai3b_e6 x0 x1 x2 x3)))
theorem ref16_Text_ai3b_t0 (x0 : Int) (x1 : Int) (x2 : Int) (x3 : Bool) : ref16_Text_ai3b_c0 x0 x1 x2 x3 = true → cl E0 30 [(V.agg [(V.d (.int .i64 x0)), (V.d (.int .i64 x1)), (V.d (.int .i64 x2)), (V.d (.bool x3))])] [] = some ([(V.d (.str (ref16_Text_ai3b_r0_0 x0 x1 x2 x3)))], []) := by
  unfold ref16_Text_ai3b_c0 ref16_Text_ai3b_r0_0
  cases h1 : tb (ref16_Mode_ai3b_c0 x0 x1 x2 x3)
  · intro g0
    exact absurd g0 ft
  · cases h2 : tb ((ref16_Mode_ai3b_r0_0 x0 x1 x2 x3).toList == (⟨#[]⟩ : ByteArray).toList)
    · cases h3 : tb (decide (0 ≤ x2))
      · cases h4 : tb (ref16_channels_i_c0 x0)
        · intro g0
          exact absurd g0 ft
        · cases h5 : tb (ref16_channels_i_c0 x1)
          · intro g0
            exact absurd g0 ft
          · cases h6 : tb (decide ((⟨#[105, 110, 32]⟩ : ByteArray).size + (ref16_channels_i_r0_0 x0).size ≤ 9223372036854775807))
            · intro g0
              exact absurd g0 ft
            · cases h7 : tb (decide ((ref16_Text_ai3b_e0 x0).size + (⟨#[32, 108, 97, 116, 99, 104, 101, 100, 32]⟩ : ByteArray).size ≤ 9223372036854775807))
              · intro g0
                exact absurd g0 ft
              · cases h8 : tb (decide ((ref16_Text_ai3b_e1 x0).size + (ref16_channels_i_r0_0 x1).size ≤ 9223372036854775807))
                · intro g0
                  exact absurd g0 ft
                · cases h9 : tb (decide (((ref16_Text_ai3b_e1 x0) ++ (ref16_channels_i_r0_0 x1)).size + (⟨#[32, 115, 117, 115, 112, 101, 99, 116, 32]⟩ : ByteArray).size ≤ 9223372036854775807))
                  · intro g0
                    exact absurd g0 ft
                  · cases h10 : tb (decide ((ref16_Text_ai3b_e2 x0 x1).size + (⟨#[45]⟩ : ByteArray).size ≤ 9223372036854775807))
                    · intro g0
                      exact absurd g0 ft
                    · cases h11 : tb (decide (((ref16_Text_ai3b_e2 x0 x1) ++ (⟨#[45]⟩ : ByteArray)).size + (⟨#[32]⟩ : ByteArray).size ≤ 9223372036854775807))
                      · intro g0
                        exact absurd g0 ft
                      · cases h12 : tb (decide ((ref16_Text_ai3b_e5 x0 x1).size + (ref16_Mode_ai3b_r0_0 x0 x1 x2 x3).size ≤ 9223372036854775807))
                        · intro g0
                          exact absurd g0 ft
                        · intro g0
                          exact w30 [.c (ref16_Mode_ai3b_t0 x0 x1 x2 x3 (tbE h1)), .b (tbE h2), .b (tbE h3), .c (ref16_channels_i_t0 x0 (tbE h4)), .c (ref16_channels_i_t0 x1 (tbE h5)), .o 27 (fun _ => o_addstr (x := (⟨#[105, 110, 32]⟩ : ByteArray)) (y := (ref16_channels_i_r0_0 x0)) (tbE h6)), .o 28 (fun _ => o_addstr (x := (ref16_Text_ai3b_e0 x0)) (y := (⟨#[32, 108, 97, 116, 99, 104, 101, 100, 32]⟩ : ByteArray)) (tbE h7)), .o 30 (fun _ => o_addstr (x := (ref16_Text_ai3b_e1 x0)) (y := (ref16_channels_i_r0_0 x1)) (tbE h8)), .o 31 (fun _ => o_addstr (x := ((ref16_Text_ai3b_e1 x0) ++ (ref16_channels_i_r0_0 x1))) (y := (⟨#[32, 115, 117, 115, 112, 101, 99, 116, 32]⟩ : ByteArray)) (tbE h9)), .o 33 (fun _ => o_addstr (x := (ref16_Text_ai3b_e2 x0 x1)) (y := (⟨#[45]⟩ : ByteArray)) (tbE h10)), .o 34 (fun _ => o_addstr (x := ((ref16_Text_ai3b_e2 x0 x1) ++ (⟨#[45]⟩ : ByteArray))) (y := (⟨#[32]⟩ : ByteArray)) (tbE h11)), .o 36 (fun _ => o_addstr (x := (ref16_Text_ai3b_e5 x0 x1)) (y := (ref16_Mode_ai3b_r0_0 x0 x1 x2 x3)) (tbE h12))] (by kernel_rfl)
      · cases h4 : tb (ref16_channels_i_c0 x0)
        · intro g0
          exact absurd g0 ft
        · cases h5 : tb (ref16_channels_i_c0 x1)
          · intro g0
            exact absurd g0 ft
          · cases h6 : tb (decide ((⟨#[105, 110, 32]⟩ : ByteArray).size + (ref16_channels_i_r0_0 x0).size ≤ 9223372036854775807))
            · intro g0
              exact absurd g0 ft
            · cases h7 : tb (decide ((ref16_Text_ai3b_e0 x0).size + (⟨#[32, 108, 97, 116, 99, 104, 101, 100, 32]⟩ : ByteArray).size ≤ 9223372036854775807))
              · intro g0
                exact absurd g0 ft
              · cases h8 : tb (decide ((ref16_Text_ai3b_e1 x0).size + (ref16_channels_i_r0_0 x1).size ≤ 9223372036854775807))
                · intro g0
                  exact absurd g0 ft
                · cases h9 : tb (decide (((ref16_Text_ai3b_e1 x0) ++ (ref16_channels_i_r0_0 x1)).size + (⟨#[32, 115, 117, 115, 112, 101, 99, 116, 32]⟩ : ByteArray).size ≤ 9223372036854775807))
                  · intro g0
                    exact absurd g0 ft
                  · cases h10 : tb (decide ((ref16_Text_ai3b_e2 x0 x1).size + (⟨#[UInt8.ofNat ((IntKind.u8.wrap (wi (48 + x2))) : Int).toNat]⟩ : ByteArray).size ≤ 9223372036854775807))
                    · intro g0
                      exact absurd g0 ft
                    · cases h11 : tb (decide ((ref16_Text_ai3b_e3 x0 x1 x2).size + (⟨#[32]⟩ : ByteArray).size ≤ 9223372036854775807))
                      · intro g0
                        exact absurd g0 ft
                      · cases h12 : tb (decide (((ref16_Text_ai3b_e3 x0 x1 x2) ++ (⟨#[32]⟩ : ByteArray)).size + (ref16_Mode_ai3b_r0_0 x0 x1 x2 x3).size ≤ 9223372036854775807))
                        · intro g0
                          exact absurd g0 ft
                        · intro g0
                          exact w30 [.c (ref16_Mode_ai3b_t0 x0 x1 x2 x3 (tbE h1)), .b (tbE h2), .b (tbE h3), .c (ref16_channels_i_t0 x0 (tbE h4)), .c (ref16_channels_i_t0 x1 (tbE h5)), .o 27 (fun _ => o_addstr (x := (⟨#[105, 110, 32]⟩ : ByteArray)) (y := (ref16_channels_i_r0_0 x0)) (tbE h6)), .o 28 (fun _ => o_addstr (x := (ref16_Text_ai3b_e0 x0)) (y := (⟨#[32, 108, 97, 116, 99, 104, 101, 100, 32]⟩ : ByteArray)) (tbE h7)), .o 30 (fun _ => o_addstr (x := (ref16_Text_ai3b_e1 x0)) (y := (ref16_channels_i_r0_0 x1)) (tbE h8)), .o 31 (fun _ => o_addstr (x := ((ref16_Text_ai3b_e1 x0) ++ (ref16_channels_i_r0_0 x1))) (y := (⟨#[32, 115, 117, 115, 112, 101, 99, 116, 32]⟩ : ByteArray)) (tbE h9)), .o 33 (fun _ => o_addstr (x := (ref16_Text_ai3b_e2 x0 x1)) (y := (⟨#[UInt8.ofNat ((IntKind.u8.wrap (wi (48 + x2))) : Int).toNat]⟩ : ByteArray)) (tbE h10)), .o 34 (fun _ => o_addstr (x := (ref16_Text_ai3b_e3 x0 x1 x2)) (y := (⟨#[32]⟩ : ByteArray)) (tbE h11)), .o 36 (fun _ => o_addstr (x := ((ref16_Text_ai3b_e3 x0 x1 x2) ++ (⟨#[32]⟩ : ByteArray))) (y := (ref16_Mode_ai3b_r0_0 x0 x1 x2 x3)) (tbE h12))] (by kernel_rfl)
    · intro g0
      exact w30 [.c (ref16_Mode_ai3b_t0 x0 x1 x2 x3 (tbE h1)), .b (tbE h2)] (by kernel_rfl)
end Go.Proofs.YtkipngagfiaddaaDoor.Den

namespace Go.Proofs.YtkipngagfiaddaaDoor.Den
open Go Go.Proofs
set_option maxRecDepth 100000
set_option maxHeartbeats 4000000
set_option linter.unusedVariables false
set_option linter.unusedSimpArgs false
def strconv_Itoa_i_c0 (x0 : Int) : Bool := (decide (0 ≤ x0) && decide ((x0 : Int).toNat < 100))
theorem strconv_Itoa_i_t0 (x0 : Int) (h : strconv_Itoa_i_c0 x0 = true) : cl E0 63 [(V.d (.int .i64 x0))] [] = some ([(V.d (.str ⟨(digs (x0 : Int).toNat).toArray⟩))], []) := x_itoa (l := extT) (f := 63) (n := x0) ⟨⟨rfl, by kernel_rfl⟩, by decide⟩ h
end Go.Proofs.YtkipngagfiaddaaDoor.Den

namespace Go.Proofs.YtkipngagfiaddaaDoor.Den
open Go Go.Proofs
set_option maxRecDepth 100000
set_option maxHeartbeats 4000000
set_option linter.unusedVariables false
set_option linter.unusedSimpArgs false
def math_bits_OnesCount64_i_e0 (x0 : Int) : Int := IntKind.u64.wrap ((andI .u64 (shrI .u64 x0 1) 6148914691236517205) + (andI .u64 x0 6148914691236517205))
def math_bits_OnesCount64_i_e1 (x0 : Int) : Int := andI .u64 (shrI .u64 (math_bits_OnesCount64_i_e0 x0) 2) 3689348814741910323
def math_bits_OnesCount64_i_e2 (x0 : Int) : Int := andI .u64 (math_bits_OnesCount64_i_e0 x0) 3689348814741910323
def math_bits_OnesCount64_i_e3 (x0 : Int) : Int := IntKind.u64.wrap ((math_bits_OnesCount64_i_e1 x0) + (math_bits_OnesCount64_i_e2 x0))
def math_bits_OnesCount64_i_e4 (x0 : Int) : Int := IntKind.u64.wrap ((shrI .u64 (math_bits_OnesCount64_i_e3 x0) 4) + (math_bits_OnesCount64_i_e3 x0))
def math_bits_OnesCount64_i_e5 (x0 : Int) : Int := andI .u64 (math_bits_OnesCount64_i_e4 x0) 1085102592571150095
def math_bits_OnesCount64_i_e6 (x0 : Int) : Int := IntKind.u64.wrap ((math_bits_OnesCount64_i_e5 x0) + (shrI .u64 (math_bits_OnesCount64_i_e5 x0) 8))
def math_bits_OnesCount64_i_e7 (x0 : Int) : Int := IntKind.u64.wrap ((math_bits_OnesCount64_i_e6 x0) + (shrI .u64 (math_bits_OnesCount64_i_e6 x0) 16))
def math_bits_OnesCount64_i_e8 (x0 : Int) : Int := IntKind.u64.wrap ((math_bits_OnesCount64_i_e7 x0) + (shrI .u64 (math_bits_OnesCount64_i_e7 x0) 32))
theorem math_bits_OnesCount64_i_t0 (x0 : Int) : cl E0 85 [(V.d (.int .u64 x0))] [] = some ([(V.d (.int .i64 (andI .i64 (wi ((math_bits_OnesCount64_i_e8 x0))) 127)))], []) := by
  exact w85 [.o 4 (fun _ => o_shr (k := .u64) (k2 := .u64) (x := x0) (y := 1) rfl), .o 10 (fun _ => o_shr (k := .u64) (k2 := .u64) (x := (math_bits_OnesCount64_i_e0 x0)) (y := 2) rfl), .o 16 (fun _ => o_shr (k := .u64) (k2 := .u64) (x := (math_bits_OnesCount64_i_e3 x0)) (y := 4) rfl), .o 22 (fun _ => o_shr (k := .u64) (k2 := .u64) (x := (math_bits_OnesCount64_i_e5 x0)) (y := 8) rfl), .o 26 (fun _ => o_shr (k := .u64) (k2 := .u64) (x := (math_bits_OnesCount64_i_e6 x0)) (y := 16) rfl), .o 30 (fun _ => o_shr (k := .u64) (k2 := .u64) (x := (math_bits_OnesCount64_i_e7 x0)) (y := 32) rfl)] (by kernel_rfl)
theorem math_bits_OnesCount_i_t0 (x0 : Int) : cl E0 68 [(V.d (.int .u64 x0))] [] = some ([(V.d (.int .i64 (andI .i64 (wi ((math_bits_OnesCount64_i_e8 x0))) 127)))], []) := by
  exact w68 [.c (math_bits_OnesCount64_i_t0 x0)] (by kernel_rfl)
end Go.Proofs.YtkipngagfiaddaaDoor.Den

namespace Go.Proofs.YtkipngagfiaddaaDoor.Den
open Go Go.Proofs
set_option maxRecDepth 100000
set_option maxHeartbeats 4000000
set_option linter.unusedVariables false
set_option linter.unusedSimpArgs false
def fix_right_i_r0_0 (x0 : Int) : Bool := (bif tb (decide (0 ≤ x0)) then (decide (x0 < 65536)) else false)
theorem fix_right_i_t0 (x0 : Int) : cl E0 67 [(V.d (.int .i64 x0))] [] = some ([(V.d (.bool (fix_right_i_r0_0 x0)))], []) := by
  unfold fix_right_i_r0_0
  cases h1 : tb (decide (0 ≤ x0))
  · exact w67 [.b (tbE h1)] (by kernel_rfl)
  · exact w67 [.b (tbE h1)] (by kernel_rfl)
def fix_Has_ii_r0_0 (x0 : Int) (x1 : Int) : Bool := (bif tb (fix_right_i_r0_0 x0) then (bif tb (decide (0 ≤ x1)) then (bif tb (decide (x1 < 16)) then (((andI .i64 (shrI .i64 x0 x1) 1) : Int) == 1) else false) else false) else false)
theorem fix_Has_ii_t0 (x0 : Int) (x1 : Int) : cl E0 33 [(V.d (.int .i64 x0)), (V.d (.int .i64 x1))] [] = some ([(V.d (.bool (fix_Has_ii_r0_0 x0 x1)))], []) := by
  unfold fix_Has_ii_r0_0
  cases h1 : tb (fix_right_i_r0_0 x0)
  · exact w33 [.c (fix_right_i_t0 x0), .b (tbE h1)] (by kernel_rfl)
  · cases h2 : tb (decide (0 ≤ x1))
    · exact w33 [.c (fix_right_i_t0 x0), .b (tbE h1), .b (tbE h2)] (by kernel_rfl)
    · cases h3 : tb (decide (x1 < 16))
      · exact w33 [.c (fix_right_i_t0 x0), .b (tbE h1), .b (tbE h2), .b (tbE h3)] (by kernel_rfl)
      · exact w33 [.c (fix_right_i_t0 x0), .b (tbE h1), .b (tbE h2), .b (tbE h3), .o 18 (fun _ => o_shr (k := .i64) (k2 := .i64) (x := x0) (y := x1) (tbE h2))] (by kernel_rfl)
def fix_Count_i_r0_0 (x0 : Int) : Int := (bif tb (fix_right_i_r0_0 x0) then (andI .i64 (wi ((math_bits_OnesCount64_i_e8 (IntKind.u64.wrap (x0))))) 127) else 0)
theorem fix_Count_i_t0 (x0 : Int) : cl E0 32 [(V.d (.int .i64 x0))] [] = some ([(V.d (.int .i64 (fix_Count_i_r0_0 x0)))], []) := by
  unfold fix_Count_i_r0_0
  cases h1 : tb (fix_right_i_r0_0 x0)
  · exact w32 [.c (fix_right_i_t0 x0), .b (notF (tbE h1))] (by kernel_rfl)
  · exact w32 [.c (fix_right_i_t0 x0), .b (notT (tbE h1)), .c (math_bits_OnesCount_i_t0 (IntKind.u64.wrap (x0)))] (by kernel_rfl)
end Go.Proofs.YtkipngagfiaddaaDoor.Den

namespace Go.Proofs.YtkipngagfiaddaaDoor.Den
open Go Go.Proofs
set_option maxRecDepth 100000
set_option maxHeartbeats 4000000
set_option linter.unusedVariables false
set_option linter.unusedSimpArgs false
def status_Right_ai3b_S0_r0_0 (x0 : Int) (x2 : Int) : Bool := (bif tb ((x2 : Int) == (-1)) then true else (bif tb (decide (0 ≤ x2)) then (bif tb (decide (x2 < 4)) then (fix_Has_ii_r0_0 x0 x2) else false) else false))
theorem status_Right_ai3b_S0_t0 (x0 : Int) (x1 : Int) (x2 : Int) (x3 : Bool) (x4 : Bool) : segG (runC E0 (cl E0) S25_0) [1] [] [1, 3] 1 ([(V.ptr 0 1 0 0)], [(Blk.flat 42 4 [[(.int .i64 x0), (.int .i64 x1), (.int .i64 x2), (.bool x3)]] x4)]) = some (.normal, ([(V.ptr 0 1 0 0), (V.d (.bool (status_Right_ai3b_S0_r0_0 x0 x2)))], [(Blk.flat 42 4 [[(.int .i64 x0), (.int .i64 x1), (.int .i64 x2), (.bool x3)]] x4)])) := by
  unfold status_Right_ai3b_S0_r0_0
  cases h1 : tb ((x2 : Int) == (-1))
  · cases h2 : tb (decide (0 ≤ x2))
    · exact seg_walk [.b (tbE h1), .b (tbE h2)] (by kernel_rfl)
    · cases h3 : tb (decide (x2 < 4))
      · exact seg_walk [.b (tbE h1), .b (tbE h2), .b (tbE h3)] (by kernel_rfl)
      · exact seg_walk [.b (tbE h1), .b (tbE h2), .b (tbE h3), .c (fix_Has_ii_t0 x0 x2)] (by kernel_rfl)
  · exact seg_walk [.b (tbE h1)] (by kernel_rfl)
def status_masked_i_r0_0 (x0 : Int) : Bool := (bif tb (decide (0 ≤ x0)) then (decide (x0 ≤ 15)) else false)
theorem status_masked_i_t0 (x0 : Int) : cl E0 60 [(V.d (.int .i64 x0))] [] = some ([(V.d (.bool (status_masked_i_r0_0 x0)))], []) := by
  unfold status_masked_i_r0_0
  cases h1 : tb (decide (0 ≤ x0))
  · exact w60 [.b (tbE h1)] (by kernel_rfl)
  · exact w60 [.b (tbE h1)] (by kernel_rfl)
def status_Right_ai3b_S1_r0_0 (x0 : Int) (x1 : Int) (x3 : Bool) (x5 : Bool) : Bool := (bif tb (status_masked_i_r0_0 x0) then (bif tb (status_masked_i_r0_0 x1) then (bif tb (false != (x3 == ((x0 : Int) == 0))) then x5 else false) else false) else false)
theorem status_Right_ai3b_S1_t0 (x0 : Int) (x1 : Int) (x2 : Int) (x3 : Bool) (x4 : Bool) (x5 : Bool) : segG (runC E0 (cl E0) S25_1) [1, 3] [] [2] 1 ([(V.ptr 0 1 0 0), (V.d (.bool x5))], [(Blk.flat 42 4 [[(.int .i64 x0), (.int .i64 x1), (.int .i64 x2), (.bool x3)]] x4)]) = some (.normal, ([(V.d (.bool (status_Right_ai3b_S1_r0_0 x0 x1 x3 x5)))], [(Blk.flat 42 4 [[(.int .i64 x0), (.int .i64 x1), (.int .i64 x2), (.bool x3)]] x4)])) := by
  unfold status_Right_ai3b_S1_r0_0
  cases h1 : tb (status_masked_i_r0_0 x0)
  · exact seg_walk [.c (status_masked_i_t0 x0), .b (tbE h1)] (by kernel_rfl)
  · cases h2 : tb (status_masked_i_r0_0 x1)
    · exact seg_walk [.c (status_masked_i_t0 x0), .b (tbE h1), .c (status_masked_i_t0 x1), .b (tbE h2)] (by kernel_rfl)
    · cases h3 : tb (false != (x3 == ((x0 : Int) == 0)))
      · exact seg_walk [.c (status_masked_i_t0 x0), .b (tbE h1), .c (status_masked_i_t0 x1), .b (tbE h2), .b (tbE h3)] (by kernel_rfl)
      · exact seg_walk [.c (status_masked_i_t0 x0), .b (tbE h1), .c (status_masked_i_t0 x1), .b (tbE h2), .b (tbE h3)] (by kernel_rfl)
theorem status_Right_ai3b_t0 (x0 : Int) (x1 : Int) (x2 : Int) (x3 : Bool) : cl E0 25 [(V.agg [(V.d (.int .i64 x0)), (V.d (.int .i64 x1)), (V.d (.int .i64 x2)), (V.d (.bool x3))])] [] = some ([(V.d (.bool (status_Right_ai3b_S1_r0_0 x0 x1 x3 (status_Right_ai3b_S0_r0_0 x0 x2))))], []) := by
  exact w25 [.s (status_Right_ai3b_S0_t0 x0 x1 x2 x3 false), .s (status_Right_ai3b_S1_t0 x0 x1 x2 x3 false (status_Right_ai3b_S0_r0_0 x0 x2))] (by kernel_rfl)
def status_Word_ai3b_e0 (x0 : Int) (x1 : Int) : Int := orI .i64 (orI .i64 (orI .i64 x0 (shlI .i64 x1 4)) 1792) 2048
def status_Word_ai3b_e1 (x0 : Int) (x1 : Int) (x2 : Int) : Int := orI .i64 (orI .i64 (orI .i64 x0 (shlI .i64 x1 4)) (shlI .i64 x2 8)) 2048
def status_Word_ai3b_r0_0 (x0 : Int) (x1 : Int) (x2 : Int) (x3 : Bool) : Int := (bif tb (status_Right_ai3b_S1_r0_0 x0 x1 x3 (status_Right_ai3b_S0_r0_0 x0 x2)) then (bif tb (decide (x2 < 0)) then (bif tb (x3) then (status_Word_ai3b_e0 x0 x1) else (orI .i64 (orI .i64 x0 (shlI .i64 x1 4)) 1792)) else (bif tb (x3) then (status_Word_ai3b_e1 x0 x1 x2) else (orI .i64 (orI .i64 x0 (shlI .i64 x1 4)) (shlI .i64 x2 8)))) else 0)
def status_Word_ai3b_r0_1 (x0 : Int) (x1 : Int) (x2 : Int) (x3 : Bool) : Int := (bif tb (status_Right_ai3b_S1_r0_0 x0 x1 x3 (status_Right_ai3b_S0_r0_0 x0 x2)) then 0 else 1)
theorem status_Word_ai3b_t0 (x0 : Int) (x1 : Int) (x2 : Int) (x3 : Bool) : cl E0 20 [(V.agg [(V.d (.int .i64 x0)), (V.d (.int .i64 x1)), (V.d (.int .i64 x2)), (V.d (.bool x3))])] [] = some ([(V.d (.int .i64 (status_Word_ai3b_r0_0 x0 x1 x2 x3))), (V.d (.int .i64 (status_Word_ai3b_r0_1 x0 x1 x2 x3)))], []) := by
  unfold status_Word_ai3b_r0_0 status_Word_ai3b_r0_1
  cases h1 : tb (status_Right_ai3b_S1_r0_0 x0 x1 x3 (status_Right_ai3b_S0_r0_0 x0 x2))
  · exact w20 [.c (status_Right_ai3b_t0 x0 x1 x2 x3), .b (notF (tbE h1))] (by kernel_rfl)
  · cases h2 : tb (decide (x2 < 0))
    · cases h3 : tb (x3)
      · exact w20 [.c (status_Right_ai3b_t0 x0 x1 x2 x3), .b (notT (tbE h1)), .b (tbE h2), .o 16 (fun _ => o_shl (k := .i64) (k2 := .u64) (x := x1) (y := 4) rfl), .o 19 (fun _ => o_shl (k := .i64) (k2 := .u64) (x := x2) (y := 8) rfl), .b (tbE h3)] (by kernel_rfl)
      · exact w20 [.c (status_Right_ai3b_t0 x0 x1 x2 x3), .b (notT (tbE h1)), .b (tbE h2), .o 16 (fun _ => o_shl (k := .i64) (k2 := .u64) (x := x1) (y := 4) rfl), .o 19 (fun _ => o_shl (k := .i64) (k2 := .u64) (x := x2) (y := 8) rfl), .b (tbE h3)] (by kernel_rfl)
    · cases h3 : tb (x3)
      · exact w20 [.c (status_Right_ai3b_t0 x0 x1 x2 x3), .b (notT (tbE h1)), .b (tbE h2), .o 16 (fun _ => o_shl (k := .i64) (k2 := .u64) (x := x1) (y := 4) rfl), .b (tbE h3)] (by kernel_rfl)
      · exact w20 [.c (status_Right_ai3b_t0 x0 x1 x2 x3), .b (notT (tbE h1)), .b (tbE h2), .o 16 (fun _ => o_shl (k := .i64) (k2 := .u64) (x := x1) (y := 4) rfl), .b (tbE h3)] (by kernel_rfl)
def status_Parse_i_r0_0 (x0 : Int) : Int := (bif tb (decide (x0 < 0)) then 0 else (bif tb (decide (4096 ≤ x0)) then 0 else (bif tb (((andI .i64 (shrI .i64 x0 8) 7) : Int) == 7) then (bif tb (status_Right_ai3b_S1_r0_0 (andI .i64 x0 15) (andI .i64 (shrI .i64 x0 4) 15) (fix_Has_ii_r0_0 x0 11) (status_Right_ai3b_S0_r0_0 (andI .i64 x0 15) (-1))) then (andI .i64 x0 15) else 0) else (bif tb (status_Right_ai3b_S1_r0_0 (andI .i64 x0 15) (andI .i64 (shrI .i64 x0 4) 15) (fix_Has_ii_r0_0 x0 11) (status_Right_ai3b_S0_r0_0 (andI .i64 x0 15) (andI .i64 (shrI .i64 x0 8) 7))) then (andI .i64 x0 15) else 0))))
def status_Parse_i_r0_1 (x0 : Int) : Int := (bif tb (decide (x0 < 0)) then 0 else (bif tb (decide (4096 ≤ x0)) then 0 else (bif tb (((andI .i64 (shrI .i64 x0 8) 7) : Int) == 7) then (bif tb (status_Right_ai3b_S1_r0_0 (andI .i64 x0 15) (andI .i64 (shrI .i64 x0 4) 15) (fix_Has_ii_r0_0 x0 11) (status_Right_ai3b_S0_r0_0 (andI .i64 x0 15) (-1))) then (andI .i64 (shrI .i64 x0 4) 15) else 0) else (bif tb (status_Right_ai3b_S1_r0_0 (andI .i64 x0 15) (andI .i64 (shrI .i64 x0 4) 15) (fix_Has_ii_r0_0 x0 11) (status_Right_ai3b_S0_r0_0 (andI .i64 x0 15) (andI .i64 (shrI .i64 x0 8) 7))) then (andI .i64 (shrI .i64 x0 4) 15) else 0))))
def status_Parse_i_r0_2 (x0 : Int) : Int := (bif tb (decide (x0 < 0)) then 0 else (bif tb (decide (4096 ≤ x0)) then 0 else (bif tb (((andI .i64 (shrI .i64 x0 8) 7) : Int) == 7) then (bif tb (status_Right_ai3b_S1_r0_0 (andI .i64 x0 15) (andI .i64 (shrI .i64 x0 4) 15) (fix_Has_ii_r0_0 x0 11) (status_Right_ai3b_S0_r0_0 (andI .i64 x0 15) (-1))) then (-1) else 0) else (bif tb (status_Right_ai3b_S1_r0_0 (andI .i64 x0 15) (andI .i64 (shrI .i64 x0 4) 15) (fix_Has_ii_r0_0 x0 11) (status_Right_ai3b_S0_r0_0 (andI .i64 x0 15) (andI .i64 (shrI .i64 x0 8) 7))) then (andI .i64 (shrI .i64 x0 8) 7) else 0))))
def status_Parse_i_r0_3 (x0 : Int) : Bool := (bif tb (decide (x0 < 0)) then false else (bif tb (decide (4096 ≤ x0)) then false else (bif tb (((andI .i64 (shrI .i64 x0 8) 7) : Int) == 7) then (bif tb (status_Right_ai3b_S1_r0_0 (andI .i64 x0 15) (andI .i64 (shrI .i64 x0 4) 15) (fix_Has_ii_r0_0 x0 11) (status_Right_ai3b_S0_r0_0 (andI .i64 x0 15) (-1))) then (fix_Has_ii_r0_0 x0 11) else false) else (bif tb (status_Right_ai3b_S1_r0_0 (andI .i64 x0 15) (andI .i64 (shrI .i64 x0 4) 15) (fix_Has_ii_r0_0 x0 11) (status_Right_ai3b_S0_r0_0 (andI .i64 x0 15) (andI .i64 (shrI .i64 x0 8) 7))) then (fix_Has_ii_r0_0 x0 11) else false))))
def status_Parse_i_r0_4 (x0 : Int) : Int := (bif tb (decide (x0 < 0)) then 3 else (bif tb (decide (4096 ≤ x0)) then 3 else (bif tb (((andI .i64 (shrI .i64 x0 8) 7) : Int) == 7) then (bif tb (status_Right_ai3b_S1_r0_0 (andI .i64 x0 15) (andI .i64 (shrI .i64 x0 4) 15) (fix_Has_ii_r0_0 x0 11) (status_Right_ai3b_S0_r0_0 (andI .i64 x0 15) (-1))) then 0 else 3) else (bif tb (status_Right_ai3b_S1_r0_0 (andI .i64 x0 15) (andI .i64 (shrI .i64 x0 4) 15) (fix_Has_ii_r0_0 x0 11) (status_Right_ai3b_S0_r0_0 (andI .i64 x0 15) (andI .i64 (shrI .i64 x0 8) 7))) then 0 else 3))))
theorem status_Parse_i_t0 (x0 : Int) : cl E0 22 [(V.d (.int .i64 x0))] [] = some ([(V.agg [(V.d (.int .i64 (status_Parse_i_r0_0 x0))), (V.d (.int .i64 (status_Parse_i_r0_1 x0))), (V.d (.int .i64 (status_Parse_i_r0_2 x0))), (V.d (.bool (status_Parse_i_r0_3 x0)))]), (V.d (.int .i64 (status_Parse_i_r0_4 x0)))], []) := by
  unfold status_Parse_i_r0_0 status_Parse_i_r0_1 status_Parse_i_r0_2 status_Parse_i_r0_3 status_Parse_i_r0_4
  cases h1 : tb (decide (x0 < 0))
  · cases h2 : tb (decide (4096 ≤ x0))
    · cases h3 : tb (((andI .i64 (shrI .i64 x0 8) 7) : Int) == 7)
      · cases h4 : tb (status_Right_ai3b_S1_r0_0 (andI .i64 x0 15) (andI .i64 (shrI .i64 x0 4) 15) (fix_Has_ii_r0_0 x0 11) (status_Right_ai3b_S0_r0_0 (andI .i64 x0 15) (andI .i64 (shrI .i64 x0 8) 7)))
        · exact w22 [.b (tbE h1), .b (tbE h2), .o 15 (fun _ => o_shr (k := .i64) (k2 := .u64) (x := x0) (y := 4) rfl), .o 18 (fun _ => o_shr (k := .i64) (k2 := .u64) (x := x0) (y := 8) rfl), .c (fix_Has_ii_t0 x0 11), .b (tbE h3), .c (status_Right_ai3b_t0 (andI .i64 x0 15) (andI .i64 (shrI .i64 x0 4) 15) (andI .i64 (shrI .i64 x0 8) 7) (fix_Has_ii_r0_0 x0 11)), .b (notF (tbE h4))] (by kernel_rfl)
        · exact w22 [.b (tbE h1), .b (tbE h2), .o 15 (fun _ => o_shr (k := .i64) (k2 := .u64) (x := x0) (y := 4) rfl), .o 18 (fun _ => o_shr (k := .i64) (k2 := .u64) (x := x0) (y := 8) rfl), .c (fix_Has_ii_t0 x0 11), .b (tbE h3), .c (status_Right_ai3b_t0 (andI .i64 x0 15) (andI .i64 (shrI .i64 x0 4) 15) (andI .i64 (shrI .i64 x0 8) 7) (fix_Has_ii_r0_0 x0 11)), .b (notT (tbE h4))] (by kernel_rfl)
      · cases h4 : tb (status_Right_ai3b_S1_r0_0 (andI .i64 x0 15) (andI .i64 (shrI .i64 x0 4) 15) (fix_Has_ii_r0_0 x0 11) (status_Right_ai3b_S0_r0_0 (andI .i64 x0 15) (-1)))
        · exact w22 [.b (tbE h1), .b (tbE h2), .o 15 (fun _ => o_shr (k := .i64) (k2 := .u64) (x := x0) (y := 4) rfl), .o 18 (fun _ => o_shr (k := .i64) (k2 := .u64) (x := x0) (y := 8) rfl), .c (fix_Has_ii_t0 x0 11), .b (tbE h3), .c (status_Right_ai3b_t0 (andI .i64 x0 15) (andI .i64 (shrI .i64 x0 4) 15) (-1) (fix_Has_ii_r0_0 x0 11)), .b (notF (tbE h4))] (by kernel_rfl)
        · exact w22 [.b (tbE h1), .b (tbE h2), .o 15 (fun _ => o_shr (k := .i64) (k2 := .u64) (x := x0) (y := 4) rfl), .o 18 (fun _ => o_shr (k := .i64) (k2 := .u64) (x := x0) (y := 8) rfl), .c (fix_Has_ii_t0 x0 11), .b (tbE h3), .c (status_Right_ai3b_t0 (andI .i64 x0 15) (andI .i64 (shrI .i64 x0 4) 15) (-1) (fix_Has_ii_r0_0 x0 11)), .b (notT (tbE h4))] (by kernel_rfl)
    · exact w22 [.b (tbE h1), .b (tbE h2)] (by kernel_rfl)
  · exact w22 [.b (tbE h1)] (by kernel_rfl)
def status_Mode_ai3b_e0 (x0 : Int) : ByteArray := gt ([⟨#[104, 111, 108, 100]⟩, ⟨#[115, 105, 110, 103, 108, 101]⟩, ⟨#[100, 117, 112, 108, 101, 120]⟩, ⟨#[116, 114, 105, 112, 108, 101]⟩, ⟨#[113, 117, 97, 100]⟩] : List ByteArray) (fix_Count_i_r0_0 x0)
def status_Mode_ai3b_c0 (x0 : Int) (x1 : Int) (x2 : Int) (x3 : Bool) : Bool := (bif tb (status_Right_ai3b_S1_r0_0 x0 x1 x3 (status_Right_ai3b_S0_r0_0 x0 x2)) then (bif tb (inb 5 (fix_Count_i_r0_0 x0)) then true else false) else true)
def status_Mode_ai3b_r0_0 (x0 : Int) (x1 : Int) (x2 : Int) (x3 : Bool) : ByteArray := (bif tb (status_Right_ai3b_S1_r0_0 x0 x1 x3 (status_Right_ai3b_S0_r0_0 x0 x2)) then (status_Mode_ai3b_e0 x0) else ⟨#[]⟩)
theorem status_Mode_ai3b_t0 (x0 : Int) (x1 : Int) (x2 : Int) (x3 : Bool) : status_Mode_ai3b_c0 x0 x1 x2 x3 = true → cl E0 27 [(V.agg [(V.d (.int .i64 x0)), (V.d (.int .i64 x1)), (V.d (.int .i64 x2)), (V.d (.bool x3))])] [] = some ([(V.d (.str (status_Mode_ai3b_r0_0 x0 x1 x2 x3)))], []) := by
  unfold status_Mode_ai3b_c0 status_Mode_ai3b_r0_0
  cases h1 : tb (status_Right_ai3b_S1_r0_0 x0 x1 x3 (status_Right_ai3b_S0_r0_0 x0 x2))
  · intro g0
    exact w27 [.c (status_Right_ai3b_t0 x0 x1 x2 x3), .b (notF (tbE h1))] (by kernel_rfl)
  · cases h2 : tb (inb 5 (fix_Count_i_r0_0 x0))
    · intro g0
      exact absurd g0 ft
    · intro g0
      exact w27 [.c (status_Right_ai3b_t0 x0 x1 x2 x3), .b (notT (tbE h1)), .c (fix_Count_i_t0 x0), .o 10 (fun _ => o_idx_arrs (ss := ([⟨#[104, 111, 108, 100]⟩, ⟨#[115, 105, 110, 103, 108, 101]⟩, ⟨#[100, 117, 112, 108, 101, 120]⟩, ⟨#[116, 114, 105, 112, 108, 101]⟩, ⟨#[113, 117, 97, 100]⟩] : List ByteArray)) (n := 5) (k := .i64) (i := (fix_Count_i_r0_0 x0)) rfl (tbE h2))] (by kernel_rfl)
structure status_channels_i_L0_s0 where
  c1 : ByteArray
  c2 : Int
  deriving Inhabited
def status_channels_i_L0_enc (x0 : Int) (x1 : ByteArray) (x2 : Int) (s0 : status_channels_i_L0_s0) : List V × Mem := ([(V.d (.int .i64 x0)), (V.d (.str s0.c1)), (V.d (.int .i64 s0.c2))], [])
def status_channels_i_L0_sel (x0 : Int) (s0 : status_channels_i_L0_s0) : Bool := (bif tb (decide (s0.c2 < 4)) then (bif tb (fix_Has_ii_r0_0 x0 s0.c2) then (bif tb (strconv_Itoa_i_c0 s0.c2) then (bif tb (decide (s0.c1.size + (⟨(digs (s0.c2 : Int).toNat).toArray⟩ : ByteArray).size ≤ 9223372036854775807)) then true else false) else false) else true) else false)
def status_channels_i_L0_nx (x0 : Int) (s0 : status_channels_i_L0_s0) : status_channels_i_L0_s0 := (bif tb (fix_Has_ii_r0_0 x0 s0.c2) then ⟨(s0.c1 ++ (⟨(digs (s0.c2 : Int).toNat).toArray⟩ : ByteArray)), (wi (s0.c2 + 1))⟩ else ⟨s0.c1, (wi (s0.c2 + 1))⟩)
def status_channels_i_L0_ok (x0 : Int) (s0 : status_channels_i_L0_s0) : Bool := (itS (status_channels_i_L0_sel x0) (status_channels_i_L0_nx x0) bound s0).isSome
def status_channels_i_L0_end (x0 : Int) (s0 : status_channels_i_L0_s0) : status_channels_i_L0_s0 := (itS (status_channels_i_L0_sel x0) (status_channels_i_L0_nx x0) bound s0).getD default
theorem status_channels_i_L0_go (x0 : Int) (x1 : ByteArray) (x2 : Int) (s0 : status_channels_i_L0_s0) : status_channels_i_L0_sel x0 s0 = true → (roundG (runC E0 (cl E0) L64_0) [0, 3, 5] [3] 0) (status_channels_i_L0_enc x0 x1 x2 s0) = some (.normal, status_channels_i_L0_enc x0 x1 x2 (status_channels_i_L0_nx x0 s0)) := by
  unfold status_channels_i_L0_sel status_channels_i_L0_nx
  cases h1 : tb (decide (s0.c2 < 4))
  · intro g0
    exact absurd g0 ft
  · cases h2 : tb (fix_Has_ii_r0_0 x0 s0.c2)
    · intro _
      exact round_walk [.b (tbE h1), .c (fix_Has_ii_t0 x0 s0.c2), .b (tbE h2)] (by kernel_rfl)
    · cases h3 : tb (strconv_Itoa_i_c0 s0.c2)
      · intro g0
        exact absurd g0 ft
      · cases h4 : tb (decide (s0.c1.size + (⟨(digs (s0.c2 : Int).toNat).toArray⟩ : ByteArray).size ≤ 9223372036854775807))
        · intro g0
          exact absurd g0 ft
        · intro _
          exact round_walk [.b (tbE h1), .c (fix_Has_ii_t0 x0 s0.c2), .b (tbE h2), .c (strconv_Itoa_i_t0 s0.c2 (tbE h3)), .o 14 (fun _ => o_addstr (x := s0.c1) (y := (⟨(digs (s0.c2 : Int).toNat).toArray⟩ : ByteArray)) (tbE h4))] (by kernel_rfl)
def status_channels_i_L0_c0 (s0 : status_channels_i_L0_s0) : Bool := (bif tb (decide (s0.c2 < 4)) then false else true)
theorem status_channels_i_L0_x0 (x0 : Int) (x1 : ByteArray) (x2 : Int) (s0 : status_channels_i_L0_s0) : status_channels_i_L0_sel x0 s0 = false → status_channels_i_L0_c0 s0 = true → (roundG (runC E0 (cl E0) L64_0) [0, 3, 5] [3] 0) (status_channels_i_L0_enc x0 x1 x2 s0) = some ((.exit 0), ([(V.d (.str s0.c1))], [])) := by
  unfold status_channels_i_L0_sel status_channels_i_L0_c0
  cases h1 : tb (decide (s0.c2 < 4))
  · intro g0 g1
    exact round_walk [.b (tbE h1)] (by kernel_rfl)
  · cases h2 : tb (fix_Has_ii_r0_0 x0 s0.c2)
    · intro g0 g1
      exact absurd g0 tf
    · cases h3 : tb (strconv_Itoa_i_c0 s0.c2)
      · intro g0 g1
        exact absurd g1 ft
      · cases h4 : tb (decide (s0.c1.size + (⟨(digs (s0.c2 : Int).toNat).toArray⟩ : ByteArray).size ≤ 9223372036854775807))
        · intro g0 g1
          exact absurd g1 ft
        · intro g0 g1
          exact absurd g0 tf
theorem status_channels_i_L0_f0_0 (x0 : Int) (x1 : ByteArray) (x2 : Int) (s : status_channels_i_L0_s0) (hok : status_channels_i_L0_ok x0 s = true) (c0 : status_channels_i_L0_c0 (status_channels_i_L0_end x0 s) = true) : loopG (roundG (runC E0 (cl E0) L64_0) [0, 3, 5] [3] 0) bound (status_channels_i_L0_enc x0 x1 x2 s) = some ((.exit 0), ([(V.d (.str ((status_channels_i_L0_end x0 s).c1)))], [])) := by
  have e : itS (status_channels_i_L0_sel x0) (status_channels_i_L0_nx x0) bound s = some (status_channels_i_L0_end x0 s) := itS_get hok
  have f := itS_false e
  exact loop_it (status_channels_i_L0_go x0 x1 x2) bound s _ _ _ e (fun h => by cases h) (status_channels_i_L0_x0 x0 x1 x2 (status_channels_i_L0_end x0 s) f c0)
def status_channels_i_e0 (x0 : Int) : status_channels_i_L0_s0 := status_channels_i_L0_end x0 (⟨⟨#[]⟩, 0⟩ : status_channels_i_L0_s0)
def status_channels_i_c0 (x0 : Int) : Bool := (bif tb (status_channels_i_L0_ok x0 (⟨⟨#[]⟩, 0⟩ : status_channels_i_L0_s0)) then (bif tb (status_channels_i_L0_c0 (status_channels_i_e0 x0)) then true else false) else false)
def status_channels_i_r0_0 (x0 : Int) : ByteArray := (bif tb (((status_channels_i_e0 x0).c1).toList == (⟨#[]⟩ : ByteArray).toList) then ⟨#[45]⟩ else ((status_channels_i_e0 x0).c1))
theorem status_channels_i_t0 (x0 : Int) : status_channels_i_c0 x0 = true → cl E0 64 [(V.d (.int .i64 x0))] [] = some ([(V.d (.str (status_channels_i_r0_0 x0)))], []) := by
  unfold status_channels_i_c0 status_channels_i_r0_0
  cases h1 : tb (status_channels_i_L0_ok x0 (⟨⟨#[]⟩, 0⟩ : status_channels_i_L0_s0))
  · intro g0
    exact absurd g0 ft
  · cases h2 : tb (status_channels_i_L0_c0 (status_channels_i_e0 x0))
    · intro g0
      exact absurd g0 ft
    · cases h3 : tb (((status_channels_i_e0 x0).c1).toList == (⟨#[]⟩ : ByteArray).toList)
      · intro g0
        exact w64 [.l (status_channels_i_L0_f0_0 x0 ⟨#[]⟩ 0 (⟨⟨#[]⟩, 0⟩ : status_channels_i_L0_s0) (tbE h1) (tbE h2)), .b (tbE h3)] (by kernel_rfl)
      · intro g0
        exact w64 [.l (status_channels_i_L0_f0_0 x0 ⟨#[]⟩ 0 (⟨⟨#[]⟩, 0⟩ : status_channels_i_L0_s0) (tbE h1) (tbE h2)), .b (tbE h3)] (by kernel_rfl)
def status_Text_ai3b_e0 (x0 : Int) : ByteArray := (⟨#[105, 110, 32]⟩ : ByteArray) ++ (status_channels_i_r0_0 x0)
def status_Text_ai3b_e1 (x0 : Int) : ByteArray := (status_Text_ai3b_e0 x0) ++ (⟨#[32, 108, 97, 116, 99, 104, 101, 100, 32]⟩ : ByteArray)
def status_Text_ai3b_e2 (x0 : Int) (x1 : Int) : ByteArray := ((status_Text_ai3b_e1 x0) ++ (status_channels_i_r0_0 x1)) ++ (⟨#[32, 115, 117, 115, 112, 101, 99, 116, 32]⟩ : ByteArray)
def status_Text_ai3b_e3 (x0 : Int) (x1 : Int) (x2 : Int) : ByteArray := (status_Text_ai3b_e2 x0 x1) ++ (⟨(digs (x2 : Int).toNat).toArray⟩ : ByteArray)
def status_Text_ai3b_e4 (x0 : Int) (x1 : Int) (x2 : Int) (x3 : Bool) : ByteArray := ((status_Text_ai3b_e3 x0 x1 x2) ++ (⟨#[32]⟩ : ByteArray)) ++ (status_Mode_ai3b_r0_0 x0 x1 x2 x3)
def status_Text_ai3b_e5 (x0 : Int) (x1 : Int) : ByteArray := ((status_Text_ai3b_e2 x0 x1) ++ (⟨#[45]⟩ : ByteArray)) ++ (⟨#[32]⟩ : ByteArray)
def status_Text_ai3b_e6 (x0 : Int) (x1 : Int) (x2 : Int) (x3 : Bool) : ByteArray := (status_Text_ai3b_e5 x0 x1) ++ (status_Mode_ai3b_r0_0 x0 x1 x2 x3)
def status_Text_ai3b_c0 (x0 : Int) (x1 : Int) (x2 : Int) (x3 : Bool) : Bool := (bif tb (status_Right_ai3b_S1_r0_0 x0 x1 x3 (status_Right_ai3b_S0_r0_0 x0 x2)) then (bif tb (decide (0 ≤ x2)) then (bif tb (strconv_Itoa_i_c0 x2) then (bif tb (status_channels_i_c0 x0) then (bif tb (decide ((⟨#[105, 110, 32]⟩ : ByteArray).size + (status_channels_i_r0_0 x0).size ≤ 9223372036854775807)) then (bif tb (decide ((status_Text_ai3b_e0 x0).size + (⟨#[32, 108, 97, 116, 99, 104, 101, 100, 32]⟩ : ByteArray).size ≤ 9223372036854775807)) then (bif tb (status_channels_i_c0 x1) then (bif tb (decide ((status_Text_ai3b_e1 x0).size + (status_channels_i_r0_0 x1).size ≤ 9223372036854775807)) then (bif tb (decide (((status_Text_ai3b_e1 x0) ++ (status_channels_i_r0_0 x1)).size + (⟨#[32, 115, 117, 115, 112, 101, 99, 116, 32]⟩ : ByteArray).size ≤ 9223372036854775807)) then (bif tb (decide ((status_Text_ai3b_e2 x0 x1).size + (⟨(digs (x2 : Int).toNat).toArray⟩ : ByteArray).size ≤ 9223372036854775807)) then (bif tb (decide ((status_Text_ai3b_e3 x0 x1 x2).size + (⟨#[32]⟩ : ByteArray).size ≤ 9223372036854775807)) then (bif tb (status_Mode_ai3b_c0 x0 x1 x2 x3) then (bif tb (decide (((status_Text_ai3b_e3 x0 x1 x2) ++ (⟨#[32]⟩ : ByteArray)).size + (status_Mode_ai3b_r0_0 x0 x1 x2 x3).size ≤ 9223372036854775807)) then true else false) else false) else false) else false) else false) else false) else false) else false) else false) else false) else false) else (bif tb (status_channels_i_c0 x0) then (bif tb (decide ((⟨#[105, 110, 32]⟩ : ByteArray).size + (status_channels_i_r0_0 x0).size ≤ 9223372036854775807)) then (bif tb (decide ((status_Text_ai3b_e0 x0).size + (⟨#[32, 108, 97, 116, 99, 104, 101, 100, 32]⟩ : ByteArray).size ≤ 9223372036854775807)) then (bif tb (status_channels_i_c0 x1) then (bif tb (decide ((status_Text_ai3b_e1 x0).size + (status_channels_i_r0_0 x1).size ≤ 9223372036854775807)) then (bif tb (decide (((status_Text_ai3b_e1 x0) ++ (status_channels_i_r0_0 x1)).size + (⟨#[32, 115, 117, 115, 112, 101, 99, 116, 32]⟩ : ByteArray).size ≤ 9223372036854775807)) then (bif tb (decide ((status_Text_ai3b_e2 x0 x1).size + (⟨#[45]⟩ : ByteArray).size ≤ 9223372036854775807)) then (bif tb (decide (((status_Text_ai3b_e2 x0 x1) ++ (⟨#[45]⟩ : ByteArray)).size + (⟨#[32]⟩ : ByteArray).size ≤ 9223372036854775807)) then (bif tb (status_Mode_ai3b_c0 x0 x1 x2 x3) then (bif tb (decide ((status_Text_ai3b_e5 x0 x1).size + (status_Mode_ai3b_r0_0 x0 x1 x2 x3).size ≤ 9223372036854775807)) then true else false) else false) else false) else false) else false) else false) else false) else false) else false) else false)) else true)
def status_Text_ai3b_r0_0 (x0 : Int) (x1 : Int) (x2 : Int) (x3 : Bool) : ByteArray := (bif tb (status_Right_ai3b_S1_r0_0 x0 x1 x3 (status_Right_ai3b_S0_r0_0 x0 x2)) then (bif tb (decide (0 ≤ x2)) then (status_Text_ai3b_e4 x0 x1 x2 x3) else (status_Text_ai3b_e6 x0 x1 x2 x3)) else ⟨#[]⟩)
theorem status_Text_ai3b_t0 (x0 : Int) (x1 : Int) (x2 : Int) (x3 : Bool) : status_Text_ai3b_c0 x0 x1 x2 x3 = true → cl E0 29 [(V.agg [(V.d (.int .i64 x0)), (V.d (.int .i64 x1)), (V.d (.int .i64 x2)), (V.d (.bool x3))])] [] = some ([(V.d (.str (status_Text_ai3b_r0_0 x0 x1 x2 x3)))], []) := by
  unfold status_Text_ai3b_c0 status_Text_ai3b_r0_0
  cases h1 : tb (status_Right_ai3b_S1_r0_0 x0 x1 x3 (status_Right_ai3b_S0_r0_0 x0 x2))
  · intro g0
    exact w29 [.c (status_Right_ai3b_t0 x0 x1 x2 x3), .b (notF (tbE h1))] (by kernel_rfl)
  · cases h2 : tb (decide (0 ≤ x2))
    · cases h3 : tb (status_channels_i_c0 x0)
      · intro g0
        exact absurd g0 ft
      · cases h4 : tb (decide ((⟨#[105, 110, 32]⟩ : ByteArray).size + (status_channels_i_r0_0 x0).size ≤ 9223372036854775807))
        · intro g0
          exact absurd g0 ft
        · cases h5 : tb (decide ((status_Text_ai3b_e0 x0).size + (⟨#[32, 108, 97, 116, 99, 104, 101, 100, 32]⟩ : ByteArray).size ≤ 9223372036854775807))
          · intro g0
            exact absurd g0 ft
          · cases h6 : tb (status_channels_i_c0 x1)
            · intro g0
              exact absurd g0 ft
            · cases h7 : tb (decide ((status_Text_ai3b_e1 x0).size + (status_channels_i_r0_0 x1).size ≤ 9223372036854775807))
              · intro g0
                exact absurd g0 ft
              · cases h8 : tb (decide (((status_Text_ai3b_e1 x0) ++ (status_channels_i_r0_0 x1)).size + (⟨#[32, 115, 117, 115, 112, 101, 99, 116, 32]⟩ : ByteArray).size ≤ 9223372036854775807))
                · intro g0
                  exact absurd g0 ft
                · cases h9 : tb (decide ((status_Text_ai3b_e2 x0 x1).size + (⟨#[45]⟩ : ByteArray).size ≤ 9223372036854775807))
                  · intro g0
                    exact absurd g0 ft
                  · cases h10 : tb (decide (((status_Text_ai3b_e2 x0 x1) ++ (⟨#[45]⟩ : ByteArray)).size + (⟨#[32]⟩ : ByteArray).size ≤ 9223372036854775807))
                    · intro g0
                      exact absurd g0 ft
                    · cases h11 : tb (status_Mode_ai3b_c0 x0 x1 x2 x3)
                      · intro g0
                        exact absurd g0 ft
                      · cases h12 : tb (decide ((status_Text_ai3b_e5 x0 x1).size + (status_Mode_ai3b_r0_0 x0 x1 x2 x3).size ≤ 9223372036854775807))
                        · intro g0
                          exact absurd g0 ft
                        · intro g0
                          exact w29 [.c (status_Right_ai3b_t0 x0 x1 x2 x3), .b (notT (tbE h1)), .b (tbE h2), .c (status_channels_i_t0 x0 (tbE h3)), .o 16 (fun _ => o_addstr (x := (⟨#[105, 110, 32]⟩ : ByteArray)) (y := (status_channels_i_r0_0 x0)) (tbE h4)), .o 17 (fun _ => o_addstr (x := (status_Text_ai3b_e0 x0)) (y := (⟨#[32, 108, 97, 116, 99, 104, 101, 100, 32]⟩ : ByteArray)) (tbE h5)), .c (status_channels_i_t0 x1 (tbE h6)), .o 21 (fun _ => o_addstr (x := (status_Text_ai3b_e1 x0)) (y := (status_channels_i_r0_0 x1)) (tbE h7)), .o 22 (fun _ => o_addstr (x := ((status_Text_ai3b_e1 x0) ++ (status_channels_i_r0_0 x1))) (y := (⟨#[32, 115, 117, 115, 112, 101, 99, 116, 32]⟩ : ByteArray)) (tbE h8)), .o 24 (fun _ => o_addstr (x := (status_Text_ai3b_e2 x0 x1)) (y := (⟨#[45]⟩ : ByteArray)) (tbE h9)), .o 25 (fun _ => o_addstr (x := ((status_Text_ai3b_e2 x0 x1) ++ (⟨#[45]⟩ : ByteArray))) (y := (⟨#[32]⟩ : ByteArray)) (tbE h10)), .c (status_Mode_ai3b_t0 x0 x1 x2 x3 (tbE h11)), .o 28 (fun _ => o_addstr (x := (status_Text_ai3b_e5 x0 x1)) (y := (status_Mode_ai3b_r0_0 x0 x1 x2 x3)) (tbE h12))] (by kernel_rfl)
    · cases h3 : tb (strconv_Itoa_i_c0 x2)
      · intro g0
        exact absurd g0 ft
      · cases h4 : tb (status_channels_i_c0 x0)
        · intro g0
          exact absurd g0 ft
        · cases h5 : tb (decide ((⟨#[105, 110, 32]⟩ : ByteArray).size + (status_channels_i_r0_0 x0).size ≤ 9223372036854775807))
          · intro g0
            exact absurd g0 ft
          · cases h6 : tb (decide ((status_Text_ai3b_e0 x0).size + (⟨#[32, 108, 97, 116, 99, 104, 101, 100, 32]⟩ : ByteArray).size ≤ 9223372036854775807))
            · intro g0
              exact absurd g0 ft
            · cases h7 : tb (status_channels_i_c0 x1)
              · intro g0
                exact absurd g0 ft
              · cases h8 : tb (decide ((status_Text_ai3b_e1 x0).size + (status_channels_i_r0_0 x1).size ≤ 9223372036854775807))
                · intro g0
                  exact absurd g0 ft
                · cases h9 : tb (decide (((status_Text_ai3b_e1 x0) ++ (status_channels_i_r0_0 x1)).size + (⟨#[32, 115, 117, 115, 112, 101, 99, 116, 32]⟩ : ByteArray).size ≤ 9223372036854775807))
                  · intro g0
                    exact absurd g0 ft
                  · cases h10 : tb (decide ((status_Text_ai3b_e2 x0 x1).size + (⟨(digs (x2 : Int).toNat).toArray⟩ : ByteArray).size ≤ 9223372036854775807))
                    · intro g0
                      exact absurd g0 ft
                    · cases h11 : tb (decide ((status_Text_ai3b_e3 x0 x1 x2).size + (⟨#[32]⟩ : ByteArray).size ≤ 9223372036854775807))
                      · intro g0
                        exact absurd g0 ft
                      · cases h12 : tb (status_Mode_ai3b_c0 x0 x1 x2 x3)
                        · intro g0
                          exact absurd g0 ft
                        · cases h13 : tb (decide (((status_Text_ai3b_e3 x0 x1 x2) ++ (⟨#[32]⟩ : ByteArray)).size + (status_Mode_ai3b_r0_0 x0 x1 x2 x3).size ≤ 9223372036854775807))
                          · intro g0
                            exact absurd g0 ft
                          · intro g0
                            exact w29 [.c (status_Right_ai3b_t0 x0 x1 x2 x3), .b (notT (tbE h1)), .b (tbE h2), .c (strconv_Itoa_i_t0 x2 (tbE h3)), .c (status_channels_i_t0 x0 (tbE h4)), .o 16 (fun _ => o_addstr (x := (⟨#[105, 110, 32]⟩ : ByteArray)) (y := (status_channels_i_r0_0 x0)) (tbE h5)), .o 17 (fun _ => o_addstr (x := (status_Text_ai3b_e0 x0)) (y := (⟨#[32, 108, 97, 116, 99, 104, 101, 100, 32]⟩ : ByteArray)) (tbE h6)), .c (status_channels_i_t0 x1 (tbE h7)), .o 21 (fun _ => o_addstr (x := (status_Text_ai3b_e1 x0)) (y := (status_channels_i_r0_0 x1)) (tbE h8)), .o 22 (fun _ => o_addstr (x := ((status_Text_ai3b_e1 x0) ++ (status_channels_i_r0_0 x1))) (y := (⟨#[32, 115, 117, 115, 112, 101, 99, 116, 32]⟩ : ByteArray)) (tbE h9)), .o 24 (fun _ => o_addstr (x := (status_Text_ai3b_e2 x0 x1)) (y := (⟨(digs (x2 : Int).toNat).toArray⟩ : ByteArray)) (tbE h10)), .o 25 (fun _ => o_addstr (x := (status_Text_ai3b_e3 x0 x1 x2)) (y := (⟨#[32]⟩ : ByteArray)) (tbE h11)), .c (status_Mode_ai3b_t0 x0 x1 x2 x3 (tbE h12)), .o 28 (fun _ => o_addstr (x := ((status_Text_ai3b_e3 x0 x1 x2) ++ (⟨#[32]⟩ : ByteArray))) (y := (status_Mode_ai3b_r0_0 x0 x1 x2 x3)) (tbE h13))] (by kernel_rfl)
end Go.Proofs.YtkipngagfiaddaaDoor.Den

namespace Go.Proofs.YtkipngagfiaddaaDoor.Den
open Go Go.Proofs
set_option maxRecDepth 100000
set_option maxHeartbeats 4000000
set_option linter.unusedVariables false
set_option linter.unusedSimpArgs false
theorem law16_StatusTells_S0_t0 (x0 : Int) (x1 : Int) (x2 : Int) (x3 : Bool) (x4 : Bool) (x5 : Int) : segG (runC E0 (cl E0) S6_0) [1, 2] [] [1, 2, 5, 6] 1 ([(V.d (.int .i64 x5)), (V.ptr 0 1 0 0)], [(Blk.flat 42 4 [[(.int .i64 x0), (.int .i64 x1), (.int .i64 x2), (.bool x3)]] x4)]) = some (.normal, ([(V.d (.int .i64 x5)), (V.ptr 0 1 0 0), (V.d (.int .i64 (status_Word_ai3b_r0_0 x0 x1 x2 x3))), (V.d (.int .i64 (status_Word_ai3b_r0_1 x0 x1 x2 x3)))], [(Blk.flat 42 4 [[(.int .i64 x0), (.int .i64 x1), (.int .i64 x2), (.bool x3)]] x4)])) := by
  exact seg_walk [.c (status_Word_ai3b_t0 x0 x1 x2 x3)] (by kernel_rfl)
def law16_StatusTells_S1_c0 (x0 : Int) (x1 : Int) (x2 : Int) (x3 : Bool) : Bool := (bif tb (ref16_Word_ai3b_c0 x0 x1 x2 x3) then true else false)
theorem law16_StatusTells_S1_t0 (x0 : Int) (x1 : Int) (x2 : Int) (x3 : Bool) (x4 : Bool) (x5 : Int) (x6 : Int) (x7 : Int) : law16_StatusTells_S1_c0 x0 x1 x2 x3 = true → segG (runC E0 (cl E0) S6_1) [1, 2, 5, 6] [] [1, 2, 5, 6, 7, 8] 1 ([(V.d (.int .i64 x5)), (V.ptr 0 1 0 0), (V.d (.int .i64 x6)), (V.d (.int .i64 x7))], [(Blk.flat 42 4 [[(.int .i64 x0), (.int .i64 x1), (.int .i64 x2), (.bool x3)]] x4)]) = some (.normal, ([(V.d (.int .i64 x5)), (V.ptr 0 1 0 0), (V.d (.int .i64 x6)), (V.d (.int .i64 x7)), (V.d (.int .i64 (ref16_Word_ai3b_r0_0 x0 x1 x2 x3))), (V.d (.int .i64 (ref16_Word_ai3b_r0_1 x0 x1 x2 x3)))], [(Blk.flat 42 4 [[(.int .i64 x0), (.int .i64 x1), (.int .i64 x2), (.bool x3)]] x4)])) := by
  unfold law16_StatusTells_S1_c0
  cases h1 : tb (ref16_Word_ai3b_c0 x0 x1 x2 x3)
  · intro g0
    exact absurd g0 ft
  · intro g0
    exact seg_walk [.c (ref16_Word_ai3b_t0 x0 x1 x2 x3 (tbE h1))] (by kernel_rfl)
def law16_StatusTells_S2_e0 (x5 : Int) : Bool := (false != ((((status_Parse_i_r0_0 x5) : Int) == (ref16_Parse_i_r0_0 x5)) && ((((status_Parse_i_r0_1 x5) : Int) == (ref16_Parse_i_r0_1 x5)) && ((((status_Parse_i_r0_2 x5) : Int) == (ref16_Parse_i_r0_2 x5)) && (((status_Parse_i_r0_3 x5) == (ref16_Parse_i_r0_3 x5)) && true)))))
def law16_StatusTells_S2_c0 (x0 : Int) (x1 : Int) (x2 : Int) (x3 : Bool) (x5 : Int) (x6 : Int) (x7 : Int) (x8 : Int) (x9 : Int) : Bool := (bif tb (ref16_Parse_i_c0 x5) then (bif tb ((x6 : Int) == x8) then (bif tb ((x7 : Int) == x9) then (bif tb (law16_StatusTells_S2_e0 x5) then (bif tb (((status_Parse_i_r0_4 x5) : Int) == (ref16_Parse_i_r0_4 x5)) then (bif tb (ref16_Right_ai3b_c0 x0 x1 x2 x3) then (bif tb (false != ((status_Right_ai3b_S1_r0_0 x0 x1 x3 (status_Right_ai3b_S0_r0_0 x0 x2)) == (ref16_Right_ai3b_r0_0 x0 x1 x2 x3))) then (bif tb (status_Mode_ai3b_c0 x0 x1 x2 x3) then (bif tb (ref16_Mode_ai3b_c0 x0 x1 x2 x3) then (bif tb ((status_Mode_ai3b_r0_0 x0 x1 x2 x3).toList == (ref16_Mode_ai3b_r0_0 x0 x1 x2 x3).toList) then (bif tb (status_Text_ai3b_c0 x0 x1 x2 x3) then (bif tb (ref16_Text_ai3b_c0 x0 x1 x2 x3) then true else false) else false) else true) else false) else false) else true) else false) else true) else true) else true) else true) else false)
def law16_StatusTells_S2_r0_0 (x0 : Int) (x1 : Int) (x2 : Int) (x3 : Bool) (x5 : Int) (x6 : Int) (x7 : Int) (x8 : Int) (x9 : Int) : Bool := (bif tb ((x6 : Int) == x8) then (bif tb ((x7 : Int) == x9) then (bif tb (law16_StatusTells_S2_e0 x5) then (bif tb (((status_Parse_i_r0_4 x5) : Int) == (ref16_Parse_i_r0_4 x5)) then (bif tb (false != ((status_Right_ai3b_S1_r0_0 x0 x1 x3 (status_Right_ai3b_S0_r0_0 x0 x2)) == (ref16_Right_ai3b_r0_0 x0 x1 x2 x3))) then (bif tb ((status_Mode_ai3b_r0_0 x0 x1 x2 x3).toList == (ref16_Mode_ai3b_r0_0 x0 x1 x2 x3).toList) then ((status_Text_ai3b_r0_0 x0 x1 x2 x3).toList == (ref16_Text_ai3b_r0_0 x0 x1 x2 x3).toList) else false) else false) else false) else false) else false) else false)
theorem law16_StatusTells_S2_t0 (x0 : Int) (x1 : Int) (x2 : Int) (x3 : Bool) (x4 : Bool) (x5 : Int) (x6 : Int) (x7 : Int) (x8 : Int) (x9 : Int) : law16_StatusTells_S2_c0 x0 x1 x2 x3 x5 x6 x7 x8 x9 = true → segG (runC E0 (cl E0) S6_2) [1, 2, 5, 6, 7, 8] [] [4] 1 ([(V.d (.int .i64 x5)), (V.ptr 0 1 0 0), (V.d (.int .i64 x6)), (V.d (.int .i64 x7)), (V.d (.int .i64 x8)), (V.d (.int .i64 x9))], [(Blk.flat 42 4 [[(.int .i64 x0), (.int .i64 x1), (.int .i64 x2), (.bool x3)]] x4)]) = some (.normal, ([(V.d (.bool (law16_StatusTells_S2_r0_0 x0 x1 x2 x3 x5 x6 x7 x8 x9)))], [(Blk.flat 42 4 [[(.int .i64 x0), (.int .i64 x1), (.int .i64 x2), (.bool x3)]] x4)])) := by
  unfold law16_StatusTells_S2_c0 law16_StatusTells_S2_r0_0
  cases h1 : tb (ref16_Parse_i_c0 x5)
  · intro g0
    exact absurd g0 ft
  · cases h2 : tb ((x6 : Int) == x8)
    · intro g0
      exact seg_walk [.c (status_Parse_i_t0 x5), .c (ref16_Parse_i_t0 x5 (tbE h1)), .c (law16_alive_t0), .k true, .b (tbE h2)] (by kernel_rfl)
    · cases h3 : tb ((x7 : Int) == x9)
      · intro g0
        exact seg_walk [.c (status_Parse_i_t0 x5), .c (ref16_Parse_i_t0 x5 (tbE h1)), .c (law16_alive_t0), .k true, .b (tbE h2), .b (tbE h3)] (by kernel_rfl)
      · cases h4 : tb (law16_StatusTells_S2_e0 x5)
        · intro g0
          exact seg_walk [.c (status_Parse_i_t0 x5), .c (ref16_Parse_i_t0 x5 (tbE h1)), .c (law16_alive_t0), .k true, .b (tbE h2), .b (tbE h3), .b (tbE h4)] (by kernel_rfl)
        · cases h5 : tb (((status_Parse_i_r0_4 x5) : Int) == (ref16_Parse_i_r0_4 x5))
          · intro g0
            exact seg_walk [.c (status_Parse_i_t0 x5), .c (ref16_Parse_i_t0 x5 (tbE h1)), .c (law16_alive_t0), .k true, .b (tbE h2), .b (tbE h3), .b (tbE h4), .b (tbE h5)] (by kernel_rfl)
          · cases h6 : tb (ref16_Right_ai3b_c0 x0 x1 x2 x3)
            · intro g0
              exact absurd g0 ft
            · cases h7 : tb (false != ((status_Right_ai3b_S1_r0_0 x0 x1 x3 (status_Right_ai3b_S0_r0_0 x0 x2)) == (ref16_Right_ai3b_r0_0 x0 x1 x2 x3)))
              · intro g0
                exact seg_walk [.c (status_Parse_i_t0 x5), .c (ref16_Parse_i_t0 x5 (tbE h1)), .c (law16_alive_t0), .k true, .b (tbE h2), .b (tbE h3), .b (tbE h4), .b (tbE h5), .c (status_Right_ai3b_t0 x0 x1 x2 x3), .c (ref16_Right_ai3b_t0 x0 x1 x2 x3 (tbE h6)), .b (tbE h7)] (by kernel_rfl)
              · cases h8 : tb (status_Mode_ai3b_c0 x0 x1 x2 x3)
                · intro g0
                  exact absurd g0 ft
                · cases h9 : tb (ref16_Mode_ai3b_c0 x0 x1 x2 x3)
                  · intro g0
                    exact absurd g0 ft
                  · cases h10 : tb ((status_Mode_ai3b_r0_0 x0 x1 x2 x3).toList == (ref16_Mode_ai3b_r0_0 x0 x1 x2 x3).toList)
                    · intro g0
                      exact seg_walk [.c (status_Parse_i_t0 x5), .c (ref16_Parse_i_t0 x5 (tbE h1)), .c (law16_alive_t0), .k true, .b (tbE h2), .b (tbE h3), .b (tbE h4), .b (tbE h5), .c (status_Right_ai3b_t0 x0 x1 x2 x3), .c (ref16_Right_ai3b_t0 x0 x1 x2 x3 (tbE h6)), .b (tbE h7), .c (status_Mode_ai3b_t0 x0 x1 x2 x3 (tbE h8)), .c (ref16_Mode_ai3b_t0 x0 x1 x2 x3 (tbE h9)), .b (tbE h10)] (by kernel_rfl)
                    · cases h11 : tb (status_Text_ai3b_c0 x0 x1 x2 x3)
                      · intro g0
                        exact absurd g0 ft
                      · cases h12 : tb (ref16_Text_ai3b_c0 x0 x1 x2 x3)
                        · intro g0
                          exact absurd g0 ft
                        · intro g0
                          exact seg_walk [.c (status_Parse_i_t0 x5), .c (ref16_Parse_i_t0 x5 (tbE h1)), .c (law16_alive_t0), .k true, .b (tbE h2), .b (tbE h3), .b (tbE h4), .b (tbE h5), .c (status_Right_ai3b_t0 x0 x1 x2 x3), .c (ref16_Right_ai3b_t0 x0 x1 x2 x3 (tbE h6)), .b (tbE h7), .c (status_Mode_ai3b_t0 x0 x1 x2 x3 (tbE h8)), .c (ref16_Mode_ai3b_t0 x0 x1 x2 x3 (tbE h9)), .b (tbE h10), .c (status_Text_ai3b_t0 x0 x1 x2 x3 (tbE h11)), .c (ref16_Text_ai3b_t0 x0 x1 x2 x3 (tbE h12))] (by kernel_rfl)
def law16_StatusTells_c0 (x0 : Int) (x1 : Int) (x2 : Int) (x3 : Bool) (x4 : Int) : Bool := (bif tb (law16_StatusTells_S1_c0 x0 x1 x2 x3) then (bif tb (law16_StatusTells_S2_c0 x0 x1 x2 x3 x4 (status_Word_ai3b_r0_0 x0 x1 x2 x3) (status_Word_ai3b_r0_1 x0 x1 x2 x3) (ref16_Word_ai3b_r0_0 x0 x1 x2 x3) (ref16_Word_ai3b_r0_1 x0 x1 x2 x3)) then true else false) else false)
theorem law16_StatusTells_t0 (x0 : Int) (x1 : Int) (x2 : Int) (x3 : Bool) (x4 : Int) : law16_StatusTells_c0 x0 x1 x2 x3 x4 = true → cl E0 6 [(V.agg [(V.d (.int .i64 x0)), (V.d (.int .i64 x1)), (V.d (.int .i64 x2)), (V.d (.bool x3))]), (V.d (.int .i64 x4))] [] = some ([(V.d (.bool (law16_StatusTells_S2_r0_0 x0 x1 x2 x3 x4 (status_Word_ai3b_r0_0 x0 x1 x2 x3) (status_Word_ai3b_r0_1 x0 x1 x2 x3) (ref16_Word_ai3b_r0_0 x0 x1 x2 x3) (ref16_Word_ai3b_r0_1 x0 x1 x2 x3))))], []) := by
  unfold law16_StatusTells_c0
  cases h1 : tb (law16_StatusTells_S1_c0 x0 x1 x2 x3)
  · intro g0
    exact absurd g0 ft
  · cases h2 : tb (law16_StatusTells_S2_c0 x0 x1 x2 x3 x4 (status_Word_ai3b_r0_0 x0 x1 x2 x3) (status_Word_ai3b_r0_1 x0 x1 x2 x3) (ref16_Word_ai3b_r0_0 x0 x1 x2 x3) (ref16_Word_ai3b_r0_1 x0 x1 x2 x3))
    · intro g0
      exact absurd g0 ft
    · intro g0
      exact w6 [.s (law16_StatusTells_S0_t0 x0 x1 x2 x3 false x4), .s (law16_StatusTells_S1_t0 x0 x1 x2 x3 false x4 (status_Word_ai3b_r0_0 x0 x1 x2 x3) (status_Word_ai3b_r0_1 x0 x1 x2 x3) (tbE h1)), .s (law16_StatusTells_S2_t0 x0 x1 x2 x3 false x4 (status_Word_ai3b_r0_0 x0 x1 x2 x3) (status_Word_ai3b_r0_1 x0 x1 x2 x3) (ref16_Word_ai3b_r0_0 x0 x1 x2 x3) (ref16_Word_ai3b_r0_1 x0 x1 x2 x3) (tbE h2))] (by kernel_rfl)
end Go.Proofs.YtkipngagfiaddaaDoor.Den

namespace Go.Proofs.YtkipngagfiaddaaDoor.Den
open Go Go.Proofs
set_option linter.unusedVariables false
set_option linter.unusedSimpArgs false
set_option maxRecDepth 100000
theorem all_below {n : Nat} {f : Nat → Bool} (h : (List.range n).all f = true) {k : Nat} (hk : k < n) : f k = true := List.all_eq_true.1 h k (List.mem_range.2 hk)
def chkS (x0 x1 x2 : Int) (x3 : Bool) : Bool :=
  (ref16_Right_ai3b_c0 x0 x1 x2 x3 && (status_Right_ai3b_S1_r0_0 x0 x1 x3 (status_Right_ai3b_S0_r0_0 x0 x2) == ref16_Right_ai3b_r0_0 x0 x1 x2 x3)) &&
  ((ref16_Word_ai3b_c0 x0 x1 x2 x3 && (status_Word_ai3b_r0_0 x0 x1 x2 x3 == ref16_Word_ai3b_r0_0 x0 x1 x2 x3)) && (status_Word_ai3b_r0_1 x0 x1 x2 x3 == ref16_Word_ai3b_r0_1 x0 x1 x2 x3)) &&
  ((status_Mode_ai3b_c0 x0 x1 x2 x3 && ref16_Mode_ai3b_c0 x0 x1 x2 x3) && ((status_Mode_ai3b_r0_0 x0 x1 x2 x3).toList == (ref16_Mode_ai3b_r0_0 x0 x1 x2 x3).toList)) &&
  ((status_Text_ai3b_c0 x0 x1 x2 x3 && ref16_Text_ai3b_c0 x0 x1 x2 x3) && ((status_Text_ai3b_r0_0 x0 x1 x2 x3).toList == (ref16_Text_ai3b_r0_0 x0 x1 x2 x3).toList))
def chkK (k : Nat) : Bool := chkS ((k / 160 : Nat) : Int) ((k / 10 % 16 : Nat) : Int) (((k / 2 % 5 : Nat) : Int) - 1) (k % 2 == 1)
def chkB (a : Nat) : Bool := (List.range 160).all fun k => chkK (160 * a + k)
def chkP (n : Nat) : Bool :=
  ref16_Parse_i_c0 (n : Int) && (status_Parse_i_r0_0 (n : Int) == ref16_Parse_i_r0_0 (n : Int)) && (status_Parse_i_r0_1 (n : Int) == ref16_Parse_i_r0_1 (n : Int)) && (status_Parse_i_r0_2 (n : Int) == ref16_Parse_i_r0_2 (n : Int)) &&
  (status_Parse_i_r0_3 (n : Int) == ref16_Parse_i_r0_3 (n : Int)) && (status_Parse_i_r0_4 (n : Int) == ref16_Parse_i_r0_4 (n : Int))
end Go.Proofs.YtkipngagfiaddaaDoor.Den

namespace Go.Proofs.YtkipngagfiaddaaDoor.Den
open Go Go.Proofs
set_option maxRecDepth 100000
theorem chkB_0 : chkB 0 = true := by kernel_rfl
theorem chkB_1 : chkB 1 = true := by kernel_rfl
theorem chkB_2 : chkB 2 = true := by kernel_rfl
theorem chkB_3 : chkB 3 = true := by kernel_rfl
theorem chkP_all : (List.range 4096).all chkP = true := by kernel_rfl
end Go.Proofs.YtkipngagfiaddaaDoor.Den

namespace Go.Proofs.YtkipngagfiaddaaDoor.Den
open Go Go.Proofs
set_option maxRecDepth 100000
theorem chkB_4 : chkB 4 = true := by kernel_rfl
theorem chkB_5 : chkB 5 = true := by kernel_rfl
theorem chkB_6 : chkB 6 = true := by kernel_rfl
theorem chkB_7 : chkB 7 = true := by kernel_rfl
end Go.Proofs.YtkipngagfiaddaaDoor.Den

namespace Go.Proofs.YtkipngagfiaddaaDoor.Den
open Go Go.Proofs
set_option maxRecDepth 100000
theorem chkB_8 : chkB 8 = true := by kernel_rfl
theorem chkB_9 : chkB 9 = true := by kernel_rfl
theorem chkB_10 : chkB 10 = true := by kernel_rfl
theorem chkB_11 : chkB 11 = true := by kernel_rfl
end Go.Proofs.YtkipngagfiaddaaDoor.Den

namespace Go.Proofs.YtkipngagfiaddaaDoor.Den
open Go Go.Proofs
set_option maxRecDepth 100000
theorem chkB_12 : chkB 12 = true := by kernel_rfl
theorem chkB_13 : chkB 13 = true := by kernel_rfl
theorem chkB_14 : chkB 14 = true := by kernel_rfl
theorem chkB_15 : chkB 15 = true := by kernel_rfl
end Go.Proofs.YtkipngagfiaddaaDoor.Den

namespace Go.Proofs.YtkipngagfiaddaaDoor.Den
open Go Go.Proofs
set_option linter.unusedVariables false
set_option linter.unusedSimpArgs false
set_option maxRecDepth 100000
theorem chkB_all {a : Nat} (h : a < 16) : chkB a = true := by
  rcases (by omega : a = 0 ∨ a = 1 ∨ a = 2 ∨ a = 3 ∨ a = 4 ∨ a = 5 ∨ a = 6 ∨ a = 7 ∨ a = 8 ∨ a = 9 ∨ a = 10 ∨ a = 11 ∨ a = 12 ∨ a = 13 ∨ a = 14 ∨ a = 15) with rfl | rfl | rfl | rfl | rfl | rfl | rfl | rfl | rfl | rfl | rfl | rfl | rfl | rfl | rfl | rfl
  · exact chkB_0
  · exact chkB_1
  · exact chkB_2
  · exact chkB_3
  · exact chkB_4
  · exact chkB_5
  · exact chkB_6
  · exact chkB_7
  · exact chkB_8
  · exact chkB_9
  · exact chkB_10
  · exact chkB_11
  · exact chkB_12
  · exact chkB_13
  · exact chkB_14
  · exact chkB_15
theorem chk_in {x0 x1 x2 : Int} {x3 : Bool} (h0 : 0 ≤ x0 ∧ x0 ≤ 15) (h1 : 0 ≤ x1 ∧ x1 ≤ 15) (h2 : -1 ≤ x2 ∧ x2 ≤ 3) : chkS x0 x1 x2 x3 = true := by
  obtain ⟨b, hb, hb3⟩ : ∃ b : Nat, b < 2 ∧ (b == 1) = x3 := by cases x3 with | false => exact ⟨0, by omega, rfl⟩ | true => exact ⟨1, by omega, rfl⟩
  have h := all_below (chkB_all (a := x0.toNat) (by omega)) (k := x1.toNat * 10 + (x2 + 1).toNat * 2 + b) (by omega)
  rw [show 160 * x0.toNat + (x1.toNat * 10 + (x2 + 1).toNat * 2 + b) = x0.toNat * 160 + x1.toNat * 10 + (x2 + 1).toNat * 2 + b by omega] at h
  unfold chkK at h
  rw [show (x0.toNat * 160 + x1.toNat * 10 + (x2 + 1).toNat * 2 + b) / 160 = x0.toNat by omega, show (x0.toNat * 160 + x1.toNat * 10 + (x2 + 1).toNat * 2 + b) / 10 % 16 = x1.toNat by omega,
    show (x0.toNat * 160 + x1.toNat * 10 + (x2 + 1).toNat * 2 + b) / 2 % 5 = (x2 + 1).toNat by omega, show (x0.toNat * 160 + x1.toNat * 10 + (x2 + 1).toNat * 2 + b) % 2 = b by omega, hb3,
    show ((x0.toNat : Nat) : Int) = x0 by omega, show ((x1.toNat : Nat) : Int) = x1 by omega, show (((x2 + 1).toNat : Nat) : Int) - 1 = x2 by omega] at h
  exact h
theorem right_out {x0 x1 x2 : Int} (x3 : Bool) (h : ¬ ((0 ≤ x0 ∧ x0 ≤ 15) ∧ (0 ≤ x1 ∧ x1 ≤ 15) ∧ (-1 ≤ x2 ∧ x2 ≤ 3))) :
    status_Right_ai3b_S1_r0_0 x0 x1 x3 (status_Right_ai3b_S0_r0_0 x0 x2) = false ∧ ref16_Right_ai3b_c0 x0 x1 x2 x3 = true ∧ ref16_Right_ai3b_r0_0 x0 x1 x2 x3 = false := by
  have hs : ref16_Right_ai3b_S0_r0_0 x0 x1 x2 x3 = true := by
    simp only [ref16_Right_ai3b_S0_r0_0, tb_eq]
    by_cases a1 : x0 < 0
    · simp [a1]
    by_cases a2 : 15 < x0
    · simp [a1, a2]
    by_cases a3 : x1 < 0
    · simp [a1, a2, a3]
    by_cases a4 : 15 < x1
    · simp [a1, a2, a3, a4]
    by_cases a5 : (true != (x3 == (x0 == 0))) = true
    · simp only [a1, a2, a3, a4, a5, decide_false, cond_false, cond_true]
    · by_cases a6 : x2 < -1
      · simp [a1, a2, a3, a4, a6]
      · have a7 : 3 < x2 := by omega
        simp [a1, a2, a3, a4, a6, a7]
  have hm : ∀ x : Int, status_masked_i_r0_0 x = (decide (0 ≤ x) && decide (x ≤ 15)) := fun x => by
    simp only [status_masked_i_r0_0, tb_eq]; cases decide (0 ≤ x) <;> rfl
  have hr : status_Right_ai3b_S1_r0_0 x0 x1 x3 (status_Right_ai3b_S0_r0_0 x0 x2) = false := by
    simp only [status_Right_ai3b_S1_r0_0, hm, tb_eq]
    by_cases a1 : 0 ≤ x0 ∧ x0 ≤ 15
    · by_cases a2 : 0 ≤ x1 ∧ x1 ≤ 15
      · have h0 : status_Right_ai3b_S0_r0_0 x0 x2 = false := by
          have n1 : (x2 == -1) = false := by rw [beq_eq_false_iff_ne]; omega
          simp only [status_Right_ai3b_S0_r0_0, n1, tb_eq, cond_false]
          by_cases a3 : 0 ≤ x2
          · have : ¬ x2 < 4 := by omega
            simp [a3, this]
          · simp [a3]
        rw [h0]
        cases (decide (0 ≤ x0) && decide (x0 ≤ 15)) <;> cases (decide (0 ≤ x1) && decide (x1 ≤ 15)) <;> cases (false != (x3 == (x0 == 0))) <;> rfl
      · have : (decide (0 ≤ x1) && decide (x1 ≤ 15)) = false := by
          rw [← Bool.decide_and]; exact decide_eq_false a2
        rw [this]; cases (decide (0 ≤ x0) && decide (x0 ≤ 15)) <;> rfl
    · have : (decide (0 ≤ x0) && decide (x0 ≤ 15)) = false := by
        rw [← Bool.decide_and]; exact decide_eq_false a1
      rw [this]; rfl
  exact ⟨hr, by simp only [ref16_Right_ai3b_c0, ref16_Right_ai3b_S1_c0, hs, tb_eq, cond_true], by simp only [ref16_Right_ai3b_r0_0, ref16_Right_ai3b_S1_c0, hs, tb_eq, cond_true]⟩
theorem chk_every (x0 x1 x2 : Int) (x3 : Bool) : chkS x0 x1 x2 x3 = true := by
  by_cases h : (0 ≤ x0 ∧ x0 ≤ 15) ∧ (0 ≤ x1 ∧ x1 ≤ 15) ∧ (-1 ≤ x2 ∧ x2 ≤ 3)
  · exact chk_in h.1 h.2.1 h.2.2
  · obtain ⟨r1, r2, r3⟩ := right_out x3 h
    have e : ((⟨#[]⟩ : ByteArray).toList == (⟨#[]⟩ : ByteArray).toList) = true := by simp
    simp only [chkS, status_Word_ai3b_r0_0, status_Word_ai3b_r0_1, ref16_Word_ai3b_c0, ref16_Word_ai3b_r0_0, ref16_Word_ai3b_r0_1, status_Mode_ai3b_c0, status_Mode_ai3b_r0_0, ref16_Mode_ai3b_c0, ref16_Mode_ai3b_r0_0, status_Text_ai3b_c0, status_Text_ai3b_r0_0, ref16_Text_ai3b_c0, ref16_Text_ai3b_r0_0, r1, r2, r3, e, tb_eq, cond_true, cond_false]
    rfl
theorem parse_every (x : Int) : ref16_Parse_i_c0 x = true ∧ status_Parse_i_r0_0 x = ref16_Parse_i_r0_0 x ∧ status_Parse_i_r0_1 x = ref16_Parse_i_r0_1 x ∧ status_Parse_i_r0_2 x = ref16_Parse_i_r0_2 x ∧
    status_Parse_i_r0_3 x = ref16_Parse_i_r0_3 x ∧ status_Parse_i_r0_4 x = ref16_Parse_i_r0_4 x := by
  by_cases h : 0 ≤ x ∧ x ≤ 4095
  · have hc := all_below chkP_all (k := x.toNat) (by omega)
    unfold chkP at hc
    rw [show ((x.toNat : Nat) : Int) = x by omega] at hc
    simp only [Bool.and_eq_true, beq_iff_eq] at hc
    obtain ⟨⟨⟨⟨⟨c1, c2⟩, c3⟩, c4⟩, c5⟩, c6⟩ := hc
    exact ⟨c1, c2, c3, c4, c5, c6⟩
  · by_cases h0 : x < 0
    · simp [ref16_Parse_i_c0, ref16_Parse_i_S0_c0, status_Parse_i_r0_0, status_Parse_i_r0_1, status_Parse_i_r0_2, status_Parse_i_r0_3, status_Parse_i_r0_4, ref16_Parse_i_r0_0, ref16_Parse_i_r0_1, ref16_Parse_i_r0_2, ref16_Parse_i_r0_3, ref16_Parse_i_r0_4, h0]
    · have h1 : 4096 ≤ x := by omega
      have h2 : 4095 < x := by omega
      simp [ref16_Parse_i_c0, ref16_Parse_i_S0_c0, status_Parse_i_r0_0, status_Parse_i_r0_1, status_Parse_i_r0_2, status_Parse_i_r0_3, status_Parse_i_r0_4, ref16_Parse_i_r0_0, ref16_Parse_i_r0_1, ref16_Parse_i_r0_2, ref16_Parse_i_r0_3, ref16_Parse_i_r0_4, h0, h1, h2]
theorem pure_StatusTells (x0 : Int) (x1 : Int) (x2 : Int) (x3 : Bool) (x4 : Int) (wx0 : WfI .i64 x0) (wx1 : WfI .i64 x1) (wx2 : WfI .i64 x2) (wx4 : WfI .i64 x4) : law16_StatusTells_c0 x0 x1 x2 x3 x4 = true ∧ (law16_StatusTells_S2_r0_0 x0 x1 x2 x3 x4 (status_Word_ai3b_r0_0 x0 x1 x2 x3) (status_Word_ai3b_r0_1 x0 x1 x2 x3) (ref16_Word_ai3b_r0_0 x0 x1 x2 x3) (ref16_Word_ai3b_r0_1 x0 x1 x2 x3)) = true := by
  have hc := chk_every x0 x1 x2 x3
  simp only [chkS, Bool.and_eq_true] at hc
  obtain ⟨⟨⟨⟨r1, r2⟩, ⟨w1, w2⟩, w3⟩, ⟨m1, m2⟩, m3⟩, ⟨t1, t2⟩, t3⟩ := hc
  obtain ⟨p1, p2, p3, p4, p5, p6⟩ := parse_every x4
  have e0 : law16_StatusTells_S2_e0 x4 = true := by simp only [law16_StatusTells_S2_e0, p2, p3, p4, p5]; simp
  have e1 : (status_Parse_i_r0_4 x4 == ref16_Parse_i_r0_4 x4) = true := by rw [p6]; simp
  have e2 : (false != (status_Right_ai3b_S1_r0_0 x0 x1 x3 (status_Right_ai3b_S0_r0_0 x0 x2) == ref16_Right_ai3b_r0_0 x0 x1 x2 x3)) = true := by rw [r2]; rfl
  simp only [law16_StatusTells_c0, law16_StatusTells_S1_c0, law16_StatusTells_S2_c0, law16_StatusTells_S2_r0_0, w1, w2, w3, p1, e0, e1, r1, e2, m1, m2, m3, t1, t2, t3, tb_eq, cond_true, and_self]
end Go.Proofs.YtkipngagfiaddaaDoor.Den

namespace Go.Proofs.YtkipngagfiaddaaDoor.Den
open Go Go.ChangeShapes Go.WideShapes Go.ChangeAt Go.RowKit
set_option linter.unusedVariables false
set_option linter.unusedSimpArgs false
theorem law_laid {C : Checked} (hm : C.prog.follows .mixedOrders = true) {E : Env} (hE : EnvOK C.prog E) {laid : List (String × DataW Unit)} (hgl : ∀ w, laidMetH C.prog laid w → GlOK E (cx0 w)) {os : Os} {f : FuncId} {fn : Func} {s : ChangeSpec} {H : Type} {enc : TypeId × Value → H}
    (own : ownKnob C.prog.godebug = none) (started : os.Started) (noInit : C.prog.inits.idxOf? f = none) (hfn : C.prog.funcs[f]? = some fn) (hl : laidOutB C.prog = true)
    (witness : ∃ (w : World) (tape : Tape) (i : Input), w.os = os ∧ (w.forCall tape i).Shaped C.prog ∧ i.vars = [] ∧ Input.okWide C.prog (w.forCall tape i) .any w.heap.size f i ∧
      ((s.pre enc C.prog fn [] false (w.forCall tape i).memory i.args ∧ laidMetH C.prog laid (w.forCall tape i).memory) ∧ sizedMet enc C.prog fn (OpenSpec.ofChange s) false (w.forCall tape i).memory i.args) ∧
        Assume.holds {} C.prog (lone (Frame.enter C.prog f i.args .normal) [] (w.forCall tape i)))
    (hgood : (fn.params.toList.all fun t => goodT C.prog 20 t && C.prog.readableRec t && decide (t < C.prog.types.size)) = true) {rt : TypeId} (hres : fn.resultTypes = #[rt]) (hrt : C.prog.underlying rt = some .bool)
    (hvars : s.vars = []) (hspec : ∀ ds : List (DataW H), ds.length = fn.params.toList.length → s.fn H ds = { results := [.lit (.bool true)], args := ds })
    (hlaw : ∀ rs, TyAll C.prog 20 fn.params.toList rs → ∃ k m', callD E k f (argsV C.prog fn.params.toList rs) [] = some ([.d (.bool true)], m')) :
    ReturnsInHanded {} C os f .any (fun w args => (s.pre enc C.prog fn [] false w args ∧ laidMetH C.prog laid w) ∧ sizedMet enc C.prog fn (OpenSpec.ofChange s) false w args) (s.post enc C.prog fn false true false false) := by
  refine returnsInHanded_of_change_and (X := fun w _ => laidMetH C.prog laid w) (fun _ _ _ hh h => h.of_heap hh) own started noInit hfn witness ?_
  intro W base args ds gs before hval hW _ hsz hL _
  have hW' := hW
  obtain ⟨p, q, hA, hV, rfl, hfz, hnd⟩ := hW
  rw [hvars] at hV
  obtain ⟨rfl, rfl⟩ := trodVars_none hV
  have hgd : ∀ t, t ∈ fn.params.toList → goodT C.prog 20 t = true ∧ C.prog.readableRec t = true ∧ t < C.prog.types.size := fun t ht => by
    have := List.all_eq_true.1 hgood t ht
    simpa [Bool.and_eq_true, and_assoc] using this
  obtain ⟨rs, h1, h2⟩ := open_args (n := 20) fn.params.toList args.toList ds p (List.all_eq_true.2 fun t ht => (hgd t ht).1) (fun j t v ht hv => hval j t v (by simpa using ht) (by simpa using hv)) (fun m hm => of_decide_eq_true (List.all_eq_true.1 hsz m (weightsEach_app hm))) hA
  obtain ⟨k, m', hk⟩ := hlaw rs h1
  refine (calls_law hm hE (hgl W hL) h2 hk).mono fun e W' ⟨he, bel⟩ => ?_
  subst he
  have hlen : ds.length = fn.params.toList.length := by
    have : ∀ (ts : List TypeId) (vs : List Value) (ds : List (DataW H)) (ps : List MemPlace), DataW.TrodAll enc C.prog W 0 (fun _ => true) true ts vs ds ps → ds.length = ts.length := by
      intro ts
      induction ts with
      | nil => intro vs ds ps h; obtain ⟨_, rfl, _⟩ := trodAll_nil h; rfl
      | cons t ts ih => intro vs ds ps h; obtain ⟨v, vs', d, ds', p, q, rfl, rfl, rfl, _, h2⟩ := trodAll_cons h; simp [ih _ _ _ h2]
    exact this _ _ _ _ hA
  have hs := hspec ds hlen
  refine ⟨_, rfl, ds, [], _, [], p, [], hW', ?_, ?_, ?_, bel.frame _, fun h => by cases h⟩
  · rw [List.append_nil, hs, hres]
    exact trodAll_mk1 (shut_bool hrt _)
  · rw [List.append_nil, hs]
    exact args_back hl bel _ _ _ _ (fun t ht => (hgd t ht).2) (fun x hx => by simpa using hW'.lt x (by simpa using hx)) hA
  · rw [hvars, List.append_nil, hs]; rfl
end Go.Proofs.YtkipngagfiaddaaDoor.Den

namespace Go.Proofs.YtkipngagfiaddaaDoor.Den
open Go Go.Proofs
open Go.Proofs.YtkipngagfiaddaaDoor (Rows.laid_math_bits_deBruijn32tab Rows.laid_math_bits_deBruijn64tab Rows.laid_internal_strconv_uint64pow10)
set_option maxRecDepth 100000
set_option linter.unusedVariables false
theorem own : ownKnob Tryd.prog.godebug = none := by kernel_rfl
theorem laidOut : laidOutB Tryd.prog = true := by kernel_rfl
theorem mixed : Tryd.prog.follows .mixedOrders = true := by kernel_rfl
theorem envOK : EnvOK Tryd.prog E0 := ⟨e0_cf, ext_ok rfl e0_x, e0_del⟩
theorem glOK (w : World) (h : laidMetH Tryd.prog [("math/bits.deBruijn32tab", Rows.laid_math_bits_deBruijn32tab), ("math/bits.deBruijn64tab", Rows.laid_math_bits_deBruijn64tab), ("internal/strconv.uint64pow10", Rows.laid_internal_strconv_uint64pow10)] w) : GlOK E0 (cx0 w) := fun g cs hg => by simp [E0] at hg
end Go.Proofs.YtkipngagfiaddaaDoor.Den

namespace Go.Proofs.YtkipngagfiaddaaDoor.Den
open Go Go.Proofs Go.ChangeShapes Go.WideShapes Go.ChangeAt Go.RowKit
open Go.Proofs.YtkipngagfiaddaaDoor (Rows.statusTellsSpec Rows.statusTellsRow Rows.StatusTellsSaid Rows.StatusTellsCardSaid Rows.statusTellsCard statusTells_row_tie Rows.laid_math_bits_deBruijn32tab Rows.laid_math_bits_deBruijn64tab Rows.laid_internal_strconv_uint64pow10)
set_option maxRecDepth 100000
set_option linter.unusedSimpArgs false
set_option linter.unusedVariables false
theorem row6 (rs : List (List D)) (h : TyAll Tryd.prog 20 Tryd.f6.params.toList rs) : ∃ k m', callD E0 k 6 (argsV Tryd.prog Tryd.f6.params.toList rs) [] = some ([.d (.bool true)], m') := by
  rw [Tryd.params6] at h ⊢
  simp only [TyAll] at h
  obtain ⟨_, _, rfl, q0, _, _, rfl, q1, rfl⟩ := h
  have k0 := flatK_ok 20 _ _ _ (show flatK Tryd.prog 20 42 = some [.i .i64, .i .i64, .i .i64, .b] by kernel_rfl) q0
  simp only [CellsK, CellK] at k0
  obtain ⟨_, _, rfl, ⟨a0_0, rfl, w0_0⟩, _, _, rfl, ⟨a0_1, rfl, w0_1⟩, _, _, rfl, ⟨a0_2, rfl, w0_2⟩, _, _, rfl, ⟨a0_3, rfl⟩, rfl⟩ := k0
  have k1 := flatK_ok 20 _ _ _ (show flatK Tryd.prog 20 3 = some [.i .i64] by kernel_rfl) q1
  simp only [CellsK, CellK] at k1
  obtain ⟨_, _, rfl, ⟨a1_0, rfl, w1_0⟩, rfl⟩ := k1
  simp only [argsV, argV, Tryd.underlying3, Tryd.underlying42, List.map_cons, List.map_nil]
  obtain ⟨g1, g2⟩ := pure_StatusTells a0_0 a0_1 a0_2 a0_3 a1_0 w0_0 w0_1 w0_2 w1_0
  have hc := law16_StatusTells_t0 a0_0 a0_1 a0_2 a0_3 a1_0 g1
  rw [g2] at hc
  obtain ⟨k, hk⟩ := of_cl hc
  exact ⟨k, _, hk⟩
theorem statusTells_lifted (os : Os) (started : os.Started) (H : Type) (enc : TypeId × Value → H) :
    ReturnsInHanded {} Tryd.checked os 6 .any (fun w args => (Rows.statusTellsSpec.pre enc Tryd.prog Tryd.f6 [] false w args ∧ laidMetH Tryd.prog [("math/bits.deBruijn32tab", Rows.laid_math_bits_deBruijn32tab), ("math/bits.deBruijn64tab", Rows.laid_math_bits_deBruijn64tab), ("internal/strconv.uint64pow10", Rows.laid_internal_strconv_uint64pow10)] w) ∧ sizedMet enc Tryd.prog Tryd.f6 (OpenSpec.ofChange Rows.statusTellsSpec) false w args) (Rows.statusTellsSpec.post enc Tryd.prog Tryd.f6 false true false false) :=
  law_laid (C := Tryd.checked) (fn := Tryd.f6) mixed envOK glOK own started (by kernel_rfl) Tryd.func6 laidOut
    (ChangeSpec.witness_at (enc := enc) (C := Tryd.checked) (os := os) (X := fun w _ => laidMetH Tryd.prog [("math/bits.deBruijn32tab", Rows.laid_math_bits_deBruijn32tab), ("math/bits.deBruijn64tab", Rows.laid_math_bits_deBruijn64tab), ("internal/strconv.uint64pow10", Rows.laid_internal_strconv_uint64pow10)] w) false (World.laidAll Tryd.prog os [("math/bits.deBruijn32tab", Rows.laid_math_bits_deBruijn32tab), ("math/bits.deBruijn64tab", Rows.laid_math_bits_deBruijn64tab), ("internal/strconv.uint64pow10", Rows.laid_internal_strconv_uint64pow10)]) #[.agg #[.int .i64 0, .int .i64 0, .int .i64 0, .bool false], .int .i64 0] 8 (World.laidAll_os _ _ _) (by kernel_rfl) (by kernel_rfl) (by kernel_rfl) (by kernel_rfl) (by kernel_rfl)
      (by rw [MakeChecks.laidMetH_plain _ _ _ (by kernel_rfl)]; exact laidMet_laidAll _ (by kernel_rfl) (by kernel_rfl)))
    (by kernel_rfl) (rt := 4) rfl Tryd.underlying4 rfl
    (fun ds h => by
      match ds, h with
      | [_, _], _ => rfl)
    row6
theorem statusTells_row : Rows.StatusTellsSaid :=
  OpenClaim.holds_of_wide 6 Tryd.f6 rfl rfl rfl rfl rfl rfl rfl ⟨rfl, rfl, rfl, rfl, rfl⟩ rfl rfl rfl rfl rfl (by kernel_rfl) Tryd.func6 (by kernel_rfl)
    (of_decide_eq_true (by kernel_rfl)) (by unfold Func.isWrapper; first | (rw [if_pos (by decide +kernel)]; kernel_rfl) | (rw [if_neg (by decide +kernel)]; exact ⟨rfl, rfl⟩))
    (fun os started H enc _ => statusTells_lifted os started H enc)
theorem statusTells_holds : Rows.StatusTellsCardSaid :=
  Claim7.holds_tied_plain_at .later [] [.data, .data, .data] true (true, "de0f8e2e583c2ca3011efa0872d658fafa250bb71daf0ce9d9802f694a3174c7") false statusTells_row (fun _ h => by cases h) (by kernel_rfl) (fun _ h => by cases h) statusTells_row_tie rfl ⟨rfl, rfl⟩ (by kernel_rfl) rfl
    (fun f fn hf hfn => by
      obtain rfl : f = 6 := Option.some.inj ((show Tryd.prog.funcNamed "rudder/rudderlaw16.StatusTells" = some 6 by kernel_rfl).symm.trans hf) |>.symm
      obtain rfl : fn = Tryd.f6 := (Option.some.inj (Tryd.func6.symm.trans hfn)).symm
      exact ⟨by kernel_rfl, fun j t ht => by
        rw [Tryd.params6] at ht
        have hm : t ∈ [42, 3] := by simpa using Array.mem_of_getElem? ht
        have hall : ([42, 3].all fun u => !Tryd.prog.wantsStandIn u) = true := by kernel_rfl
        exact (show Tryd.prog.wantsStandIn t = false by simpa using List.all_eq_true.1 hall t hm)⟩)
    (by kernel_rfl)
end Go.Proofs.YtkipngagfiaddaaDoor.Den
