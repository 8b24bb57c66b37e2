/- RingLastCard: part 5 of what its proof rests on: an evaluator of the program's code, proved sound; plain functions printed from the code by a program of this session, with proofs; plain laws. No condition. -/
import Derived.Test.YtkipngagfiaddaaDoorDenringLast4
import Derived.Test.YtkipngagfiaddaaDoorProg
import Derived.Handed
import Derived.Lay
import Derived.MakeChecks
import Derived.FnData
import Derived.Stop.Joined
import Derived.SevenTiedAt
import Derived.Test.YtkipngagfiaddaaDoorRows
import Derived.Test.YtkipngagfiaddaaDoorCards
import Derived.Test.YtkipngagfiaddaaDoorTie

namespace Go.Proofs.YtkipngagfiaddaaDoor.Den
open Go Go.Proofs
set_option maxRecDepth 100000
def S3_0 : C := (.seq1 (.reg [] [⟨(some 16), none, (.fieldA 1 (.t 5))⟩, ⟨(some 17), none, (.load false 1 (.t 16))⟩, ⟨(some 18), none, (.len (.t 17))⟩, ⟨(some 19), none, (.bin .gtr (.t 18) (.v (.d (.int .i64 300))))⟩]) (.cond (.t 19) (.seq (.reg [] [⟨(some 20), none, (.call (.v (.fn (.func 10) [] [])) [])⟩, ⟨(some 6), none, (.mov (.t 20))⟩]) .ret) .skip))
def S3_1 : C := (.seq (.reg [] [⟨(some 22), none, (.mov (.t 0))⟩, ⟨(some 23), none, (.load true 9 (.t 4))⟩, ⟨(some 24), none, (.call (.v (.fn (.func 11) [] [])) [(.t 22), (.t 23)])⟩, ⟨(some 21), none, (.mov (.t 24))⟩, ⟨(some 25), none, (.extract 0 (.t 21))⟩, ⟨(some 26), none, (.extract 1 (.t 21))⟩, ⟨(some 7), none, (.mov (.t 25))⟩, ⟨(some 8), none, (.mov (.t 26))⟩]) (.seq (.reg [] [⟨(some 28), none, (.mov (.t 0))⟩, ⟨(some 29), none, (.load true 9 (.t 4))⟩, ⟨(some 30), none, (.call (.v (.fn (.func 12) [] [])) [(.t 28), (.t 29)])⟩, ⟨(some 27), none, (.mov (.t 30))⟩, ⟨(some 31), none, (.extract 0 (.t 27))⟩, ⟨(some 32), none, (.extract 1 (.t 27))⟩, ⟨(some 9), none, (.mov (.t 31))⟩, ⟨(some 10), none, (.mov (.t 32))⟩]) (.seq (.reg [] [⟨(some 34), none, (.mov (.t 0))⟩, ⟨(some 35), none, (.load true 2 (.t 5))⟩, ⟨(some 36), none, (.call (.v (.fn (.func 13) [] [])) [(.t 34), (.t 35)])⟩, ⟨(some 33), none, (.mov (.t 36))⟩, ⟨(some 37), none, (.extract 0 (.t 33))⟩, ⟨(some 38), none, (.extract 1 (.t 33))⟩, ⟨(some 11), none, (.alloc 24 [(.int .i64 0), (.int .i64 0), (.int .i64 0), (.int .i64 0), (.int .i64 0), (.int .i64 0), (.int .i64 0), (.int .i64 0), (.int .i64 0)] true)⟩, ⟨none, none, (.store 9 (.t 11) (.t 37))⟩, ⟨(some 12), none, (.mov (.t 38))⟩]) (.seq (.reg [] [⟨(some 40), none, (.mov (.t 0))⟩, ⟨(some 41), none, (.load true 2 (.t 5))⟩, ⟨(some 42), none, (.call (.v (.fn (.func 14) [] [])) [(.t 40), (.t 41)])⟩, ⟨(some 39), none, (.mov (.t 42))⟩, ⟨(some 43), none, (.extract 0 (.t 39))⟩, ⟨(some 44), none, (.extract 1 (.t 39))⟩, ⟨(some 13), none, (.alloc 24 [(.int .i64 0), (.int .i64 0), (.int .i64 0), (.int .i64 0), (.int .i64 0), (.int .i64 0), (.int .i64 0), (.int .i64 0), (.int .i64 0)] true)⟩, ⟨none, none, (.store 9 (.t 13) (.t 43))⟩, ⟨(some 14), none, (.mov (.t 44))⟩]) (.seq (.reg [] [⟨(some 45), none, (.mov (.t 7))⟩, ⟨(some 46), none, (.mov (.t 9))⟩, ⟨(some 47), none, (.call (.v (.fn (.func 15) [] [])) [(.t 45), (.t 46)])⟩, ⟨(some 15), none, (.mov (.t 47))⟩]) (.mix [⟨(some 48), none, (.call (.v (.fn (.func 10) [] [])) [])⟩, ⟨(some 49), none, (.mov (.t 48))⟩, ⟨(some 50), (some (49, true)), (.mov (.t 15))⟩, ⟨(some 51), none, (.pick (.t 49) (.t 50) (.v (.d (.bool false))))⟩, ⟨(some 52), none, (.mov (.t 51))⟩, ⟨(some 53), (some (52, true)), (.mov (.t 8))⟩, ⟨(some 54), (some (52, true)), (.mov (.t 10))⟩, ⟨(some 55), (some (52, true)), (.bin .eql (.t 53) (.t 54))⟩, ⟨(some 56), none, (.pick (.t 52) (.t 55) (.v (.d (.bool false))))⟩, ⟨(some 57), none, (.mov (.t 56))⟩, ⟨(some 58), (some (57, true)), (.load true 9 (.t 11))⟩, ⟨(some 59), (some (57, true)), (.load true 9 (.t 13))⟩, ⟨(some 60), (some (57, true)), (.beq (.cells [(.i .i64), (.i .i64), (.i .i64), (.i .i64), (.i .i64), (.i .i64), (.i .i64), (.i .i64), (.i .i64)]) false (.t 58) (.t 59))⟩, ⟨(some 61), none, (.pick (.t 57) (.t 60) (.v (.d (.bool false))))⟩, ⟨(some 62), none, (.mov (.t 61))⟩, ⟨(some 63), (some (62, true)), (.mov (.t 12))⟩, ⟨(some 64), (some (62, true)), (.mov (.t 14))⟩, ⟨(some 65), (some (62, true)), (.bin .eql (.t 63) (.t 64))⟩, ⟨(some 66), none, (.pick (.t 62) (.t 65) (.v (.d (.bool false))))⟩, ⟨(some 67), none, (.mov (.t 66))⟩, ⟨(some 68), (some (67, true)), (.load true 9 (.t 4))⟩, ⟨(some 69), (some (67, true)), (.call (.v (.fn (.func 16) [] [])) [(.t 68)])⟩, ⟨(some 70), (some (67, true)), (.load true 9 (.t 4))⟩, ⟨(some 71), (some (67, true)), (.call (.v (.fn (.func 17) [] [])) [(.t 70)])⟩, ⟨(some 72), (some (67, true)), (.beq .bool false (.t 69) (.t 71))⟩, ⟨(some 73), none, (.pick (.t 67) (.t 72) (.v (.d (.bool false))))⟩, ⟨(some 74), none, (.mov (.t 73))⟩, ⟨(some 75), (some (74, true)), (.mov (.t 0))⟩, ⟨(some 76), (some (74, true)), (.call (.v (.fn (.func 18) [] [])) [(.t 75)])⟩, ⟨(some 77), (some (74, true)), (.mov (.t 0))⟩, ⟨(some 78), (some (74, true)), (.call (.v (.fn (.func 19) [] [])) [(.t 77)])⟩, ⟨(some 79), (some (74, true)), (.bin .eql (.t 76) (.t 78))⟩, ⟨(some 80), none, (.pick (.t 74) (.t 79) (.v (.d (.bool false))))⟩, ⟨(some 6), none, (.mov (.t 80))⟩] [[], [], [], [], [], [], [], [], [], [], [], [], [], [], [], [], [], [], [], [], [], [], [21], [], [], [], [], [], [], [], [], [], [], []] [false, false, false, false, false, false, false, false, false, false, false, false, false, false, false, false, false, false, false, false, false, false, false, true, false, false, false, false, true, false, true, false, false, false]))))))
def F3 : CFunc := ⟨81, [(.tmp 6)], (.seq (.reg [] [⟨(some 4), none, (.box 24 true 9 (.t 1))⟩, ⟨(some 5), none, (.box 27 false 2 (.t 2))⟩, ⟨(some 6), none, (.mov (.v (.d (.bool false))))⟩]) (.cut [0, 4, 5] [6] [0, 4, 5] S3_0 (.cut [0, 4, 5] [] [6] S3_1 .ret)))⟩
theorem c3 : cAt Tryd.prog 3 = some F3.er := by kernel_rfl
def S4_0 : C := (.seq1 (.reg [] [⟨(some 18), none, (.fieldA 1 (.t 5))⟩, ⟨(some 19), none, (.load false 1 (.t 18))⟩, ⟨(some 20), none, (.len (.t 19))⟩, ⟨(some 21), none, (.bin .gtr (.t 20) (.v (.d (.int .i64 300))))⟩]) (.cond (.t 21) (.seq (.reg [] [⟨(some 22), none, (.call (.v (.fn (.func 10) [] [])) [])⟩, ⟨(some 6), none, (.mov (.t 22))⟩]) .ret) .skip))
def S4_1 : C := (.seq (.reg [] [⟨(some 42), none, (.mov (.t 10))⟩, ⟨(some 43), none, (.mov (.t 8))⟩, ⟨(some 44), none, (.build [(.bool false), .nils] [(0, (1, (.v (.d (.bool true))))), (1, (1, (.t 43)))])⟩, ⟨(some 45), none, (.call (.v (.fn (.func 13) [] [])) [(.t 42), (.t 44)])⟩, ⟨(some 41), none, (.mov (.t 45))⟩, ⟨(some 46), none, (.extract 0 (.t 41))⟩, ⟨(some 47), none, (.extract 1 (.t 41))⟩, ⟨(some 11), none, (.alloc 24 [(.int .i64 0), (.int .i64 0), (.int .i64 0), (.int .i64 0), (.int .i64 0), (.int .i64 0), (.int .i64 0), (.int .i64 0), (.int .i64 0)] true)⟩, ⟨none, none, (.store 9 (.t 11) (.t 46))⟩, ⟨(some 12), none, (.mov (.t 47))⟩]) (.reg [] [⟨(some 48), none, (.mov (.t 9))⟩, ⟨(some 49), none, (.bin .eql (.t 48) (.v (.d (.int .i64 0))))⟩, ⟨(some 50), none, (.mov (.t 49))⟩, ⟨(some 51), (some (50, true)), (.mov (.t 12))⟩, ⟨(some 52), (some (50, true)), (.bin .eql (.t 51) (.v (.d (.int .i64 0))))⟩, ⟨(some 53), (some (50, true)), (.mov (.t 10))⟩, ⟨(some 54), (some (50, true)), (.mov (.t 7))⟩, ⟨(some 55), (some (50, true)), (.bin .eql (.t 53) (.t 54))⟩, ⟨(some 56), (some (50, true)), (.beq .bool true (.t 52) (.t 55))⟩, ⟨(some 57), (some (50, true)), (.mov (.t 56))⟩, ⟨(some 58), (some (57, false)), (.mov (.t 12))⟩, ⟨(some 59), (some (57, false)), (.bin .eql (.t 58) (.v (.d (.int .i64 0))))⟩, ⟨(some 60), (some (57, false)), (.mov (.t 59))⟩, ⟨(some 61), (some (60, true)), (.load true 9 (.t 11))⟩, ⟨(some 62), (some (60, true)), (.load true 9 (.t 4))⟩, ⟨(some 63), (some (60, true)), (.beq (.cells [(.i .i64), (.i .i64), (.i .i64), (.i .i64), (.i .i64), (.i .i64), (.i .i64), (.i .i64), (.i .i64)]) true (.t 61) (.t 62))⟩, ⟨(some 64), (some (57, false)), (.pick (.t 60) (.t 63) (.v (.d (.bool false))))⟩, ⟨(some 65), (some (50, true)), (.pick (.t 57) (.v (.d (.bool true))) (.t 64))⟩, ⟨(some 66), (some (50, true)), (.mov (.t 65))⟩, ⟨(some 67), (some (66, false)), (.mov (.t 10))⟩, ⟨(some 68), (some (66, false)), (.mov (.t 7))⟩, ⟨(some 69), (some (66, false)), (.bin .neq (.t 67) (.t 68))⟩, ⟨(some 70), (some (66, false)), (.mov (.t 69))⟩, ⟨(some 71), (some (70, true)), (.mov (.t 12))⟩, ⟨(some 72), (some (70, true)), (.bin .neq (.t 71) (.v (.d (.int .i64 4))))⟩, ⟨(some 73), (some (66, false)), (.pick (.t 70) (.t 72) (.v (.d (.bool false))))⟩, ⟨(some 74), (some (50, true)), (.pick (.t 66) (.v (.d (.bool true))) (.t 73))⟩, ⟨(some 75), none, (.pick (.t 50) (.t 74) (.v (.d (.bool false))))⟩]))
def S4_2 : C := (.block 1 (.cut [4, 5, 7, 8, 9, 10] [] [4, 5, 7, 8, 9, 10, 75] S4_1 (.cond (.t 75) (.seq (.reg [] [⟨(some 6), none, (.mov (.v (.d (.bool false))))⟩]) .ret) .skip)))
def L4_3 : C := (.seq (.seq (.reg [] [⟨(some 37), none, (.mov (.t 10))⟩, ⟨(some 38), none, (.bin .lss (.t 37) (.v (.d (.int .i64 4))))⟩]) (.cond (.t 38) .skip (.exit 0))) (.cut [4, 5, 7, 8, 9, 10] [6] [4, 5, 7, 8, 9, 10] S4_2 (.reg [] [⟨(some 39), none, (.mov (.t 10))⟩, ⟨(some 40), none, (.bin .add (.t 39) (.v (.d (.int .i64 1))))⟩, ⟨(some 10), none, (.mov (.t 40))⟩])))
def S4_4 : C := (.seq (.reg [] [⟨(some 27), none, (.mov (.t 7))⟩, ⟨(some 28), none, (.load true 9 (.t 4))⟩, ⟨(some 29), none, (.call (.v (.fn (.func 11) [] [])) [(.t 27), (.t 28)])⟩, ⟨(some 26), none, (.mov (.t 29))⟩, ⟨(some 30), none, (.extract 0 (.t 26))⟩, ⟨(some 31), none, (.extract 1 (.t 26))⟩, ⟨(some 8), none, (.mov (.t 30))⟩, ⟨(some 9), none, (.mov (.t 31))⟩]) (.seq (.seq (.reg [] [⟨(some 32), none, (.mov (.t 9))⟩, ⟨(some 33), none, (.bin .eql (.t 32) (.v (.d (.int .i64 0))))⟩, ⟨(some 34), none, (.load true 9 (.t 4))⟩, ⟨(some 35), none, (.call (.v (.fn (.func 16) [] [])) [(.t 34)])⟩, ⟨(some 36), none, (.beq .bool true (.t 33) (.t 35))⟩]) (.cond (.t 36) (.seq (.reg [] [⟨(some 6), none, (.mov (.v (.d (.bool false))))⟩]) .ret) .skip)) (.seq1 (.reg [] [⟨(some 10), none, (.mov (.v (.d (.int .i64 0))))⟩]) (.block 0 (.loop [4, 5, 7, 8, 9, 10] [5, 6, 7] L4_3)))))
def S4_5 : C := (.seq (.reg [] [⟨(some 77), none, (.mov (.t 7))⟩, ⟨(some 78), none, (.load true 2 (.t 5))⟩, ⟨(some 79), none, (.call (.v (.fn (.func 13) [] [])) [(.t 77), (.t 78)])⟩, ⟨(some 76), none, (.mov (.t 79))⟩, ⟨(some 80), none, (.extract 0 (.t 76))⟩, ⟨(some 81), none, (.extract 1 (.t 76))⟩, ⟨(some 13), none, (.alloc 24 [(.int .i64 0), (.int .i64 0), (.int .i64 0), (.int .i64 0), (.int .i64 0), (.int .i64 0), (.int .i64 0), (.int .i64 0), (.int .i64 0)] true)⟩, ⟨none, none, (.store 9 (.t 13) (.t 80))⟩, ⟨(some 14), none, (.mov (.t 81))⟩]) (.seq (.seq (.reg [] [⟨(some 82), none, (.mov (.t 14))⟩, ⟨(some 83), none, (.bin .neq (.t 82) (.v (.d (.int .i64 0))))⟩]) (.cond (.t 83) (.seq (.reg [] [⟨(some 84), none, (.call (.v (.fn (.func 10) [] [])) [])⟩, ⟨(some 85), none, (.mov (.t 84))⟩, ⟨(some 86), (some (85, true)), (.load true 9 (.t 13))⟩, ⟨(some 87), (some (85, true)), (.build [(.int .i64 0), (.int .i64 0), (.int .i64 0), (.int .i64 0), (.int .i64 0), (.int .i64 0), (.int .i64 0), (.int .i64 0), (.int .i64 0)] [])⟩, ⟨(some 88), (some (85, true)), (.beq (.cells [(.i .i64), (.i .i64), (.i .i64), (.i .i64), (.i .i64), (.i .i64), (.i .i64), (.i .i64), (.i .i64)]) false (.t 86) (.t 87))⟩, ⟨(some 89), none, (.pick (.t 85) (.t 88) (.v (.d (.bool false))))⟩, ⟨(some 6), none, (.mov (.t 89))⟩]) .ret) .skip)) (.seq (.reg [] [⟨(some 91), none, (.mov (.t 7))⟩, ⟨(some 92), none, (.load true 9 (.t 13))⟩, ⟨(some 93), none, (.call (.v (.fn (.func 11) [] [])) [(.t 91), (.t 92)])⟩, ⟨(some 90), none, (.mov (.t 93))⟩, ⟨(some 94), none, (.extract 0 (.t 90))⟩, ⟨(some 95), none, (.extract 1 (.t 90))⟩, ⟨(some 15), none, (.mov (.t 94))⟩, ⟨(some 16), none, (.mov (.t 95))⟩]) (.seq (.reg [] [⟨(some 96), none, (.mov (.t 15))⟩, ⟨(some 97), none, (.fieldA 1 (.t 5))⟩, ⟨(some 98), none, (.load false 1 (.t 97))⟩, ⟨(some 99), none, (.call (.v (.fn (.func 15) [] [])) [(.t 96), (.t 98)])⟩, ⟨(some 17), none, (.mov (.t 99))⟩]) (.reg [] [⟨(some 100), none, (.call (.v (.fn (.func 10) [] [])) [])⟩, ⟨(some 101), none, (.mov (.t 100))⟩, ⟨(some 102), (some (101, true)), (.mov (.t 16))⟩, ⟨(some 103), (some (101, true)), (.bin .eql (.t 102) (.v (.d (.int .i64 0))))⟩, ⟨(some 104), none, (.pick (.t 101) (.t 103) (.v (.d (.bool false))))⟩, ⟨(some 105), none, (.mov (.t 104))⟩, ⟨(some 106), (some (105, true)), (.mov (.t 17))⟩, ⟨(some 107), none, (.pick (.t 105) (.t 106) (.v (.d (.bool false))))⟩, ⟨(some 108), none, (.mov (.t 107))⟩, ⟨(some 109), (some (108, true)), (.fieldA 0 (.t 5))⟩, ⟨(some 110), (some (108, true)), (.load false 1 (.t 109))⟩, ⟨(some 111), none, (.pick (.t 108) (.t 110) (.v (.d (.bool false))))⟩, ⟨(some 112), none, (.mov (.t 111))⟩, ⟨(some 113), (some (112, true)), (.load true 9 (.t 13))⟩, ⟨(some 114), (some (112, true)), (.call (.v (.fn (.func 16) [] [])) [(.t 113)])⟩, ⟨(some 115), none, (.pick (.t 112) (.t 114) (.v (.d (.bool false))))⟩, ⟨(some 6), none, (.mov (.t 115))⟩])))))
def F4 : CFunc := ⟨116, [(.tmp 6)], (.seq (.reg [] [⟨(some 4), none, (.box 24 true 9 (.t 1))⟩, ⟨(some 5), none, (.box 27 false 2 (.t 2))⟩, ⟨(some 6), none, (.mov (.v (.d (.bool false))))⟩]) (.cut [0, 4, 5] [6] [0, 4, 5] S4_0 (.seq (.reg [] [⟨(some 23), none, (.mov (.t 0))⟩, ⟨(some 24), none, (.bin .rem (.t 23) (.v (.d (.int .u8 4))))⟩, ⟨(some 25), none, (.conv (.int .i64) (.t 24))⟩, ⟨(some 7), none, (.mov (.t 25))⟩]) (.cut [4, 5, 7] [6] [5, 7] S4_4 (.cut [5, 7] [6] [6] S4_5 .ret)))))⟩
theorem c4 : cAt Tryd.prog 4 = some F4.er := by kernel_rfl
def S9_0 : C := (.seq1 (.reg [] [⟨(some 9), none, (.mov (.t 0))⟩, ⟨(some 10), none, (.len (.t 9))⟩, ⟨(some 11), none, (.bin .gtr (.t 10) (.v (.d (.int .i64 200))))⟩]) (.cond (.t 11) (.seq (.reg [] [⟨(some 12), none, (.call (.v (.fn (.func 34) [] [])) [])⟩, ⟨(some 2), none, (.mov (.t 12))⟩]) .ret) .skip))
def L9_1 : C := (.seq (.seq (.reg [] [⟨(some 14), none, (.mov (.t 5))⟩, ⟨(some 15), none, (.mov (.t 0))⟩, ⟨(some 16), none, (.len (.t 15))⟩, ⟨(some 17), none, (.bin .lss (.t 14) (.t 16))⟩]) (.cond (.t 17) .skip (.exit 0))) (.seq (.block 1 (.seq (.reg [] [⟨(some 20), none, (.mov (.t 3))⟩, ⟨(some 21), none, (.mov (.t 0))⟩, ⟨(some 22), none, (.mov (.t 5))⟩, ⟨(some 23), none, (.idxA 5 (.t 21) (.t 22))⟩, ⟨(some 24), none, (.load true 5 (.t 23))⟩, ⟨(some 25), none, (.call (.v (.fn (.func 36) [] [])) [(.t 20), (.t 24)])⟩, ⟨(some 26), none, (.bin .eql (.t 25) (.v (.d (.int .i64 0))))⟩]) (.cond (.t 26) (.reg [] [⟨(some 27), none, (.mov (.t 4))⟩, ⟨(some 28), none, (.bin .add (.t 27) (.v (.d (.int .i64 1))))⟩, ⟨(some 4), none, (.mov (.t 28))⟩]) .skip))) (.reg [] [⟨(some 18), none, (.mov (.t 5))⟩, ⟨(some 19), none, (.bin .add (.t 18) (.v (.d (.int .i64 1))))⟩, ⟨(some 5), none, (.mov (.t 19))⟩])))
def L9_2 : C := (.seq (.seq (.reg [] [⟨(some 59), none, (.mov (.t 8))⟩, ⟨(some 60), none, (.bin .geq (.t 59) (.v (.d (.int .i64 0))))⟩]) (.cond (.t 60) .skip (.exit 2))) (.seq (.block 3 (.seq (.seq (.reg [] [⟨(some 63), none, (.mov (.t 0))⟩, ⟨(some 64), none, (.mov (.t 8))⟩, ⟨(some 65), none, (.idxA 5 (.t 63) (.t 64))⟩, ⟨(some 66), none, (.load true 5 (.t 65))⟩, ⟨(some 67), none, (.call (.v (.fn (.func 43) [] [])) [(.t 66)])⟩, ⟨(some 68), none, (.unop .not (.t 67))⟩]) (.cond (.t 68) (.exit 3) .skip)) (.seq (.seq (.reg [⟨(some 69), none, (.mov (.t 7))⟩, ⟨(some 70), none, (.bin .geq (.t 69) (.v (.d (.int .i64 0))))⟩, ⟨(some 71), none, (.mov (.t 70))⟩, ⟨(some 72), (some (71, true)), (.mov (.t 6))⟩, ⟨(some 73), (some (71, true)), (.mov (.t 7))⟩, ⟨(some 74), (some (71, true)), (.idxA 5 (.t 72) (.t 73))⟩, ⟨(some 75), (some (71, true)), (.load true 5 (.t 74))⟩, ⟨(some 76), (some (71, true)), (.mov (.t 0))⟩, ⟨(some 77), (some (71, true)), (.mov (.t 8))⟩, ⟨(some 78), (some (71, true)), (.idxA 5 (.t 76) (.t 77))⟩, ⟨(some 79), (some (71, true)), (.load true 5 (.t 78))⟩] [⟨(some 80), (some (71, true)), (.beq (.cells [(.i .i64), (.i .i64), (.i .i64), (.i .i64), (.i .i64)]) true (.t 75) (.t 79))⟩, ⟨(some 81), none, (.pick (.t 71) (.t 80) (.v (.d (.bool false))))⟩]) (.cond (.t 81) (.seq (.reg [] [⟨(some 2), none, (.mov (.v (.d (.bool false))))⟩]) .ret) .skip)) (.reg [] [⟨(some 82), none, (.mov (.t 7))⟩, ⟨(some 83), none, (.bin .sub (.t 82) (.v (.d (.int .i64 1))))⟩, ⟨(some 7), none, (.mov (.t 83))⟩])))) (.reg [] [⟨(some 61), none, (.mov (.t 8))⟩, ⟨(some 62), none, (.bin .sub (.t 61) (.v (.d (.int .i64 1))))⟩, ⟨(some 8), none, (.mov (.t 62))⟩])))
def S9_3 : C := (.seq (.reg [] [⟨(some 13), none, (.call (.v (.fn (.func 35) [] [])) [])⟩, ⟨(some 3), none, (.mov (.t 13))⟩]) (.seq (.reg [] [⟨(some 4), none, (.mov (.v (.d (.int .i64 0))))⟩]) (.seq (.seq (.reg [] [⟨(some 5), none, (.mov (.v (.d (.int .i64 0))))⟩]) (.block 0 (.loop [0, 3, 4, 5] [0, 3, 4] L9_1))) (.seq (.reg [] [⟨(some 29), none, (.mov (.t 3))⟩, ⟨(some 30), none, (.call (.v (.fn (.func 39) [] [])) [(.t 29)])⟩, ⟨(some 6), none, (.mov (.t 30))⟩]) (.seq (.seq (.reg [] [⟨(some 31), none, (.mov (.t 6))⟩, ⟨(some 32), none, (.len (.t 31))⟩, ⟨(some 33), none, (.bin .gtr (.t 32) (.v (.d (.int .i64 32))))⟩, ⟨(some 34), none, (.mov (.t 33))⟩, ⟨(some 35), (some (34, false)), (.mov (.t 6))⟩, ⟨(some 36), (some (34, false)), (.len (.t 35))⟩, ⟨(some 37), (some (34, false)), (.mov (.t 3))⟩, ⟨(some 38), (some (34, false)), (.call (.v (.fn (.func 41) [] [])) [(.t 37)])⟩, ⟨(some 39), (some (34, false)), (.bin .add (.t 36) (.t 38))⟩, ⟨(some 40), (some (34, false)), (.mov (.t 4))⟩, ⟨(some 41), (some (34, false)), (.bin .neq (.t 39) (.t 40))⟩, ⟨(some 42), none, (.pick (.t 34) (.v (.d (.bool true))) (.t 41))⟩, ⟨(some 43), none, (.mov (.t 42))⟩, ⟨(some 44), (some (43, false)), (.mov (.t 3))⟩, ⟨(some 45), (some (43, false)), (.call (.v (.fn (.func 41) [] [])) [(.t 44)])⟩, ⟨(some 46), (some (43, false)), (.bin .gtr (.t 45) (.v (.d (.int .i64 0))))⟩, ⟨(some 47), (some (43, false)), (.mov (.t 46))⟩, ⟨(some 48), (some (47, true)), (.mov (.t 6))⟩, ⟨(some 49), (some (47, true)), (.len (.t 48))⟩, ⟨(some 50), (some (47, true)), (.bin .neq (.t 49) (.v (.d (.int .i64 32))))⟩, ⟨(some 51), (some (43, false)), (.pick (.t 47) (.t 50) (.v (.d (.bool false))))⟩, ⟨(some 52), none, (.pick (.t 43) (.v (.d (.bool true))) (.t 51))⟩]) (.cond (.t 52) (.seq (.reg [] [⟨(some 2), none, (.mov (.v (.d (.bool false))))⟩]) .ret) .skip)) (.seq (.reg [] [⟨(some 53), none, (.mov (.t 6))⟩, ⟨(some 54), none, (.len (.t 53))⟩, ⟨(some 55), none, (.bin .sub (.t 54) (.v (.d (.int .i64 1))))⟩, ⟨(some 7), none, (.mov (.t 55))⟩]) (.seq1 (.reg [] [⟨(some 56), none, (.mov (.t 0))⟩, ⟨(some 57), none, (.len (.t 56))⟩, ⟨(some 58), none, (.bin .sub (.t 57) (.v (.d (.int .i64 1))))⟩, ⟨(some 8), none, (.mov (.t 58))⟩]) (.block 2 (.loop [0, 6, 7, 8] [2, 7] L9_2)))))))))
def F9 : CFunc := ⟨89, [(.tmp 2)], (.seq (.reg [] [⟨(some 2), none, (.mov (.v (.d (.bool false))))⟩]) (.cut [0] [2] [0] S9_0 (.cut [0] [2] [7] S9_3 (.seq (.reg [] [⟨(some 84), none, (.call (.v (.fn (.func 34) [] [])) [])⟩, ⟨(some 85), none, (.mov (.t 84))⟩, ⟨(some 86), (some (85, true)), (.mov (.t 7))⟩, ⟨(some 87), (some (85, true)), (.bin .lss (.t 86) (.v (.d (.int .i64 0))))⟩, ⟨(some 88), none, (.pick (.t 85) (.t 87) (.v (.d (.bool false))))⟩, ⟨(some 2), none, (.mov (.t 88))⟩]) .ret))))⟩
theorem c9 : cAt Tryd.prog 9 = some F9.er := by kernel_rfl
def F33 : CFunc := ⟨22, [(.tmp 4)], (.seq (.reg [] [⟨(some 4), none, (.mov (.v (.d (.bool false))))⟩]) (.seq (.reg [] [⟨(some 5), none, (.mov (.t 0))⟩, ⟨(some 6), none, (.call (.v (.fn (.func 67) [] [])) [(.t 5)])⟩, ⟨(some 7), none, (.mov (.t 6))⟩, ⟨(some 8), (some (7, true)), (.mov (.t 1))⟩, ⟨(some 9), (some (7, true)), (.bin .geq (.t 8) (.v (.d (.int .i64 0))))⟩, ⟨(some 10), none, (.pick (.t 7) (.t 9) (.v (.d (.bool false))))⟩, ⟨(some 11), none, (.mov (.t 10))⟩, ⟨(some 12), (some (11, true)), (.mov (.t 1))⟩, ⟨(some 13), (some (11, true)), (.bin .lss (.t 12) (.v (.d (.int .i64 16))))⟩, ⟨(some 14), none, (.pick (.t 11) (.t 13) (.v (.d (.bool false))))⟩, ⟨(some 15), none, (.mov (.t 14))⟩, ⟨(some 16), (some (15, true)), (.mov (.t 0))⟩, ⟨(some 17), (some (15, true)), (.mov (.t 1))⟩, ⟨(some 18), (some (15, true)), (.bin .shr (.t 16) (.t 17))⟩, ⟨(some 19), (some (15, true)), (.bin .and (.t 18) (.v (.d (.int .i64 1))))⟩, ⟨(some 20), (some (15, true)), (.bin .eql (.t 19) (.v (.d (.int .i64 1))))⟩, ⟨(some 21), none, (.pick (.t 15) (.t 20) (.v (.d (.bool false))))⟩, ⟨(some 4), none, (.mov (.t 21))⟩]) .ret))⟩
theorem c33 : cAt Tryd.prog 33 = some F33.er := by kernel_rfl
def L34_0 : C := (.seq (.seq (.reg [] [⟨(some 15), none, (.mov (.t 5))⟩, ⟨(some 16), none, (.bin .lss (.t 15) (.v (.d (.int .i64 32))))⟩]) (.cond (.t 16) .skip (.exit 0))) (.seq (.block 1 (.reg [] [⟨(some 19), none, (.mov (.t 1))⟩, ⟨(some 20), none, (.mov (.t 5))⟩, ⟨(some 21), none, (.build [(.int .i64 0), (.int .i64 0), (.int .i64 0), (.int .i64 0), (.int .i64 0)] [(0, (1, (.t 20)))])⟩, ⟨(some 22), none, (.call (.v (.fn (.func 36) [] [])) [(.t 19), (.t 21)])⟩])) (.reg [] [⟨(some 17), none, (.mov (.t 5))⟩, ⟨(some 18), none, (.bin .add (.t 17) (.v (.d (.int .i64 1))))⟩, ⟨(some 5), none, (.mov (.t 18))⟩])))
def S34_1 : C := (.seq (.reg [] [⟨(some 7), none, (.call (.v (.fn (.func 35) [] [])) [])⟩, ⟨(some 1), none, (.mov (.t 7))⟩]) (.seq (.reg [] [⟨(some 8), none, (.build [(.int .i64 0), (.int .i64 0), (.int .i64 0), (.int .i64 0), (.int .i64 0)] [(0, (1, (.v (.d (.int .i64 12))))), (1, (1, (.v (.d (.int .i64 3))))), (2, (1, (.v (.d (.int .i64 7))))), (3, (1, (.v (.d (.int .i64 2))))), (4, (1, (.v (.d (.int .i64 34)))))])⟩, ⟨(some 2), none, (.alloc 58 [(.int .i64 0), (.int .i64 0), (.int .i64 0), (.int .i64 0), (.int .i64 0)] true)⟩, ⟨none, none, (.store 5 (.t 2) (.t 8))⟩]) (.seq (.reg [] [⟨(some 9), none, (.mov (.t 1))⟩, ⟨(some 10), none, (.load true 5 (.t 2))⟩, ⟨(some 11), none, (.call (.v (.fn (.func 36) [] [])) [(.t 9), (.t 10)])⟩, ⟨(some 3), none, (.mov (.t 11))⟩]) (.seq (.reg [] [⟨(some 12), none, (.mov (.t 1))⟩, ⟨(some 13), none, (.build [(.int .i64 0), (.int .i64 0), (.int .i64 0), (.int .i64 0), (.int .i64 0)] [(1, (1, (.v (.d (.int .i64 4)))))])⟩, ⟨(some 14), none, (.call (.v (.fn (.func 36) [] [])) [(.t 12), (.t 13)])⟩, ⟨(some 4), none, (.mov (.t 14))⟩]) (.seq (.seq (.reg [] [⟨(some 5), none, (.mov (.v (.d (.int .i64 0))))⟩]) (.block 0 (.loop [1, 2, 3, 4, 5] [1, 2, 3, 4] L34_0))) (.seq (.reg [] [⟨(some 23), none, (.mov (.t 1))⟩, ⟨(some 24), none, (.call (.v (.fn (.func 39) [] [])) [(.t 23)])⟩, ⟨(some 6), none, (.mov (.t 24))⟩]) (.seq (.seq (.reg [] [⟨(some 25), none, (.mov (.t 6))⟩, ⟨(some 26), none, (.len (.t 25))⟩, ⟨(some 27), none, (.bin .neq (.t 26) (.v (.d (.int .i64 32))))⟩]) (.cond (.t 27) (.seq (.reg [] [⟨(some 0), none, (.mov (.v (.d (.bool false))))⟩]) .ret) .skip)) (.reg [] [⟨(some 28), none, (.mov (.t 3))⟩, ⟨(some 29), none, (.bin .eql (.t 28) (.v (.d (.int .i64 0))))⟩, ⟨(some 30), none, (.mov (.t 29))⟩, ⟨(some 31), (some (30, true)), (.mov (.t 4))⟩, ⟨(some 32), (some (30, true)), (.bin .eql (.t 31) (.v (.d (.int .i64 1))))⟩, ⟨(some 33), none, (.pick (.t 30) (.t 32) (.v (.d (.bool false))))⟩, ⟨(some 34), none, (.mov (.t 33))⟩, ⟨(some 35), (some (34, true)), (.mov (.t 6))⟩, ⟨(some 36), (some (34, true)), (.idxA 5 (.t 35) (.v (.d (.int .i64 0))))⟩, ⟨(some 37), (some (34, true)), (.fieldA 0 (.t 36))⟩, ⟨(some 38), (some (34, true)), (.load false 1 (.t 37))⟩, ⟨(some 39), (some (34, true)), (.bin .eql (.t 38) (.v (.d (.int .i64 0))))⟩, ⟨(some 40), none, (.pick (.t 34) (.t 39) (.v (.d (.bool false))))⟩, ⟨(some 41), none, (.mov (.t 40))⟩, ⟨(some 42), (some (41, true)), (.mov (.t 6))⟩, ⟨(some 43), (some (41, true)), (.idxA 5 (.t 42) (.v (.d (.int .i64 31))))⟩, ⟨(some 44), (some (41, true)), (.fieldA 0 (.t 43))⟩, ⟨(some 45), (some (41, true)), (.load false 1 (.t 44))⟩, ⟨(some 46), (some (41, true)), (.bin .eql (.t 45) (.v (.d (.int .i64 31))))⟩, ⟨(some 47), none, (.pick (.t 41) (.t 46) (.v (.d (.bool false))))⟩, ⟨(some 48), none, (.mov (.t 47))⟩, ⟨(some 49), (some (48, true)), (.mov (.t 1))⟩, ⟨(some 50), (some (48, true)), (.call (.v (.fn (.func 41) [] [])) [(.t 49)])⟩, ⟨(some 51), (some (48, true)), (.bin .eql (.t 50) (.v (.d (.int .i64 1))))⟩, ⟨(some 52), none, (.pick (.t 48) (.t 51) (.v (.d (.bool false))))⟩, ⟨(some 53), none, (.mov (.t 52))⟩, ⟨(some 54), (some (53, true)), (.load true 5 (.t 2))⟩, ⟨(some 55), (some (53, true)), (.call (.v (.fn (.func 44) [] [])) [(.t 54)])⟩, ⟨(some 56), (some (53, true)), (.bin .eql (.t 55) (.v (.d (.str ⟨#[99, 121, 99, 108, 101, 32, 49, 50, 32, 99, 104, 97, 110, 110, 101, 108, 32, 51, 32, 115, 105, 103, 110, 97, 108, 32, 55, 32, 111, 117, 116, 32, 114, 97, 110, 103, 101, 43, 109, 105, 115]⟩))))⟩, ⟨(some 57), none, (.pick (.t 53) (.t 56) (.v (.d (.bool false))))⟩, ⟨(some 58), none, (.mov (.t 57))⟩, ⟨(some 59), (some (58, true)), (.load true 5 (.t 2))⟩, ⟨(some 60), (some (58, true)), (.call (.v (.fn (.func 43) [] [])) [(.t 59)])⟩, ⟨(some 61), none, (.pick (.t 58) (.t 60) (.v (.d (.bool false))))⟩, ⟨(some 62), none, (.mov (.t 61))⟩, ⟨(some 63), (some (62, true)), (.build [(.int .i64 0), (.int .i64 0), (.int .i64 0), (.int .i64 0), (.int .i64 0)] [(4, (1, (.v (.d (.int .i64 64)))))])⟩, ⟨(some 64), (some (62, true)), (.call (.v (.fn (.func 43) [] [])) [(.t 63)])⟩, ⟨(some 65), (some (62, true)), (.unop .not (.t 64))⟩, ⟨(some 66), none, (.pick (.t 62) (.t 65) (.v (.d (.bool false))))⟩, ⟨(some 0), none, (.mov (.t 66))⟩]))))))))
def F34 : CFunc := ⟨67, [(.tmp 0)], (.seq (.reg [] [⟨(some 0), none, (.mov (.v (.d (.bool false))))⟩]) (.cut [] [0] [0] S34_1 .ret))⟩
theorem c34 : cAt Tryd.prog 34 = some F34.er := by kernel_rfl
def F35 : CFunc := ⟨3, [(.tmp 0)], (.seq (.reg [] [⟨(some 0), none, (.mov (.v (.d .nilp)))⟩]) (.seq (.reg [] [⟨(some 1), none, (.build [(.int .i64 0), (.int .i64 0), (.int .i64 0), (.int .i64 0), (.int .i64 0), (.int .i64 0), (.int .i64 0), (.int .i64 0), (.int .i64 0), (.int .i64 0), (.int .i64 0), (.int .i64 0), (.int .i64 0), (.int .i64 0), (.int .i64 0), (.int .i64 0), (.int .i64 0), (.int .i64 0), (.int .i64 0), (.int .i64 0), (.int .i64 0), (.int .i64 0), (.int .i64 0), (.int .i64 0), (.int .i64 0), (.int .i64 0), (.int .i64 0), (.int .i64 0), (.int .i64 0), (.int .i64 0), (.int .i64 0), (.int .i64 0), (.int .i64 0), (.int .i64 0), (.int .i64 0), (.int .i64 0), (.int .i64 0), (.int .i64 0), (.int .i64 0), (.int .i64 0), (.int .i64 0), (.int .i64 0), (.int .i64 0), (.int .i64 0), (.int .i64 0), (.int .i64 0), (.int .i64 0), (.int .i64 0), (.int .i64 0), (.int .i64 0), (.int .i64 0), (.int .i64 0), (.int .i64 0), (.int .i64 0), (.int .i64 0), (.int .i64 0), (.int .i64 0), (.int .i64 0), (.int .i64 0), (.int .i64 0), (.int .i64 0), (.int .i64 0), (.int .i64 0), (.int .i64 0), (.int .i64 0), (.int .i64 0), (.int .i64 0), (.int .i64 0), (.int .i64 0), (.int .i64 0), (.int .i64 0), (.int .i64 0), (.int .i64 0), (.int .i64 0), (.int .i64 0), (.int .i64 0), (.int .i64 0), (.int .i64 0), (.int .i64 0), (.int .i64 0), (.int .i64 0), (.int .i64 0), (.int .i64 0), (.int .i64 0), (.int .i64 0), (.int .i64 0), (.int .i64 0), (.int .i64 0), (.int .i64 0), (.int .i64 0), (.int .i64 0), (.int .i64 0), (.int .i64 0), (.int .i64 0), (.int .i64 0), (.int .i64 0), (.int .i64 0), (.int .i64 0), (.int .i64 0), (.int .i64 0), (.int .i64 0), (.int .i64 0), (.int .i64 0), (.int .i64 0), (.int .i64 0), (.int .i64 0), (.int .i64 0), (.int .i64 0), (.int .i64 0), (.int .i64 0), (.int .i64 0), (.int .i64 0), (.int .i64 0), (.int .i64 0), (.int .i64 0), (.int .i64 0), (.int .i64 0), (.int .i64 0), (.int .i64 0), (.int .i64 0), (.int .i64 0), (.int .i64 0), (.int .i64 0), (.int .i64 0), (.int .i64 0), (.int .i64 0), (.int .i64 0), (.int .i64 0), (.int .i64 0), (.int .i64 0), (.int .i64 0), (.int .i64 0), (.int .i64 0), (.int .i64 0), (.int .i64 0), (.int .i64 0), (.int .i64 0), (.int .i64 0), (.int .i64 0), (.int .i64 0), (.int .i64 0), (.int .i64 0), (.int .i64 0), (.int .i64 0), (.int .i64 0), (.int .i64 0), (.int .i64 0), (.int .i64 0), (.int .i64 0), (.int .i64 0), (.int .i64 0), (.int .i64 0), (.int .i64 0), (.int .i64 0), (.int .i64 0), (.int .i64 0), (.int .i64 0), (.int .i64 0), (.int .i64 0), (.int .i64 0), (.int .i64 0)] [])⟩, ⟨(some 2), none, (.box 86 true 161 (.t 1))⟩, ⟨(some 0), none, (.mov (.t 2))⟩]) .ret))⟩
theorem c35 : cAt Tryd.prog 35 = some F35.er := by kernel_rfl
def F36 : CFunc := ⟨29, [(.tmp 4)], (.seq (.reg [] [⟨(some 3), none, (.box 58 true 5 (.t 1))⟩, ⟨(some 4), none, (.mov (.v (.d (.int .i64 0))))⟩]) (.seq (.seq (.reg [] [⟨(some 5), none, (.mov (.t 0))⟩, ⟨(some 6), none, (.beq .ptr false (.t 5) (.v (.d .nilp)))⟩, ⟨(some 7), none, (.mov (.t 6))⟩, ⟨(some 8), (some (7, false)), (.load true 5 (.t 3))⟩, ⟨(some 9), (some (7, false)), (.call (.v (.fn (.func 43) [] [])) [(.t 8)])⟩, ⟨(some 10), (some (7, false)), (.unop .not (.t 9))⟩, ⟨(some 11), none, (.pick (.t 7) (.v (.d (.bool true))) (.t 10))⟩]) (.cond (.t 11) (.seq (.reg [] [⟨(some 4), none, (.mov (.v (.d (.int .i64 1))))⟩]) .ret) .skip)) (.seq (.reg [⟨(some 12), none, (.mov (.t 0))⟩, ⟨(some 13), none, (.mov (.t 0))⟩, ⟨(some 14), none, (.nilck (.t 13))⟩, ⟨(some 15), none, (.fieldA 160 (.t 14))⟩, ⟨(some 16), none, (.load false 1 (.t 15))⟩, ⟨(some 17), none, (.bin .rem (.t 16) (.v (.d (.int .i64 32))))⟩, ⟨(some 18), none, (.load true 5 (.t 3))⟩, ⟨(some 19), none, (.nilck (.t 12))⟩, ⟨(some 20), none, (.fieldA 0 (.t 19))⟩] [⟨(some 21), none, (.idxAA 32 5 (.t 20) (.t 17))⟩, ⟨none, none, (.store 5 (.t 21) (.t 18))⟩]) (.seq (.reg [] [⟨(some 22), none, (.mov (.t 0))⟩, ⟨(some 23), none, (.nilck (.t 22))⟩, ⟨(some 24), none, (.fieldA 160 (.t 23))⟩, ⟨(some 25), none, (.load false 1 (.t 24))⟩, ⟨(some 26), none, (.bin .add (.t 25) (.v (.d (.int .i64 1))))⟩, ⟨(some 27), none, (.nilck (.t 22))⟩, ⟨(some 28), none, (.fieldA 160 (.t 27))⟩, ⟨none, none, (.store 1 (.t 28) (.t 26))⟩]) (.seq (.reg [] [⟨(some 4), none, (.mov (.v (.d (.int .i64 0))))⟩]) .ret)))))⟩
theorem c36 : cAt Tryd.prog 36 = some F36.er := by kernel_rfl
def L39_0 : C := (.seq (.reg [] [⟨(some 15), none, (.bin .lss (.t 14) (.t 13))⟩]) (.seq (.cond (.t 15) .skip (.exit 0)) (.seq (.block 1 (.seq (.reg [] [⟨(some 16), none, (.mov (.t 14))⟩, ⟨(some 4), none, (.mov (.t 16))⟩]) (.reg [⟨(some 17), none, (.mov (.t 3))⟩, ⟨(some 18), none, (.mov (.t 0))⟩, ⟨(some 19), none, (.mov (.t 0))⟩, ⟨(some 20), none, (.call (.v (.fn (.func 41) [] [])) [(.t 19)])⟩, ⟨(some 21), none, (.mov (.t 4))⟩, ⟨(some 22), none, (.bin .add (.t 20) (.t 21))⟩, ⟨(some 23), none, (.bin .rem (.t 22) (.v (.d (.int .i64 32))))⟩, ⟨(some 24), none, (.nilck (.t 18))⟩, ⟨(some 25), none, (.fieldA 0 (.t 24))⟩, ⟨(some 26), none, (.idxAA 32 5 (.t 25) (.t 23))⟩, ⟨(some 27), none, (.load true 5 (.t 26))⟩, ⟨(some 28), none, (.bslice 58 true 5 1 [(.int .i64 0), (.int .i64 0), (.int .i64 0), (.int .i64 0), (.int .i64 0)] [(0, (.t 27))])⟩] [⟨(some 29), none, (.append 58 true 5 40 (.t 17) (.t 28))⟩, ⟨(some 3), none, (.mov (.t 29))⟩]))) (.reg [] [⟨(some 30), none, (.bin .add (.t 14) (.v (.d (.int .i64 1))))⟩, ⟨(some 14), none, (.mov (.t 30))⟩]))))
def F39 : CFunc := ⟨32, [(.tmp 2)], (.seq (.reg [] [⟨(some 2), none, (.nsl 58 true 5)⟩]) (.seq (.seq (.reg [] [⟨(some 5), none, (.mov (.t 0))⟩, ⟨(some 6), none, (.beq .ptr false (.t 5) (.v (.d .nilp)))⟩]) (.cond (.t 6) (.seq (.reg [] [⟨(some 2), none, (.nsl 58 true 5)⟩]) .ret) .skip)) (.seq (.reg [] [⟨(some 3), none, (.nsl 58 true 5)⟩]) (.seq (.seq (.mix [⟨(some 7), none, (.mov (.t 0))⟩, ⟨(some 8), none, (.nilck (.t 7))⟩, ⟨(some 9), none, (.fieldA 160 (.t 8))⟩, ⟨(some 10), none, (.load false 1 (.t 9))⟩, ⟨(some 11), none, (.mov (.t 0))⟩, ⟨(some 12), none, (.call (.v (.fn (.func 41) [] [])) [(.t 11)])⟩, ⟨(some 13), none, (.bin .sub (.t 10) (.t 12))⟩, ⟨(some 14), none, (.mov (.v (.d (.int .i64 0))))⟩] [[], [], [], [], [], [3], [], []] [false, false, false, false, false, true, false, false]) (.block 0 (.loop [0, 3, 13, 14] [3] L39_0))) (.seq (.reg [] [⟨(some 31), none, (.mov (.t 3))⟩, ⟨(some 2), none, (.mov (.t 31))⟩]) .ret)))))⟩
theorem c39 : cAt Tryd.prog 39 = some F39.er := by kernel_rfl
def F41 : CFunc := ⟨11, [(.tmp 2)], (.seq (.reg [] [⟨(some 2), none, (.mov (.v (.d (.int .i64 0))))⟩]) (.seq (.seq (.reg [] [⟨(some 3), none, (.mov (.t 0))⟩, ⟨(some 4), none, (.beq .ptr false (.t 3) (.v (.d .nilp)))⟩]) (.cond (.t 4) (.seq (.reg [] [⟨(some 2), none, (.mov (.v (.d (.int .i64 0))))⟩]) .ret) .skip)) (.seq (.reg [] [⟨(some 5), none, (.mov (.t 0))⟩, ⟨(some 6), none, (.nilck (.t 5))⟩, ⟨(some 7), none, (.fieldA 160 (.t 6))⟩, ⟨(some 8), none, (.load false 1 (.t 7))⟩, ⟨(some 9), none, (.bin .sub (.t 8) (.v (.d (.int .i64 32))))⟩, ⟨(some 10), none, (.mx [(.v (.d (.int .i64 0))), (.t 9)])⟩, ⟨(some 2), none, (.mov (.t 10))⟩]) .ret)))⟩
theorem c41 : cAt Tryd.prog 41 = some F41.er := by kernel_rfl
def F43 : CFunc := ⟨31, [(.tmp 2)], (.seq (.reg [] [⟨(some 1), none, (.box 58 true 5 (.t 0))⟩, ⟨(some 2), none, (.mov (.v (.d (.bool false))))⟩]) (.seq (.reg [] [⟨(some 3), none, (.mov (.v (.fn (.func 69) [] [])))⟩]) (.seq (.reg [] [⟨(some 4), none, (.fieldA 0 (.t 1))⟩, ⟨(some 5), none, (.load false 1 (.t 4))⟩, ⟨(some 6), none, (.bin .geq (.t 5) (.v (.d (.int .i64 0))))⟩, ⟨(some 7), none, (.mov (.t 6))⟩, ⟨(some 8), (some (7, true)), (.mov (.t 3))⟩, ⟨(some 9), (some (7, true)), (.fieldA 1 (.t 1))⟩, ⟨(some 10), (some (7, true)), (.load false 1 (.t 9))⟩, ⟨(some 11), (some (7, true)), (.call (.t 8) [(.t 10), (.v (.d (.int .i64 4)))])⟩, ⟨(some 12), none, (.pick (.t 7) (.t 11) (.v (.d (.bool false))))⟩, ⟨(some 13), none, (.mov (.t 12))⟩, ⟨(some 14), (some (13, true)), (.mov (.t 3))⟩, ⟨(some 15), (some (13, true)), (.fieldA 2 (.t 1))⟩, ⟨(some 16), (some (13, true)), (.load false 1 (.t 15))⟩, ⟨(some 17), (some (13, true)), (.call (.t 14) [(.t 16), (.v (.d (.int .i64 8)))])⟩, ⟨(some 18), none, (.pick (.t 13) (.t 17) (.v (.d (.bool false))))⟩, ⟨(some 19), none, (.mov (.t 18))⟩, ⟨(some 20), (some (19, true)), (.mov (.t 3))⟩, ⟨(some 21), (some (19, true)), (.fieldA 3 (.t 1))⟩, ⟨(some 22), (some (19, true)), (.load false 1 (.t 21))⟩, ⟨(some 23), (some (19, true)), (.call (.t 20) [(.t 22), (.v (.d (.int .i64 3)))])⟩, ⟨(some 24), none, (.pick (.t 19) (.t 23) (.v (.d (.bool false))))⟩, ⟨(some 25), none, (.mov (.t 24))⟩, ⟨(some 26), (some (25, true)), (.fieldA 4 (.t 1))⟩, ⟨(some 27), (some (25, true)), (.load false 1 (.t 26))⟩, ⟨(some 28), (some (25, true)), (.call (.v (.fn (.func 70) [] [])) [(.t 27)])⟩, ⟨(some 29), (some (25, true)), (.bin .neq (.t 28) (.v (.d (.str ⟨#[]⟩))))⟩, ⟨(some 30), none, (.pick (.t 25) (.t 29) (.v (.d (.bool false))))⟩, ⟨(some 2), none, (.mov (.t 30))⟩]) .ret)))⟩
theorem c43 : cAt Tryd.prog 43 = some F43.er := by kernel_rfl
def F44 : CFunc := ⟨24, [(.tmp 2)], (.seq (.reg [] [⟨(some 1), none, (.box 58 true 5 (.t 0))⟩, ⟨(some 2), none, (.mov (.v (.d (.str ⟨#[]⟩))))⟩]) (.seq (.seq (.reg [] [⟨(some 3), none, (.load true 5 (.t 1))⟩, ⟨(some 4), none, (.call (.v (.fn (.func 43) [] [])) [(.t 3)])⟩, ⟨(some 5), none, (.unop .not (.t 4))⟩]) (.cond (.t 5) (.seq (.reg [] [⟨(some 2), none, (.mov (.v (.d (.str ⟨#[]⟩))))⟩]) .ret) .skip)) (.seq (.mix [⟨(some 6), none, (.fieldA 0 (.t 1))⟩, ⟨(some 7), none, (.load false 1 (.t 6))⟩, ⟨(some 8), none, (.call (.v (.fn (.func 63) [] [])) [(.t 7)])⟩, ⟨(some 9), none, (.fieldA 1 (.t 1))⟩, ⟨(some 10), none, (.load false 1 (.t 9))⟩, ⟨(some 11), none, (.call (.v (.fn (.func 63) [] [])) [(.t 10)])⟩, ⟨(some 12), none, (.fieldA 2 (.t 1))⟩, ⟨(some 13), none, (.load false 1 (.t 12))⟩, ⟨(some 14), none, (.call (.v (.fn (.func 63) [] [])) [(.t 13)])⟩, ⟨(some 15), none, (.fieldA 3 (.t 1))⟩, ⟨(some 16), none, (.load false 1 (.t 15))⟩, ⟨(some 17), none, (.idxAA 3 1 (.g 1) (.t 16))⟩, ⟨(some 18), none, (.load false 1 (.t 17))⟩, ⟨(some 19), none, (.fieldA 4 (.t 1))⟩, ⟨(some 20), none, (.load false 1 (.t 19))⟩, ⟨(some 21), none, (.call (.v (.fn (.func 70) [] [])) [(.t 20)])⟩, ⟨(some 22), none, (.bslice 9 true 1 8 [(.str ⟨#[]⟩)] [(0, (.v (.d (.str ⟨#[99, 121, 99, 108, 101]⟩)))), (1, (.t 8)), (2, (.v (.d (.str ⟨#[99, 104, 97, 110, 110, 101, 108]⟩)))), (3, (.t 11)), (4, (.v (.d (.str ⟨#[115, 105, 103, 110, 97, 108]⟩)))), (5, (.t 14)), (6, (.t 18)), (7, (.t 21))])⟩, ⟨(some 23), none, (.call (.v (.fn (.func 71) [] [])) [(.t 22), (.v (.d (.str ⟨#[32]⟩)))])⟩, ⟨(some 2), none, (.mov (.t 23))⟩] [[], [], [], [], [2], [], [], [2, 5], [], [], [2, 5, 8], [], [2, 5, 8], [], [2, 5, 8], [10, 12], [], [], []] [false, false, false, false, false, false, false, false, false, false, false, false, false, false, false, false, false, false, false]) .ret)))⟩
theorem c44 : cAt Tryd.prog 44 = some F44.er := by kernel_rfl
def F67 : CFunc := ⟨9, [(.tmp 2)], (.seq (.reg [] [⟨(some 2), none, (.mov (.v (.d (.bool false))))⟩]) (.seq (.reg [] [⟨(some 3), none, (.mov (.t 0))⟩, ⟨(some 4), none, (.bin .geq (.t 3) (.v (.d (.int .i64 0))))⟩, ⟨(some 5), none, (.mov (.t 4))⟩, ⟨(some 6), (some (5, true)), (.mov (.t 0))⟩, ⟨(some 7), (some (5, true)), (.bin .lss (.t 6) (.v (.d (.int .i64 65536))))⟩, ⟨(some 8), none, (.pick (.t 5) (.t 7) (.v (.d (.bool false))))⟩, ⟨(some 2), none, (.mov (.t 8))⟩]) .ret))⟩
theorem c67 : cAt Tryd.prog 67 = some F67.er := by kernel_rfl
def F69 : CFunc := ⟨12, [(.tmp 4)], (.seq (.reg [] [⟨(some 4), none, (.mov (.v (.d (.bool false))))⟩]) (.seq (.reg [] [⟨(some 5), none, (.mov (.t 0))⟩, ⟨(some 6), none, (.bin .geq (.t 5) (.v (.d (.int .i64 0))))⟩, ⟨(some 7), none, (.mov (.t 6))⟩, ⟨(some 8), (some (7, true)), (.mov (.t 0))⟩, ⟨(some 9), (some (7, true)), (.mov (.t 1))⟩, ⟨(some 10), (some (7, true)), (.bin .lss (.t 8) (.t 9))⟩, ⟨(some 11), none, (.pick (.t 7) (.t 10) (.v (.d (.bool false))))⟩, ⟨(some 4), none, (.mov (.t 11))⟩]) .ret))⟩
theorem c69 : cAt Tryd.prog 69 = some F69.er := by kernel_rfl
def S70_0 : C := (.block 0 (.seq (.reg [] [⟨(some 7), none, (.mov (.t 0))⟩, ⟨(some 8), none, (.bin .lss (.t 7) (.v (.d (.int .i64 0))))⟩, ⟨(some 9), none, (.mov (.t 8))⟩, ⟨(some 10), (some (9, false)), (.mov (.t 0))⟩, ⟨(some 11), (some (9, false)), (.bin .gtr (.t 10) (.v (.d (.int .i64 63))))⟩, ⟨(some 12), none, (.pick (.t 9) (.v (.d (.bool true))) (.t 11))⟩, ⟨(some 6), none, (.mov (.t 12))⟩]) (.cond (.t 6) (.seq (.reg [] [⟨(some 2), none, (.mov (.v (.d (.str ⟨#[]⟩))))⟩]) .ret) (.seq (.reg [] [⟨(some 14), none, (.mov (.t 0))⟩, ⟨(some 15), none, (.bin .eql (.t 14) (.v (.d (.int .i64 0))))⟩, ⟨(some 13), none, (.mov (.t 15))⟩]) (.cond (.t 13) (.seq (.reg [] [⟨(some 2), none, (.mov (.v (.d (.str ⟨#[45]⟩))))⟩]) .ret) .skip)))))
def L70_1 : C := (.seq (.reg [] [⟨(some 18), none, (.bin .lss (.t 17) (.v (.d (.int .i64 6))))⟩]) (.seq (.cond (.t 18) .skip (.exit 1)) (.seq (.block 2 (.seq (.reg [] [⟨(some 19), none, (.mov (.t 17))⟩, ⟨(some 20), none, (.idx false 6 1 (.t 16) (.t 17))⟩, ⟨(some 4), none, (.mov (.t 19))⟩, ⟨(some 5), none, (.mov (.t 20))⟩]) (.seq (.reg [] [⟨(some 21), none, (.mov (.t 0))⟩, ⟨(some 22), none, (.mov (.t 4))⟩, ⟨(some 23), none, (.call (.v (.fn (.func 33) [] [])) [(.t 21), (.t 22)])⟩]) (.cond (.t 23) (.reg [] [⟨(some 24), none, (.mov (.t 3))⟩, ⟨(some 25), none, (.mov (.t 5))⟩, ⟨(some 26), none, (.bslice 9 true 1 1 [(.str ⟨#[]⟩)] [(0, (.t 25))])⟩, ⟨(some 27), none, (.append 9 true 1 16 (.t 24) (.t 26))⟩, ⟨(some 3), none, (.mov (.t 27))⟩]) .skip)))) (.reg [] [⟨(some 28), none, (.bin .add (.t 17) (.v (.d (.int .i64 1))))⟩, ⟨(some 17), none, (.mov (.t 28))⟩]))))
def S70_2 : C := (.seq (.seq (.reg [] [⟨(some 16), none, (.load true 6 (.g 2))⟩, ⟨(some 17), none, (.mov (.v (.d (.int .i64 0))))⟩]) (.block 1 (.loop [0, 3, 16, 17] [3] L70_1))) (.reg [] [⟨(some 29), none, (.mov (.t 3))⟩, ⟨(some 30), none, (.call (.v (.fn (.func 71) [] [])) [(.t 29), (.v (.d (.str ⟨#[43]⟩)))])⟩, ⟨(some 2), none, (.mov (.t 30))⟩]))
def F70 : CFunc := ⟨31, [(.tmp 2)], (.seq (.reg [] [⟨(some 2), none, (.mov (.v (.d (.str ⟨#[]⟩))))⟩]) (.cut [0] [2] [0] S70_0 (.seq (.reg [] [⟨(some 3), none, (.nsl 9 true 1)⟩]) (.cut [0, 3] [] [2] S70_2 .ret))))⟩
theorem c70 : cAt Tryd.prog 70 = some F70.er := by kernel_rfl
def cfT : List (Nat × CFunc) := [(3, F3), (4, F4), (9, F9), (33, F33), (34, F34), (35, F35), (36, F36), (39, F39), (41, F41), (43, F43), (44, F44), (67, F67), (69, F69), (70, F70)]
def lookT : List (Nat × CFunc) → Nat → Option CFunc
  | [], _ => none
  | (i, F) :: r, j => match Nat.beq j i with | true => some F | false => lookT r j
def extT : List (FuncId × XK) := [(76, .grow 5 true 1 1), (63, .itoaT 3), (71, .join)]
def gl1_0 : ByteArray := ⟨#[108, 97, 116, 99, 104, 101, 100]⟩
def gl1_1 : ByteArray := ⟨#[98, 97, 99, 107]⟩
def gl1_2 : ByteArray := ⟨#[111, 117, 116]⟩
def gls1 : List ByteArray := [gl1_0, gl1_1, gl1_2]
def gl2_0 : ByteArray := ⟨#[102, 114, 97, 109, 101]⟩
def gl2_1 : ByteArray := ⟨#[114, 97, 110, 103, 101]⟩
def gl2_2 : ByteArray := ⟨#[115, 112, 105, 107, 101]⟩
def gl2_3 : ByteArray := ⟨#[115, 116, 117, 99, 107]⟩
def gl2_4 : ByteArray := ⟨#[100, 114, 105, 102, 116]⟩
def gl2_5 : ByteArray := ⟨#[109, 105, 115]⟩
def gls2 : List ByteArray := [gl2_0, gl2_1, gl2_2, gl2_3, gl2_4, gl2_5]
def E0 : Env := { cf := lookT cfT, ext := extOf extT, gl := fun g => match Nat.beq g 1 with | true => some [.str gl1_0, .str gl1_1, .str gl1_2] | false => match Nat.beq g 2 with | true => some [.str gl2_0, .str gl2_1, .str gl2_2, .str gl2_3, .str gl2_4, .str gl2_5] | false => none, del := fun _ => false, ref := fun f => Nat.beq f 40 || Nat.beq f 47, gw := [(3, isPow)] }
theorem lookT_ok : ∀ (l : List (Nat × CFunc)), (∀ p, p ∈ l → cAt Tryd.prog p.1 = some p.2.er) → ∀ f F, lookT l f = some F → cAt Tryd.prog f = some F.er
  | [], _, f, F, h => by simp [lookT] at h
  | (i, G) :: r, hl, f, F, h => by
    simp only [lookT] at h
    split at h
    · rename_i hb
      cases h
      rw [Nat.eq_of_beq_eq_true hb]
      exact hl (i, _) (List.mem_cons_self ..)
    · exact lookT_ok r (fun p hp => hl p (by simp [hp])) f F h
theorem cfT_ok : ∀ p, p ∈ cfT → cAt Tryd.prog p.1 = some p.2.er := by
  unfold cfT
  simp only [List.forall_mem_cons]
  exact ⟨c3, c4, c9, c33, c34, c35, c36, c39, c41, c43, c44, c67, c69, c70, fun p h => by simp at h⟩
theorem e0_ext {f : FuncId} (h : lookX extT f = none) : ∀ a m, E0.ext f a m = none := ext_none h
theorem e0_cf : ∀ f F, E0.cf f = some F → cAt Tryd.prog f = some F.er := lookT_ok cfT cfT_ok
theorem w3 {args : List V} {m : Mem} (os : List (A E0)) {r : List V × Mem} (h : walkF E0 F3 args m os = some (r, want os)) : cl E0 3 args m = some r := cl_walk (e0_ext (by kernel_rfl)) (by kernel_rfl) (by decide) os h
theorem w4 {args : List V} {m : Mem} (os : List (A E0)) {r : List V × Mem} (h : walkF E0 F4 args m os = some (r, want os)) : cl E0 4 args m = some r := cl_walk (e0_ext (by kernel_rfl)) (by kernel_rfl) (by decide) os h
theorem w9 {args : List V} {m : Mem} (os : List (A E0)) {r : List V × Mem} (h : walkF E0 F9 args m os = some (r, want os)) : cl E0 9 args m = some r := cl_walk (e0_ext (by kernel_rfl)) (by kernel_rfl) (by decide) os h
theorem w33 {args : List V} {m : Mem} (os : List (A E0)) {r : List V × Mem} (h : walkF E0 F33 args m os = some (r, want os)) : cl E0 33 args m = some r := cl_walk (e0_ext (by kernel_rfl)) (by kernel_rfl) (by decide) os h
theorem w35 {args : List V} {m : Mem} (os : List (A E0)) {r : List V × Mem} (h : walkF E0 F35 args m os = some (r, want os)) : cl E0 35 args m = some r := cl_walk (e0_ext (by kernel_rfl)) (by kernel_rfl) (by decide) os h
theorem w36 {args : List V} {m : Mem} (os : List (A E0)) {r : List V × Mem} (h : walkF E0 F36 args m os = some (r, want os)) : cl E0 36 args m = some r := cl_walk (e0_ext (by kernel_rfl)) (by kernel_rfl) (by decide) os h
theorem w39 {args : List V} {m : Mem} (os : List (A E0)) {r : List V × Mem} (h : walkF E0 F39 args m os = some (r, want os)) : cl E0 39 args m = some r := cl_walk (e0_ext (by kernel_rfl)) (by kernel_rfl) (by decide) os h
theorem w41 {args : List V} {m : Mem} (os : List (A E0)) {r : List V × Mem} (h : walkF E0 F41 args m os = some (r, want os)) : cl E0 41 args m = some r := cl_walk (e0_ext (by kernel_rfl)) (by kernel_rfl) (by decide) os h
theorem w43 {args : List V} {m : Mem} (os : List (A E0)) {r : List V × Mem} (h : walkF E0 F43 args m os = some (r, want os)) : cl E0 43 args m = some r := cl_walk (e0_ext (by kernel_rfl)) (by kernel_rfl) (by decide) os h
theorem w67 {args : List V} {m : Mem} (os : List (A E0)) {r : List V × Mem} (h : walkF E0 F67 args m os = some (r, want os)) : cl E0 67 args m = some r := cl_walk (e0_ext (by kernel_rfl)) (by kernel_rfl) (by decide) os h
theorem w69 {args : List V} {m : Mem} (os : List (A E0)) {r : List V × Mem} (h : walkF E0 F69 args m os = some (r, want os)) : cl E0 69 args m = some r := cl_walk (e0_ext (by kernel_rfl)) (by kernel_rfl) (by decide) os h
theorem w70 {args : List V} {m : Mem} (os : List (A E0)) {r : List V × Mem} (h : walkF E0 F70 args m os = some (r, want os)) : cl E0 70 args m = some r := cl_walk (e0_ext (by kernel_rfl)) (by kernel_rfl) (by decide) os h
theorem e0_del : ∀ f, E0.del f = true → DelOK Tryd.prog f := fun f h => by cases h
def rhoG76 : Shelf.Ren := ⟨fun x => if x = 4 then 76 else x, fun x => match x with | 0 => 0 | 3 => 3 | 4 => 4 | 9 => 9 | 20 => 20 | 22 => 25 | 25 => 5 | x => x, fun x => x⟩
theorem laysG76 : Lays8.n4 Tryd.prog rhoG76 := by
  constructor
  case f4 => exact ⟨"slices.Grow[[]byte,byte]", by kernel_rfl, by kernel_rfl⟩
  all_goals first | kernel_rfl | (intro w; kernel_rfl)
theorem xok76 : XOK Tryd.prog 76 (.grow 5 true 1 1) := ⟨by decide, ⟨_, rfl, by kernel_rfl, by kernel_rfl⟩, growOK_of laysG76 rfl rfl (i0 := (Tryd.prog.info? 5).getD default) (z := (((Tryd.prog.info? 5).bind (·.zero)).getD default)) (by kernel_rfl) (by kernel_rfl) (by kernel_rfl) (by kernel_rfl) (by kernel_rfl) (by decide) (by decide)⟩
open Go.Shelf
def rhoI : Shelf.Ren := ⟨fun x => match x with | 171 => 63 | 243 => 83 | 246 => 93 | 283 => 98 | 284 => 99 | 285 => 100 | 286 => 101 | 129 => 105 | 317 => 104 | 318 => 106 | 319 => 107 | 320 => 108 | 337 => 109 | 338 => 110 | n => n,
  fun x => match x with | 3 => 3 | 9 => 9 | 2 => 2 | 4 => 4 | 171 => 116 | 0 => 0 | 53 => 99 | 37 => 25 | 5 => 5 | 173 => 118 | 212 => 123 | 51 => 97 | 20 => 20 | 213 => 124 | 46 => 80 | 232 => 125 | 233 => 126 | n => n,
  fun x => match x with | 17 => 3 | 18 => 5 | 19 => 6 | n => n⟩
theorem laysI : LaysM.n171 Tryd.prog rhoI := by
  constructor <;> first | kernel_rfl | (intro w; kernel_rfl) | decide | (constructor <;> first | kernel_rfl | (intro w; kernel_rfl) | decide | (constructor <;> first | kernel_rfl | (intro w; kernel_rfl) | decide))
theorem xok63 : XOK Tryd.prog 63 (.itoaT 3) := ⟨by decide, ⟨_, rfl, by kernel_rfl, by kernel_rfl⟩, itoaTOK_of laysI rfl (by kernel_rfl)⟩
open Go.Shelf
def rhoJ : Shelf.Ren := ⟨fun x => match x with | 156 => 71 | 165 => 86 | 166 => 87 | 169 => 88 | 240 => 94 | 241 => 95 | 276 => 102 | 277 => 103 | n => n,
  fun x => match x with | 31 => 89 | 9 => 9 | 3 => 3 | 4 => 4 | 0 => 0 | 20 => 20 | 72 => 103 | 76 => 107 | 70 => 101 | 37 => 25 | 75 => 106 | 127 => 114 | 164 => 120 | 5 => 5 | 80 => 109 | n => n,
  fun x => match x with | n => n⟩
theorem laysJ : Lays.n156 Tryd.prog rhoJ := by
  constructor <;> first | kernel_rfl | (intro w; kernel_rfl) | decide | (constructor <;> first | kernel_rfl | (intro w; kernel_rfl) | decide | (constructor <;> first | kernel_rfl | (intro w; kernel_rfl) | decide))
theorem extraJ : Builder.Extra Tryd.prog rhoJ := by
  constructor <;> first | kernel_rfl | (intro w; kernel_rfl) | decide | (constructor <;> first | kernel_rfl | (intro w; kernel_rfl) | decide | (constructor <;> first | kernel_rfl | (intro w; kernel_rfl) | decide))
theorem xok71 : XOK Tryd.prog 71 .join := ⟨by decide, ⟨_, rfl, by kernel_rfl, by kernel_rfl⟩, joinOK_of laysJ extraJ rfl⟩
theorem e0_x : ∀ p, p ∈ extT → XOK Tryd.prog p.1 p.2 := by
  unfold extT
  simp only [List.forall_mem_cons]
  exact ⟨xok76, xok63, xok71, fun p h => by simp at h⟩
theorem e0_w : ∀ p, p ∈ extT → p.2.told E0.gw := by
  unfold extT
  simp only [List.forall_mem_cons]
  exact ⟨by first | exact trivial | simp [XK.told, E0], by first | exact trivial | simp [XK.told, E0], by first | exact trivial | simp [XK.told, E0], fun p h => by simp at h⟩
end Go.Proofs.YtkipngagfiaddaaDoor.Den

namespace Go.Proofs.YtkipngagfiaddaaDoor.Den
open Go
set_option linter.unusedVariables false
set_option linter.unusedSimpArgs false
set_option linter.unusedSectionVars false
def tabE {α : Type} [Inhabited α] (T : List α) (n : Nat) : List α := (List.range n).map fun (j : Nat) => gt T (j : Int)
def staE {α : Type} [Inhabited α] (T : List α) (n : Nat) (i : Int) (v : α) : List α := st (tabE T n) i v
def arrE {α : Type} [Inhabited α] (enc : α → List D) (T : List α) (n : Nat) : List D := ((tabE T n).map enc).flatten
section
variable {α : Type} [Inhabited α]
theorem tabE_len (T : List α) (n : Nat) : (tabE T n).length = n := by simp [tabE]
theorem staE_len (T : List α) (n : Nat) (i : Int) (v : α) : (staE T n i v).length = n := by simp [staE, st, tabE_len]
theorem tabE_id {T : List α} {n : Nat} (h : T.length = n) : tabE T n = T := by
  apply List.ext_getElem
  · rw [tabE_len, h]
  · intro j h1 h2
    simp [tabE, gt, List.getD, h2]
theorem flat_len_E {enc : α → List D} {z : Nat} (hz : ∀ a, (enc a).length = z) : ∀ (l : List α), ((l.map enc).flatten).length = l.length * z
  | [] => by simp
  | a :: l => by
    have := flat_len_E hz l
    simp only [List.map_cons, List.flatten_cons, List.length_append, hz, this, List.length_cons, Nat.succ_mul]; omega
theorem flat_at_E {enc : α → List D} {z : Nat} (hz : ∀ a, (enc a).length = z) : ∀ (l : List α) (i : Nat) (h : i < l.length), (((l.map enc).flatten).drop (i * z)).take z = enc l[i]
  | a :: l, 0, _ => by simp [hz, List.take_append_of_le_length]
  | a :: l, i + 1, h => by
    have := flat_at_E hz l i (by simpa using h)
    simp only [List.map_cons, List.flatten_cons, List.getElem_cons_succ]
    rw [← this, Nat.succ_mul, Nat.add_comm, ← List.drop_drop, List.drop_left' (hz a)]
theorem flat_set_E {enc : α → List D} {z : Nat} (hz : ∀ a, (enc a).length = z) (v : α) : ∀ (l : List α) (i : Nat), i < l.length →
    ((l.set i v).map enc).flatten = ((l.map enc).flatten).take (i * z) ++ (enc v ++ ((l.map enc).flatten).drop (i * z + z))
  | a :: l, 0, _ => by
    simp only [List.set_cons_zero, List.map_cons, List.flatten_cons, Nat.zero_mul, List.take_zero, List.nil_append, Nat.zero_add]
    rw [List.drop_left' (hz a)]
  | a :: l, i + 1, h => by
    have := flat_set_E hz v l i (by simpa using h)
    simp only [List.set_cons_succ, List.map_cons, List.flatten_cons, this]
    have e1 : (i + 1) * z = z + i * z := by rw [Nat.succ_mul, Nat.add_comm]
    have e2 : (enc a).take (z + i * z) = enc a := List.take_of_length_le (by rw [hz]; exact Nat.le_add_right _ _)
    have e3 : ∀ (r : List D) (k : Nat), (enc a ++ r).drop (z + k) = r.drop k := fun r k => by rw [← List.drop_drop, List.drop_left' (hz a)]
    rw [e1, List.take_append, e2, hz, Nat.add_sub_cancel_left, List.append_assoc, Nat.add_assoc, e3]
theorem staE_set {T : List α} {n : Nat} {i : Int} {v : α} (h1 : 0 ≤ i) (h2 : i.toNat < n) : tabE (staE T n i v) n = (tabE T n).set i.toNat v := by
  rw [tabE_id (staE_len T n i v)]; rfl
theorem arrE_len {enc : α → List D} {z : Nat} (hz : ∀ a, (enc a).length = z) (T : List α) (n : Nat) : (arrE enc T n).length = n * z := by
  unfold arrE; rw [flat_len_E hz, tabE_len]
theorem arrE_at {enc : α → List D} {z : Nat} (hz : ∀ a, (enc a).length = z) {T : List α} {n : Nat} {i : Int} (h1 : 0 ≤ i) (h2 : i.toNat < n) : ((arrE enc T n).drop (i.toNat * z)).take z = enc (gt T i) := by
  unfold arrE
  rw [flat_at_E hz _ _ (by rw [tabE_len]; exact h2)]
  simp [tabE, show ((i.toNat : Nat) : Int) = i by omega]
theorem arrE_sta {enc : α → List D} {z : Nat} (hz : ∀ a, (enc a).length = z) {T : List α} {n : Nat} {i : Int} {v : α} (h1 : 0 ≤ i) (h2 : i.toNat < n) :
    arrE enc (staE T n i v) n = (arrE enc T n).take (i.toNat * z) ++ (enc v ++ (arrE enc T n).drop (i.toNat * z + z)) := by
  unfold arrE
  rw [staE_set h1 h2]
  exact flat_set_E hz v _ _ (by rw [tabE_len]; exact h2)
variable {E : Env} {c : CallT} {t : Nat → V} {m : Mem}
theorem part_mid {cells : List V} {A : List D} {off z o size : Nat} {agg : Bool} {v : V} (hx : (cells.drop off).take z = A.map V.d) (hA : A.length = z) (h0 : 0 < z) (hv : part agg (A.map V.d) o size = some v) : part agg cells (off + o) size = some v := by
  have key : ∀ q, q < z → cells[off + q]? = (A.map V.d)[q]? := fun q hq => arr_at hx hq
  unfold part at hv ⊢
  cases agg with
  | false =>
    simp only [Bool.false_eq_true, if_false] at hv ⊢
    have ho : o < z := by
      rcases Nat.lt_or_ge o z with h | h
      · exact h
      · rw [List.getElem?_eq_none (by simp [hA]; exact h)] at hv; cases hv
    rw [key o ho]; exact hv
  | true =>
    simp only [if_true] at hv ⊢
    obtain ⟨w, hw, rfl⟩ := Option.map_eq_some_iff.1 hv
    unfold seg at hw ⊢
    by_cases hl : o + size ≤ (A.map V.d).length
    · rw [if_pos hl] at hw
      cases hw
      have hl' : o + size ≤ z := by simpa [hA] using hl
      have hc : off + z ≤ cells.length := by
        have := congrArg List.length hx
        simp [hA] at this; omega
      have hlen : off + o + size ≤ cells.length := by omega
      rw [if_pos hlen, ← hx]
      simp only [Option.map_some, Option.some.injEq, V.agg.injEq]
      rw [List.drop_take, List.drop_drop, List.take_take, Nat.min_eq_left (by omega)]
    · rw [if_neg hl] at hw; cases hw
theorem o_load_arrE {α : Type} [Inhabited α] {enc : α → List D} {z : Nat} (hz : ∀ a, (enc a).length = z) (h0 : 0 < z) {id nn row off n o size : Nat} {agg : Bool} {T : List α} {i : Int} {v : V}
    (hx : (((m[id]?).bind fun b => b.row? nn row).map fun cs => (cs.drop off).take (n * z)) = some ((arrE enc T n).map V.d)) (h : inb n i = true) (hv : part agg ((enc (gt T i)).map V.d) o size = some v) :
    doI E c (.load agg size (.v (.ptr id nn row (off + i.toNat * z + o)))) t m = some (v, m) := by
  obtain ⟨h1, h2⟩ := inb_spec h
  obtain ⟨cs, hc, hx⟩ := Option.map_eq_some_iff.1 hx
  obtain ⟨b, hb, hc⟩ := Option.bind_eq_some_iff.1 hc
  have hle : i.toNat * z + z ≤ n * z := by rw [← Nat.succ_mul]; exact Nat.mul_le_mul_right z h2
  have hx2 : (cs.drop (off + i.toNat * z)).take z = (enc (gt T i)).map V.d := by
    rw [← arrE_at hz h1 h2 (T := T), List.map_take, List.map_drop, ← hx, List.drop_take, List.drop_drop, List.take_take, Nat.min_eq_left (by omega)]
  have := part_mid hx2 (hz _) h0 hv
  simp [doI, ev, loadV, hb, hc, this]
theorem o_store_arrE {α : Type} [Inhabited α] {enc : α → List D} {z : Nat} (hz : ∀ a, (enc a).length = z) (h0 : 0 < z) (hsc : ∀ a, toSs ((enc a).map V.d) = some (enc a)) {id nn row off n s : Nat} {e : TypeId} {rows : List (List D)} {cs : List D} {T : List α} {i : Int} {v : α}
    (hm : m[id]? = some (.flat e s rows false)) (hr : rows[row]? = some cs) (hn : Nat.beq nn rows.length = true) (hx : (cs.drop off).take (n * z) = arrE enc T n) (h : inb n i = true) :
    doI E c (.store z (.v (.ptr id nn row (off + i.toNat * z))) (.v (.agg ((enc v).map V.d)))) t m = some (.tup [], m.set id (.flat e s (rows.set row (cs.take off ++ (arrE enc (staE T n i v) n ++ cs.drop (off + n * z)))) false)) := by
  obtain ⟨h1, h2⟩ := inb_spec h
  have hle : i.toNat * z + z ≤ n * z := by rw [← Nat.succ_mul]; exact Nat.mul_le_mul_right z h2
  have hlen : off + n * z ≤ cs.length := by
    have := congrArg List.length hx
    rw [arrE_len hz] at this
    simp at this
    rcases Nat.lt_or_ge cs.length (off + n * z) with h | h
    · omega
    · exact h
  have hput : cs.take (off + i.toNat * z) ++ (enc v ++ cs.drop (off + i.toNat * z + z)) = cs.take off ++ (arrE enc (staE T n i v) n ++ cs.drop (off + n * z)) := by
    rw [arrE_sta hz h1 h2, ← hx, List.take_add, List.take_take, Nat.min_eq_left (by omega), List.drop_take, List.drop_drop]
    simp only [List.append_assoc]
    congr 3
    have e1 : cs.drop (off + i.toNat * z + z) = (cs.drop (off + (i.toNat * z + z))).take (n * z - (i.toNat * z + z)) ++ (cs.drop (off + (i.toNat * z + z))).drop (n * z - (i.toNat * z + z)) := by
      rw [List.take_append_drop, Nat.add_assoc]
    rw [e1, List.drop_drop, show off + (i.toNat * z + z) + (n * z - (i.toNat * z + z)) = off + n * z by omega]
  have hl : ((enc v).map V.d).length = z := by simp [hz]
  have hle2 : off + i.toNat * z + z ≤ cs.length := by omega
  simp only [doI, ev, storeV, V.cells, hl, V.cellsOk, hm, Option.bind_some, Blk.put?, beq_len hn, if_true, hsc, setRow, hr, hz, hle2, Option.map_some, and_self, List.append_assoc, hput]
end
end Go.Proofs.YtkipngagfiaddaaDoor.Den

namespace Go.Proofs.YtkipngagfiaddaaDoor.Den
open Go Go.Proofs
set_option maxRecDepth 100000
set_option maxHeartbeats 4000000
set_option linter.unusedVariables false
set_option linter.unusedSimpArgs false
structure R_i64_i64_i64_i64_i64 where
  c0 : Int
  c1 : Int
  c2 : Int
  c3 : Int
  c4 : Int
  deriving Inhabited
def enc_R_i64_i64_i64_i64_i64 (p : R_i64_i64_i64_i64_i64) : List D := [(.int .i64 p.c0), (.int .i64 p.c1), (.int .i64 p.c2), (.int .i64 p.c3), (.int .i64 p.c4)]
end Go.Proofs.YtkipngagfiaddaaDoor.Den

namespace Go.Proofs.YtkipngagfiaddaaDoor.Den
open Go Go.Proofs
set_option maxRecDepth 100000
set_option maxHeartbeats 4000000
set_option linter.unusedVariables false
set_option linter.unusedSimpArgs false
def strings_Join_os_c0 (x0 : Bool) (x1 : List ByteArray) (x2 : ByteArray) : Bool := joinOK x1 x2
theorem strings_Join_os_t0 (x0 : Bool) (x1 : List ByteArray) (x2 : ByteArray) (h : strings_Join_os_c0 x0 x1 x2 = true) : cl E0 71 [(V.d (slD encS true 1 x0 x1)), (V.d (.str x2))] [] = some ([(V.d (.str (joinB x1 x2)))], []) := x_join (l := extT) (f := 71) (m := []) (n := x0) (fl := true) (t := x1) (sep := x2) ⟨⟨rfl, by kernel_rfl⟩, by decide⟩ h
end Go.Proofs.YtkipngagfiaddaaDoor.Den

namespace Go.Proofs.YtkipngagfiaddaaDoor.Den
open Go Go.Proofs
set_option maxRecDepth 100000
set_option maxHeartbeats 4000000
set_option linter.unusedVariables false
set_option linter.unusedSimpArgs false
def fix_right_i_r0_0 (x0 : Int) : Bool := (bif tb (decide (0 ≤ x0)) then (decide (x0 < 65536)) else false)
theorem fix_right_i_t0 (x0 : Int) : cl E0 67 [(V.d (.int .i64 x0))] [] = some ([(V.d (.bool (fix_right_i_r0_0 x0)))], []) := by
  unfold fix_right_i_r0_0
  cases h1 : tb (decide (0 ≤ x0))
  · exact w67 [.b (tbE h1)] (by kernel_rfl)
  · exact w67 [.b (tbE h1)] (by kernel_rfl)
def fix_Has_ii_r0_0 (x0 : Int) (x1 : Int) : Bool := (bif tb (fix_right_i_r0_0 x0) then (bif tb (decide (0 ≤ x1)) then (bif tb (decide (x1 < 16)) then (((andI .i64 (shrI .i64 x0 x1) 1) : Int) == 1) else false) else false) else false)
theorem fix_Has_ii_t0 (x0 : Int) (x1 : Int) : cl E0 33 [(V.d (.int .i64 x0)), (V.d (.int .i64 x1))] [] = some ([(V.d (.bool (fix_Has_ii_r0_0 x0 x1)))], []) := by
  unfold fix_Has_ii_r0_0
  cases h1 : tb (fix_right_i_r0_0 x0)
  · exact w33 [.c (fix_right_i_t0 x0), .b (tbE h1)] (by kernel_rfl)
  · cases h2 : tb (decide (0 ≤ x1))
    · exact w33 [.c (fix_right_i_t0 x0), .b (tbE h1), .b (tbE h2)] (by kernel_rfl)
    · cases h3 : tb (decide (x1 < 16))
      · exact w33 [.c (fix_right_i_t0 x0), .b (tbE h1), .b (tbE h2), .b (tbE h3)] (by kernel_rfl)
      · exact w33 [.c (fix_right_i_t0 x0), .b (tbE h1), .b (tbE h2), .b (tbE h3), .o 18 (fun _ => o_shr (k := .i64) (k2 := .i64) (x := x0) (y := x1) (tbE h2))] (by kernel_rfl)
end Go.Proofs.YtkipngagfiaddaaDoor.Den

namespace Go.Proofs.YtkipngagfiaddaaDoor.Den
open Go Go.Proofs
set_option maxRecDepth 100000
set_option maxHeartbeats 4000000
set_option linter.unusedVariables false
set_option linter.unusedSimpArgs false
def trip_Text_i_S0_c0 (x0 : Int) : Bool := (bif tb (decide (x0 < 0)) then true else (bif tb (decide (63 < x0)) then true else (bif tb ((x0 : Int) == 0) then true else false)))
def trip_Text_i_S0_r0_0 (x0 : Int) : ByteArray := (bif tb (decide (x0 < 0)) then ⟨#[]⟩ else (bif tb (decide (63 < x0)) then ⟨#[]⟩ else ⟨#[45]⟩))
theorem trip_Text_i_S0_t0 (x0 : Int) : trip_Text_i_S0_c0 x0 = true → segG (runC E0 (cl E0) S70_0) [0] [2] [0] 0 ([(V.d (.int .i64 x0))], []) = some (.ret, ([(V.d (.str (trip_Text_i_S0_r0_0 x0)))], [])) := by
  unfold trip_Text_i_S0_c0 trip_Text_i_S0_r0_0
  cases h1 : tb (decide (x0 < 0))
  · cases h2 : tb (decide (63 < x0))
    · cases h3 : tb ((x0 : Int) == 0)
      · intro g0
        exact absurd g0 ft
      · intro g0
        exact seg_walk [.b (tbE h1), .b (tbE h2), .b (tbE h3)] (by kernel_rfl)
    · intro g0
      exact seg_walk [.b (tbE h1), .b (tbE h2)] (by kernel_rfl)
  · intro g0
    exact seg_walk [.b (tbE h1)] (by kernel_rfl)
theorem trip_Text_i_S0_t1 (x0 : Int) : trip_Text_i_S0_c0 x0 = false → segG (runC E0 (cl E0) S70_0) [0] [2] [0] 0 ([(V.d (.int .i64 x0))], []) = some (.normal, ([(V.d (.int .i64 x0))], [])) := by
  unfold trip_Text_i_S0_c0
  cases h1 : tb (decide (x0 < 0))
  · cases h2 : tb (decide (63 < x0))
    · cases h3 : tb ((x0 : Int) == 0)
      · intro g0
        exact seg_walk [.b (tbE h1), .b (tbE h2), .b (tbE h3)] (by kernel_rfl)
      · intro g0
        exact absurd g0 tf
    · intro g0
      exact absurd g0 tf
  · intro g0
    exact absurd g0 tf
structure trip_Text_i_L1_s0 where
  c1 : Bool
  c3 : Int
  c4 : List ByteArray
  deriving Inhabited
def trip_Text_i_L1_h0_e0 (x4 : List ByteArray) (s0 : trip_Text_i_L1_s0) : ByteArray := gt ([gt x4 0, gt x4 1, gt x4 2, gt x4 3, gt x4 4, gt x4 5] : List ByteArray) s0.c3
def trip_Text_i_L1_enc (x0 : List ByteArray) (x1 : Bool) (x2 : Int) (x3 : Bool) (x4 : List ByteArray) (x5 : Int) (s0 : trip_Text_i_L1_s0) : List V × Mem := ([(V.d (.int .i64 x2)), (V.so s0.c1 0 s0.c4.length), (V.agg [(V.d (.str (gt x4 0))), (V.d (.str (gt x4 1))), (V.d (.str (gt x4 2))), (V.d (.str (gt x4 3))), (V.d (.str (gt x4 4))), (V.d (.str (gt x4 5)))]), (V.d (.int .i64 s0.c3))], [(Blk.flat 9 1 (List.map encS s0.c4) false)])
def trip_Text_i_L1_sel (x2 : Int) (x4 : List ByteArray) (s0 : trip_Text_i_L1_s0) : Bool := (bif tb (decide (s0.c3 < 6)) then (bif tb (inb 6 s0.c3) then (bif tb (fix_Has_ii_r0_0 x2 s0.c3) then (bif tb (decide ((s0.c4.length + [(trip_Text_i_L1_h0_e0 x4 s0)].length) * 16 ≤ 140737488355328)) then true else false) else true) else false) else false)
def trip_Text_i_L1_nx (x2 : Int) (x4 : List ByteArray) (s0 : trip_Text_i_L1_s0) : trip_Text_i_L1_s0 := (bif tb (fix_Has_ii_r0_0 x2 s0.c3) then ⟨false, (wi (s0.c3 + 1)), (s0.c4 ++ [(trip_Text_i_L1_h0_e0 x4 s0)])⟩ else ⟨s0.c1, (wi (s0.c3 + 1)), s0.c4⟩)
def trip_Text_i_L1_ok (x2 : Int) (x4 : List ByteArray) (s0 : trip_Text_i_L1_s0) : Bool := (itS (trip_Text_i_L1_sel x2 x4) (trip_Text_i_L1_nx x2 x4) bound s0).isSome
def trip_Text_i_L1_end (x2 : Int) (x4 : List ByteArray) (s0 : trip_Text_i_L1_s0) : trip_Text_i_L1_s0 := (itS (trip_Text_i_L1_sel x2 x4) (trip_Text_i_L1_nx x2 x4) bound s0).getD default
theorem trip_Text_i_L1_go (x0 : List ByteArray) (x1 : Bool) (x2 : Int) (x3 : Bool) (x4 : List ByteArray) (x5 : Int) (s0 : trip_Text_i_L1_s0) : trip_Text_i_L1_sel x2 x4 s0 = true → (roundG (runC E0 (cl E0) L70_1) [0, 3, 16, 17] [3] 1) (trip_Text_i_L1_enc x0 x1 x2 x3 x4 x5 s0) = some (.normal, trip_Text_i_L1_enc x0 x1 x2 x3 x4 x5 (trip_Text_i_L1_nx x2 x4 s0)) := by
  unfold trip_Text_i_L1_sel trip_Text_i_L1_nx
  cases h1 : tb (decide (s0.c3 < 6))
  · intro g0
    exact absurd g0 ft
  · cases h2 : tb (inb 6 s0.c3)
    · intro g0
      exact absurd g0 ft
    · cases h3 : tb (fix_Has_ii_r0_0 x2 s0.c3)
      · intro _
        exact round_walk [.b (tbE h1), .o 20 (fun _ => o_idx_arrs (ss := ([gt x4 0, gt x4 1, gt x4 2, gt x4 3, gt x4 4, gt x4 5] : List ByteArray)) (n := 6) (k := .i64) (i := s0.c3) rfl (tbE h2)), .c (fix_Has_ii_t0 x2 s0.c3), .b (tbE h3)] (by kernel_rfl)
      · cases h4 : tb (decide ((s0.c4.length + [(trip_Text_i_L1_h0_e0 x4 s0)].length) * 16 ≤ 140737488355328))
        · intro g0
          exact absurd g0 ft
        · intro _
          exact round_walk [.b (tbE h1), .o 20 (fun _ => o_idx_arrs (ss := ([gt x4 0, gt x4 1, gt x4 2, gt x4 3, gt x4 4, gt x4 5] : List ByteArray)) (n := 6) (k := .i64) (i := s0.c3) rfl (tbE h2)), .c (fix_Has_ii_t0 x2 s0.c3), .b (tbE h3), .m 27 (o_app_so (nl := s0.c1) (m := [(Blk.flat 9 1 (List.map encS s0.c4) false), (Blk.flat 9 1 [[(.str (trip_Text_i_L1_h0_e0 x4 s0))]] false)]) (enc := encS) (l0 := s0.c4) (l1 := [(trip_Text_i_L1_h0_e0 x4 s0)]) (id := 0) (e := 9) (s := 1) (bytes := 16) (x := (V.so false 1 1)) (n := s0.c4.length) (Nat.beq_refl _) (by kernel_rfl) (by kernel_rfl) (by kernel_rfl) (tbE h4))] (by kernel_rfl)
def trip_Text_i_L1_c0 (s0 : trip_Text_i_L1_s0) : Bool := (bif tb (decide (s0.c3 < 6)) then false else true)
theorem trip_Text_i_L1_x0 (x0 : List ByteArray) (x1 : Bool) (x2 : Int) (x3 : Bool) (x4 : List ByteArray) (x5 : Int) (s0 : trip_Text_i_L1_s0) : trip_Text_i_L1_sel x2 x4 s0 = false → trip_Text_i_L1_c0 s0 = true → (roundG (runC E0 (cl E0) L70_1) [0, 3, 16, 17] [3] 1) (trip_Text_i_L1_enc x0 x1 x2 x3 x4 x5 s0) = some ((.exit 1), ([(V.so s0.c1 0 s0.c4.length)], [(Blk.flat 9 1 (List.map encS s0.c4) false)])) := by
  unfold trip_Text_i_L1_sel trip_Text_i_L1_c0
  cases h1 : tb (decide (s0.c3 < 6))
  · intro g0 g1
    exact round_walk [.b (tbE h1)] (by kernel_rfl)
  · cases h2 : tb (inb 6 s0.c3)
    · intro g0 g1
      exact absurd g1 ft
    · cases h3 : tb (fix_Has_ii_r0_0 x2 s0.c3)
      · intro g0 g1
        exact absurd g0 tf
      · cases h4 : tb (decide ((s0.c4.length + [(trip_Text_i_L1_h0_e0 x4 s0)].length) * 16 ≤ 140737488355328))
        · intro g0 g1
          exact absurd g1 ft
        · intro g0 g1
          exact absurd g0 tf
theorem trip_Text_i_L1_f0_0 (x0 : List ByteArray) (x1 : Bool) (x2 : Int) (x3 : Bool) (x4 : List ByteArray) (x5 : Int) (s : trip_Text_i_L1_s0) (hok : trip_Text_i_L1_ok x2 x4 s = true) (c0 : trip_Text_i_L1_c0 (trip_Text_i_L1_end x2 x4 s) = true) : loopG (roundG (runC E0 (cl E0) L70_1) [0, 3, 16, 17] [3] 1) bound (trip_Text_i_L1_enc x0 x1 x2 x3 x4 x5 s) = some ((.exit 1), ([(V.so ((trip_Text_i_L1_end x2 x4 s).c1) 0 (((trip_Text_i_L1_end x2 x4 s).c4).length))], [(Blk.flat 9 1 (List.map encS ((trip_Text_i_L1_end x2 x4 s).c4)) false)])) := by
  have e : itS (trip_Text_i_L1_sel x2 x4) (trip_Text_i_L1_nx x2 x4) bound s = some (trip_Text_i_L1_end x2 x4 s) := itS_get hok
  have f := itS_false e
  exact loop_it (trip_Text_i_L1_go x0 x1 x2 x3 x4 x5) bound s _ _ _ e (fun h => by cases h) (trip_Text_i_L1_x0 x0 x1 x2 x3 x4 x5 (trip_Text_i_L1_end x2 x4 s) f c0)
def trip_Text_i_S2_e0 (x1 : Int) : trip_Text_i_L1_s0 := trip_Text_i_L1_end x1 [gl2_0, gl2_1, gl2_2, gl2_3, gl2_4, gl2_5] (⟨true, 0, ([] : List ByteArray)⟩ : trip_Text_i_L1_s0)
def trip_Text_i_S2_c0 (x1 : Int) : Bool := (bif tb (trip_Text_i_L1_ok x1 [gl2_0, gl2_1, gl2_2, gl2_3, gl2_4, gl2_5] (⟨true, 0, ([] : List ByteArray)⟩ : trip_Text_i_L1_s0)) then (bif tb (trip_Text_i_L1_c0 (trip_Text_i_S2_e0 x1)) then (bif tb (strings_Join_os_c0 ((trip_Text_i_S2_e0 x1).c1) ((trip_Text_i_S2_e0 x1).c4) ⟨#[43]⟩) then true else false) else false) else false)
theorem trip_Text_i_S2_t0 (x1 : Int) : trip_Text_i_S2_c0 x1 = true → segG (runC E0 (cl E0) S70_2) [0, 3] [] [2] 1 ([(V.d (.int .i64 x1)), (V.so true 0 0)], [(Blk.flat 9 1 [] false)]) = some (.normal, ([(V.d (.str (joinB ((trip_Text_i_S2_e0 x1).c4) ⟨#[43]⟩)))], [(Blk.flat 9 1 (List.map encS ((trip_Text_i_S2_e0 x1).c4)) false)])) := by
  unfold trip_Text_i_S2_c0
  cases h1 : tb (trip_Text_i_L1_ok x1 [gl2_0, gl2_1, gl2_2, gl2_3, gl2_4, gl2_5] (⟨true, 0, ([] : List ByteArray)⟩ : trip_Text_i_L1_s0))
  · intro g0
    exact absurd g0 ft
  · cases h2 : tb (trip_Text_i_L1_c0 (trip_Text_i_S2_e0 x1))
    · intro g0
      exact absurd g0 ft
    · cases h3 : tb (strings_Join_os_c0 ((trip_Text_i_S2_e0 x1).c1) ((trip_Text_i_S2_e0 x1).c4) ⟨#[43]⟩)
      · intro g0
        exact absurd g0 ft
      · intro g0
        exact seg_walk [.l (trip_Text_i_L1_f0_0 ([] : List ByteArray) false x1 true [gl2_0, gl2_1, gl2_2, gl2_3, gl2_4, gl2_5] 0 (⟨true, 0, ([] : List ByteArray)⟩ : trip_Text_i_L1_s0) (tbE h1) (tbE h2)), .y (mm := [(Blk.flat 9 1 (List.map encS ((trip_Text_i_S2_e0 x1).c4)) false)]) (args := [(V.so ((trip_Text_i_S2_e0 x1).c1) 0 (((trip_Text_i_S2_e0 x1).c4).length)), (V.d (.str ⟨#[43]⟩))]) (args1 := [(V.d (slD encS true 1 ((trip_Text_i_S2_e0 x1).c1) ((trip_Text_i_S2_e0 x1).c4))), (V.d (.str ⟨#[43]⟩))]) (byvals_cons (byval_so (enc := encS) (l := ((trip_Text_i_S2_e0 x1).c4)) (b := ((trip_Text_i_S2_e0 x1).c1)) (e := 9) (s := 1) (p := false) (n := (((trip_Text_i_S2_e0 x1).c4).length)) (Nat.beq_refl _) (by kernel_rfl)) (by kernel_rfl)), .c (strings_Join_os_t0 ((trip_Text_i_S2_e0 x1).c1) ((trip_Text_i_S2_e0 x1).c4) ⟨#[43]⟩ (tbE h3))] (by kernel_rfl)
def trip_Text_i_c0 (x0 : Int) : Bool := (bif tb (trip_Text_i_S0_c0 x0) then true else (bif tb (trip_Text_i_S2_c0 x0) then true else false))
def trip_Text_i_r0_0 (x0 : Int) : ByteArray := (bif tb (trip_Text_i_S0_c0 x0) then (trip_Text_i_S0_r0_0 x0) else (joinB ((trip_Text_i_S2_e0 x0).c4) ⟨#[43]⟩))
theorem trip_Text_i_t0 (x0 : Int) : trip_Text_i_c0 x0 = true → cl E0 70 [(V.d (.int .i64 x0))] [] = some ([(V.d (.str (trip_Text_i_r0_0 x0)))], []) := by
  unfold trip_Text_i_c0 trip_Text_i_r0_0
  cases h1 : tb (trip_Text_i_S0_c0 x0)
  · cases h2 : tb (trip_Text_i_S2_c0 x0)
    · intro g0
      exact absurd g0 ft
    · intro g0
      exact w70 [.s (trip_Text_i_S0_t1 x0 (tbE h1)), .s (trip_Text_i_S2_t0 x0 (tbE h2))] (by kernel_rfl)
  · intro g0
    exact w70 [.s (trip_Text_i_S0_t0 x0 (tbE h1))] (by kernel_rfl)
end Go.Proofs.YtkipngagfiaddaaDoor.Den

namespace Go.Proofs.YtkipngagfiaddaaDoor.Den
open Go Go.Proofs
set_option maxRecDepth 100000
set_option maxHeartbeats 4000000
set_option linter.unusedVariables false
set_option linter.unusedSimpArgs false
theorem ring_New_t0  : cl E0 35 [] [] = some ([(V.ptr 0 1 0 0)], [(Blk.flat 86 161 [(arrE enc_R_i64_i64_i64_i64_i64 ([⟨0, 0, 0, 0, 0⟩, ⟨0, 0, 0, 0, 0⟩, ⟨0, 0, 0, 0, 0⟩, ⟨0, 0, 0, 0, 0⟩, ⟨0, 0, 0, 0, 0⟩, ⟨0, 0, 0, 0, 0⟩, ⟨0, 0, 0, 0, 0⟩, ⟨0, 0, 0, 0, 0⟩, ⟨0, 0, 0, 0, 0⟩, ⟨0, 0, 0, 0, 0⟩, ⟨0, 0, 0, 0, 0⟩, ⟨0, 0, 0, 0, 0⟩, ⟨0, 0, 0, 0, 0⟩, ⟨0, 0, 0, 0, 0⟩, ⟨0, 0, 0, 0, 0⟩, ⟨0, 0, 0, 0, 0⟩, ⟨0, 0, 0, 0, 0⟩, ⟨0, 0, 0, 0, 0⟩, ⟨0, 0, 0, 0, 0⟩, ⟨0, 0, 0, 0, 0⟩, ⟨0, 0, 0, 0, 0⟩, ⟨0, 0, 0, 0, 0⟩, ⟨0, 0, 0, 0, 0⟩, ⟨0, 0, 0, 0, 0⟩, ⟨0, 0, 0, 0, 0⟩, ⟨0, 0, 0, 0, 0⟩, ⟨0, 0, 0, 0, 0⟩, ⟨0, 0, 0, 0, 0⟩, ⟨0, 0, 0, 0, 0⟩, ⟨0, 0, 0, 0, 0⟩, ⟨0, 0, 0, 0, 0⟩, ⟨0, 0, 0, 0, 0⟩] : List R_i64_i64_i64_i64_i64) 32 ++ [(.int .i64 0)])] false)]) := by
  exact w35 [] (by kernel_rfl)
def ring_Right_c1_ii_r0_0 (x0 : Int) (x1 : Int) : Bool := (bif tb (decide (0 ≤ x0)) then (decide (x0 < x1)) else false)
theorem ring_Right_c1_ii_t0 (x0 : Int) (x1 : Int) : cl E0 69 [(V.d (.int .i64 x0)), (V.d (.int .i64 x1))] [] = some ([(V.d (.bool (ring_Right_c1_ii_r0_0 x0 x1)))], []) := by
  unfold ring_Right_c1_ii_r0_0
  cases h1 : tb (decide (0 ≤ x0))
  · exact w69 [.b (tbE h1)] (by kernel_rfl)
  · exact w69 [.b (tbE h1)] (by kernel_rfl)
def ring_Right_ai5_c0 (x0 : Int) (x1 : Int) (x2 : Int) (x3 : Int) (x4 : Int) : Bool := (bif tb (decide (0 ≤ x0)) then (bif tb (ring_Right_c1_ii_r0_0 x1 4) then (bif tb (ring_Right_c1_ii_r0_0 x2 8) then (bif tb (ring_Right_c1_ii_r0_0 x3 3) then (bif tb (trip_Text_i_c0 x4) then true else false) else true) else true) else true) else true)
def ring_Right_ai5_r0_0 (x0 : Int) (x1 : Int) (x2 : Int) (x3 : Int) (x4 : Int) : Bool := (bif tb (decide (0 ≤ x0)) then (bif tb (ring_Right_c1_ii_r0_0 x1 4) then (bif tb (ring_Right_c1_ii_r0_0 x2 8) then (bif tb (ring_Right_c1_ii_r0_0 x3 3) then (!((trip_Text_i_r0_0 x4).toList == (⟨#[]⟩ : ByteArray).toList)) else false) else false) else false) else false)
theorem ring_Right_ai5_t0 (x0 : Int) (x1 : Int) (x2 : Int) (x3 : Int) (x4 : Int) : ring_Right_ai5_c0 x0 x1 x2 x3 x4 = true → cl E0 43 [(V.agg [(V.d (.int .i64 x0)), (V.d (.int .i64 x1)), (V.d (.int .i64 x2)), (V.d (.int .i64 x3)), (V.d (.int .i64 x4))])] [] = some ([(V.d (.bool (ring_Right_ai5_r0_0 x0 x1 x2 x3 x4)))], []) := by
  unfold ring_Right_ai5_c0 ring_Right_ai5_r0_0
  cases h1 : tb (decide (0 ≤ x0))
  · intro g0
    exact w43 [.b (tbE h1)] (by kernel_rfl)
  · cases h2 : tb (ring_Right_c1_ii_r0_0 x1 4)
    · intro g0
      exact w43 [.b (tbE h1), .c (ring_Right_c1_ii_t0 x1 4), .b (tbE h2)] (by kernel_rfl)
    · cases h3 : tb (ring_Right_c1_ii_r0_0 x2 8)
      · intro g0
        exact w43 [.b (tbE h1), .c (ring_Right_c1_ii_t0 x1 4), .b (tbE h2), .c (ring_Right_c1_ii_t0 x2 8), .b (tbE h3)] (by kernel_rfl)
      · cases h4 : tb (ring_Right_c1_ii_r0_0 x3 3)
        · intro g0
          exact w43 [.b (tbE h1), .c (ring_Right_c1_ii_t0 x1 4), .b (tbE h2), .c (ring_Right_c1_ii_t0 x2 8), .b (tbE h3), .c (ring_Right_c1_ii_t0 x3 3), .b (tbE h4)] (by kernel_rfl)
        · cases h5 : tb (trip_Text_i_c0 x4)
          · intro g0
            exact absurd g0 ft
          · intro g0
            exact w43 [.b (tbE h1), .c (ring_Right_c1_ii_t0 x1 4), .b (tbE h2), .c (ring_Right_c1_ii_t0 x2 8), .b (tbE h3), .c (ring_Right_c1_ii_t0 x3 3), .b (tbE h4), .c (trip_Text_i_t0 x4 (tbE h5))] (by kernel_rfl)
def ring_Ring_Add_pai5_Fi161_e0 (x0 : List R_i64_i64_i64_i64_i64) (x1 : Int) (x3 : Int) (x4 : Int) (x5 : Int) (x6 : Int) (x7 : Int) : List R_i64_i64_i64_i64_i64 := staE x0 32 (remI .i64 x1 32) (⟨x3, x4, x5, x6, x7⟩ : R_i64_i64_i64_i64_i64)
def ring_Ring_Add_pai5_Fi161_c0 (x1 : Int) (x3 : Int) (x4 : Int) (x5 : Int) (x6 : Int) (x7 : Int) : Bool := (bif tb (ring_Right_ai5_c0 x3 x4 x5 x6 x7) then (bif tb (ring_Right_ai5_r0_0 x3 x4 x5 x6 x7) then (bif tb (inb 32 (remI .i64 x1 32)) then true else false) else true) else false)
def ring_Ring_Add_pai5_Fi161_r0_0 (x3 : Int) (x4 : Int) (x5 : Int) (x6 : Int) (x7 : Int) : Int := (bif tb (ring_Right_ai5_r0_0 x3 x4 x5 x6 x7) then 0 else 1)
def ring_Ring_Add_pai5_Fi161_r0_1 (x0 : List R_i64_i64_i64_i64_i64) (x1 : Int) (x3 : Int) (x4 : Int) (x5 : Int) (x6 : Int) (x7 : Int) : List R_i64_i64_i64_i64_i64 := (bif tb (ring_Right_ai5_r0_0 x3 x4 x5 x6 x7) then (ring_Ring_Add_pai5_Fi161_e0 x0 x1 x3 x4 x5 x6 x7) else x0)
def ring_Ring_Add_pai5_Fi161_r0_2 (x1 : Int) (x3 : Int) (x4 : Int) (x5 : Int) (x6 : Int) (x7 : Int) : Int := (bif tb (ring_Right_ai5_r0_0 x3 x4 x5 x6 x7) then (wi (x1 + 1)) else x1)
theorem ring_Ring_Add_pai5_Fi161_t0 (x0 : List R_i64_i64_i64_i64_i64) (x1 : Int) (x3 : Int) (x4 : Int) (x5 : Int) (x6 : Int) (x7 : Int) : ring_Ring_Add_pai5_Fi161_c0 x1 x3 x4 x5 x6 x7 = true → cl E0 36 [(V.ptr 0 1 0 0), (V.agg [(V.d (.int .i64 x3)), (V.d (.int .i64 x4)), (V.d (.int .i64 x5)), (V.d (.int .i64 x6)), (V.d (.int .i64 x7))])] [(Blk.flat 86 161 [(arrE enc_R_i64_i64_i64_i64_i64 x0 32 ++ [(.int .i64 x1)])] false)] = some ([(V.d (.int .i64 (ring_Ring_Add_pai5_Fi161_r0_0 x3 x4 x5 x6 x7)))], [(Blk.flat 86 161 [(arrE enc_R_i64_i64_i64_i64_i64 (ring_Ring_Add_pai5_Fi161_r0_1 x0 x1 x3 x4 x5 x6 x7) 32 ++ [(.int .i64 (ring_Ring_Add_pai5_Fi161_r0_2 x1 x3 x4 x5 x6 x7))])] false)]) := by
  unfold ring_Ring_Add_pai5_Fi161_c0 ring_Ring_Add_pai5_Fi161_r0_0 ring_Ring_Add_pai5_Fi161_r0_1 ring_Ring_Add_pai5_Fi161_r0_2
  cases h1 : tb (ring_Right_ai5_c0 x3 x4 x5 x6 x7)
  · intro g0
    exact absurd g0 ft
  · cases h2 : tb (ring_Right_ai5_r0_0 x3 x4 x5 x6 x7)
    · intro g0
      exact w36 [.k false, .c (ring_Right_ai5_t0 x3 x4 x5 x6 x7 (tbE h1)), .b (notF (tbE h2))] (by kernel_rfl)
    · cases h3 : tb (inb 32 (remI .i64 x1 32))
      · intro g0
        exact absurd g0 ft
      · intro g0
        exact w36 [.k false, .c (ring_Right_ai5_t0 x3 x4 x5 x6 x7 (tbE h1)), .b (notT (tbE h2)), .o 21 (fun _ => o_idxAA (id := 0) (nn := 1) (row := 0) (off := 0) (n := 32) (s := 5) (k := .i64) (i := (remI .i64 x1 32)) (tbE h3)), .m 100021 (o_store_arrE (m := [(Blk.flat 86 161 [(arrE enc_R_i64_i64_i64_i64_i64 x0 32 ++ [(.int .i64 x1)])] false), (Blk.flat 58 5 [[(.int .i64 x3), (.int .i64 x4), (.int .i64 x5), (.int .i64 x6), (.int .i64 x7)]] false)]) (enc := enc_R_i64_i64_i64_i64_i64) (z := 5) (fun _ => rfl) (by decide) (fun _ => rfl) (id := 0) (nn := 1) (row := 0) (off := 0) (n := 32) (s := 161) (e := 86) (rows := [(arrE enc_R_i64_i64_i64_i64_i64 x0 32 ++ [(.int .i64 x1)])]) (cs := (arrE enc_R_i64_i64_i64_i64_i64 x0 32 ++ [(.int .i64 x1)])) (T := x0) (i := (remI .i64 x1 32)) (v := (⟨x3, x4, x5, x6, x7⟩ : R_i64_i64_i64_i64_i64)) (by kernel_rfl) (by kernel_rfl) (by kernel_rfl) (by kernel_rfl) (tbE h3))] (by kernel_rfl)
theorem ring_Ring_Lost_p_Fi161_t0 (x0 : List R_i64_i64_i64_i64_i64) (x1 : Int) (x2 : Bool) : cl E0 41 [(V.ptr 0 1 0 0)] [(Blk.flat 86 161 [(arrE enc_R_i64_i64_i64_i64_i64 x0 32 ++ [(.int .i64 x1)])] x2)] = some ([(V.d (.int .i64 (mxI 0 (wi (x1 - 32)))))], [(Blk.flat 86 161 [(arrE enc_R_i64_i64_i64_i64_i64 x0 32 ++ [(.int .i64 x1)])] x2)]) := by
  exact w41 [.k false] (by kernel_rfl)
structure ring_Ring_All_p_Fi161_L0_s0 where
  c0 : Bool
  c2 : Int
  c7 : List R_i64_i64_i64_i64_i64
  deriving Inhabited
def ring_Ring_All_p_Fi161_L0_h0_e0 (x0 : List R_i64_i64_i64_i64_i64) (x1 : Int) (s0 : ring_Ring_All_p_Fi161_L0_s0) : List R_i64_i64_i64_i64_i64 := (s0.c7 ++ ([⟨((gt x0 (remI .i64 (wi ((mxI 0 (wi (x1 - 32))) + s0.c2)) 32)).c0), ((gt x0 (remI .i64 (wi ((mxI 0 (wi (x1 - 32))) + s0.c2)) 32)).c1), ((gt x0 (remI .i64 (wi ((mxI 0 (wi (x1 - 32))) + s0.c2)) 32)).c2), ((gt x0 (remI .i64 (wi ((mxI 0 (wi (x1 - 32))) + s0.c2)) 32)).c3), ((gt x0 (remI .i64 (wi ((mxI 0 (wi (x1 - 32))) + s0.c2)) 32)).c4)⟩] : List R_i64_i64_i64_i64_i64))
def ring_Ring_All_p_Fi161_L0_enc (x0 : List R_i64_i64_i64_i64_i64) (x1 : Int) (x2 : List R_i64_i64_i64_i64_i64) (x3 : Bool) (x4 : Bool) (x5 : Bool) (x6 : Bool) (x7 : Int) (x8 : Int) (s0 : ring_Ring_All_p_Fi161_L0_s0) : List V × Mem := ([(V.ptr 0 1 0 0), (V.so s0.c0 2 s0.c7.length), (V.d (.int .i64 x7)), (V.d (.int .i64 s0.c2))], [(Blk.flat 86 161 [(arrE enc_R_i64_i64_i64_i64_i64 x0 32 ++ [(.int .i64 x1)])] x3), (Blk.flat 58 5 [] x4), (Blk.flat 58 5 (List.map enc_R_i64_i64_i64_i64_i64 s0.c7) false)])
def ring_Ring_All_p_Fi161_L0_sel (x0 : List R_i64_i64_i64_i64_i64) (x1 : Int) (x7 : Int) (s0 : ring_Ring_All_p_Fi161_L0_s0) : Bool := (bif tb (decide (s0.c2 < x7)) then (bif tb (inb 32 (remI .i64 (wi ((mxI 0 (wi (x1 - 32))) + s0.c2)) 32)) then (bif tb (decide ((s0.c7.length + ([⟨((gt x0 (remI .i64 (wi ((mxI 0 (wi (x1 - 32))) + s0.c2)) 32)).c0), ((gt x0 (remI .i64 (wi ((mxI 0 (wi (x1 - 32))) + s0.c2)) 32)).c1), ((gt x0 (remI .i64 (wi ((mxI 0 (wi (x1 - 32))) + s0.c2)) 32)).c2), ((gt x0 (remI .i64 (wi ((mxI 0 (wi (x1 - 32))) + s0.c2)) 32)).c3), ((gt x0 (remI .i64 (wi ((mxI 0 (wi (x1 - 32))) + s0.c2)) 32)).c4)⟩] : List R_i64_i64_i64_i64_i64).length) * 40 ≤ 140737488355328)) then true else false) else false) else false)
def ring_Ring_All_p_Fi161_L0_nx (x0 : List R_i64_i64_i64_i64_i64) (x1 : Int) (x7 : Int) (s0 : ring_Ring_All_p_Fi161_L0_s0) : ring_Ring_All_p_Fi161_L0_s0 := ⟨false, (wi (s0.c2 + 1)), (ring_Ring_All_p_Fi161_L0_h0_e0 x0 x1 s0)⟩
def ring_Ring_All_p_Fi161_L0_ok (x0 : List R_i64_i64_i64_i64_i64) (x1 : Int) (x7 : Int) (s0 : ring_Ring_All_p_Fi161_L0_s0) : Bool := (itS (ring_Ring_All_p_Fi161_L0_sel x0 x1 x7) (ring_Ring_All_p_Fi161_L0_nx x0 x1 x7) bound s0).isSome
def ring_Ring_All_p_Fi161_L0_end (x0 : List R_i64_i64_i64_i64_i64) (x1 : Int) (x7 : Int) (s0 : ring_Ring_All_p_Fi161_L0_s0) : ring_Ring_All_p_Fi161_L0_s0 := (itS (ring_Ring_All_p_Fi161_L0_sel x0 x1 x7) (ring_Ring_All_p_Fi161_L0_nx x0 x1 x7) bound s0).getD default
theorem ring_Ring_All_p_Fi161_L0_go (x0 : List R_i64_i64_i64_i64_i64) (x1 : Int) (x2 : List R_i64_i64_i64_i64_i64) (x3 : Bool) (x4 : Bool) (x5 : Bool) (x6 : Bool) (x7 : Int) (x8 : Int) (s0 : ring_Ring_All_p_Fi161_L0_s0) : ring_Ring_All_p_Fi161_L0_sel x0 x1 x7 s0 = true → (roundG (runC E0 (cl E0) L39_0) [0, 3, 13, 14] [3] 3) (ring_Ring_All_p_Fi161_L0_enc x0 x1 x2 x3 x4 x5 x6 x7 x8 s0) = some (.normal, ring_Ring_All_p_Fi161_L0_enc x0 x1 x2 x3 x4 x5 x6 x7 x8 (ring_Ring_All_p_Fi161_L0_nx x0 x1 x7 s0)) := by
  unfold ring_Ring_All_p_Fi161_L0_sel ring_Ring_All_p_Fi161_L0_nx
  cases h1 : tb (decide (s0.c2 < x7))
  · intro g0
    exact absurd g0 ft
  · cases h2 : tb (inb 32 (remI .i64 (wi ((mxI 0 (wi (x1 - 32))) + s0.c2)) 32))
    · intro g0
      exact absurd g0 ft
    · cases h3 : tb (decide ((s0.c7.length + ([⟨((gt x0 (remI .i64 (wi ((mxI 0 (wi (x1 - 32))) + s0.c2)) 32)).c0), ((gt x0 (remI .i64 (wi ((mxI 0 (wi (x1 - 32))) + s0.c2)) 32)).c1), ((gt x0 (remI .i64 (wi ((mxI 0 (wi (x1 - 32))) + s0.c2)) 32)).c2), ((gt x0 (remI .i64 (wi ((mxI 0 (wi (x1 - 32))) + s0.c2)) 32)).c3), ((gt x0 (remI .i64 (wi ((mxI 0 (wi (x1 - 32))) + s0.c2)) 32)).c4)⟩] : List R_i64_i64_i64_i64_i64).length) * 40 ≤ 140737488355328))
      · intro g0
        exact absurd g0 ft
      · intro _
        exact round_walk [.b (tbE h1), .c (ring_Ring_Lost_p_Fi161_t0 x0 x1 true), .o 26 (fun _ => o_idxAA (id := 0) (nn := 1) (row := 0) (off := 0) (n := 32) (s := 5) (k := .i64) (i := (remI .i64 (wi ((mxI 0 (wi (x1 - 32))) + s0.c2)) 32)) (tbE h2)), .m 27 (o_load_arrE (m := [(Blk.flat 86 161 [(arrE enc_R_i64_i64_i64_i64_i64 x0 32 ++ [(.int .i64 x1)])] true), (Blk.flat 58 5 [] true), (Blk.flat 58 5 (List.map enc_R_i64_i64_i64_i64_i64 s0.c7) true)]) (enc := enc_R_i64_i64_i64_i64_i64) (z := 5) (fun _ => rfl) (by decide) (id := 0) (nn := 1) (row := 0) (off := 0) (n := 32) (o := 0) (size := 5) (agg := true) (T := x0) (i := (remI .i64 (wi ((mxI 0 (wi (x1 - 32))) + s0.c2)) 32)) (v := (V.agg [(V.d (.int .i64 ((gt x0 (remI .i64 (wi ((mxI 0 (wi (x1 - 32))) + s0.c2)) 32)).c0))), (V.d (.int .i64 ((gt x0 (remI .i64 (wi ((mxI 0 (wi (x1 - 32))) + s0.c2)) 32)).c1))), (V.d (.int .i64 ((gt x0 (remI .i64 (wi ((mxI 0 (wi (x1 - 32))) + s0.c2)) 32)).c2))), (V.d (.int .i64 ((gt x0 (remI .i64 (wi ((mxI 0 (wi (x1 - 32))) + s0.c2)) 32)).c3))), (V.d (.int .i64 ((gt x0 (remI .i64 (wi ((mxI 0 (wi (x1 - 32))) + s0.c2)) 32)).c4)))])) (by kernel_rfl) (tbE h2) (by kernel_rfl)), .m 29 (o_app_so (nl := s0.c0) (m := [(Blk.flat 86 161 [(arrE enc_R_i64_i64_i64_i64_i64 x0 32 ++ [(.int .i64 x1)])] x3), (Blk.flat 58 5 [] x4), (Blk.flat 58 5 (List.map enc_R_i64_i64_i64_i64_i64 s0.c7) false), (Blk.flat 58 5 [[(.int .i64 ((gt x0 (remI .i64 (wi ((mxI 0 (wi (x1 - 32))) + s0.c2)) 32)).c0)), (.int .i64 ((gt x0 (remI .i64 (wi ((mxI 0 (wi (x1 - 32))) + s0.c2)) 32)).c1)), (.int .i64 ((gt x0 (remI .i64 (wi ((mxI 0 (wi (x1 - 32))) + s0.c2)) 32)).c2)), (.int .i64 ((gt x0 (remI .i64 (wi ((mxI 0 (wi (x1 - 32))) + s0.c2)) 32)).c3)), (.int .i64 ((gt x0 (remI .i64 (wi ((mxI 0 (wi (x1 - 32))) + s0.c2)) 32)).c4))]] false)]) (enc := enc_R_i64_i64_i64_i64_i64) (l0 := s0.c7) (l1 := ([⟨((gt x0 (remI .i64 (wi ((mxI 0 (wi (x1 - 32))) + s0.c2)) 32)).c0), ((gt x0 (remI .i64 (wi ((mxI 0 (wi (x1 - 32))) + s0.c2)) 32)).c1), ((gt x0 (remI .i64 (wi ((mxI 0 (wi (x1 - 32))) + s0.c2)) 32)).c2), ((gt x0 (remI .i64 (wi ((mxI 0 (wi (x1 - 32))) + s0.c2)) 32)).c3), ((gt x0 (remI .i64 (wi ((mxI 0 (wi (x1 - 32))) + s0.c2)) 32)).c4)⟩] : List R_i64_i64_i64_i64_i64)) (id := 2) (e := 58) (s := 5) (bytes := 40) (x := (V.so false 3 1)) (n := s0.c7.length) (Nat.beq_refl _) (by kernel_rfl) (by kernel_rfl) (by kernel_rfl) (tbE h3))] (by kernel_rfl)
def ring_Ring_All_p_Fi161_L0_c0 (x7 : Int) (s0 : ring_Ring_All_p_Fi161_L0_s0) : Bool := (bif tb (decide (s0.c2 < x7)) then false else true)
theorem ring_Ring_All_p_Fi161_L0_x0 (x0 : List R_i64_i64_i64_i64_i64) (x1 : Int) (x2 : List R_i64_i64_i64_i64_i64) (x3 : Bool) (x4 : Bool) (x5 : Bool) (x6 : Bool) (x7 : Int) (x8 : Int) (s0 : ring_Ring_All_p_Fi161_L0_s0) : ring_Ring_All_p_Fi161_L0_sel x0 x1 x7 s0 = false → ring_Ring_All_p_Fi161_L0_c0 x7 s0 = true → (roundG (runC E0 (cl E0) L39_0) [0, 3, 13, 14] [3] 3) (ring_Ring_All_p_Fi161_L0_enc x0 x1 x2 x3 x4 x5 x6 x7 x8 s0) = some ((.exit 0), ([(V.so s0.c0 2 s0.c7.length)], [(Blk.flat 86 161 [(arrE enc_R_i64_i64_i64_i64_i64 x0 32 ++ [(.int .i64 x1)])] x3), (Blk.flat 58 5 [] x4), (Blk.flat 58 5 (List.map enc_R_i64_i64_i64_i64_i64 s0.c7) false)])) := by
  unfold ring_Ring_All_p_Fi161_L0_sel ring_Ring_All_p_Fi161_L0_c0
  cases h1 : tb (decide (s0.c2 < x7))
  · intro g0 g1
    exact round_walk [.b (tbE h1)] (by kernel_rfl)
  · cases h2 : tb (inb 32 (remI .i64 (wi ((mxI 0 (wi (x1 - 32))) + s0.c2)) 32))
    · intro g0 g1
      exact absurd g1 ft
    · cases h3 : tb (decide ((s0.c7.length + ([⟨((gt x0 (remI .i64 (wi ((mxI 0 (wi (x1 - 32))) + s0.c2)) 32)).c0), ((gt x0 (remI .i64 (wi ((mxI 0 (wi (x1 - 32))) + s0.c2)) 32)).c1), ((gt x0 (remI .i64 (wi ((mxI 0 (wi (x1 - 32))) + s0.c2)) 32)).c2), ((gt x0 (remI .i64 (wi ((mxI 0 (wi (x1 - 32))) + s0.c2)) 32)).c3), ((gt x0 (remI .i64 (wi ((mxI 0 (wi (x1 - 32))) + s0.c2)) 32)).c4)⟩] : List R_i64_i64_i64_i64_i64).length) * 40 ≤ 140737488355328))
      · intro g0 g1
        exact absurd g1 ft
      · intro g0 g1
        exact absurd g0 tf
theorem ring_Ring_All_p_Fi161_L0_f0_0 (x0 : List R_i64_i64_i64_i64_i64) (x1 : Int) (x2 : List R_i64_i64_i64_i64_i64) (x3 : Bool) (x4 : Bool) (x5 : Bool) (x6 : Bool) (x7 : Int) (x8 : Int) (s : ring_Ring_All_p_Fi161_L0_s0) (hok : ring_Ring_All_p_Fi161_L0_ok x0 x1 x7 s = true) (c0 : ring_Ring_All_p_Fi161_L0_c0 x7 (ring_Ring_All_p_Fi161_L0_end x0 x1 x7 s) = true) : loopG (roundG (runC E0 (cl E0) L39_0) [0, 3, 13, 14] [3] 3) bound (ring_Ring_All_p_Fi161_L0_enc x0 x1 x2 x3 x4 x5 x6 x7 x8 s) = some ((.exit 0), ([(V.so ((ring_Ring_All_p_Fi161_L0_end x0 x1 x7 s).c0) 2 (((ring_Ring_All_p_Fi161_L0_end x0 x1 x7 s).c7).length))], [(Blk.flat 86 161 [(arrE enc_R_i64_i64_i64_i64_i64 x0 32 ++ [(.int .i64 x1)])] x3), (Blk.flat 58 5 [] x4), (Blk.flat 58 5 (List.map enc_R_i64_i64_i64_i64_i64 ((ring_Ring_All_p_Fi161_L0_end x0 x1 x7 s).c7)) false)])) := by
  have e : itS (ring_Ring_All_p_Fi161_L0_sel x0 x1 x7) (ring_Ring_All_p_Fi161_L0_nx x0 x1 x7) bound s = some (ring_Ring_All_p_Fi161_L0_end x0 x1 x7 s) := itS_get hok
  have f := itS_false e
  exact loop_it (ring_Ring_All_p_Fi161_L0_go x0 x1 x2 x3 x4 x5 x6 x7 x8) bound s _ _ _ e (fun h => by cases h) (ring_Ring_All_p_Fi161_L0_x0 x0 x1 x2 x3 x4 x5 x6 x7 x8 (ring_Ring_All_p_Fi161_L0_end x0 x1 x7 s) f c0)
def ring_Ring_All_p_Fi161_e0 (x0 : List R_i64_i64_i64_i64_i64) (x1 : Int) : ring_Ring_All_p_Fi161_L0_s0 := ring_Ring_All_p_Fi161_L0_end x0 x1 (wi (x1 - (mxI 0 (wi (x1 - 32))))) (⟨true, 0, ([] : List R_i64_i64_i64_i64_i64)⟩ : ring_Ring_All_p_Fi161_L0_s0)
def ring_Ring_All_p_Fi161_c0 (x0 : List R_i64_i64_i64_i64_i64) (x1 : Int) : Bool := (bif tb (ring_Ring_All_p_Fi161_L0_ok x0 x1 (wi (x1 - (mxI 0 (wi (x1 - 32))))) (⟨true, 0, ([] : List R_i64_i64_i64_i64_i64)⟩ : ring_Ring_All_p_Fi161_L0_s0)) then (bif tb (ring_Ring_All_p_Fi161_L0_c0 (wi (x1 - (mxI 0 (wi (x1 - 32))))) (ring_Ring_All_p_Fi161_e0 x0 x1)) then true else false) else false)
theorem ring_Ring_All_p_Fi161_t0 (x0 : List R_i64_i64_i64_i64_i64) (x1 : Int) (x2 : Bool) : ring_Ring_All_p_Fi161_c0 x0 x1 = true → cl E0 39 [(V.ptr 0 1 0 0)] [(Blk.flat 86 161 [(arrE enc_R_i64_i64_i64_i64_i64 x0 32 ++ [(.int .i64 x1)])] x2)] = some ([(V.so ((ring_Ring_All_p_Fi161_e0 x0 x1).c0) 1 (((ring_Ring_All_p_Fi161_e0 x0 x1).c7).length))], [(Blk.flat 86 161 [(arrE enc_R_i64_i64_i64_i64_i64 x0 32 ++ [(.int .i64 x1)])] x2), (Blk.flat 58 5 (List.map enc_R_i64_i64_i64_i64_i64 ((ring_Ring_All_p_Fi161_e0 x0 x1).c7)) false)]) := by
  unfold ring_Ring_All_p_Fi161_c0
  cases h1 : tb (ring_Ring_All_p_Fi161_L0_ok x0 x1 (wi (x1 - (mxI 0 (wi (x1 - 32))))) (⟨true, 0, ([] : List R_i64_i64_i64_i64_i64)⟩ : ring_Ring_All_p_Fi161_L0_s0))
  · intro g0
    exact absurd g0 ft
  · cases h2 : tb (ring_Ring_All_p_Fi161_L0_c0 (wi (x1 - (mxI 0 (wi (x1 - 32))))) (ring_Ring_All_p_Fi161_e0 x0 x1))
    · intro g0
      exact absurd g0 ft
    · intro g0
      exact w39 [.k false, .c (ring_Ring_Lost_p_Fi161_t0 x0 x1 true), .l (ring_Ring_All_p_Fi161_L0_f0_0 x0 x1 ([] : List R_i64_i64_i64_i64_i64) x2 false false true (wi (x1 - (mxI 0 (wi (x1 - 32))))) 0 (⟨true, 0, ([] : List R_i64_i64_i64_i64_i64)⟩ : ring_Ring_All_p_Fi161_L0_s0) (tbE h1) (tbE h2))] (by kernel_rfl)
end Go.Proofs.YtkipngagfiaddaaDoor.Den

namespace Go.Proofs.YtkipngagfiaddaaDoor.Den
open Go Go.Proofs
set_option linter.unusedVariables false
set_option linter.unusedSimpArgs false
set_option maxRecDepth 100000
abbrev N5 := R_i64_i64_i64_i64_i64
def rN (n : N5) : Bool := ring_Right_ai5_r0_0 n.c0 n.c1 n.c2 n.c3 n.c4
theorem trip_all : ((List.range 64).all fun n => trip_Text_i_c0 (n : Int)) = true := by kernel_rfl
theorem trip_c (x : Int) : trip_Text_i_c0 x = true := by
  by_cases h : 0 ≤ x ∧ x ≤ 63
  · have := List.all_eq_true.1 trip_all x.toNat (List.mem_range.2 (by omega))
    rwa [show ((x.toNat : Nat) : Int) = x by omega] at this
  · have : trip_Text_i_S0_c0 x = true := by
      simp only [trip_Text_i_S0_c0, tb_eq]
      by_cases h1 : x < 0
      · simp [h1]
      · have h2 : 63 < x := by omega
        simp [h1, h2]
    simp only [trip_Text_i_c0, this, tb_eq]; rfl
theorem rN_c (a b c d e : Int) : ring_Right_ai5_c0 a b c d e = true := by
  simp only [ring_Right_ai5_c0, trip_c, tb_eq]
  cases decide (0 ≤ a) <;> cases ring_Right_c1_ii_r0_0 b 4 <;> cases ring_Right_c1_ii_r0_0 c 8 <;> cases ring_Right_c1_ii_r0_0 d 3 <;> rfl
def RingOK (T m : List N5) : Prop := T.length = 32 ∧ ∀ j, j < m.length → m.length ≤ j + 32 → gt T ((j % 32 : Nat) : Int) = gt m (j : Int)
theorem ring_add {T m : List N5} (h : RingOK T m) (n : N5) : RingOK (staE T 32 ((m.length % 32 : Nat) : Int) n) (m ++ [n]) := by
  obtain ⟨h1, h2⟩ := h
  have hs : staE T 32 ((m.length % 32 : Nat) : Int) n = T.set (m.length % 32) n := by
    unfold staE st; rw [tabE_id h1]; rfl
  rw [hs]
  refine ⟨by simp [h1], fun j hj hk => ?_⟩
  rw [List.length_append, List.length_singleton] at hj hk
  have hlt : j % 32 < (T.set (m.length % 32) n).length := by rw [List.length_set]; omega
  rw [gt_nat hlt, gt_nat (by rw [List.length_append, List.length_singleton]; exact hj), List.getElem_set]
  by_cases e : j = m.length
  · subst e
    rw [if_pos rfl]; simp
  · have hj' : j < m.length := by omega
    have hne : ¬ m.length % 32 = j % 32 := by omega
    rw [if_neg hne, List.getElem_append_left hj', ← gt_nat, ← gt_nat]
    exact h2 j hj' (by omega)
theorem add_eq {T m : List N5} (n : N5) (hm : m.length ≤ 100000) :
    ring_Ring_Add_pai5_Fi161_c0 ((m.length : Nat) : Int) n.c0 n.c1 n.c2 n.c3 n.c4 = true ∧ ring_Ring_Add_pai5_Fi161_r0_0 n.c0 n.c1 n.c2 n.c3 n.c4 = (if rN n = true then 0 else 1) ∧
    ring_Ring_Add_pai5_Fi161_r0_1 T ((m.length : Nat) : Int) n.c0 n.c1 n.c2 n.c3 n.c4 = (if rN n = true then staE T 32 ((m.length % 32 : Nat) : Int) n else T) ∧
    ring_Ring_Add_pai5_Fi161_r0_2 ((m.length : Nat) : Int) n.c0 n.c1 n.c2 n.c3 n.c4 = (if rN n = true then ((m.length + 1 : Nat) : Int) else ((m.length : Nat) : Int)) := by
  have hr : ring_Right_ai5_r0_0 n.c0 n.c1 n.c2 n.c3 n.c4 = rN n := rfl
  have hi : remI .i64 ((m.length : Nat) : Int) 32 = ((m.length % 32 : Nat) : Int) := by rw [rem_i64 (by omega)]; omega
  have i1 : inb 32 ((m.length % 32 : Nat) : Int) = true := inb_of (by omega) (by omega)
  have hw : wi (((m.length : Nat) : Int) + 1) = ((m.length + 1 : Nat) : Int) := by rw [wi_eq (by omega) (by omega)]; omega
  simp only [ring_Ring_Add_pai5_Fi161_c0, ring_Ring_Add_pai5_Fi161_r0_0, ring_Ring_Add_pai5_Fi161_r0_1, ring_Ring_Add_pai5_Fi161_r0_2, ring_Ring_Add_pai5_Fi161_e0, rN_c, hr, hi, i1, hw, tb_eq]
  cases rN n <;> simp
theorem lost_eq {m : List N5} (hm : m.length ≤ 100000) : mxI 0 (wi (((m.length : Nat) : Int) - 32)) = ((m.length - 32 : Nat) : Int) := by
  rw [wi_eq (by omega) (by omega), mxI_eq]; omega
theorem all_eq {T m : List N5} (h : RingOK T m) (hm : m.length ≤ 100000) : ring_Ring_All_p_Fi161_c0 T ((m.length : Nat) : Int) = true ∧ (ring_Ring_All_p_Fi161_e0 T ((m.length : Nat) : Int)).c7 = m.drop (m.length - 32) := by
  obtain ⟨h1, h2⟩ := h
  have hx : wi (((m.length : Nat) : Int) - mxI 0 (wi (((m.length : Nat) : Int) - 32))) = ((m.length - (m.length - 32) : Nat) : Int) := by
    rw [lost_eq hm, wi_eq (by omega) (by omega)]; omega
  have run := loop_seq (sel := ring_Ring_All_p_Fi161_L0_sel T ((m.length : Nat) : Int) ((m.length - (m.length - 32) : Nat) : Int)) (nx := ring_Ring_All_p_Fi161_L0_nx T ((m.length : Nat) : Int) ((m.length - (m.length - 32) : Nat) : Int))
    (fun k => (⟨decide (k = 0), (k : Int), (m.drop (m.length - 32)).take k⟩ : ring_Ring_All_p_Fi161_L0_s0)) (m.length - (m.length - 32)) (by omega) (fun k hk => by
      have e1 : wi (((m.length - 32 : Nat) : Int) + (k : Int)) = ((m.length - 32 + k : Nat) : Int) := by rw [wi_eq (by omega) (by omega)]; omega
      have e2 : remI .i64 ((m.length - 32 + k : Nat) : Int) 32 = (((m.length - 32 + k) % 32 : Nat) : Int) := by rw [rem_i64 (by omega)]; omega
      have i1 : inb 32 (((m.length - 32 + k) % 32 : Nat) : Int) = true := inb_of (by omega) (by omega)
      have hl : ((m.drop (m.length - 32)).take k).length = k := by rw [List.length_take, List.length_drop]; omega
      have hw : wi ((k : Int) + 1) = ((k + 1 : Nat) : Int) := by rw [wi_eq (by omega) (by omega)]; omega
      have he := h2 (m.length - 32 + k) (by omega) (by omega)
      constructor
      · simp only [ring_Ring_All_p_Fi161_L0_sel, lost_eq hm, e1, e2, i1, hl, tb_eq]
        rw [decide_eq_true (show (k : Int) < ((m.length - (m.length - 32) : Nat) : Int) by omega), decide_eq_true (by show (k + 1) * 40 ≤ _; omega)]; rfl
      · have eE : ring_Ring_All_p_Fi161_L0_h0_e0 T ((m.length : Nat) : Int) ⟨decide (k = 0), (k : Int), (m.drop (m.length - 32)).take k⟩ = (m.drop (m.length - 32)).take (k + 1) := by
          show (m.drop (m.length - 32)).take k ++ [gt T (remI .i64 (wi ((mxI 0 (wi (((m.length : Nat) : Int) - 32))) + (k : Int))) 32)] = _
          rw [lost_eq hm, e1, e2, he, take_succ_gt (show k < (m.drop (m.length - 32)).length by rw [List.length_drop]; omega), gt_nat (by omega), gt_nat (by rw [List.length_drop]; omega), List.getElem_drop]
        simp only [ring_Ring_All_p_Fi161_L0_nx, eE, hw]
        simp) (by simp [ring_Ring_All_p_Fi161_L0_sel, tb_eq])
  simp only [List.take_zero, decide_true] at run
  rw [show ((0 : Nat) : Int) = 0 from rfl] at run
  have e0 : ring_Ring_All_p_Fi161_e0 T ((m.length : Nat) : Int) = ⟨decide (m.length - (m.length - 32) = 0), ((m.length - (m.length - 32) : Nat) : Int), (m.drop (m.length - 32)).take (m.length - (m.length - 32))⟩ := by
    simp only [ring_Ring_All_p_Fi161_e0, hx, ring_Ring_All_p_Fi161_L0_end, run, Option.getD_some]
  refine ⟨?_, ?_⟩
  · simp only [ring_Ring_All_p_Fi161_c0, e0, hx, ring_Ring_All_p_Fi161_L0_ok, run, Option.isSome_some, ring_Ring_All_p_Fi161_L0_c0, tb_eq]
    rw [decide_eq_false (by omega)]; rfl
  · rw [e0]
    show (m.drop (m.length - 32)).take (m.length - (m.length - 32)) = _
    rw [List.take_of_length_le (by rw [List.length_drop]; omega)]
end Go.Proofs.YtkipngagfiaddaaDoor.Den

namespace Go.Proofs.YtkipngagfiaddaaDoor.Den
open Go Go.Proofs
set_option maxRecDepth 100000
set_option maxHeartbeats 4000000
set_option linter.unusedVariables false
set_option linter.unusedSimpArgs false
theorem law17_alive_t0 : cl E0 34 [] [] = some ([(V.d (.bool true))], []) := cl_of (n := 60) (by kernel_rfl)
end Go.Proofs.YtkipngagfiaddaaDoor.Den

namespace Go.Proofs.YtkipngagfiaddaaDoor.Den
open Go Go.Proofs
set_option maxRecDepth 100000
set_option maxHeartbeats 4000000
set_option linter.unusedVariables false
set_option linter.unusedSimpArgs false
def law17_RingLast_S0_c0 (x1 : List R_i64_i64_i64_i64_i64) : Bool := (bif tb (decide (200 < ((x1.length : Nat) : Int))) then true else false)
theorem law17_RingLast_S0_t0 (x0 : Bool) (x1 : List R_i64_i64_i64_i64_i64) : law17_RingLast_S0_c0 x1 = true → segG (runC E0 (cl E0) S9_0) [0] [2] [0] 0 ([(V.d (slD enc_R_i64_i64_i64_i64_i64 true 5 x0 x1))], []) = some (.ret, ([(V.d (.bool true))], [])) := by
  unfold law17_RingLast_S0_c0
  cases h1 : tb (decide (200 < ((x1.length : Nat) : Int)))
  · intro g0
    exact absurd g0 ft
  · intro g0
    exact seg_walk [.o 10 (fun _ => o_len_os (enc := enc_R_i64_i64_i64_i64_i64) (l := x1) (fl := true) (n := x0) (s := 5)), .b (tbE h1), .c (law17_alive_t0)] (by kernel_rfl)
theorem law17_RingLast_S0_t1 (x0 : Bool) (x1 : List R_i64_i64_i64_i64_i64) : law17_RingLast_S0_c0 x1 = false → segG (runC E0 (cl E0) S9_0) [0] [2] [0] 0 ([(V.d (slD enc_R_i64_i64_i64_i64_i64 true 5 x0 x1))], []) = some (.normal, ([(V.d (slD enc_R_i64_i64_i64_i64_i64 true 5 x0 x1))], [])) := by
  unfold law17_RingLast_S0_c0
  cases h1 : tb (decide (200 < ((x1.length : Nat) : Int)))
  · intro g0
    exact seg_walk [.o 10 (fun _ => o_len_os (enc := enc_R_i64_i64_i64_i64_i64) (l := x1) (fl := true) (n := x0) (s := 5)), .b (tbE h1)] (by kernel_rfl)
  · intro g0
    exact absurd g0 tf
structure law17_RingLast_L1_s0 where
  c2 : Int
  c3 : Int
  c4 : List R_i64_i64_i64_i64_i64
  c5 : Int
  deriving Inhabited
def law17_RingLast_L1_h0_e0 (x4 : List R_i64_i64_i64_i64_i64) (s0 : law17_RingLast_L1_s0) : List R_i64_i64_i64_i64_i64 := (ring_Ring_Add_pai5_Fi161_r0_1 s0.c4 s0.c5 ((gt x4 s0.c3).c0) ((gt x4 s0.c3).c1) ((gt x4 s0.c3).c2) ((gt x4 s0.c3).c3) ((gt x4 s0.c3).c4))
def law17_RingLast_L1_enc (x0 : List R_i64_i64_i64_i64_i64) (x1 : Int) (x2 : Bool) (x3 : Bool) (x4 : List R_i64_i64_i64_i64_i64) (x5 : Int) (x6 : Int) (s0 : law17_RingLast_L1_s0) : List V × Mem := ([(V.d (slD enc_R_i64_i64_i64_i64_i64 true 5 x3 x4)), (V.ptr 0 1 0 0), (V.d (.int .i64 s0.c2)), (V.d (.int .i64 s0.c3))], [(Blk.flat 86 161 [(arrE enc_R_i64_i64_i64_i64_i64 s0.c4 32 ++ [(.int .i64 s0.c5)])] false)])
def law17_RingLast_L1_sel (x4 : List R_i64_i64_i64_i64_i64) (s0 : law17_RingLast_L1_s0) : Bool := (bif tb (decide (s0.c3 < ((x4.length : Nat) : Int))) then (bif tb (inb x4.length s0.c3) then (bif tb (ring_Ring_Add_pai5_Fi161_c0 s0.c5 ((gt x4 s0.c3).c0) ((gt x4 s0.c3).c1) ((gt x4 s0.c3).c2) ((gt x4 s0.c3).c3) ((gt x4 s0.c3).c4)) then true else false) else false) else false)
def law17_RingLast_L1_nx (x4 : List R_i64_i64_i64_i64_i64) (s0 : law17_RingLast_L1_s0) : law17_RingLast_L1_s0 := (bif tb (((ring_Ring_Add_pai5_Fi161_r0_0 ((gt x4 s0.c3).c0) ((gt x4 s0.c3).c1) ((gt x4 s0.c3).c2) ((gt x4 s0.c3).c3) ((gt x4 s0.c3).c4)) : Int) == 0) then ⟨(wi (s0.c2 + 1)), (wi (s0.c3 + 1)), (law17_RingLast_L1_h0_e0 x4 s0), (ring_Ring_Add_pai5_Fi161_r0_2 s0.c5 ((gt x4 s0.c3).c0) ((gt x4 s0.c3).c1) ((gt x4 s0.c3).c2) ((gt x4 s0.c3).c3) ((gt x4 s0.c3).c4))⟩ else ⟨s0.c2, (wi (s0.c3 + 1)), (law17_RingLast_L1_h0_e0 x4 s0), (ring_Ring_Add_pai5_Fi161_r0_2 s0.c5 ((gt x4 s0.c3).c0) ((gt x4 s0.c3).c1) ((gt x4 s0.c3).c2) ((gt x4 s0.c3).c3) ((gt x4 s0.c3).c4))⟩)
def law17_RingLast_L1_ok (x4 : List R_i64_i64_i64_i64_i64) (s0 : law17_RingLast_L1_s0) : Bool := (itS (law17_RingLast_L1_sel x4) (law17_RingLast_L1_nx x4) bound s0).isSome
def law17_RingLast_L1_end (x4 : List R_i64_i64_i64_i64_i64) (s0 : law17_RingLast_L1_s0) : law17_RingLast_L1_s0 := (itS (law17_RingLast_L1_sel x4) (law17_RingLast_L1_nx x4) bound s0).getD default
theorem law17_RingLast_L1_go (x0 : List R_i64_i64_i64_i64_i64) (x1 : Int) (x2 : Bool) (x3 : Bool) (x4 : List R_i64_i64_i64_i64_i64) (x5 : Int) (x6 : Int) (s0 : law17_RingLast_L1_s0) : law17_RingLast_L1_sel x4 s0 = true → (roundG (runC E0 (cl E0) L9_1) [0, 3, 4, 5] [0, 3, 4] 1) (law17_RingLast_L1_enc x0 x1 x2 x3 x4 x5 x6 s0) = some (.normal, law17_RingLast_L1_enc x0 x1 x2 x3 x4 x5 x6 (law17_RingLast_L1_nx x4 s0)) := by
  unfold law17_RingLast_L1_sel law17_RingLast_L1_nx
  cases h1 : tb (decide (s0.c3 < ((x4.length : Nat) : Int)))
  · intro g0
    exact absurd g0 ft
  · cases h2 : tb (inb x4.length s0.c3)
    · intro g0
      exact absurd g0 ft
    · cases h3 : tb (ring_Ring_Add_pai5_Fi161_c0 s0.c5 ((gt x4 s0.c3).c0) ((gt x4 s0.c3).c1) ((gt x4 s0.c3).c2) ((gt x4 s0.c3).c3) ((gt x4 s0.c3).c4))
      · intro g0
        exact absurd g0 ft
      · cases h4 : tb (((ring_Ring_Add_pai5_Fi161_r0_0 ((gt x4 s0.c3).c0) ((gt x4 s0.c3).c1) ((gt x4 s0.c3).c2) ((gt x4 s0.c3).c3) ((gt x4 s0.c3).c4)) : Int) == 0)
        · intro _
          exact round_walk [.o 16 (fun _ => o_len_os (enc := enc_R_i64_i64_i64_i64_i64) (l := x4) (fl := true) (n := x3) (s := 5)), .b (tbE h1), .o 23 (fun _ => o_idx_os (enc := enc_R_i64_i64_i64_i64_i64) (l := x4) (fl := true) (n := x3) (s := 5) (k := .i64) (tbE h2)), .c (ring_Ring_Add_pai5_Fi161_t0 s0.c4 s0.c5 ((gt x4 s0.c3).c0) ((gt x4 s0.c3).c1) ((gt x4 s0.c3).c2) ((gt x4 s0.c3).c3) ((gt x4 s0.c3).c4) (tbE h3)), .b (tbE h4)] (by kernel_rfl)
        · intro _
          exact round_walk [.o 16 (fun _ => o_len_os (enc := enc_R_i64_i64_i64_i64_i64) (l := x4) (fl := true) (n := x3) (s := 5)), .b (tbE h1), .o 23 (fun _ => o_idx_os (enc := enc_R_i64_i64_i64_i64_i64) (l := x4) (fl := true) (n := x3) (s := 5) (k := .i64) (tbE h2)), .c (ring_Ring_Add_pai5_Fi161_t0 s0.c4 s0.c5 ((gt x4 s0.c3).c0) ((gt x4 s0.c3).c1) ((gt x4 s0.c3).c2) ((gt x4 s0.c3).c3) ((gt x4 s0.c3).c4) (tbE h3)), .b (tbE h4)] (by kernel_rfl)
def law17_RingLast_L1_c0 (x4 : List R_i64_i64_i64_i64_i64) (s0 : law17_RingLast_L1_s0) : Bool := (bif tb (decide (s0.c3 < ((x4.length : Nat) : Int))) then false else true)
theorem law17_RingLast_L1_x0 (x0 : List R_i64_i64_i64_i64_i64) (x1 : Int) (x2 : Bool) (x3 : Bool) (x4 : List R_i64_i64_i64_i64_i64) (x5 : Int) (x6 : Int) (s0 : law17_RingLast_L1_s0) : law17_RingLast_L1_sel x4 s0 = false → law17_RingLast_L1_c0 x4 s0 = true → (roundG (runC E0 (cl E0) L9_1) [0, 3, 4, 5] [0, 3, 4] 1) (law17_RingLast_L1_enc x0 x1 x2 x3 x4 x5 x6 s0) = some ((.exit 0), ([(V.d (slD enc_R_i64_i64_i64_i64_i64 true 5 x3 x4)), (V.ptr 0 1 0 0), (V.d (.int .i64 s0.c2))], [(Blk.flat 86 161 [(arrE enc_R_i64_i64_i64_i64_i64 s0.c4 32 ++ [(.int .i64 s0.c5)])] false)])) := by
  unfold law17_RingLast_L1_sel law17_RingLast_L1_c0
  cases h1 : tb (decide (s0.c3 < ((x4.length : Nat) : Int)))
  · intro g0 g1
    exact round_walk [.o 16 (fun _ => o_len_os (enc := enc_R_i64_i64_i64_i64_i64) (l := x4) (fl := true) (n := x3) (s := 5)), .b (tbE h1)] (by kernel_rfl)
  · cases h2 : tb (inb x4.length s0.c3)
    · intro g0 g1
      exact absurd g1 ft
    · cases h3 : tb (ring_Ring_Add_pai5_Fi161_c0 s0.c5 ((gt x4 s0.c3).c0) ((gt x4 s0.c3).c1) ((gt x4 s0.c3).c2) ((gt x4 s0.c3).c3) ((gt x4 s0.c3).c4))
      · intro g0 g1
        exact absurd g1 ft
      · cases h4 : tb (((ring_Ring_Add_pai5_Fi161_r0_0 ((gt x4 s0.c3).c0) ((gt x4 s0.c3).c1) ((gt x4 s0.c3).c2) ((gt x4 s0.c3).c3) ((gt x4 s0.c3).c4)) : Int) == 0)
        · intro g0 g1
          exact absurd g0 tf
        · intro g0 g1
          exact absurd g0 tf
theorem law17_RingLast_L1_f0_0 (x0 : List R_i64_i64_i64_i64_i64) (x1 : Int) (x2 : Bool) (x3 : Bool) (x4 : List R_i64_i64_i64_i64_i64) (x5 : Int) (x6 : Int) (s : law17_RingLast_L1_s0) (hok : law17_RingLast_L1_ok x4 s = true) (c0 : law17_RingLast_L1_c0 x4 (law17_RingLast_L1_end x4 s) = true) : loopG (roundG (runC E0 (cl E0) L9_1) [0, 3, 4, 5] [0, 3, 4] 1) bound (law17_RingLast_L1_enc x0 x1 x2 x3 x4 x5 x6 s) = some ((.exit 0), ([(V.d (slD enc_R_i64_i64_i64_i64_i64 true 5 x3 x4)), (V.ptr 0 1 0 0), (V.d (.int .i64 ((law17_RingLast_L1_end x4 s).c2)))], [(Blk.flat 86 161 [(arrE enc_R_i64_i64_i64_i64_i64 ((law17_RingLast_L1_end x4 s).c4) 32 ++ [(.int .i64 ((law17_RingLast_L1_end x4 s).c5))])] false)])) := by
  have e : itS (law17_RingLast_L1_sel x4) (law17_RingLast_L1_nx x4) bound s = some (law17_RingLast_L1_end x4 s) := itS_get hok
  have f := itS_false e
  exact loop_it (law17_RingLast_L1_go x0 x1 x2 x3 x4 x5 x6) bound s _ _ _ e (fun h => by cases h) (law17_RingLast_L1_x0 x0 x1 x2 x3 x4 x5 x6 (law17_RingLast_L1_end x4 s) f c0)
structure law17_RingLast_L2_s0 where
  c3 : Int
  c4 : Int
  deriving Inhabited
def law17_RingLast_L2_h0_e0 (x2 : List R_i64_i64_i64_i64_i64) (x6 : List R_i64_i64_i64_i64_i64) (s0 : law17_RingLast_L2_s0) : Bool := (true != (((((gt x2 s0.c3).c0) : Int) == ((gt x6 s0.c4).c0)) && (((((gt x2 s0.c3).c1) : Int) == ((gt x6 s0.c4).c1)) && (((((gt x2 s0.c3).c2) : Int) == ((gt x6 s0.c4).c2)) && (((((gt x2 s0.c3).c3) : Int) == ((gt x6 s0.c4).c3)) && (((((gt x2 s0.c3).c4) : Int) == ((gt x6 s0.c4).c4)) && true))))))
def law17_RingLast_L2_enc (x0 : List R_i64_i64_i64_i64_i64) (x1 : Int) (x2 : List R_i64_i64_i64_i64_i64) (x3 : Bool) (x4 : Bool) (x5 : Bool) (x6 : List R_i64_i64_i64_i64_i64) (x7 : Bool) (x8 : Int) (x9 : Int) (s0 : law17_RingLast_L2_s0) : List V × Mem := ([(V.d (slD enc_R_i64_i64_i64_i64_i64 true 5 x5 x6)), (V.so x7 1 x2.length), (V.d (.int .i64 s0.c3)), (V.d (.int .i64 s0.c4))], [(Blk.flat 86 161 [(arrE enc_R_i64_i64_i64_i64_i64 x0 32 ++ [(.int .i64 x1)])] x3), (Blk.flat 58 5 (List.map enc_R_i64_i64_i64_i64_i64 x2) x4)])
def law17_RingLast_L2_sel (x2 : List R_i64_i64_i64_i64_i64) (x6 : List R_i64_i64_i64_i64_i64) (s0 : law17_RingLast_L2_s0) : Bool := (bif tb (decide (0 ≤ s0.c4)) then (bif tb (inb x6.length s0.c4) then (bif tb (ring_Right_ai5_c0 ((gt x6 s0.c4).c0) ((gt x6 s0.c4).c1) ((gt x6 s0.c4).c2) ((gt x6 s0.c4).c3) ((gt x6 s0.c4).c4)) then (bif tb (ring_Right_ai5_r0_0 ((gt x6 s0.c4).c0) ((gt x6 s0.c4).c1) ((gt x6 s0.c4).c2) ((gt x6 s0.c4).c3) ((gt x6 s0.c4).c4)) then (bif tb (decide (0 ≤ s0.c3)) then (bif tb (inb x2.length s0.c3) then (bif tb (law17_RingLast_L2_h0_e0 x2 x6 s0) then false else true) else false) else true) else true) else false) else false) else false)
def law17_RingLast_L2_nx (x2 : List R_i64_i64_i64_i64_i64) (x6 : List R_i64_i64_i64_i64_i64) (s0 : law17_RingLast_L2_s0) : law17_RingLast_L2_s0 := (bif tb (ring_Right_ai5_r0_0 ((gt x6 s0.c4).c0) ((gt x6 s0.c4).c1) ((gt x6 s0.c4).c2) ((gt x6 s0.c4).c3) ((gt x6 s0.c4).c4)) then ⟨(wi (s0.c3 - 1)), (wi (s0.c4 - 1))⟩ else ⟨s0.c3, (wi (s0.c4 - 1))⟩)
def law17_RingLast_L2_ok (x2 : List R_i64_i64_i64_i64_i64) (x6 : List R_i64_i64_i64_i64_i64) (s0 : law17_RingLast_L2_s0) : Bool := (itS (law17_RingLast_L2_sel x2 x6) (law17_RingLast_L2_nx x2 x6) bound s0).isSome
def law17_RingLast_L2_end (x2 : List R_i64_i64_i64_i64_i64) (x6 : List R_i64_i64_i64_i64_i64) (s0 : law17_RingLast_L2_s0) : law17_RingLast_L2_s0 := (itS (law17_RingLast_L2_sel x2 x6) (law17_RingLast_L2_nx x2 x6) bound s0).getD default
theorem law17_RingLast_L2_go (x0 : List R_i64_i64_i64_i64_i64) (x1 : Int) (x2 : List R_i64_i64_i64_i64_i64) (x3 : Bool) (x4 : Bool) (x5 : Bool) (x6 : List R_i64_i64_i64_i64_i64) (x7 : Bool) (x8 : Int) (x9 : Int) (s0 : law17_RingLast_L2_s0) : law17_RingLast_L2_sel x2 x6 s0 = true → (roundG (runC E0 (cl E0) L9_2) [0, 6, 7, 8] [2, 7] 2) (law17_RingLast_L2_enc x0 x1 x2 x3 x4 x5 x6 x7 x8 x9 s0) = some (.normal, law17_RingLast_L2_enc x0 x1 x2 x3 x4 x5 x6 x7 x8 x9 (law17_RingLast_L2_nx x2 x6 s0)) := by
  unfold law17_RingLast_L2_sel law17_RingLast_L2_nx
  cases h1 : tb (decide (0 ≤ s0.c4))
  · intro g0
    exact absurd g0 ft
  · cases h2 : tb (inb x6.length s0.c4)
    · intro g0
      exact absurd g0 ft
    · cases h3 : tb (ring_Right_ai5_c0 ((gt x6 s0.c4).c0) ((gt x6 s0.c4).c1) ((gt x6 s0.c4).c2) ((gt x6 s0.c4).c3) ((gt x6 s0.c4).c4))
      · intro g0
        exact absurd g0 ft
      · cases h4 : tb (ring_Right_ai5_r0_0 ((gt x6 s0.c4).c0) ((gt x6 s0.c4).c1) ((gt x6 s0.c4).c2) ((gt x6 s0.c4).c3) ((gt x6 s0.c4).c4))
        · intro _
          exact round_walk [.b (tbE h1), .o 65 (fun _ => o_idx_os (enc := enc_R_i64_i64_i64_i64_i64) (l := x6) (fl := true) (n := x5) (s := 5) (k := .i64) (tbE h2)), .c (ring_Right_ai5_t0 ((gt x6 s0.c4).c0) ((gt x6 s0.c4).c1) ((gt x6 s0.c4).c2) ((gt x6 s0.c4).c3) ((gt x6 s0.c4).c4) (tbE h3)), .b (notF (tbE h4))] (by kernel_rfl)
        · cases h5 : tb (decide (0 ≤ s0.c3))
          · intro _
            exact round_walk [.b (tbE h1), .o 65 (fun _ => o_idx_os (enc := enc_R_i64_i64_i64_i64_i64) (l := x6) (fl := true) (n := x5) (s := 5) (k := .i64) (tbE h2)), .c (ring_Right_ai5_t0 ((gt x6 s0.c4).c0) ((gt x6 s0.c4).c1) ((gt x6 s0.c4).c2) ((gt x6 s0.c4).c3) ((gt x6 s0.c4).c4) (tbE h3)), .b (notT (tbE h4)), .b (tbE h5)] (by kernel_rfl)
          · cases h6 : tb (inb x2.length s0.c3)
            · intro g0
              exact absurd g0 ft
            · cases h7 : tb (law17_RingLast_L2_h0_e0 x2 x6 s0)
              · intro _
                exact round_walk [.b (tbE h1), .o 65 (fun _ => o_idx_os (enc := enc_R_i64_i64_i64_i64_i64) (l := x6) (fl := true) (n := x5) (s := 5) (k := .i64) (tbE h2)), .c (ring_Right_ai5_t0 ((gt x6 s0.c4).c0) ((gt x6 s0.c4).c1) ((gt x6 s0.c4).c2) ((gt x6 s0.c4).c3) ((gt x6 s0.c4).c4) (tbE h3)), .b (notT (tbE h4)), .b (tbE h5), .m 74 (o_idx_so (m := [(Blk.flat 86 161 [(arrE enc_R_i64_i64_i64_i64_i64 x0 32 ++ [(.int .i64 x1)])] true), (Blk.flat 58 5 (List.map enc_R_i64_i64_i64_i64_i64 x2) true)]) (b := x7) (id := 1) (n := x2.length) (s := 5) (k := .i64) (by kernel_rfl) (tbE h6)), .m 75 (o_load_L (m := [(Blk.flat 86 161 [(arrE enc_R_i64_i64_i64_i64_i64 x0 32 ++ [(.int .i64 x1)])] true), (Blk.flat 58 5 (List.map enc_R_i64_i64_i64_i64_i64 x2) true)]) (enc := enc_R_i64_i64_i64_i64_i64) (l := x2) (id := 1) (e := 58) (s := 5) (off := 0) (size := 5) (p := true) (agg := true) (i := s0.c3) (v := (V.agg [(V.d (.int .i64 ((gt x2 s0.c3).c0))), (V.d (.int .i64 ((gt x2 s0.c3).c1))), (V.d (.int .i64 ((gt x2 s0.c3).c2))), (V.d (.int .i64 ((gt x2 s0.c3).c3))), (V.d (.int .i64 ((gt x2 s0.c3).c4)))])) (n := x2.length) (Nat.beq_refl _) (by kernel_rfl) (tbE h6) (by kernel_rfl)), .o 78 (fun _ => o_idx_os (enc := enc_R_i64_i64_i64_i64_i64) (l := x6) (fl := true) (n := x5) (s := 5) (k := .i64) (tbE h2)), .b (tbE h7)] (by kernel_rfl)
              · intro g0
                exact absurd g0 ft
def law17_RingLast_L2_c0 (x2 : List R_i64_i64_i64_i64_i64) (x6 : List R_i64_i64_i64_i64_i64) (s0 : law17_RingLast_L2_s0) : Bool := (bif tb (decide (0 ≤ s0.c4)) then (bif tb (inb x6.length s0.c4) then (bif tb (ring_Right_ai5_c0 ((gt x6 s0.c4).c0) ((gt x6 s0.c4).c1) ((gt x6 s0.c4).c2) ((gt x6 s0.c4).c3) ((gt x6 s0.c4).c4)) then (bif tb (inb x2.length s0.c3) then true else false) else false) else false) else false)
def law17_RingLast_L2_c1 (s0 : law17_RingLast_L2_s0) : Bool := (bif tb (decide (0 ≤ s0.c4)) then false else true)
theorem law17_RingLast_L2_x0 (x0 : List R_i64_i64_i64_i64_i64) (x1 : Int) (x2 : List R_i64_i64_i64_i64_i64) (x3 : Bool) (x4 : Bool) (x5 : Bool) (x6 : List R_i64_i64_i64_i64_i64) (x7 : Bool) (x8 : Int) (x9 : Int) (s0 : law17_RingLast_L2_s0) : law17_RingLast_L2_sel x2 x6 s0 = false → law17_RingLast_L2_c0 x2 x6 s0 = true → (roundG (runC E0 (cl E0) L9_2) [0, 6, 7, 8] [2, 7] 2) (law17_RingLast_L2_enc x0 x1 x2 x3 x4 x5 x6 x7 x8 x9 s0) = some (.ret, ([(V.d (.bool false)), (V.d (.int .i64 s0.c3))], [(Blk.flat 86 161 [(arrE enc_R_i64_i64_i64_i64_i64 x0 32 ++ [(.int .i64 x1)])] x3), (Blk.flat 58 5 (List.map enc_R_i64_i64_i64_i64_i64 x2) x4)])) := by
  unfold law17_RingLast_L2_sel law17_RingLast_L2_c0
  cases h1 : tb (decide (0 ≤ s0.c4))
  · intro g0 g1
    exact absurd g1 ft
  · cases h2 : tb (inb x6.length s0.c4)
    · intro g0 g1
      exact absurd g1 ft
    · cases h3 : tb (ring_Right_ai5_c0 ((gt x6 s0.c4).c0) ((gt x6 s0.c4).c1) ((gt x6 s0.c4).c2) ((gt x6 s0.c4).c3) ((gt x6 s0.c4).c4))
      · intro g0 g1
        exact absurd g1 ft
      · cases h4 : tb (ring_Right_ai5_r0_0 ((gt x6 s0.c4).c0) ((gt x6 s0.c4).c1) ((gt x6 s0.c4).c2) ((gt x6 s0.c4).c3) ((gt x6 s0.c4).c4))
        · intro g0 g1
          exact absurd g0 tf
        · cases h5 : tb (decide (0 ≤ s0.c3))
          · intro g0 g1
            exact absurd g0 tf
          · cases h6 : tb (inb x2.length s0.c3)
            · intro g0 g1
              exact absurd g1 ft
            · cases h7 : tb (law17_RingLast_L2_h0_e0 x2 x6 s0)
              · intro g0 g1
                exact absurd g0 tf
              · intro g0 g1
                exact round_walk [.b (tbE h1), .o 65 (fun _ => o_idx_os (enc := enc_R_i64_i64_i64_i64_i64) (l := x6) (fl := true) (n := x5) (s := 5) (k := .i64) (tbE h2)), .c (ring_Right_ai5_t0 ((gt x6 s0.c4).c0) ((gt x6 s0.c4).c1) ((gt x6 s0.c4).c2) ((gt x6 s0.c4).c3) ((gt x6 s0.c4).c4) (tbE h3)), .b (notT (tbE h4)), .b (tbE h5), .m 74 (o_idx_so (m := [(Blk.flat 86 161 [(arrE enc_R_i64_i64_i64_i64_i64 x0 32 ++ [(.int .i64 x1)])] true), (Blk.flat 58 5 (List.map enc_R_i64_i64_i64_i64_i64 x2) true)]) (b := x7) (id := 1) (n := x2.length) (s := 5) (k := .i64) (by kernel_rfl) (tbE h6)), .m 75 (o_load_L (m := [(Blk.flat 86 161 [(arrE enc_R_i64_i64_i64_i64_i64 x0 32 ++ [(.int .i64 x1)])] true), (Blk.flat 58 5 (List.map enc_R_i64_i64_i64_i64_i64 x2) true)]) (enc := enc_R_i64_i64_i64_i64_i64) (l := x2) (id := 1) (e := 58) (s := 5) (off := 0) (size := 5) (p := true) (agg := true) (i := s0.c3) (v := (V.agg [(V.d (.int .i64 ((gt x2 s0.c3).c0))), (V.d (.int .i64 ((gt x2 s0.c3).c1))), (V.d (.int .i64 ((gt x2 s0.c3).c2))), (V.d (.int .i64 ((gt x2 s0.c3).c3))), (V.d (.int .i64 ((gt x2 s0.c3).c4)))])) (n := x2.length) (Nat.beq_refl _) (by kernel_rfl) (tbE h6) (by kernel_rfl)), .o 78 (fun _ => o_idx_os (enc := enc_R_i64_i64_i64_i64_i64) (l := x6) (fl := true) (n := x5) (s := 5) (k := .i64) (tbE h2)), .b (tbE h7)] (by kernel_rfl)
theorem law17_RingLast_L2_x1 (x0 : List R_i64_i64_i64_i64_i64) (x1 : Int) (x2 : List R_i64_i64_i64_i64_i64) (x3 : Bool) (x4 : Bool) (x5 : Bool) (x6 : List R_i64_i64_i64_i64_i64) (x7 : Bool) (x8 : Int) (x9 : Int) (s0 : law17_RingLast_L2_s0) : law17_RingLast_L2_sel x2 x6 s0 = false → law17_RingLast_L2_c0 x2 x6 s0 = false → law17_RingLast_L2_c1 s0 = true → (roundG (runC E0 (cl E0) L9_2) [0, 6, 7, 8] [2, 7] 2) (law17_RingLast_L2_enc x0 x1 x2 x3 x4 x5 x6 x7 x8 x9 s0) = some ((.exit 2), ([V.un, (V.d (.int .i64 s0.c3))], [(Blk.flat 86 161 [(arrE enc_R_i64_i64_i64_i64_i64 x0 32 ++ [(.int .i64 x1)])] x3), (Blk.flat 58 5 (List.map enc_R_i64_i64_i64_i64_i64 x2) x4)])) := by
  unfold law17_RingLast_L2_sel law17_RingLast_L2_c0 law17_RingLast_L2_c1
  cases h1 : tb (decide (0 ≤ s0.c4))
  · intro g0 g1 g2
    exact round_walk [.b (tbE h1)] (by kernel_rfl)
  · cases h2 : tb (inb x6.length s0.c4)
    · intro g0 g1 g2
      exact absurd g2 ft
    · cases h3 : tb (ring_Right_ai5_c0 ((gt x6 s0.c4).c0) ((gt x6 s0.c4).c1) ((gt x6 s0.c4).c2) ((gt x6 s0.c4).c3) ((gt x6 s0.c4).c4))
      · intro g0 g1 g2
        exact absurd g2 ft
      · cases h4 : tb (ring_Right_ai5_r0_0 ((gt x6 s0.c4).c0) ((gt x6 s0.c4).c1) ((gt x6 s0.c4).c2) ((gt x6 s0.c4).c3) ((gt x6 s0.c4).c4))
        · intro g0 g1 g2
          exact absurd g0 tf
        · cases h5 : tb (decide (0 ≤ s0.c3))
          · intro g0 g1 g2
            exact absurd g0 tf
          · cases h6 : tb (inb x2.length s0.c3)
            · intro g0 g1 g2
              exact absurd g2 ft
            · cases h7 : tb (law17_RingLast_L2_h0_e0 x2 x6 s0)
              · intro g0 g1 g2
                exact absurd g0 tf
              · intro g0 g1 g2
                exact absurd g1 tf
theorem law17_RingLast_L2_f0_0 (x0 : List R_i64_i64_i64_i64_i64) (x1 : Int) (x2 : List R_i64_i64_i64_i64_i64) (x3 : Bool) (x4 : Bool) (x5 : Bool) (x6 : List R_i64_i64_i64_i64_i64) (x7 : Bool) (x8 : Int) (x9 : Int) (s : law17_RingLast_L2_s0) (hok : law17_RingLast_L2_ok x2 x6 s = true) (c0 : law17_RingLast_L2_c0 x2 x6 (law17_RingLast_L2_end x2 x6 s) = true) : loopG (roundG (runC E0 (cl E0) L9_2) [0, 6, 7, 8] [2, 7] 2) bound (law17_RingLast_L2_enc x0 x1 x2 x3 x4 x5 x6 x7 x8 x9 s) = some (.ret, ([(V.d (.bool false)), (V.d (.int .i64 ((law17_RingLast_L2_end x2 x6 s).c3)))], [(Blk.flat 86 161 [(arrE enc_R_i64_i64_i64_i64_i64 x0 32 ++ [(.int .i64 x1)])] x3), (Blk.flat 58 5 (List.map enc_R_i64_i64_i64_i64_i64 x2) x4)])) := by
  have e : itS (law17_RingLast_L2_sel x2 x6) (law17_RingLast_L2_nx x2 x6) bound s = some (law17_RingLast_L2_end x2 x6 s) := itS_get hok
  have f := itS_false e
  exact loop_it (law17_RingLast_L2_go x0 x1 x2 x3 x4 x5 x6 x7 x8 x9) bound s _ _ _ e (fun h => by cases h) (law17_RingLast_L2_x0 x0 x1 x2 x3 x4 x5 x6 x7 x8 x9 (law17_RingLast_L2_end x2 x6 s) f c0)
theorem law17_RingLast_L2_f0_1 (x0 : List R_i64_i64_i64_i64_i64) (x1 : Int) (x2 : List R_i64_i64_i64_i64_i64) (x3 : Bool) (x4 : Bool) (x5 : Bool) (x6 : List R_i64_i64_i64_i64_i64) (x7 : Bool) (x8 : Int) (x9 : Int) (s : law17_RingLast_L2_s0) (hok : law17_RingLast_L2_ok x2 x6 s = true) (c0 : law17_RingLast_L2_c0 x2 x6 (law17_RingLast_L2_end x2 x6 s) = false) (c1 : law17_RingLast_L2_c1 (law17_RingLast_L2_end x2 x6 s) = true) : loopG (roundG (runC E0 (cl E0) L9_2) [0, 6, 7, 8] [2, 7] 2) bound (law17_RingLast_L2_enc x0 x1 x2 x3 x4 x5 x6 x7 x8 x9 s) = some ((.exit 2), ([V.un, (V.d (.int .i64 ((law17_RingLast_L2_end x2 x6 s).c3)))], [(Blk.flat 86 161 [(arrE enc_R_i64_i64_i64_i64_i64 x0 32 ++ [(.int .i64 x1)])] x3), (Blk.flat 58 5 (List.map enc_R_i64_i64_i64_i64_i64 x2) x4)])) := by
  have e : itS (law17_RingLast_L2_sel x2 x6) (law17_RingLast_L2_nx x2 x6) bound s = some (law17_RingLast_L2_end x2 x6 s) := itS_get hok
  have f := itS_false e
  exact loop_it (law17_RingLast_L2_go x0 x1 x2 x3 x4 x5 x6 x7 x8 x9) bound s _ _ _ e (fun h => by cases h) (law17_RingLast_L2_x1 x0 x1 x2 x3 x4 x5 x6 x7 x8 x9 (law17_RingLast_L2_end x2 x6 s) f c0 c1)
def law17_RingLast_S3_e0  : List R_i64_i64_i64_i64_i64 := ([⟨0, 0, 0, 0, 0⟩, ⟨0, 0, 0, 0, 0⟩, ⟨0, 0, 0, 0, 0⟩, ⟨0, 0, 0, 0, 0⟩, ⟨0, 0, 0, 0, 0⟩, ⟨0, 0, 0, 0, 0⟩, ⟨0, 0, 0, 0, 0⟩, ⟨0, 0, 0, 0, 0⟩, ⟨0, 0, 0, 0, 0⟩, ⟨0, 0, 0, 0, 0⟩, ⟨0, 0, 0, 0, 0⟩, ⟨0, 0, 0, 0, 0⟩, ⟨0, 0, 0, 0, 0⟩, ⟨0, 0, 0, 0, 0⟩, ⟨0, 0, 0, 0, 0⟩, ⟨0, 0, 0, 0, 0⟩, ⟨0, 0, 0, 0, 0⟩, ⟨0, 0, 0, 0, 0⟩, ⟨0, 0, 0, 0, 0⟩, ⟨0, 0, 0, 0, 0⟩, ⟨0, 0, 0, 0, 0⟩, ⟨0, 0, 0, 0, 0⟩, ⟨0, 0, 0, 0, 0⟩, ⟨0, 0, 0, 0, 0⟩, ⟨0, 0, 0, 0, 0⟩, ⟨0, 0, 0, 0, 0⟩, ⟨0, 0, 0, 0, 0⟩, ⟨0, 0, 0, 0, 0⟩, ⟨0, 0, 0, 0, 0⟩, ⟨0, 0, 0, 0, 0⟩, ⟨0, 0, 0, 0, 0⟩, ⟨0, 0, 0, 0, 0⟩] : List R_i64_i64_i64_i64_i64)
def law17_RingLast_S3_e1 (x1 : List R_i64_i64_i64_i64_i64) : law17_RingLast_L1_s0 := law17_RingLast_L1_end x1 (⟨0, 0, law17_RingLast_S3_e0, 0⟩ : law17_RingLast_L1_s0)
def law17_RingLast_S3_e2 (x1 : List R_i64_i64_i64_i64_i64) : Int := wi (((((ring_Ring_All_p_Fi161_e0 ((law17_RingLast_S3_e1 x1).c4) ((law17_RingLast_S3_e1 x1).c5)).c7).length : Nat) : Int) + (mxI 0 (wi (((law17_RingLast_S3_e1 x1).c5) - 32))))
def law17_RingLast_S3_e3 (x1 : List R_i64_i64_i64_i64_i64) : Int := wi (((((ring_Ring_All_p_Fi161_e0 ((law17_RingLast_S3_e1 x1).c4) ((law17_RingLast_S3_e1 x1).c5)).c7).length : Nat) : Int) - 1)
def law17_RingLast_S3_e4 (x1 : List R_i64_i64_i64_i64_i64) : List R_i64_i64_i64_i64_i64 := ((ring_Ring_All_p_Fi161_e0 ((law17_RingLast_S3_e1 x1).c4) ((law17_RingLast_S3_e1 x1).c5)).c7)
def law17_RingLast_S3_e5 (x1 : List R_i64_i64_i64_i64_i64) : Bool := ((ring_Ring_All_p_Fi161_e0 ((law17_RingLast_S3_e1 x1).c4) ((law17_RingLast_S3_e1 x1).c5)).c0)
def law17_RingLast_S3_e6 (x1 : List R_i64_i64_i64_i64_i64) : law17_RingLast_L2_s0 := law17_RingLast_L2_end (law17_RingLast_S3_e4 x1) x1 (⟨(law17_RingLast_S3_e3 x1), (wi (((x1.length : Nat) : Int) - 1))⟩ : law17_RingLast_L2_s0)
def law17_RingLast_S3_c0 (x1 : List R_i64_i64_i64_i64_i64) : Bool := (bif tb (law17_RingLast_L1_ok x1 (⟨0, 0, law17_RingLast_S3_e0, 0⟩ : law17_RingLast_L1_s0)) then (bif tb (law17_RingLast_L1_c0 x1 (law17_RingLast_S3_e1 x1)) then (bif tb (ring_Ring_All_p_Fi161_c0 ((law17_RingLast_S3_e1 x1).c4) ((law17_RingLast_S3_e1 x1).c5)) then (bif tb (decide (32 < ((((ring_Ring_All_p_Fi161_e0 ((law17_RingLast_S3_e1 x1).c4) ((law17_RingLast_S3_e1 x1).c5)).c7).length : Nat) : Int))) then true else (bif tb (((law17_RingLast_S3_e2 x1) : Int) != ((law17_RingLast_S3_e1 x1).c2)) then true else (bif tb (decide (0 < (mxI 0 (wi (((law17_RingLast_S3_e1 x1).c5) - 32))))) then (bif tb ((((((ring_Ring_All_p_Fi161_e0 ((law17_RingLast_S3_e1 x1).c4) ((law17_RingLast_S3_e1 x1).c5)).c7).length : Nat) : Int) : Int) != 32) then true else (bif tb (law17_RingLast_L2_ok (law17_RingLast_S3_e4 x1) x1 (⟨(law17_RingLast_S3_e3 x1), (wi (((x1.length : Nat) : Int) - 1))⟩ : law17_RingLast_L2_s0)) then (bif tb (law17_RingLast_L2_c0 (law17_RingLast_S3_e4 x1) x1 (law17_RingLast_S3_e6 x1)) then true else false) else false)) else (bif tb (law17_RingLast_L2_ok (law17_RingLast_S3_e4 x1) x1 (⟨(law17_RingLast_S3_e3 x1), (wi (((x1.length : Nat) : Int) - 1))⟩ : law17_RingLast_L2_s0)) then (bif tb (law17_RingLast_L2_c0 (law17_RingLast_S3_e4 x1) x1 (law17_RingLast_S3_e6 x1)) then true else false) else false)))) else false) else false) else false)
def law17_RingLast_S3_c1 (x1 : List R_i64_i64_i64_i64_i64) : Bool := (bif tb (law17_RingLast_L1_ok x1 (⟨0, 0, law17_RingLast_S3_e0, 0⟩ : law17_RingLast_L1_s0)) then (bif tb (law17_RingLast_L1_c0 x1 (law17_RingLast_S3_e1 x1)) then (bif tb (ring_Ring_All_p_Fi161_c0 ((law17_RingLast_S3_e1 x1).c4) ((law17_RingLast_S3_e1 x1).c5)) then (bif tb (decide (32 < ((((ring_Ring_All_p_Fi161_e0 ((law17_RingLast_S3_e1 x1).c4) ((law17_RingLast_S3_e1 x1).c5)).c7).length : Nat) : Int))) then false else (bif tb (((law17_RingLast_S3_e2 x1) : Int) != ((law17_RingLast_S3_e1 x1).c2)) then false else (bif tb (decide (0 < (mxI 0 (wi (((law17_RingLast_S3_e1 x1).c5) - 32))))) then (bif tb ((((((ring_Ring_All_p_Fi161_e0 ((law17_RingLast_S3_e1 x1).c4) ((law17_RingLast_S3_e1 x1).c5)).c7).length : Nat) : Int) : Int) != 32) then false else (bif tb (law17_RingLast_L2_ok (law17_RingLast_S3_e4 x1) x1 (⟨(law17_RingLast_S3_e3 x1), (wi (((x1.length : Nat) : Int) - 1))⟩ : law17_RingLast_L2_s0)) then (bif tb (law17_RingLast_L2_c0 (law17_RingLast_S3_e4 x1) x1 (law17_RingLast_S3_e6 x1)) then false else (bif tb (law17_RingLast_L2_c1 (law17_RingLast_S3_e6 x1)) then true else false)) else false)) else (bif tb (law17_RingLast_L2_ok (law17_RingLast_S3_e4 x1) x1 (⟨(law17_RingLast_S3_e3 x1), (wi (((x1.length : Nat) : Int) - 1))⟩ : law17_RingLast_L2_s0)) then (bif tb (law17_RingLast_L2_c0 (law17_RingLast_S3_e4 x1) x1 (law17_RingLast_S3_e6 x1)) then false else (bif tb (law17_RingLast_L2_c1 (law17_RingLast_S3_e6 x1)) then true else false)) else false)))) else false) else false) else false)
theorem law17_RingLast_S3_t0 (x0 : Bool) (x1 : List R_i64_i64_i64_i64_i64) : law17_RingLast_S3_c0 x1 = true → segG (runC E0 (cl E0) S9_3) [0] [2] [7] 0 ([(V.d (slD enc_R_i64_i64_i64_i64_i64 true 5 x0 x1))], []) = some (.ret, ([(V.d (.bool false))], [])) := by
  unfold law17_RingLast_S3_c0
  cases h1 : tb (law17_RingLast_L1_ok x1 (⟨0, 0, law17_RingLast_S3_e0, 0⟩ : law17_RingLast_L1_s0))
  · intro g0
    exact absurd g0 ft
  · cases h2 : tb (law17_RingLast_L1_c0 x1 (law17_RingLast_S3_e1 x1))
    · intro g0
      exact absurd g0 ft
    · cases h3 : tb (ring_Ring_All_p_Fi161_c0 ((law17_RingLast_S3_e1 x1).c4) ((law17_RingLast_S3_e1 x1).c5))
      · intro g0
        exact absurd g0 ft
      · cases h4 : tb (decide (32 < ((((ring_Ring_All_p_Fi161_e0 ((law17_RingLast_S3_e1 x1).c4) ((law17_RingLast_S3_e1 x1).c5)).c7).length : Nat) : Int)))
        · cases h5 : tb (((law17_RingLast_S3_e2 x1) : Int) != ((law17_RingLast_S3_e1 x1).c2))
          · cases h6 : tb (decide (0 < (mxI 0 (wi (((law17_RingLast_S3_e1 x1).c5) - 32)))))
            · cases h7 : tb (law17_RingLast_L2_ok (law17_RingLast_S3_e4 x1) x1 (⟨(law17_RingLast_S3_e3 x1), (wi (((x1.length : Nat) : Int) - 1))⟩ : law17_RingLast_L2_s0))
              · intro g0
                exact absurd g0 ft
              · cases h8 : tb (law17_RingLast_L2_c0 (law17_RingLast_S3_e4 x1) x1 (law17_RingLast_S3_e6 x1))
                · cases h9 : tb (law17_RingLast_L2_c1 (law17_RingLast_S3_e6 x1))
                  · intro g0
                    exact absurd g0 ft
                  · intro g0
                    exact absurd g0 ft
                · intro g0
                  exact seg_walk [.c (ring_New_t0), .l (law17_RingLast_L1_f0_0 law17_RingLast_S3_e0 0 false x0 x1 0 0 (⟨0, 0, law17_RingLast_S3_e0, 0⟩ : law17_RingLast_L1_s0) (tbE h1) (tbE h2)), .c (ring_Ring_All_p_Fi161_t0 ((law17_RingLast_S3_e1 x1).c4) ((law17_RingLast_S3_e1 x1).c5) false (tbE h3)), .b (tbE h4), .c (ring_Ring_Lost_p_Fi161_t0 ((law17_RingLast_S3_e1 x1).c4) ((law17_RingLast_S3_e1 x1).c5) false), .b (tbE h5), .c (ring_Ring_Lost_p_Fi161_t0 ((law17_RingLast_S3_e1 x1).c4) ((law17_RingLast_S3_e1 x1).c5) false), .b (tbE h6), .o 57 (fun _ => o_len_os (enc := enc_R_i64_i64_i64_i64_i64) (l := x1) (fl := true) (n := x0) (s := 5)), .l (law17_RingLast_L2_f0_0 ((law17_RingLast_S3_e1 x1).c4) ((law17_RingLast_S3_e1 x1).c5) (law17_RingLast_S3_e4 x1) false false x0 x1 (law17_RingLast_S3_e5 x1) (law17_RingLast_S3_e3 x1) (wi (((x1.length : Nat) : Int) - 1)) (⟨(law17_RingLast_S3_e3 x1), (wi (((x1.length : Nat) : Int) - 1))⟩ : law17_RingLast_L2_s0) (tbE h7) (tbE h8))] (by kernel_rfl)
            · cases h7 : tb ((((((ring_Ring_All_p_Fi161_e0 ((law17_RingLast_S3_e1 x1).c4) ((law17_RingLast_S3_e1 x1).c5)).c7).length : Nat) : Int) : Int) != 32)
              · cases h8 : tb (law17_RingLast_L2_ok (law17_RingLast_S3_e4 x1) x1 (⟨(law17_RingLast_S3_e3 x1), (wi (((x1.length : Nat) : Int) - 1))⟩ : law17_RingLast_L2_s0))
                · intro g0
                  exact absurd g0 ft
                · cases h9 : tb (law17_RingLast_L2_c0 (law17_RingLast_S3_e4 x1) x1 (law17_RingLast_S3_e6 x1))
                  · cases h10 : tb (law17_RingLast_L2_c1 (law17_RingLast_S3_e6 x1))
                    · intro g0
                      exact absurd g0 ft
                    · intro g0
                      exact absurd g0 ft
                  · intro g0
                    exact seg_walk [.c (ring_New_t0), .l (law17_RingLast_L1_f0_0 law17_RingLast_S3_e0 0 false x0 x1 0 0 (⟨0, 0, law17_RingLast_S3_e0, 0⟩ : law17_RingLast_L1_s0) (tbE h1) (tbE h2)), .c (ring_Ring_All_p_Fi161_t0 ((law17_RingLast_S3_e1 x1).c4) ((law17_RingLast_S3_e1 x1).c5) false (tbE h3)), .b (tbE h4), .c (ring_Ring_Lost_p_Fi161_t0 ((law17_RingLast_S3_e1 x1).c4) ((law17_RingLast_S3_e1 x1).c5) false), .b (tbE h5), .c (ring_Ring_Lost_p_Fi161_t0 ((law17_RingLast_S3_e1 x1).c4) ((law17_RingLast_S3_e1 x1).c5) false), .b (tbE h6), .b (tbE h7), .o 57 (fun _ => o_len_os (enc := enc_R_i64_i64_i64_i64_i64) (l := x1) (fl := true) (n := x0) (s := 5)), .l (law17_RingLast_L2_f0_0 ((law17_RingLast_S3_e1 x1).c4) ((law17_RingLast_S3_e1 x1).c5) (law17_RingLast_S3_e4 x1) false false x0 x1 (law17_RingLast_S3_e5 x1) (law17_RingLast_S3_e3 x1) (wi (((x1.length : Nat) : Int) - 1)) (⟨(law17_RingLast_S3_e3 x1), (wi (((x1.length : Nat) : Int) - 1))⟩ : law17_RingLast_L2_s0) (tbE h8) (tbE h9))] (by kernel_rfl)
              · intro g0
                exact seg_walk [.c (ring_New_t0), .l (law17_RingLast_L1_f0_0 law17_RingLast_S3_e0 0 false x0 x1 0 0 (⟨0, 0, law17_RingLast_S3_e0, 0⟩ : law17_RingLast_L1_s0) (tbE h1) (tbE h2)), .c (ring_Ring_All_p_Fi161_t0 ((law17_RingLast_S3_e1 x1).c4) ((law17_RingLast_S3_e1 x1).c5) false (tbE h3)), .b (tbE h4), .c (ring_Ring_Lost_p_Fi161_t0 ((law17_RingLast_S3_e1 x1).c4) ((law17_RingLast_S3_e1 x1).c5) false), .b (tbE h5), .c (ring_Ring_Lost_p_Fi161_t0 ((law17_RingLast_S3_e1 x1).c4) ((law17_RingLast_S3_e1 x1).c5) false), .b (tbE h6), .b (tbE h7)] (by kernel_rfl)
          · intro g0
            exact seg_walk [.c (ring_New_t0), .l (law17_RingLast_L1_f0_0 law17_RingLast_S3_e0 0 false x0 x1 0 0 (⟨0, 0, law17_RingLast_S3_e0, 0⟩ : law17_RingLast_L1_s0) (tbE h1) (tbE h2)), .c (ring_Ring_All_p_Fi161_t0 ((law17_RingLast_S3_e1 x1).c4) ((law17_RingLast_S3_e1 x1).c5) false (tbE h3)), .b (tbE h4), .c (ring_Ring_Lost_p_Fi161_t0 ((law17_RingLast_S3_e1 x1).c4) ((law17_RingLast_S3_e1 x1).c5) false), .b (tbE h5)] (by kernel_rfl)
        · intro g0
          exact seg_walk [.c (ring_New_t0), .l (law17_RingLast_L1_f0_0 law17_RingLast_S3_e0 0 false x0 x1 0 0 (⟨0, 0, law17_RingLast_S3_e0, 0⟩ : law17_RingLast_L1_s0) (tbE h1) (tbE h2)), .c (ring_Ring_All_p_Fi161_t0 ((law17_RingLast_S3_e1 x1).c4) ((law17_RingLast_S3_e1 x1).c5) false (tbE h3)), .b (tbE h4)] (by kernel_rfl)
theorem law17_RingLast_S3_t1 (x0 : Bool) (x1 : List R_i64_i64_i64_i64_i64) : law17_RingLast_S3_c0 x1 = false → law17_RingLast_S3_c1 x1 = true → segG (runC E0 (cl E0) S9_3) [0] [2] [7] 0 ([(V.d (slD enc_R_i64_i64_i64_i64_i64 true 5 x0 x1))], []) = some (.normal, ([(V.d (.int .i64 ((law17_RingLast_S3_e6 x1).c3)))], [])) := by
  unfold law17_RingLast_S3_c0 law17_RingLast_S3_c1
  cases h1 : tb (law17_RingLast_L1_ok x1 (⟨0, 0, law17_RingLast_S3_e0, 0⟩ : law17_RingLast_L1_s0))
  · intro g0 g1
    exact absurd g1 ft
  · cases h2 : tb (law17_RingLast_L1_c0 x1 (law17_RingLast_S3_e1 x1))
    · intro g0 g1
      exact absurd g1 ft
    · cases h3 : tb (ring_Ring_All_p_Fi161_c0 ((law17_RingLast_S3_e1 x1).c4) ((law17_RingLast_S3_e1 x1).c5))
      · intro g0 g1
        exact absurd g1 ft
      · cases h4 : tb (decide (32 < ((((ring_Ring_All_p_Fi161_e0 ((law17_RingLast_S3_e1 x1).c4) ((law17_RingLast_S3_e1 x1).c5)).c7).length : Nat) : Int)))
        · cases h5 : tb (((law17_RingLast_S3_e2 x1) : Int) != ((law17_RingLast_S3_e1 x1).c2))
          · cases h6 : tb (decide (0 < (mxI 0 (wi (((law17_RingLast_S3_e1 x1).c5) - 32)))))
            · cases h7 : tb (law17_RingLast_L2_ok (law17_RingLast_S3_e4 x1) x1 (⟨(law17_RingLast_S3_e3 x1), (wi (((x1.length : Nat) : Int) - 1))⟩ : law17_RingLast_L2_s0))
              · intro g0 g1
                exact absurd g1 ft
              · cases h8 : tb (law17_RingLast_L2_c0 (law17_RingLast_S3_e4 x1) x1 (law17_RingLast_S3_e6 x1))
                · cases h9 : tb (law17_RingLast_L2_c1 (law17_RingLast_S3_e6 x1))
                  · intro g0 g1
                    exact absurd g1 ft
                  · intro g0 g1
                    exact seg_walk [.c (ring_New_t0), .l (law17_RingLast_L1_f0_0 law17_RingLast_S3_e0 0 false x0 x1 0 0 (⟨0, 0, law17_RingLast_S3_e0, 0⟩ : law17_RingLast_L1_s0) (tbE h1) (tbE h2)), .c (ring_Ring_All_p_Fi161_t0 ((law17_RingLast_S3_e1 x1).c4) ((law17_RingLast_S3_e1 x1).c5) false (tbE h3)), .b (tbE h4), .c (ring_Ring_Lost_p_Fi161_t0 ((law17_RingLast_S3_e1 x1).c4) ((law17_RingLast_S3_e1 x1).c5) false), .b (tbE h5), .c (ring_Ring_Lost_p_Fi161_t0 ((law17_RingLast_S3_e1 x1).c4) ((law17_RingLast_S3_e1 x1).c5) false), .b (tbE h6), .o 57 (fun _ => o_len_os (enc := enc_R_i64_i64_i64_i64_i64) (l := x1) (fl := true) (n := x0) (s := 5)), .l (law17_RingLast_L2_f0_1 ((law17_RingLast_S3_e1 x1).c4) ((law17_RingLast_S3_e1 x1).c5) (law17_RingLast_S3_e4 x1) false false x0 x1 (law17_RingLast_S3_e5 x1) (law17_RingLast_S3_e3 x1) (wi (((x1.length : Nat) : Int) - 1)) (⟨(law17_RingLast_S3_e3 x1), (wi (((x1.length : Nat) : Int) - 1))⟩ : law17_RingLast_L2_s0) (tbE h7) (tbE h8) (tbE h9))] (by kernel_rfl)
                · intro g0 g1
                  exact absurd g0 tf
            · cases h7 : tb ((((((ring_Ring_All_p_Fi161_e0 ((law17_RingLast_S3_e1 x1).c4) ((law17_RingLast_S3_e1 x1).c5)).c7).length : Nat) : Int) : Int) != 32)
              · cases h8 : tb (law17_RingLast_L2_ok (law17_RingLast_S3_e4 x1) x1 (⟨(law17_RingLast_S3_e3 x1), (wi (((x1.length : Nat) : Int) - 1))⟩ : law17_RingLast_L2_s0))
                · intro g0 g1
                  exact absurd g1 ft
                · cases h9 : tb (law17_RingLast_L2_c0 (law17_RingLast_S3_e4 x1) x1 (law17_RingLast_S3_e6 x1))
                  · cases h10 : tb (law17_RingLast_L2_c1 (law17_RingLast_S3_e6 x1))
                    · intro g0 g1
                      exact absurd g1 ft
                    · intro g0 g1
                      exact seg_walk [.c (ring_New_t0), .l (law17_RingLast_L1_f0_0 law17_RingLast_S3_e0 0 false x0 x1 0 0 (⟨0, 0, law17_RingLast_S3_e0, 0⟩ : law17_RingLast_L1_s0) (tbE h1) (tbE h2)), .c (ring_Ring_All_p_Fi161_t0 ((law17_RingLast_S3_e1 x1).c4) ((law17_RingLast_S3_e1 x1).c5) false (tbE h3)), .b (tbE h4), .c (ring_Ring_Lost_p_Fi161_t0 ((law17_RingLast_S3_e1 x1).c4) ((law17_RingLast_S3_e1 x1).c5) false), .b (tbE h5), .c (ring_Ring_Lost_p_Fi161_t0 ((law17_RingLast_S3_e1 x1).c4) ((law17_RingLast_S3_e1 x1).c5) false), .b (tbE h6), .b (tbE h7), .o 57 (fun _ => o_len_os (enc := enc_R_i64_i64_i64_i64_i64) (l := x1) (fl := true) (n := x0) (s := 5)), .l (law17_RingLast_L2_f0_1 ((law17_RingLast_S3_e1 x1).c4) ((law17_RingLast_S3_e1 x1).c5) (law17_RingLast_S3_e4 x1) false false x0 x1 (law17_RingLast_S3_e5 x1) (law17_RingLast_S3_e3 x1) (wi (((x1.length : Nat) : Int) - 1)) (⟨(law17_RingLast_S3_e3 x1), (wi (((x1.length : Nat) : Int) - 1))⟩ : law17_RingLast_L2_s0) (tbE h8) (tbE h9) (tbE h10))] (by kernel_rfl)
                  · intro g0 g1
                    exact absurd g0 tf
              · intro g0 g1
                exact absurd g0 tf
          · intro g0 g1
            exact absurd g0 tf
        · intro g0 g1
          exact absurd g0 tf
def law17_RingLast_c0 (x1 : List R_i64_i64_i64_i64_i64) : Bool := (bif tb (law17_RingLast_S0_c0 x1) then true else (bif tb (law17_RingLast_S3_c0 x1) then true else (bif tb (law17_RingLast_S3_c1 x1) then true else false)))
def law17_RingLast_r0_0 (x1 : List R_i64_i64_i64_i64_i64) : Bool := (bif tb (law17_RingLast_S0_c0 x1) then true else (bif tb (law17_RingLast_S3_c0 x1) then false else (decide (((law17_RingLast_S3_e6 x1).c3) < 0))))
theorem law17_RingLast_t0 (x0 : Bool) (x1 : List R_i64_i64_i64_i64_i64) : law17_RingLast_c0 x1 = true → cl E0 9 [(V.d (slD enc_R_i64_i64_i64_i64_i64 true 5 x0 x1))] [] = some ([(V.d (.bool (law17_RingLast_r0_0 x1)))], []) := by
  unfold law17_RingLast_c0 law17_RingLast_r0_0
  cases h1 : tb (law17_RingLast_S0_c0 x1)
  · cases h2 : tb (law17_RingLast_S3_c0 x1)
    · cases h3 : tb (law17_RingLast_S3_c1 x1)
      · intro g0
        exact absurd g0 ft
      · intro g0
        exact w9 [.s (law17_RingLast_S0_t1 x0 x1 (tbE h1)), .s (law17_RingLast_S3_t1 x0 x1 (tbE h2) (tbE h3)), .c (law17_alive_t0), .k true] (by kernel_rfl)
    · intro g0
      exact w9 [.s (law17_RingLast_S0_t1 x0 x1 (tbE h1)), .s (law17_RingLast_S3_t0 x0 x1 (tbE h2))] (by kernel_rfl)
  · intro g0
    exact w9 [.s (law17_RingLast_S0_t0 x0 x1 (tbE h1))] (by kernel_rfl)
end Go.Proofs.YtkipngagfiaddaaDoor.Den

namespace Go.Proofs.YtkipngagfiaddaaDoor.Den
open Go Go.Proofs
set_option linter.unusedVariables false
set_option linter.unusedSimpArgs false
set_option maxRecDepth 100000
def good (l : List N5) (k : Nat) : List N5 := (l.take k).filter rN
theorem good_succ {l : List N5} {k : Nat} (h : k < l.length) : good l (k + 1) = good l k ++ (if rN (gt l (k : Int)) = true then [gt l (k : Int)] else []) := by
  unfold good
  rw [take_succ_gt h, List.filter_append]
  cases hr : rN (gt l (k : Int)) <;> simp [hr]
theorem good_le (l : List N5) (k : Nat) : (good l k).length ≤ k := Nat.le_trans (List.length_filter_le _ _) (by rw [List.length_take]; omega)
theorem good_all (l : List N5) : good l l.length = l.filter rN := by unfold good; rw [List.take_length]
theorem good_last {l : List N5} {k : Nat} (h : k < l.length) (hr : rN (gt l (k : Int)) = true) : (good l (k + 1)).length = (good l k).length + 1 ∧ (good l k).length < (l.filter rN).length ∧ gt (l.filter rN) (((good l k).length : Nat) : Int) = gt l (k : Int) := by
  have e : l.filter rN = good l k ++ (gt l (k : Int) :: (l.drop (k + 1)).filter rN) := by
    have : l = l.take k ++ (gt l (k : Int) :: l.drop (k + 1)) := by
      rw [gt_nat h, ← List.drop_eq_getElem_cons h, List.take_append_drop]
    conv => lhs; rw [this]
    rw [List.filter_append, List.filter_cons, if_pos hr]
    rfl
  refine ⟨by rw [good_succ h, if_pos hr, List.length_append]; rfl, by rw [e, List.length_append, List.length_cons]; omega, ?_⟩
  have hlt : (good l k).length < (l.filter rN).length := by rw [e, List.length_append, List.length_cons]; omega
  rw [gt_nat hlt]
  simp only [e]
  rw [List.getElem_append_right (Nat.le_refl _)]
  simp
theorem pure_RingLast (x0 : Bool) (x1 : List R_i64_i64_i64_i64_i64) (wx1 : (x1.length ≤ maxLen ∧ x1.length * 40 ≤ 140737488351232 ∧ ∀ z ∈ x1, WfI .i64 z.c0 ∧ WfI .i64 z.c1 ∧ WfI .i64 z.c2 ∧ WfI .i64 z.c3 ∧ WfI .i64 z.c4 ∧ True)) : law17_RingLast_c0 x1 = true ∧ (law17_RingLast_r0_0 x1) = true := by
  by_cases hl : x1.length ≤ 200
  · have s0 : law17_RingLast_S0_c0 x1 = false := by simp only [law17_RingLast_S0_c0, tb_eq]; rw [decide_eq_false (by omega)]; rfl
    obtain ⟨s1, e1, ⟨j1, j2, j3⟩, j4⟩ := idx_loop (sel := law17_RingLast_L1_sel x1) (nx := law17_RingLast_L1_nx x1) (s0 := ⟨0, 0, law17_RingLast_S3_e0, 0⟩) ((x1.length : Nat) : Int) (fun s => s.c3)
      (fun s => s.c2 = (((good x1 s.c3.toNat).length : Nat) : Int) ∧ s.c5 = (((good x1 s.c3.toNat).length : Nat) : Int) ∧ RingOK s.c4 (good x1 s.c3.toNat)) (by omega)
      ⟨rfl, rfl, rfl, fun j hj _ => by simp [good] at hj⟩ (by decide) (by show (0 : Int) ≤ _; omega)
      (fun s ⟨k1, k2, k3⟩ b1 b2 => by
        obtain ⟨c2, c3, c4, c5⟩ := s
        simp only at k1 k2 k3 b1 b2
        obtain ⟨k, rfl⟩ : ∃ k : Nat, c3 = k := ⟨c3.toNat, by omega⟩
        simp only [Int.toNat_natCast] at k1 k2 k3
        subst k1; subst k2
        have hk : k < x1.length := by omega
        have hgl := good_le x1 k
        obtain ⟨a1, a2, a3, a4⟩ := add_eq (T := c4) (m := good x1 k) (gt x1 (k : Int)) (by omega)
        have i1 : inb x1.length (k : Int) = true := inb_of (by omega) (by omega)
        have hw : wi ((k : Int) + 1) = ((k + 1 : Nat) : Int) := by rw [wi_eq (by omega) (by omega)]; omega
        have hw2 : wi ((((good x1 k).length : Nat) : Int) + 1) = (((good x1 k).length + 1 : Nat) : Int) := by rw [wi_eq (by omega) (by omega)]; omega
        refine ⟨?_, ?_, ?_⟩
        · simp only [law17_RingLast_L1_sel, a1, i1, tb_eq]
          rw [decide_eq_true (by omega)]; rfl
        · simp only [law17_RingLast_L1_nx, law17_RingLast_L1_h0_e0, a2, a3, a4, hw, hw2]
          cases hr : rN (gt x1 (k : Int)) with
          | true =>
            have hg : good x1 (k + 1) = good x1 k ++ [gt x1 (k : Int)] := by rw [good_succ hk, if_pos hr]
            simp only [if_true, tb_eq, beq_self_eq_true, cond_true, Int.toNat_natCast, hg, List.length_append, List.length_singleton]
            exact ⟨trivial, trivial, ring_add k3 _⟩
          | false =>
            have hg : good x1 (k + 1) = good x1 k := by rw [good_succ hk, if_neg (by rw [hr]; simp), List.append_nil]
            have z : ((1 : Int) == 0) = false := rfl
            simp only [Bool.false_eq_true, if_false, z, tb_eq, cond_false, Int.toNat_natCast, hg]
            exact ⟨trivial, trivial, k3⟩
        · simp only [law17_RingLast_L1_nx, hw]
          cases tb ((ring_Ring_Add_pai5_Fi161_r0_0 (gt x1 (k : Int)).c0 (gt x1 (k : Int)).c1 (gt x1 (k : Int)).c2 (gt x1 (k : Int)).c3 (gt x1 (k : Int)).c4 : Int) == 0) <;> simp)
      (fun s _ b => by
        simp only [law17_RingLast_L1_sel, b, tb_eq]
        rw [decide_eq_false (by omega)]; rfl)
    rw [j4, Int.toNat_natCast, good_all] at j1 j2 j3
    have hml : (x1.filter rN).length ≤ x1.length := List.length_filter_le _ _
    generalize hm : x1.filter rN = m at *
    have eE1 : law17_RingLast_S3_e1 x1 = s1 := by simp only [law17_RingLast_S3_e1, law17_RingLast_L1_end, e1, Option.getD_some]
    have ok1 : law17_RingLast_L1_ok x1 ⟨0, 0, law17_RingLast_S3_e0, 0⟩ = true := by simp only [law17_RingLast_L1_ok, e1]; rfl
    have c1 : law17_RingLast_L1_c0 x1 s1 = true := by simp only [law17_RingLast_L1_c0, j4, tb_eq]; rw [decide_eq_false (by omega)]; rfl
    obtain ⟨a1, a2⟩ := all_eq j3 (by omega)
    have hlost := lost_eq (m := m) (by omega)
    have hal : (m.drop (m.length - 32)).length = m.length - (m.length - 32) := by rw [List.length_drop]
    have eE4 : law17_RingLast_S3_e4 x1 = m.drop (m.length - 32) := by simp only [law17_RingLast_S3_e4, eE1, j2, a2]
    have eE2 : law17_RingLast_S3_e2 x1 = ((m.length : Nat) : Int) := by
      simp only [law17_RingLast_S3_e2, eE1, j2, a2, hlost, hal]
      rw [wi_eq (by omega) (by omega)]; omega
    have eE3 : law17_RingLast_S3_e3 x1 = ((m.length : Nat) : Int) - 1 - ((m.length - 32 : Nat) : Int) := by
      simp only [law17_RingLast_S3_e3, eE1, j2, a2, hal]
      rw [wi_eq (by omega) (by omega)]; omega
    have run := loop_seq (sel := law17_RingLast_L2_sel (m.drop (m.length - 32)) x1) (nx := law17_RingLast_L2_nx (m.drop (m.length - 32)) x1)
      (fun k => (⟨(((good x1 (x1.length - k)).length : Nat) : Int) - 1 - ((m.length - 32 : Nat) : Int), ((x1.length - k : Nat) : Int) - 1⟩ : law17_RingLast_L2_s0)) x1.length (by omega) (fun k hk => by
        obtain ⟨p, hp⟩ : ∃ p, x1.length - k = p + 1 := ⟨x1.length - k - 1, by omega⟩
        have hp1 : p < x1.length := by omega
        have hp2 : x1.length - (k + 1) = p := by omega
        have hgl := good_le x1 p
        have hgl1 := good_le x1 (p + 1)
        simp only [hp, hp2]
        have ei : ((p + 1 : Nat) : Int) - 1 = (p : Int) := by omega
        rw [ei]
        have i1 : inb x1.length (p : Int) = true := inb_of (by omega) (by omega)
        have d1 : decide (0 ≤ (p : Int)) = true := decide_eq_true (by omega)
        have hr' : ring_Right_ai5_r0_0 (gt x1 (p : Int)).c0 (gt x1 (p : Int)).c1 (gt x1 (p : Int)).c2 (gt x1 (p : Int)).c3 (gt x1 (p : Int)).c4 = rN (gt x1 (p : Int)) := rfl
        have hw : wi ((p : Int) - 1) = (p : Int) - 1 := wi_eq (by omega) (by omega)
        constructor
        · simp only [law17_RingLast_L2_sel, i1, d1, rN_c, hr', tb_eq]
          cases hr : rN (gt x1 (p : Int)) with
          | false => rfl
          | true =>
            obtain ⟨q1, q2, q3⟩ := good_last hp1 hr
            rw [hm] at q2 q3
            simp only [cond_true, q1]
            by_cases h0 : 0 ≤ (((good x1 p).length + 1 : Nat) : Int) - 1 - ((m.length - 32 : Nat) : Int)
            · have i2 : inb (m.drop (m.length - 32)).length ((((good x1 p).length + 1 : Nat) : Int) - 1 - ((m.length - 32 : Nat) : Int)) = true := inb_of h0 (by rw [hal]; omega)
              obtain ⟨q, hq⟩ : ∃ q : Nat, (good x1 p).length = m.length - 32 + q := ⟨(good x1 p).length - (m.length - 32), by omega⟩
              have ge : gt (m.drop (m.length - 32)) ((((good x1 p).length + 1 : Nat) : Int) - 1 - ((m.length - 32 : Nat) : Int)) = gt x1 (p : Int) := by
                rw [← q3, show (((good x1 p).length + 1 : Nat) : Int) - 1 - ((m.length - 32 : Nat) : Int) = (q : Int) by omega, gt_nat q2, gt_nat (by rw [hal]; omega), List.getElem_drop]
                congr 1; omega
              have ec : law17_RingLast_L2_h0_e0 (m.drop (m.length - 32)) x1 ⟨(((good x1 p).length + 1 : Nat) : Int) - 1 - ((m.length - 32 : Nat) : Int), (p : Int)⟩ = false := by
                simp only [law17_RingLast_L2_h0_e0, ge, beq_self_eq_true, Bool.and_self]; rfl
              rw [decide_eq_true h0, i2, ec]; rfl
            · rw [decide_eq_false h0]; rfl
        · simp only [law17_RingLast_L2_nx, hr', hw, tb_eq]
          cases hr : rN (gt x1 (p : Int)) with
          | false =>
            have hg : good x1 (p + 1) = good x1 p := by rw [good_succ hp1, if_neg (by rw [hr]; simp), List.append_nil]
            rw [hg]; rfl
          | true =>
            obtain ⟨q1, _, _⟩ := good_last hp1 hr
            rw [q1]
            have : wi ((((good x1 p).length + 1 : Nat) : Int) - 1 - ((m.length - 32 : Nat) : Int) - 1) = (((good x1 p).length : Nat) : Int) - 1 - ((m.length - 32 : Nat) : Int) := by
              rw [wi_eq (by omega) (by omega)]; omega
            simp only [cond_true, this]) (by
        simp only [law17_RingLast_L2_sel, Nat.sub_self, tb_eq]
        rfl)
    simp only [Nat.sub_zero, good_all, hm, Nat.sub_self] at run
    have g0 : good x1 0 = [] := rfl
    rw [g0] at run
    have hst : wi (((x1.length : Nat) : Int) - 1) = ((x1.length : Nat) : Int) - 1 := wi_eq (by omega) (by omega)
    have ok2 : law17_RingLast_L2_ok (m.drop (m.length - 32)) x1 ⟨((m.length : Nat) : Int) - 1 - ((m.length - 32 : Nat) : Int), ((x1.length : Nat) : Int) - 1⟩ = true := by
      simp only [law17_RingLast_L2_ok, run]; rfl
    have eE6 : law17_RingLast_S3_e6 x1 = ⟨((([] : List N5).length : Nat) : Int) - 1 - ((m.length - 32 : Nat) : Int), ((0 : Nat) : Int) - 1⟩ := by
      simp only [law17_RingLast_S3_e6, eE4, eE3, hst, law17_RingLast_L2_end, run, Option.getD_some]
    have l0 : law17_RingLast_L2_c0 (m.drop (m.length - 32)) x1 ⟨((([] : List N5).length : Nat) : Int) - 1 - ((m.length - 32 : Nat) : Int), ((0 : Nat) : Int) - 1⟩ = false := rfl
    have l1 : law17_RingLast_L2_c1 ⟨((([] : List N5).length : Nat) : Int) - 1 - ((m.length - 32 : Nat) : Int), ((0 : Nat) : Int) - 1⟩ = true := rfl
    have n1 : decide (32 < (((m.drop (m.length - 32)).length : Nat) : Int)) = false := decide_eq_false (by rw [hal]; omega)
    have n2 : ((((m.length : Nat) : Int) : Int) != ((m.length : Nat) : Int)) = false := by simp
    have n3 : decide (0 < ((m.length - 32 : Nat) : Int)) = true → (((((m.drop (m.length - 32)).length : Nat) : Int) : Int) != 32) = false := fun h => by
      have h := of_decide_eq_true h
      rw [hal]
      have : ((m.length - (m.length - 32) : Nat) : Int) = 32 := by omega
      rw [this]; rfl
    have s3 : law17_RingLast_S3_c0 x1 = false ∧ law17_RingLast_S3_c1 x1 = true := by
      simp only [law17_RingLast_S3_c0, law17_RingLast_S3_c1, ok1, eE1, c1, j1, j2, a1, a2, n1, eE2, n2, hlost, eE4, eE3, hst, ok2, eE6, l0, l1, tb_eq, cond_true, cond_false]
      cases h3 : decide (0 < ((m.length - 32 : Nat) : Int)) with
      | false => exact ⟨rfl, rfl⟩
      | true => rw [n3 h3]; exact ⟨rfl, rfl⟩
    have hfin : decide ((((([] : List N5).length : Nat) : Int) - 1 - ((m.length - 32 : Nat) : Int)) < 0) = true := decide_eq_true (by show (0 : Int) - 1 - _ < 0; omega)
    simp only [law17_RingLast_c0, law17_RingLast_r0_0, s0, s3.1, s3.2, eE6, hfin, tb_eq, cond_true, cond_false, and_self]
  · have s0 : law17_RingLast_S0_c0 x1 = true := by simp only [law17_RingLast_S0_c0, tb_eq]; rw [decide_eq_true (by omega)]; rfl
    simp only [law17_RingLast_c0, law17_RingLast_r0_0, s0, tb_eq, cond_true, and_self]
end Go.Proofs.YtkipngagfiaddaaDoor.Den

namespace Go.Proofs.YtkipngagfiaddaaDoor.Den
open Go Go.ChangeShapes Go.WideShapes Go.ChangeAt Go.RowKit
set_option linter.unusedVariables false
set_option linter.unusedSimpArgs false
theorem law_laid {C : Checked} (hm : C.prog.follows .mixedOrders = true) {E : Env} (hE : EnvOK C.prog E) {laid : List (String × DataW Unit)} (hgl : ∀ w, laidMetH C.prog laid w → GlOK E (cx0 w)) {os : Os} {f : FuncId} {fn : Func} {s : ChangeSpec} {H : Type} {enc : TypeId × Value → H}
    (own : ownKnob C.prog.godebug = none) (started : os.Started) (noInit : C.prog.inits.idxOf? f = none) (hfn : C.prog.funcs[f]? = some fn) (hl : laidOutB C.prog = true)
    (witness : ∃ (w : World) (tape : Tape) (i : Input), w.os = os ∧ (w.forCall tape i).Shaped C.prog ∧ i.vars = [] ∧ Input.okWide C.prog (w.forCall tape i) .any w.heap.size f i ∧
      ((s.pre enc C.prog fn [] false (w.forCall tape i).memory i.args ∧ laidMetH C.prog laid (w.forCall tape i).memory) ∧ sizedMet enc C.prog fn (OpenSpec.ofChange s) false (w.forCall tape i).memory i.args) ∧
        Assume.holds {} C.prog (lone (Frame.enter C.prog f i.args .normal) [] (w.forCall tape i)))
    (hgood : (fn.params.toList.all fun t => goodT C.prog 20 t && C.prog.readableRec t && decide (t < C.prog.types.size)) = true) {rt : TypeId} (hres : fn.resultTypes = #[rt]) (hrt : C.prog.underlying rt = some .bool)
    (hvars : s.vars = []) (hspec : ∀ ds : List (DataW H), ds.length = fn.params.toList.length → s.fn H ds = { results := [.lit (.bool true)], args := ds })
    (hlaw : ∀ rs, TyAll C.prog 20 fn.params.toList rs → ∃ k m', callD E k f (argsV C.prog fn.params.toList rs) [] = some ([.d (.bool true)], m')) :
    ReturnsInHanded {} C os f .any (fun w args => (s.pre enc C.prog fn [] false w args ∧ laidMetH C.prog laid w) ∧ sizedMet enc C.prog fn (OpenSpec.ofChange s) false w args) (s.post enc C.prog fn false true false false) := by
  refine returnsInHanded_of_change_and (X := fun w _ => laidMetH C.prog laid w) (fun _ _ _ hh h => h.of_heap hh) own started noInit hfn witness ?_
  intro W base args ds gs before hval hW _ hsz hL _
  have hW' := hW
  obtain ⟨p, q, hA, hV, rfl, hfz, hnd⟩ := hW
  rw [hvars] at hV
  obtain ⟨rfl, rfl⟩ := trodVars_none hV
  have hgd : ∀ t, t ∈ fn.params.toList → goodT C.prog 20 t = true ∧ C.prog.readableRec t = true ∧ t < C.prog.types.size := fun t ht => by
    have := List.all_eq_true.1 hgood t ht
    simpa [Bool.and_eq_true, and_assoc] using this
  obtain ⟨rs, h1, h2⟩ := open_args (n := 20) fn.params.toList args.toList ds p (List.all_eq_true.2 fun t ht => (hgd t ht).1) (fun j t v ht hv => hval j t v (by simpa using ht) (by simpa using hv)) (fun m hm => of_decide_eq_true (List.all_eq_true.1 hsz m (weightsEach_app hm))) hA
  obtain ⟨k, m', hk⟩ := hlaw rs h1
  refine (calls_law hm hE (hgl W hL) h2 hk).mono fun e W' ⟨he, bel⟩ => ?_
  subst he
  have hlen : ds.length = fn.params.toList.length := by
    have : ∀ (ts : List TypeId) (vs : List Value) (ds : List (DataW H)) (ps : List MemPlace), DataW.TrodAll enc C.prog W 0 (fun _ => true) true ts vs ds ps → ds.length = ts.length := by
      intro ts
      induction ts with
      | nil => intro vs ds ps h; obtain ⟨_, rfl, _⟩ := trodAll_nil h; rfl
      | cons t ts ih => intro vs ds ps h; obtain ⟨v, vs', d, ds', p, q, rfl, rfl, rfl, _, h2⟩ := trodAll_cons h; simp [ih _ _ _ h2]
    exact this _ _ _ _ hA
  have hs := hspec ds hlen
  refine ⟨_, rfl, ds, [], _, [], p, [], hW', ?_, ?_, ?_, bel.frame _, fun h => by cases h⟩
  · rw [List.append_nil, hs, hres]
    exact trodAll_mk1 (shut_bool hrt _)
  · rw [List.append_nil, hs]
    exact args_back hl bel _ _ _ _ (fun t ht => (hgd t ht).2) (fun x hx => by simpa using hW'.lt x (by simpa using hx)) hA
  · rw [hvars, List.append_nil, hs]; rfl
theorem held_texts {P : Program} {W : World} {name : String} {g t n e : Nat} {ss : List ByteArray} {rest : List (String × DataW Unit)} (hg : P.globalNamed name = some g) (ht : (P.globals[g]?).map (·.type) = some t) (hu : P.underlying t = some (.array n e))
    (he : P.underlying e = some .string) (hce : P.cellsOf e = 1) (hct : P.cellsOf t = n) (hn : ss.length = n) (h : laidMet P ((name, .agg (ss.map fun s => .lit (.string s.data.toList))) :: rest) W) : Held (immAll W) W g 0 (ss.map D.str) := by
  obtain ⟨ps, hlv, _, _⟩ := h
  obtain ⟨g', t', cs, fuel, p, q, hg', ht', hv, hd, _, _⟩ := hlv
  obtain rfl := Option.some.inj (hg.symm.trans hg')
  obtain rfl := Option.some.inj (ht.symm.trans ht')
  obtain ⟨xs, m, _, ex, hlen, hl, hel⟩ := DataW.trod_array hu hd
  have e1 := (DataW.agg.inj (Prod.mk.inj ex).1)
  have hsz : g < W.heap.size := by
    simp only [World.var?, hg, Option.bind_some] at hv
    rcases Nat.lt_or_ge g W.heap.size with h | h
    · exact h
    · have : W.heap[g]? = none := by simp [h]
      rw [this] at hv; simp at hv
  have hcell : ∀ i (hi : i < ss.length), W.cell? ⟨g, i, none⟩ = some (.string ss[i]) := fun i hi => by
    have hx := hel i (by omega)
    have hi' : i < xs.length := by omega
    rw [List.getElem?_eq_getElem hi', hce, Nat.mul_one] at hx
    obtain ⟨s, h1, h2, _⟩ := DataW.trod_string he hx
    have h3 : (xs.map (·.1))[i]? = (ss.map fun s => (DataW.lit (.string s.data.toList) : DataW Unit))[i]? := by rw [e1]
    rw [List.getElem?_map, List.getElem?_map, List.getElem?_eq_getElem hi', List.getElem?_eq_getElem hi, h2] at h3
    simp only [Option.map_some, Option.some.injEq, DataW.lit.injEq, Lit.string.injEq] at h3
    have hs : s = ss[i] := by
      have : s.data = ss[i].data := Array.ext' h3
      cases s; cases hh : ss[i]; rw [hh] at this; cases this; rfl
    rw [World.var?_cell hg hv i, ← hs]
    have h4 : (cs.toList.drop i)[0]? = some (.string s) := by
      have : ((cs.toList.drop i).take 1)[0]? = some (Value.string s) := by rw [h1]; rfl
      simpa [List.getElem?_take] using this
    simpa using h4
  have key : ∀ (l : List ByteArray) (o : Nat), (∀ i (hi : i < l.length), W.cell? ⟨g, o + i, none⟩ = some (.string l[i])) → Held (immAll W) W g o (l.map D.str) := by
    intro l
    induction l with
    | nil => intro o _; simp [Held]
    | cons s r ih =>
      intro o hc
      simp only [List.map_cons, Held]
      refine ⟨⟨.string s, hc 0 (by simp), hsz, trivial, by simp [RelD]⟩, ih (o + 1) fun i hi => ?_⟩
      have := hc (i + 1) (by simp; omega)
      rw [show o + 1 + i = o + (i + 1) by omega]; simpa using this
  exact key ss 0 fun i hi => by simpa using hcell i hi
theorem laidMet_tail {P : Program} {W : World} {x : String × DataW Unit} {rest : List (String × DataW Unit)} (h : laidMet P (x :: rest) W) : laidMet P rest W := by
  obtain ⟨ps, ⟨g, t, cs, fuel, p, q, _, _, _, _, hr, rfl⟩, hn, hh⟩ := h
  exact ⟨q, hr, (List.nodup_append.1 hn).2.1, fun b off hm => hh b off (List.mem_append_right _ hm)⟩
theorem held_ints {P : Program} {W : World} {name : String} {g t n e : Nat} {k : IntKind} {zs : List Int} {rest : List (String × DataW Unit)} (hg : P.globalNamed name = some g) (ht : (P.globals[g]?).map (·.type) = some t) (hu : P.underlying t = some (.array n e))
    (he : P.underlying e = some (.int k)) (hce : P.cellsOf e = 1) (hct : P.cellsOf t = n) (hn : zs.length = n) (h : laidMet P ((name, .agg (zs.map fun z => .lit (.int k z))) :: rest) W) : ∃ vs e' fr, W.heap[g]? = some (.cells vs e' fr) ∧ vs = (zs.map (Value.int k)).toArray := by
  obtain ⟨ps, hlv, _, _⟩ := h
  obtain ⟨g', t', cs, fuel, p, q, hg', ht', hv, hd, _, _⟩ := hlv
  obtain rfl := Option.some.inj (hg.symm.trans hg')
  obtain rfl := Option.some.inj (ht.symm.trans ht')
  obtain ⟨xs, m, _, ex, hlen, hl, hel⟩ := DataW.trod_array hu hd
  have e1 := (DataW.agg.inj (Prod.mk.inj ex).1)
  have hcs : cs = (zs.map (Value.int k)).toArray := by
    apply Array.ext'
    rw [List.toList_toArray]
    apply List.ext_getElem
    · rw [hlen, hct, List.length_map, hn]
    · intro i h1 h2
      have hi : i < n := by rw [hlen, hct] at h1; exact h1
      have hx := hel i hi
      have hi' : i < xs.length := by omega
      rw [List.getElem?_eq_getElem hi', hce, Nat.mul_one] at hx
      obtain ⟨z, h3, h4, _⟩ := DataW.trod_int he hx
      have h5 : (xs.map (·.1))[i]? = (zs.map fun z => (DataW.lit (.int k z) : DataW Unit))[i]? := by rw [e1]
      rw [List.getElem?_map, List.getElem?_map, List.getElem?_eq_getElem hi', List.getElem?_eq_getElem (show i < zs.length by omega), h4] at h5
      simp only [Option.map_some, Option.some.injEq, DataW.lit.injEq, Lit.int.injEq, true_and] at h5
      have h6 : (cs.toList.drop i)[0]? = some (.int k z) := by
        have : ((cs.toList.drop i).take 1)[0]? = some (Value.int k z) := by rw [h3]; rfl
        simpa [List.getElem?_take] using this
      have h7 : cs.toList[i]? = some (.int k z) := by simpa using h6
      rw [List.getElem?_eq_getElem h1] at h7
      rw [Option.some.inj h7, h5, List.getElem_map]
  refine ?_
  simp only [World.var?, hg, Option.bind_some] at hv
  split at hv
  · rename_i cs' e' fr hh
    cases hv
    exact ⟨_, e', fr, hh, hcs⟩
  · cases hv
end Go.Proofs.YtkipngagfiaddaaDoor.Den

namespace Go.Proofs.YtkipngagfiaddaaDoor.Den
open Go Go.Proofs
open Go.Proofs.YtkipngagfiaddaaDoor (Rows.laid_math_bits_deBruijn32tab Rows.laid_math_bits_deBruijn64tab Rows.laid_internal_strconv_uint64pow10 Rows.laid_rudder_trip_names Rows.laid_rudder_ring_kinds)
set_option maxRecDepth 100000
set_option linter.unusedVariables false
theorem own : ownKnob Tryd.prog.godebug = none := by kernel_rfl
theorem laidOut : laidOutB Tryd.prog = true := by kernel_rfl
theorem mixed : Tryd.prog.follows .mixedOrders = true := by kernel_rfl
theorem envOK : EnvOK Tryd.prog E0 := ⟨e0_cf, ext_ok rfl e0_x e0_w, e0_del⟩
theorem gl_only {g : Nat} {cs : List D} (h : E0.gl g = some cs) : (g = 1 ∧ cs = gls1.map D.str) ∨ (g = 2 ∧ cs = gls2.map D.str) := by
  have e : E0.gl g = (match Nat.beq g 1 with | true => some (gls1.map D.str) | false => match Nat.beq g 2 with | true => some (gls2.map D.str) | false => none) := rfl
  rw [e] at h
  split at h
  · rename_i hb
    exact .inl ⟨Nat.eq_of_beq_eq_true hb, (Option.some.inj h).symm⟩
  · split at h
    · rename_i hb
      exact .inr ⟨Nat.eq_of_beq_eq_true hb, (Option.some.inj h).symm⟩
    · cases h
theorem pow_eq : (Rows.laid_internal_strconv_uint64pow10 : DataW Unit) = .agg (((List.range 20).map fun i => ((10 ^ i : Nat) : Int)).map fun z => .lit (.int .u64 z)) := by kernel_rfl
theorem glOK (w : World) (h : laidMetH Tryd.prog [("math/bits.deBruijn32tab", Rows.laid_math_bits_deBruijn32tab), ("math/bits.deBruijn64tab", Rows.laid_math_bits_deBruijn64tab), ("internal/strconv.uint64pow10", Rows.laid_internal_strconv_uint64pow10), ("rudder/trip.names", Rows.laid_rudder_trip_names), ("rudder/ring.kinds", Rows.laid_rudder_ring_kinds)] w) : GlOK E0 (cx0 w) := by
  rw [MakeChecks.laidMetH_plain _ _ _ (by kernel_rfl)] at h
  have h3 := laidMet_tail (laidMet_tail h)
  have h4 := laidMet_tail h3
  refine ⟨fun g cs hg => ?_, fun p hp => ?_⟩
  · rcases gl_only hg with ⟨rfl, rfl⟩ | ⟨rfl, rfl⟩
    · have h' : laidMet Tryd.prog (("rudder/ring.kinds", .agg (gls1.map fun s => .lit (.string s.data.toList))) :: []) w := laidMet_tail h4
      have hh := held_texts (g := 1) (t := 88) (n := 3) (e := 9) (by kernel_rfl) (by kernel_rfl) Tryd.underlying88 Tryd.underlying9 (by kernel_rfl) (by kernel_rfl) rfl h'
      simp only [RelD]
      exact ⟨1, 0, rfl, hh⟩
    · have h' : laidMet Tryd.prog (("rudder/trip.names", .agg (gls2.map fun s => .lit (.string s.data.toList))) :: [("rudder/ring.kinds", Rows.laid_rudder_ring_kinds)]) w := h4
      have hh := held_texts (g := 2) (t := 100) (n := 6) (e := 9) (by kernel_rfl) (by kernel_rfl) Tryd.underlying100 Tryd.underlying9 (by kernel_rfl) (by kernel_rfl) rfl h'
      simp only [RelD]
      exact ⟨2, 0, rfl, hh⟩
  · have hp' : p = (3, isPow) := by
      have : p ∈ [((3 : Nat), isPow)] := hp
      simpa using this
    subst hp'
    rw [pow_eq] at h3
    obtain ⟨vs, e, fr, h5, h6⟩ := held_ints (g := 3) (t := 123) (n := 20) (e := 99) (k := .u64) (by kernel_rfl) (by kernel_rfl) Tryd.underlying123 Tryd.underlying99 (by kernel_rfl) (by kernel_rfl) (by simp) h3
    refine ⟨⟨vs, e, fr, h5, ?_⟩, fun id h => by cases h⟩
    show isPow vs
    unfold isPow
    rw [h6, List.map_map]; rfl
end Go.Proofs.YtkipngagfiaddaaDoor.Den

namespace Go.Proofs.YtkipngagfiaddaaDoor.Den
open Go Go.Proofs Go.ChangeShapes Go.WideShapes Go.ChangeAt Go.RowKit
open Go.Proofs.YtkipngagfiaddaaDoor (Rows.ringLastSpec Rows.ringLastRow Rows.RingLastSaid Rows.RingLastCardSaid Rows.ringLastCard ringLast_row_tie Rows.laid_math_bits_deBruijn32tab Rows.laid_math_bits_deBruijn64tab Rows.laid_internal_strconv_uint64pow10 Rows.laid_rudder_trip_names Rows.laid_rudder_ring_kinds)
set_option maxRecDepth 100000
set_option linter.unusedSimpArgs false
set_option linter.unusedVariables false
theorem row9 (rs : List (List D)) (h : TyAll Tryd.prog 20 Tryd.f9.params.toList rs) : ∃ k m', callD E0 k 9 (argsV Tryd.prog Tryd.f9.params.toList rs) [] = some ([.d (.bool true)], m') := by
  rw [Tryd.params9] at h ⊢
  simp only [TyAll] at h
  obtain ⟨_, _, rfl, q0, rfl⟩ := h
  have k0 := flatK_ok 20 _ _ _ (show flatK Tryd.prog 20 53 = some [.l 58] by kernel_rfl) q0
  simp only [CellsK, CellK] at k0
  obtain ⟨d0_0, _, rfl, y0_0, rfl⟩ := k0
  obtain ⟨n0_0, a0_0, rfl, v0_0⟩ : ∃ n l, d0_0 = slD enc_R_i64_i64_i64_i64_i64 true 5 n l ∧ (l.length ≤ maxLen ∧ l.length * 40 ≤ 140737488351232 ∧ ∀ z ∈ l, WfI .i64 z.c0 ∧ WfI .i64 z.c1 ∧ WfI .i64 z.c2 ∧ WfI .i64 z.c3 ∧ WfI .i64 z.c4 ∧ True) := by
    rcases y0_0 with rfl | ⟨rows1, rfl, hl1, hb1, m1, hr1⟩
    · exact ⟨true, [], rfl, by simp [maxLen], by simp, fun z hz => by simp at hz⟩
    · obtain ⟨l2, rfl, hw2⟩ : ∃ l : List R_i64_i64_i64_i64_i64, rows1 = l.map enc_R_i64_i64_i64_i64_i64 ∧ ∀ z ∈ l, WfI .i64 z.c0 ∧ WfI .i64 z.c1 ∧ WfI .i64 z.c2 ∧ WfI .i64 z.c3 ∧ WfI .i64 z.c4 ∧ True := rows_of (T := Ty Tryd.prog m1 58) (fun r hr => by
          have q := flatK_any (show flatK Tryd.prog 20 58 = some [.i .i64, .i .i64, .i .i64, .i .i64, .i .i64] by kernel_rfl) hr
          simp only [CellsK, CellK] at q
          obtain ⟨_, _, rfl, ⟨b0, rfl, w0⟩, _, _, rfl, ⟨b1, rfl, w1⟩, _, _, rfl, ⟨b2, rfl, w2⟩, _, _, rfl, ⟨b3, rfl, w3⟩, _, _, rfl, ⟨b4, rfl, w4⟩, rfl⟩ := q
          exact ⟨⟨b0, b1, b2, b3, b4⟩, rfl, ⟨w0, w1, w2, w3, w4, trivial⟩⟩) rows1 hr1
      rw [List.length_map, show Tryd.prog.bytesOf 58 = 40 by kernel_rfl] at hb1
      rw [show isFlat Tryd.prog 58 = true by kernel_rfl, show Tryd.prog.cellsOf 58 = 5 by kernel_rfl]
      exact ⟨false, l2, slD_rs _ _ _ _, by simpa using hl1, hb1, hw2⟩
  simp only [argsV, argV, Tryd.underlying53, List.map_cons, List.map_nil]
  obtain ⟨g1, g2⟩ := pure_RingLast n0_0 a0_0 v0_0
  have hc := law17_RingLast_t0 n0_0 a0_0 g1
  rw [g2] at hc
  obtain ⟨k, hk⟩ := of_cl hc
  exact ⟨k, _, hk⟩
theorem ringLast_lifted (os : Os) (started : os.Started) (H : Type) (enc : TypeId × Value → H) :
    ReturnsInHanded {} Tryd.checked os 9 .any (fun w args => (Rows.ringLastSpec.pre enc Tryd.prog Tryd.f9 [] false w args ∧ laidMetH Tryd.prog [("math/bits.deBruijn32tab", Rows.laid_math_bits_deBruijn32tab), ("math/bits.deBruijn64tab", Rows.laid_math_bits_deBruijn64tab), ("internal/strconv.uint64pow10", Rows.laid_internal_strconv_uint64pow10), ("rudder/trip.names", Rows.laid_rudder_trip_names), ("rudder/ring.kinds", Rows.laid_rudder_ring_kinds)] w) ∧ sizedMet enc Tryd.prog Tryd.f9 (OpenSpec.ofChange Rows.ringLastSpec) false w args) (Rows.ringLastSpec.post enc Tryd.prog Tryd.f9 false true false false) :=
  law_laid (C := Tryd.checked) (fn := Tryd.f9) mixed envOK glOK own started (by kernel_rfl) Tryd.func9 laidOut
    (ChangeSpec.witness_at (enc := enc) (C := Tryd.checked) (os := os) (X := fun w _ => laidMetH Tryd.prog [("math/bits.deBruijn32tab", Rows.laid_math_bits_deBruijn32tab), ("math/bits.deBruijn64tab", Rows.laid_math_bits_deBruijn64tab), ("internal/strconv.uint64pow10", Rows.laid_internal_strconv_uint64pow10), ("rudder/trip.names", Rows.laid_rudder_trip_names), ("rudder/ring.kinds", Rows.laid_rudder_ring_kinds)] w) false (World.laidAll Tryd.prog os [("math/bits.deBruijn32tab", Rows.laid_math_bits_deBruijn32tab), ("math/bits.deBruijn64tab", Rows.laid_math_bits_deBruijn64tab), ("internal/strconv.uint64pow10", Rows.laid_internal_strconv_uint64pow10), ("rudder/trip.names", Rows.laid_rudder_trip_names), ("rudder/ring.kinds", Rows.laid_rudder_ring_kinds)]) #[.slice none 0 0] 8 (World.laidAll_os _ _ _) (by kernel_rfl) (by kernel_rfl) (by kernel_rfl) (by kernel_rfl) (by kernel_rfl)
      (by rw [MakeChecks.laidMetH_plain _ _ _ (by kernel_rfl)]; exact laidMet_laidAll _ (by kernel_rfl) (by kernel_rfl)))
    (by kernel_rfl) (rt := 4) rfl Tryd.underlying4 rfl
    (fun ds h => by
      match ds, h with
      | [_], _ => rfl)
    row9
theorem ringLast_row : Rows.RingLastSaid :=
  OpenClaim.holds_of_wide 9 Tryd.f9 rfl rfl rfl rfl rfl rfl rfl ⟨rfl, rfl, rfl, rfl, rfl⟩ rfl rfl rfl rfl rfl (by kernel_rfl) Tryd.func9 (by kernel_rfl)
    (of_decide_eq_true (by kernel_rfl)) (by unfold Func.isWrapper; first | (rw [if_pos (by decide +kernel)]; kernel_rfl) | (rw [if_neg (by decide +kernel)]; exact ⟨rfl, rfl⟩))
    (fun os started H enc _ => ringLast_lifted os started H enc)
theorem ringLast_holds : Rows.RingLastCardSaid :=
  Claim7.holds_tied_plain_at .later [] [.data, .data, .data, .data, .data] true (true, "de0f8e2e583c2ca3011efa0872d658fafa250bb71daf0ce9d9802f694a3174c7") false ringLast_row (fun _ h => by cases h) (by kernel_rfl) (fun _ h => by cases h) ringLast_row_tie rfl ⟨rfl, rfl⟩ (by kernel_rfl) rfl
    (fun f fn hf hfn => by
      obtain rfl : f = 9 := Option.some.inj ((show Tryd.prog.funcNamed "rudder/rudderlaw17.RingLast" = some 9 by kernel_rfl).symm.trans hf) |>.symm
      obtain rfl : fn = Tryd.f9 := (Option.some.inj (Tryd.func9.symm.trans hfn)).symm
      exact ⟨by kernel_rfl, fun j t ht => by
        rw [Tryd.params9] at ht
        have hm : t ∈ [53] := by simpa using Array.mem_of_getElem? ht
        have hall : ([53].all fun u => !Tryd.prog.wantsStandIn u) = true := by kernel_rfl
        exact (show Tryd.prog.wantsStandIn t = false by simpa using List.all_eq_true.1 hall t hm)⟩)
    (by kernel_rfl)
end Go.Proofs.YtkipngagfiaddaaDoor.Den
