/- RingPlaysCard: part 5 of what its proof rests on: an evaluator of the program's code, proved sound; plain functions printed from the code by a program of this session, with proofs; plain laws. No condition. -/
import Derived.Test.YtkipngagfiaddaaDoorDenringPlays4
import Derived.Test.YtkipngagfiaddaaDoorProg

namespace Go.Proofs.YtkipngagfiaddaaDoor.Den
open Go Go.Proofs
set_option maxRecDepth 100000
def S3_0 : C := (.seq1 (.reg [] [⟨(some 16), none, (.fieldA 1 (.t 5))⟩, ⟨(some 17), none, (.load false 1 (.t 16))⟩, ⟨(some 18), none, (.len (.t 17))⟩, ⟨(some 19), none, (.bin .gtr (.t 18) (.v (.d (.int .i64 300))))⟩]) (.cond (.t 19) (.seq (.reg [] [⟨(some 20), none, (.call (.v (.fn (.func 10) [] [])) [])⟩, ⟨(some 6), none, (.mov (.t 20))⟩]) .ret) .skip))
def S3_1 : C := (.seq (.reg [] [⟨(some 22), none, (.mov (.t 0))⟩, ⟨(some 23), none, (.load true 9 (.t 4))⟩, ⟨(some 24), none, (.call (.v (.fn (.func 11) [] [])) [(.t 22), (.t 23)])⟩, ⟨(some 21), none, (.mov (.t 24))⟩, ⟨(some 25), none, (.extract 0 (.t 21))⟩, ⟨(some 26), none, (.extract 1 (.t 21))⟩, ⟨(some 7), none, (.mov (.t 25))⟩, ⟨(some 8), none, (.mov (.t 26))⟩]) (.seq (.reg [] [⟨(some 28), none, (.mov (.t 0))⟩, ⟨(some 29), none, (.load true 9 (.t 4))⟩, ⟨(some 30), none, (.call (.v (.fn (.func 12) [] [])) [(.t 28), (.t 29)])⟩, ⟨(some 27), none, (.mov (.t 30))⟩, ⟨(some 31), none, (.extract 0 (.t 27))⟩, ⟨(some 32), none, (.extract 1 (.t 27))⟩, ⟨(some 9), none, (.mov (.t 31))⟩, ⟨(some 10), none, (.mov (.t 32))⟩]) (.seq (.reg [] [⟨(some 34), none, (.mov (.t 0))⟩, ⟨(some 35), none, (.load true 2 (.t 5))⟩, ⟨(some 36), none, (.call (.v (.fn (.func 13) [] [])) [(.t 34), (.t 35)])⟩, ⟨(some 33), none, (.mov (.t 36))⟩, ⟨(some 37), none, (.extract 0 (.t 33))⟩, ⟨(some 38), none, (.extract 1 (.t 33))⟩, ⟨(some 11), none, (.alloc 24 [(.int .i64 0), (.int .i64 0), (.int .i64 0), (.int .i64 0), (.int .i64 0), (.int .i64 0), (.int .i64 0), (.int .i64 0), (.int .i64 0)] true)⟩, ⟨none, none, (.store 9 (.t 11) (.t 37))⟩, ⟨(some 12), none, (.mov (.t 38))⟩]) (.seq (.reg [] [⟨(some 40), none, (.mov (.t 0))⟩, ⟨(some 41), none, (.load true 2 (.t 5))⟩, ⟨(some 42), none, (.call (.v (.fn (.func 14) [] [])) [(.t 40), (.t 41)])⟩, ⟨(some 39), none, (.mov (.t 42))⟩, ⟨(some 43), none, (.extract 0 (.t 39))⟩, ⟨(some 44), none, (.extract 1 (.t 39))⟩, ⟨(some 13), none, (.alloc 24 [(.int .i64 0), (.int .i64 0), (.int .i64 0), (.int .i64 0), (.int .i64 0), (.int .i64 0), (.int .i64 0), (.int .i64 0), (.int .i64 0)] true)⟩, ⟨none, none, (.store 9 (.t 13) (.t 43))⟩, ⟨(some 14), none, (.mov (.t 44))⟩]) (.seq (.reg [] [⟨(some 45), none, (.mov (.t 7))⟩, ⟨(some 46), none, (.mov (.t 9))⟩, ⟨(some 47), none, (.call (.v (.fn (.func 15) [] [])) [(.t 45), (.t 46)])⟩, ⟨(some 15), none, (.mov (.t 47))⟩]) (.mix [⟨(some 48), none, (.call (.v (.fn (.func 10) [] [])) [])⟩, ⟨(some 49), none, (.mov (.t 48))⟩, ⟨(some 50), (some (49, true)), (.mov (.t 15))⟩, ⟨(some 51), none, (.pick (.t 49) (.t 50) (.v (.d (.bool false))))⟩, ⟨(some 52), none, (.mov (.t 51))⟩, ⟨(some 53), (some (52, true)), (.mov (.t 8))⟩, ⟨(some 54), (some (52, true)), (.mov (.t 10))⟩, ⟨(some 55), (some (52, true)), (.bin .eql (.t 53) (.t 54))⟩, ⟨(some 56), none, (.pick (.t 52) (.t 55) (.v (.d (.bool false))))⟩, ⟨(some 57), none, (.mov (.t 56))⟩, ⟨(some 58), (some (57, true)), (.load true 9 (.t 11))⟩, ⟨(some 59), (some (57, true)), (.load true 9 (.t 13))⟩, ⟨(some 60), (some (57, true)), (.beq (.cells [(.i .i64), (.i .i64), (.i .i64), (.i .i64), (.i .i64), (.i .i64), (.i .i64), (.i .i64), (.i .i64)]) false (.t 58) (.t 59))⟩, ⟨(some 61), none, (.pick (.t 57) (.t 60) (.v (.d (.bool false))))⟩, ⟨(some 62), none, (.mov (.t 61))⟩, ⟨(some 63), (some (62, true)), (.mov (.t 12))⟩, ⟨(some 64), (some (62, true)), (.mov (.t 14))⟩, ⟨(some 65), (some (62, true)), (.bin .eql (.t 63) (.t 64))⟩, ⟨(some 66), none, (.pick (.t 62) (.t 65) (.v (.d (.bool false))))⟩, ⟨(some 67), none, (.mov (.t 66))⟩, ⟨(some 68), (some (67, true)), (.load true 9 (.t 4))⟩, ⟨(some 69), (some (67, true)), (.call (.v (.fn (.func 16) [] [])) [(.t 68)])⟩, ⟨(some 70), (some (67, true)), (.load true 9 (.t 4))⟩, ⟨(some 71), (some (67, true)), (.call (.v (.fn (.func 17) [] [])) [(.t 70)])⟩, ⟨(some 72), (some (67, true)), (.beq .bool false (.t 69) (.t 71))⟩, ⟨(some 73), none, (.pick (.t 67) (.t 72) (.v (.d (.bool false))))⟩, ⟨(some 74), none, (.mov (.t 73))⟩, ⟨(some 75), (some (74, true)), (.mov (.t 0))⟩, ⟨(some 76), (some (74, true)), (.call (.v (.fn (.func 18) [] [])) [(.t 75)])⟩, ⟨(some 77), (some (74, true)), (.mov (.t 0))⟩, ⟨(some 78), (some (74, true)), (.call (.v (.fn (.func 19) [] [])) [(.t 77)])⟩, ⟨(some 79), (some (74, true)), (.bin .eql (.t 76) (.t 78))⟩, ⟨(some 80), none, (.pick (.t 74) (.t 79) (.v (.d (.bool false))))⟩, ⟨(some 6), none, (.mov (.t 80))⟩] [[], [], [], [], [], [], [], [], [], [], [], [], [], [], [], [], [], [], [], [], [], [], [21], [], [], [], [], [], [], [], [], [], [], []] [false, false, false, false, false, false, false, false, false, false, false, false, false, false, false, false, false, false, false, false, false, false, false, true, false, false, false, false, true, false, true, false, false, false]))))))
def F3 : CFunc := ⟨81, [(.tmp 6)], (.seq (.reg [] [⟨(some 4), none, (.box 24 true 9 (.t 1))⟩, ⟨(some 5), none, (.box 27 false 2 (.t 2))⟩, ⟨(some 6), none, (.mov (.v (.d (.bool false))))⟩]) (.cut [0, 4, 5] [6] [0, 4, 5] S3_0 (.cut [0, 4, 5] [] [6] S3_1 .ret)))⟩
theorem c3 : cAt Tryd.prog 3 = some F3.er := by kernel_rfl
def S4_0 : C := (.seq1 (.reg [] [⟨(some 18), none, (.fieldA 1 (.t 5))⟩, ⟨(some 19), none, (.load false 1 (.t 18))⟩, ⟨(some 20), none, (.len (.t 19))⟩, ⟨(some 21), none, (.bin .gtr (.t 20) (.v (.d (.int .i64 300))))⟩]) (.cond (.t 21) (.seq (.reg [] [⟨(some 22), none, (.call (.v (.fn (.func 10) [] [])) [])⟩, ⟨(some 6), none, (.mov (.t 22))⟩]) .ret) .skip))
def S4_1 : C := (.seq (.reg [] [⟨(some 42), none, (.mov (.t 10))⟩, ⟨(some 43), none, (.mov (.t 8))⟩, ⟨(some 44), none, (.build [(.bool false), .nils] [(0, (1, (.v (.d (.bool true))))), (1, (1, (.t 43)))])⟩, ⟨(some 45), none, (.call (.v (.fn (.func 13) [] [])) [(.t 42), (.t 44)])⟩, ⟨(some 41), none, (.mov (.t 45))⟩, ⟨(some 46), none, (.extract 0 (.t 41))⟩, ⟨(some 47), none, (.extract 1 (.t 41))⟩, ⟨(some 11), none, (.alloc 24 [(.int .i64 0), (.int .i64 0), (.int .i64 0), (.int .i64 0), (.int .i64 0), (.int .i64 0), (.int .i64 0), (.int .i64 0), (.int .i64 0)] true)⟩, ⟨none, none, (.store 9 (.t 11) (.t 46))⟩, ⟨(some 12), none, (.mov (.t 47))⟩]) (.reg [] [⟨(some 48), none, (.mov (.t 9))⟩, ⟨(some 49), none, (.bin .eql (.t 48) (.v (.d (.int .i64 0))))⟩, ⟨(some 50), none, (.mov (.t 49))⟩, ⟨(some 51), (some (50, true)), (.mov (.t 12))⟩, ⟨(some 52), (some (50, true)), (.bin .eql (.t 51) (.v (.d (.int .i64 0))))⟩, ⟨(some 53), (some (50, true)), (.mov (.t 10))⟩, ⟨(some 54), (some (50, true)), (.mov (.t 7))⟩, ⟨(some 55), (some (50, true)), (.bin .eql (.t 53) (.t 54))⟩, ⟨(some 56), (some (50, true)), (.beq .bool true (.t 52) (.t 55))⟩, ⟨(some 57), (some (50, true)), (.mov (.t 56))⟩, ⟨(some 58), (some (57, false)), (.mov (.t 12))⟩, ⟨(some 59), (some (57, false)), (.bin .eql (.t 58) (.v (.d (.int .i64 0))))⟩, ⟨(some 60), (some (57, false)), (.mov (.t 59))⟩, ⟨(some 61), (some (60, true)), (.load true 9 (.t 11))⟩, ⟨(some 62), (some (60, true)), (.load true 9 (.t 4))⟩, ⟨(some 63), (some (60, true)), (.beq (.cells [(.i .i64), (.i .i64), (.i .i64), (.i .i64), (.i .i64), (.i .i64), (.i .i64), (.i .i64), (.i .i64)]) true (.t 61) (.t 62))⟩, ⟨(some 64), (some (57, false)), (.pick (.t 60) (.t 63) (.v (.d (.bool false))))⟩, ⟨(some 65), (some (50, true)), (.pick (.t 57) (.v (.d (.bool true))) (.t 64))⟩, ⟨(some 66), (some (50, true)), (.mov (.t 65))⟩, ⟨(some 67), (some (66, false)), (.mov (.t 10))⟩, ⟨(some 68), (some (66, false)), (.mov (.t 7))⟩, ⟨(some 69), (some (66, false)), (.bin .neq (.t 67) (.t 68))⟩, ⟨(some 70), (some (66, false)), (.mov (.t 69))⟩, ⟨(some 71), (some (70, true)), (.mov (.t 12))⟩, ⟨(some 72), (some (70, true)), (.bin .neq (.t 71) (.v (.d (.int .i64 4))))⟩, ⟨(some 73), (some (66, false)), (.pick (.t 70) (.t 72) (.v (.d (.bool false))))⟩, ⟨(some 74), (some (50, true)), (.pick (.t 66) (.v (.d (.bool true))) (.t 73))⟩, ⟨(some 75), none, (.pick (.t 50) (.t 74) (.v (.d (.bool false))))⟩]))
def S4_2 : C := (.block 1 (.cut [4, 5, 7, 8, 9, 10] [] [4, 5, 7, 8, 9, 10, 75] S4_1 (.cond (.t 75) (.seq (.reg [] [⟨(some 6), none, (.mov (.v (.d (.bool false))))⟩]) .ret) .skip)))
def L4_3 : C := (.seq (.seq (.reg [] [⟨(some 37), none, (.mov (.t 10))⟩, ⟨(some 38), none, (.bin .lss (.t 37) (.v (.d (.int .i64 4))))⟩]) (.cond (.t 38) .skip (.exit 0))) (.cut [4, 5, 7, 8, 9, 10] [6] [4, 5, 7, 8, 9, 10] S4_2 (.reg [] [⟨(some 39), none, (.mov (.t 10))⟩, ⟨(some 40), none, (.bin .add (.t 39) (.v (.d (.int .i64 1))))⟩, ⟨(some 10), none, (.mov (.t 40))⟩])))
def S4_4 : C := (.seq (.reg [] [⟨(some 27), none, (.mov (.t 7))⟩, ⟨(some 28), none, (.load true 9 (.t 4))⟩, ⟨(some 29), none, (.call (.v (.fn (.func 11) [] [])) [(.t 27), (.t 28)])⟩, ⟨(some 26), none, (.mov (.t 29))⟩, ⟨(some 30), none, (.extract 0 (.t 26))⟩, ⟨(some 31), none, (.extract 1 (.t 26))⟩, ⟨(some 8), none, (.mov (.t 30))⟩, ⟨(some 9), none, (.mov (.t 31))⟩]) (.seq (.seq (.reg [] [⟨(some 32), none, (.mov (.t 9))⟩, ⟨(some 33), none, (.bin .eql (.t 32) (.v (.d (.int .i64 0))))⟩, ⟨(some 34), none, (.load true 9 (.t 4))⟩, ⟨(some 35), none, (.call (.v (.fn (.func 16) [] [])) [(.t 34)])⟩, ⟨(some 36), none, (.beq .bool true (.t 33) (.t 35))⟩]) (.cond (.t 36) (.seq (.reg [] [⟨(some 6), none, (.mov (.v (.d (.bool false))))⟩]) .ret) .skip)) (.seq1 (.reg [] [⟨(some 10), none, (.mov (.v (.d (.int .i64 0))))⟩]) (.block 0 (.loop [4, 5, 7, 8, 9, 10] [5, 6, 7] L4_3)))))
def S4_5 : C := (.seq (.reg [] [⟨(some 77), none, (.mov (.t 7))⟩, ⟨(some 78), none, (.load true 2 (.t 5))⟩, ⟨(some 79), none, (.call (.v (.fn (.func 13) [] [])) [(.t 77), (.t 78)])⟩, ⟨(some 76), none, (.mov (.t 79))⟩, ⟨(some 80), none, (.extract 0 (.t 76))⟩, ⟨(some 81), none, (.extract 1 (.t 76))⟩, ⟨(some 13), none, (.alloc 24 [(.int .i64 0), (.int .i64 0), (.int .i64 0), (.int .i64 0), (.int .i64 0), (.int .i64 0), (.int .i64 0), (.int .i64 0), (.int .i64 0)] true)⟩, ⟨none, none, (.store 9 (.t 13) (.t 80))⟩, ⟨(some 14), none, (.mov (.t 81))⟩]) (.seq (.seq (.reg [] [⟨(some 82), none, (.mov (.t 14))⟩, ⟨(some 83), none, (.bin .neq (.t 82) (.v (.d (.int .i64 0))))⟩]) (.cond (.t 83) (.seq (.reg [] [⟨(some 84), none, (.call (.v (.fn (.func 10) [] [])) [])⟩, ⟨(some 85), none, (.mov (.t 84))⟩, ⟨(some 86), (some (85, true)), (.load true 9 (.t 13))⟩, ⟨(some 87), (some (85, true)), (.build [(.int .i64 0), (.int .i64 0), (.int .i64 0), (.int .i64 0), (.int .i64 0), (.int .i64 0), (.int .i64 0), (.int .i64 0), (.int .i64 0)] [])⟩, ⟨(some 88), (some (85, true)), (.beq (.cells [(.i .i64), (.i .i64), (.i .i64), (.i .i64), (.i .i64), (.i .i64), (.i .i64), (.i .i64), (.i .i64)]) false (.t 86) (.t 87))⟩, ⟨(some 89), none, (.pick (.t 85) (.t 88) (.v (.d (.bool false))))⟩, ⟨(some 6), none, (.mov (.t 89))⟩]) .ret) .skip)) (.seq (.reg [] [⟨(some 91), none, (.mov (.t 7))⟩, ⟨(some 92), none, (.load true 9 (.t 13))⟩, ⟨(some 93), none, (.call (.v (.fn (.func 11) [] [])) [(.t 91), (.t 92)])⟩, ⟨(some 90), none, (.mov (.t 93))⟩, ⟨(some 94), none, (.extract 0 (.t 90))⟩, ⟨(some 95), none, (.extract 1 (.t 90))⟩, ⟨(some 15), none, (.mov (.t 94))⟩, ⟨(some 16), none, (.mov (.t 95))⟩]) (.seq (.reg [] [⟨(some 96), none, (.mov (.t 15))⟩, ⟨(some 97), none, (.fieldA 1 (.t 5))⟩, ⟨(some 98), none, (.load false 1 (.t 97))⟩, ⟨(some 99), none, (.call (.v (.fn (.func 15) [] [])) [(.t 96), (.t 98)])⟩, ⟨(some 17), none, (.mov (.t 99))⟩]) (.reg [] [⟨(some 100), none, (.call (.v (.fn (.func 10) [] [])) [])⟩, ⟨(some 101), none, (.mov (.t 100))⟩, ⟨(some 102), (some (101, true)), (.mov (.t 16))⟩, ⟨(some 103), (some (101, true)), (.bin .eql (.t 102) (.v (.d (.int .i64 0))))⟩, ⟨(some 104), none, (.pick (.t 101) (.t 103) (.v (.d (.bool false))))⟩, ⟨(some 105), none, (.mov (.t 104))⟩, ⟨(some 106), (some (105, true)), (.mov (.t 17))⟩, ⟨(some 107), none, (.pick (.t 105) (.t 106) (.v (.d (.bool false))))⟩, ⟨(some 108), none, (.mov (.t 107))⟩, ⟨(some 109), (some (108, true)), (.fieldA 0 (.t 5))⟩, ⟨(some 110), (some (108, true)), (.load false 1 (.t 109))⟩, ⟨(some 111), none, (.pick (.t 108) (.t 110) (.v (.d (.bool false))))⟩, ⟨(some 112), none, (.mov (.t 111))⟩, ⟨(some 113), (some (112, true)), (.load true 9 (.t 13))⟩, ⟨(some 114), (some (112, true)), (.call (.v (.fn (.func 16) [] [])) [(.t 113)])⟩, ⟨(some 115), none, (.pick (.t 112) (.t 114) (.v (.d (.bool false))))⟩, ⟨(some 6), none, (.mov (.t 115))⟩])))))
def F4 : CFunc := ⟨116, [(.tmp 6)], (.seq (.reg [] [⟨(some 4), none, (.box 24 true 9 (.t 1))⟩, ⟨(some 5), none, (.box 27 false 2 (.t 2))⟩, ⟨(some 6), none, (.mov (.v (.d (.bool false))))⟩]) (.cut [0, 4, 5] [6] [0, 4, 5] S4_0 (.seq (.reg [] [⟨(some 23), none, (.mov (.t 0))⟩, ⟨(some 24), none, (.bin .rem (.t 23) (.v (.d (.int .u8 4))))⟩, ⟨(some 25), none, (.conv (.int .i64) (.t 24))⟩, ⟨(some 7), none, (.mov (.t 25))⟩]) (.cut [4, 5, 7] [6] [5, 7] S4_4 (.cut [5, 7] [6] [6] S4_5 .ret)))))⟩
theorem c4 : cAt Tryd.prog 4 = some F4.er := by kernel_rfl
def S8_0 : C := (.seq1 (.reg [] [⟨(some 10), none, (.mov (.t 0))⟩, ⟨(some 11), none, (.len (.t 10))⟩, ⟨(some 12), none, (.bin .gtr (.t 11) (.v (.d (.int .i64 200))))⟩]) (.cond (.t 12) (.seq (.reg [] [⟨(some 13), none, (.call (.v (.fn (.func 34) [] [])) [])⟩, ⟨(some 2), none, (.mov (.t 13))⟩]) .ret) .skip))
def S8_1 : C := (.seq1 (.reg [] [⟨(some 15), none, (.mov (.t 5))⟩, ⟨(some 16), none, (.mov (.t 0))⟩, ⟨(some 17), none, (.len (.t 16))⟩, ⟨(some 18), none, (.bin .lss (.t 15) (.t 17))⟩]) (.cond (.t 18) .skip (.exit 0)))
def S8_2 : C := (.reg [] [⟨(some 40), none, (.mov (.t 3))⟩, ⟨(some 41), none, (.call (.v (.fn (.func 39) [] [])) [(.t 40)])⟩, ⟨(some 42), none, (.mov (.t 4))⟩, ⟨(some 43), none, (.call (.v (.fn (.func 40) [] [])) [(.t 42)])⟩, ⟨(some 44), none, (.call (.v (.fn (.func 38) [] [])) [(.t 41), (.t 43)])⟩, ⟨(some 8), none, (.mov (.t 44))⟩])
def S8_3 : C := (.mix [⟨(some 45), none, (.mov (.t 6))⟩, ⟨(some 46), none, (.bin .eql (.t 45) (.v (.d (.int .i64 0))))⟩, ⟨(some 47), none, (.mov (.t 7))⟩, ⟨(some 48), none, (.beq .bool true (.t 46) (.t 47))⟩, ⟨(some 49), none, (.mov (.t 48))⟩, ⟨(some 50), (some (49, false)), (.mov (.t 6))⟩, ⟨(some 51), (some (49, false)), (.bin .neq (.t 50) (.v (.d (.int .i64 0))))⟩, ⟨(some 52), (some (49, false)), (.mov (.t 51))⟩, ⟨(some 53), (some (52, true)), (.mov (.t 6))⟩, ⟨(some 54), (some (52, true)), (.bin .neq (.t 53) (.v (.d (.int .i64 1))))⟩, ⟨(some 55), (some (49, false)), (.pick (.t 52) (.t 54) (.v (.d (.bool false))))⟩, ⟨(some 56), none, (.pick (.t 49) (.v (.d (.bool true))) (.t 55))⟩, ⟨(some 57), none, (.mov (.t 56))⟩, ⟨(some 58), (some (57, false)), (.mov (.t 8))⟩, ⟨(some 59), (some (57, false)), (.unop .not (.t 58))⟩, ⟨(some 60), none, (.pick (.t 57) (.v (.d (.bool true))) (.t 59))⟩, ⟨(some 61), none, (.mov (.t 60))⟩, ⟨(some 62), (some (61, false)), (.mov (.t 3))⟩, ⟨(some 63), (some (61, false)), (.call (.v (.fn (.func 41) [] [])) [(.t 62)])⟩, ⟨(some 64), (some (61, false)), (.mov (.t 4))⟩, ⟨(some 65), (some (61, false)), (.call (.v (.fn (.func 42) [] [])) [(.t 64)])⟩, ⟨(some 66), (some (61, false)), (.bin .neq (.t 63) (.t 65))⟩, ⟨(some 67), none, (.pick (.t 61) (.v (.d (.bool true))) (.t 66))⟩, ⟨(some 68), none, (.mov (.t 67))⟩, ⟨(some 69), (some (68, false)), (.mov (.t 0))⟩, ⟨(some 70), (some (68, false)), (.mov (.t 5))⟩, ⟨(some 71), (some (68, false)), (.idxA 5 (.t 69) (.t 70))⟩, ⟨(some 72), (some (68, false)), (.load true 5 (.t 71))⟩, ⟨(some 73), (some (68, false)), (.call (.v (.fn (.func 43) [] [])) [(.t 72)])⟩, ⟨(some 74), (some (68, false)), (.mov (.t 7))⟩, ⟨(some 75), (some (68, false)), (.beq .bool true (.t 73) (.t 74))⟩, ⟨(some 76), none, (.pick (.t 68) (.v (.d (.bool true))) (.t 75))⟩, ⟨(some 77), none, (.mov (.t 76))⟩, ⟨(some 78), (some (77, false)), (.mov (.t 0))⟩, ⟨(some 79), (some (77, false)), (.mov (.t 5))⟩, ⟨(some 80), (some (77, false)), (.idxA 5 (.t 78) (.t 79))⟩, ⟨(some 81), (some (77, false)), (.load true 5 (.t 80))⟩, ⟨(some 82), (some (77, false)), (.call (.v (.fn (.func 44) [] [])) [(.t 81)])⟩, ⟨(some 83), (some (77, false)), (.mov (.t 0))⟩, ⟨(some 84), (some (77, false)), (.mov (.t 5))⟩, ⟨(some 85), (some (77, false)), (.idxA 5 (.t 83) (.t 84))⟩, ⟨(some 86), (some (77, false)), (.load true 5 (.t 85))⟩, ⟨(some 87), (some (77, false)), (.call (.v (.fn (.func 45) [] [])) [(.t 86)])⟩, ⟨(some 88), (some (77, false)), (.bin .neq (.t 82) (.t 87))⟩, ⟨(some 89), none, (.pick (.t 77) (.v (.d (.bool true))) (.t 88))⟩] [[], [], [], [], [], [], [], [], [], [], [], [], [], [], [], [], [], [], [], [], [], [], [], [], [], [], [], [], [], [], [], [], [], [], [], [], [], [], [], [], [37], [37], [], [], []] [false, false, false, false, false, false, false, false, false, false, false, false, false, false, false, false, false, false, true, false, true, false, false, false, false, false, false, false, false, false, false, false, false, false, false, false, false, false, false, false, false, false, true, false, false])
def L8_4 : C := (.cut [0, 3, 4, 5] [] [0, 3, 4, 5] S8_1 (.seq (.block 1 (.seq (.reg [] [⟨(some 21), none, (.mov (.t 3))⟩, ⟨(some 22), none, (.mov (.t 0))⟩, ⟨(some 23), none, (.mov (.t 5))⟩, ⟨(some 24), none, (.idxA 5 (.t 22) (.t 23))⟩, ⟨(some 25), none, (.load true 5 (.t 24))⟩, ⟨(some 26), none, (.call (.v (.fn (.func 36) [] [])) [(.t 21), (.t 25)])⟩, ⟨(some 6), none, (.mov (.t 26))⟩]) (.seq (.reg [] [⟨(some 27), none, (.mov (.t 0))⟩, ⟨(some 28), none, (.mov (.t 5))⟩, ⟨(some 29), none, (.idxA 5 (.t 27) (.t 28))⟩, ⟨(some 30), none, (.load true 5 (.t 29))⟩, ⟨(some 31), none, (.call (.v (.fn (.func 37) [] [])) [(.t 30)])⟩, ⟨(some 7), none, (.mov (.t 31))⟩]) (.seq (.seq (.reg [] [⟨(some 32), none, (.mov (.t 7))⟩]) (.cond (.t 32) (.reg [] [⟨(some 33), none, (.mov (.t 4))⟩, ⟨(some 34), none, (.mov (.t 0))⟩, ⟨(some 35), none, (.mov (.t 5))⟩, ⟨(some 36), none, (.idxA 5 (.t 34) (.t 35))⟩, ⟨(some 37), none, (.load true 5 (.t 36))⟩, ⟨(some 38), none, (.bslice 58 true 5 1 [(.int .i64 0), (.int .i64 0), (.int .i64 0), (.int .i64 0), (.int .i64 0)] [(0, (.t 37))])⟩, ⟨(some 39), none, (.append 58 true 5 40 (.t 33) (.t 38))⟩, ⟨(some 4), none, (.mov (.t 39))⟩]) .skip)) (.cut [0, 3, 4, 5, 6, 7] [] [0, 3, 4, 5, 6, 7, 8] S8_2 (.cut [0, 3, 4, 5, 6, 7, 8] [] [0, 3, 4, 5, 89] S8_3 (.cond (.t 89) (.seq (.reg [] [⟨(some 2), none, (.mov (.v (.d (.bool false))))⟩]) .ret) .skip))))))) (.reg [] [⟨(some 19), none, (.mov (.t 5))⟩, ⟨(some 20), none, (.bin .add (.t 19) (.v (.d (.int .i64 1))))⟩, ⟨(some 5), none, (.mov (.t 20))⟩])))
def S8_5 : C := (.seq (.reg [] [⟨(some 14), none, (.call (.v (.fn (.func 35) [] [])) [])⟩, ⟨(some 3), none, (.mov (.t 14))⟩]) (.seq (.reg [] [⟨(some 4), none, (.nsl 58 true 5)⟩]) (.seq1 (.reg [] [⟨(some 5), none, (.mov (.v (.d (.int .i64 0))))⟩]) (.block 0 (.loop [0, 3, 4, 5] [2] L8_4)))))
def S8_6 : C := (.reg [] [⟨(some 90), none, (.call (.v (.fn (.func 34) [] [])) [])⟩, ⟨(some 91), none, (.mov (.t 90))⟩, ⟨(some 92), (some (91, true)), (.mov (.t 9))⟩, ⟨(some 93), (some (91, true)), (.build [(.int .i64 0), (.int .i64 0), (.int .i64 0), (.int .i64 0), (.int .i64 0)] [])⟩, ⟨(some 94), (some (91, true)), (.call (.v (.fn (.func 36) [] [])) [(.t 92), (.t 93)])⟩, ⟨(some 95), (some (91, true)), (.bin .eql (.t 94) (.v (.d (.int .i64 1))))⟩, ⟨(some 96), none, (.pick (.t 91) (.t 95) (.v (.d (.bool false))))⟩, ⟨(some 97), none, (.mov (.t 96))⟩, ⟨(some 98), (some (97, true)), (.mov (.t 9))⟩, ⟨(some 99), (some (97, true)), (.call (.v (.fn (.func 39) [] [])) [(.t 98)])⟩, ⟨(some 100), (some (97, true)), (.len (.t 99))⟩, ⟨(some 101), (some (97, true)), (.mov (.t 9))⟩, ⟨(some 102), (some (97, true)), (.call (.v (.fn (.func 41) [] [])) [(.t 101)])⟩, ⟨(some 103), (some (97, true)), (.bin .add (.t 100) (.t 102))⟩, ⟨(some 104), (some (97, true)), (.bin .eql (.t 103) (.v (.d (.int .i64 0))))⟩, ⟨(some 105), none, (.pick (.t 97) (.t 104) (.v (.d (.bool false))))⟩, ⟨(some 2), none, (.mov (.t 105))⟩])
def F8 : CFunc := ⟨106, [(.tmp 2)], (.seq (.reg [] [⟨(some 2), none, (.mov (.v (.d (.bool false))))⟩]) (.cut [0] [2] [0] S8_0 (.cut [0] [2] [] S8_5 (.seq (.reg [] [⟨(some 9), none, (.mov (.v (.d .nilp)))⟩]) (.cut [9] [] [2] S8_6 .ret)))))⟩
theorem c8 : cAt Tryd.prog 8 = some F8.er := by kernel_rfl
def F33 : CFunc := ⟨22, [(.tmp 4)], (.seq (.reg [] [⟨(some 4), none, (.mov (.v (.d (.bool false))))⟩]) (.seq (.reg [] [⟨(some 5), none, (.mov (.t 0))⟩, ⟨(some 6), none, (.call (.v (.fn (.func 67) [] [])) [(.t 5)])⟩, ⟨(some 7), none, (.mov (.t 6))⟩, ⟨(some 8), (some (7, true)), (.mov (.t 1))⟩, ⟨(some 9), (some (7, true)), (.bin .geq (.t 8) (.v (.d (.int .i64 0))))⟩, ⟨(some 10), none, (.pick (.t 7) (.t 9) (.v (.d (.bool false))))⟩, ⟨(some 11), none, (.mov (.t 10))⟩, ⟨(some 12), (some (11, true)), (.mov (.t 1))⟩, ⟨(some 13), (some (11, true)), (.bin .lss (.t 12) (.v (.d (.int .i64 16))))⟩, ⟨(some 14), none, (.pick (.t 11) (.t 13) (.v (.d (.bool false))))⟩, ⟨(some 15), none, (.mov (.t 14))⟩, ⟨(some 16), (some (15, true)), (.mov (.t 0))⟩, ⟨(some 17), (some (15, true)), (.mov (.t 1))⟩, ⟨(some 18), (some (15, true)), (.bin .shr (.t 16) (.t 17))⟩, ⟨(some 19), (some (15, true)), (.bin .and (.t 18) (.v (.d (.int .i64 1))))⟩, ⟨(some 20), (some (15, true)), (.bin .eql (.t 19) (.v (.d (.int .i64 1))))⟩, ⟨(some 21), none, (.pick (.t 15) (.t 20) (.v (.d (.bool false))))⟩, ⟨(some 4), none, (.mov (.t 21))⟩]) .ret))⟩
theorem c33 : cAt Tryd.prog 33 = some F33.er := by kernel_rfl
def L34_0 : C := (.seq (.seq (.reg [] [⟨(some 15), none, (.mov (.t 5))⟩, ⟨(some 16), none, (.bin .lss (.t 15) (.v (.d (.int .i64 32))))⟩]) (.cond (.t 16) .skip (.exit 0))) (.seq (.block 1 (.reg [] [⟨(some 19), none, (.mov (.t 1))⟩, ⟨(some 20), none, (.mov (.t 5))⟩, ⟨(some 21), none, (.build [(.int .i64 0), (.int .i64 0), (.int .i64 0), (.int .i64 0), (.int .i64 0)] [(0, (1, (.t 20)))])⟩, ⟨(some 22), none, (.call (.v (.fn (.func 36) [] [])) [(.t 19), (.t 21)])⟩])) (.reg [] [⟨(some 17), none, (.mov (.t 5))⟩, ⟨(some 18), none, (.bin .add (.t 17) (.v (.d (.int .i64 1))))⟩, ⟨(some 5), none, (.mov (.t 18))⟩])))
def S34_1 : C := (.seq (.reg [] [⟨(some 7), none, (.call (.v (.fn (.func 35) [] [])) [])⟩, ⟨(some 1), none, (.mov (.t 7))⟩]) (.seq (.reg [] [⟨(some 8), none, (.build [(.int .i64 0), (.int .i64 0), (.int .i64 0), (.int .i64 0), (.int .i64 0)] [(0, (1, (.v (.d (.int .i64 12))))), (1, (1, (.v (.d (.int .i64 3))))), (2, (1, (.v (.d (.int .i64 7))))), (3, (1, (.v (.d (.int .i64 2))))), (4, (1, (.v (.d (.int .i64 34)))))])⟩, ⟨(some 2), none, (.alloc 58 [(.int .i64 0), (.int .i64 0), (.int .i64 0), (.int .i64 0), (.int .i64 0)] true)⟩, ⟨none, none, (.store 5 (.t 2) (.t 8))⟩]) (.seq (.reg [] [⟨(some 9), none, (.mov (.t 1))⟩, ⟨(some 10), none, (.load true 5 (.t 2))⟩, ⟨(some 11), none, (.call (.v (.fn (.func 36) [] [])) [(.t 9), (.t 10)])⟩, ⟨(some 3), none, (.mov (.t 11))⟩]) (.seq (.reg [] [⟨(some 12), none, (.mov (.t 1))⟩, ⟨(some 13), none, (.build [(.int .i64 0), (.int .i64 0), (.int .i64 0), (.int .i64 0), (.int .i64 0)] [(1, (1, (.v (.d (.int .i64 4)))))])⟩, ⟨(some 14), none, (.call (.v (.fn (.func 36) [] [])) [(.t 12), (.t 13)])⟩, ⟨(some 4), none, (.mov (.t 14))⟩]) (.seq (.seq (.reg [] [⟨(some 5), none, (.mov (.v (.d (.int .i64 0))))⟩]) (.block 0 (.loop [1, 2, 3, 4, 5] [1, 2, 3, 4] L34_0))) (.seq (.reg [] [⟨(some 23), none, (.mov (.t 1))⟩, ⟨(some 24), none, (.call (.v (.fn (.func 39) [] [])) [(.t 23)])⟩, ⟨(some 6), none, (.mov (.t 24))⟩]) (.seq (.seq (.reg [] [⟨(some 25), none, (.mov (.t 6))⟩, ⟨(some 26), none, (.len (.t 25))⟩, ⟨(some 27), none, (.bin .neq (.t 26) (.v (.d (.int .i64 32))))⟩]) (.cond (.t 27) (.seq (.reg [] [⟨(some 0), none, (.mov (.v (.d (.bool false))))⟩]) .ret) .skip)) (.reg [] [⟨(some 28), none, (.mov (.t 3))⟩, ⟨(some 29), none, (.bin .eql (.t 28) (.v (.d (.int .i64 0))))⟩, ⟨(some 30), none, (.mov (.t 29))⟩, ⟨(some 31), (some (30, true)), (.mov (.t 4))⟩, ⟨(some 32), (some (30, true)), (.bin .eql (.t 31) (.v (.d (.int .i64 1))))⟩, ⟨(some 33), none, (.pick (.t 30) (.t 32) (.v (.d (.bool false))))⟩, ⟨(some 34), none, (.mov (.t 33))⟩, ⟨(some 35), (some (34, true)), (.mov (.t 6))⟩, ⟨(some 36), (some (34, true)), (.idxA 5 (.t 35) (.v (.d (.int .i64 0))))⟩, ⟨(some 37), (some (34, true)), (.fieldA 0 (.t 36))⟩, ⟨(some 38), (some (34, true)), (.load false 1 (.t 37))⟩, ⟨(some 39), (some (34, true)), (.bin .eql (.t 38) (.v (.d (.int .i64 0))))⟩, ⟨(some 40), none, (.pick (.t 34) (.t 39) (.v (.d (.bool false))))⟩, ⟨(some 41), none, (.mov (.t 40))⟩, ⟨(some 42), (some (41, true)), (.mov (.t 6))⟩, ⟨(some 43), (some (41, true)), (.idxA 5 (.t 42) (.v (.d (.int .i64 31))))⟩, ⟨(some 44), (some (41, true)), (.fieldA 0 (.t 43))⟩, ⟨(some 45), (some (41, true)), (.load false 1 (.t 44))⟩, ⟨(some 46), (some (41, true)), (.bin .eql (.t 45) (.v (.d (.int .i64 31))))⟩, ⟨(some 47), none, (.pick (.t 41) (.t 46) (.v (.d (.bool false))))⟩, ⟨(some 48), none, (.mov (.t 47))⟩, ⟨(some 49), (some (48, true)), (.mov (.t 1))⟩, ⟨(some 50), (some (48, true)), (.call (.v (.fn (.func 41) [] [])) [(.t 49)])⟩, ⟨(some 51), (some (48, true)), (.bin .eql (.t 50) (.v (.d (.int .i64 1))))⟩, ⟨(some 52), none, (.pick (.t 48) (.t 51) (.v (.d (.bool false))))⟩, ⟨(some 53), none, (.mov (.t 52))⟩, ⟨(some 54), (some (53, true)), (.load true 5 (.t 2))⟩, ⟨(some 55), (some (53, true)), (.call (.v (.fn (.func 44) [] [])) [(.t 54)])⟩, ⟨(some 56), (some (53, true)), (.bin .eql (.t 55) (.v (.d (.str ⟨#[99, 121, 99, 108, 101, 32, 49, 50, 32, 99, 104, 97, 110, 110, 101, 108, 32, 51, 32, 115, 105, 103, 110, 97, 108, 32, 55, 32, 111, 117, 116, 32, 114, 97, 110, 103, 101, 43, 109, 105, 115]⟩))))⟩, ⟨(some 57), none, (.pick (.t 53) (.t 56) (.v (.d (.bool false))))⟩, ⟨(some 58), none, (.mov (.t 57))⟩, ⟨(some 59), (some (58, true)), (.load true 5 (.t 2))⟩, ⟨(some 60), (some (58, true)), (.call (.v (.fn (.func 43) [] [])) [(.t 59)])⟩, ⟨(some 61), none, (.pick (.t 58) (.t 60) (.v (.d (.bool false))))⟩, ⟨(some 62), none, (.mov (.t 61))⟩, ⟨(some 63), (some (62, true)), (.build [(.int .i64 0), (.int .i64 0), (.int .i64 0), (.int .i64 0), (.int .i64 0)] [(4, (1, (.v (.d (.int .i64 64)))))])⟩, ⟨(some 64), (some (62, true)), (.call (.v (.fn (.func 43) [] [])) [(.t 63)])⟩, ⟨(some 65), (some (62, true)), (.unop .not (.t 64))⟩, ⟨(some 66), none, (.pick (.t 62) (.t 65) (.v (.d (.bool false))))⟩, ⟨(some 0), none, (.mov (.t 66))⟩]))))))))
def F34 : CFunc := ⟨67, [(.tmp 0)], (.seq (.reg [] [⟨(some 0), none, (.mov (.v (.d (.bool false))))⟩]) (.cut [] [0] [0] S34_1 .ret))⟩
theorem c34 : cAt Tryd.prog 34 = some F34.er := by kernel_rfl
def F35 : CFunc := ⟨3, [(.tmp 0)], (.seq (.reg [] [⟨(some 0), none, (.mov (.v (.d .nilp)))⟩]) (.seq (.reg [] [⟨(some 1), none, (.build [(.int .i64 0), (.int .i64 0), (.int .i64 0), (.int .i64 0), (.int .i64 0), (.int .i64 0), (.int .i64 0), (.int .i64 0), (.int .i64 0), (.int .i64 0), (.int .i64 0), (.int .i64 0), (.int .i64 0), (.int .i64 0), (.int .i64 0), (.int .i64 0), (.int .i64 0), (.int .i64 0), (.int .i64 0), (.int .i64 0), (.int .i64 0), (.int .i64 0), (.int .i64 0), (.int .i64 0), (.int .i64 0), (.int .i64 0), (.int .i64 0), (.int .i64 0), (.int .i64 0), (.int .i64 0), (.int .i64 0), (.int .i64 0), (.int .i64 0), (.int .i64 0), (.int .i64 0), (.int .i64 0), (.int .i64 0), (.int .i64 0), (.int .i64 0), (.int .i64 0), (.int .i64 0), (.int .i64 0), (.int .i64 0), (.int .i64 0), (.int .i64 0), (.int .i64 0), (.int .i64 0), (.int .i64 0), (.int .i64 0), (.int .i64 0), (.int .i64 0), (.int .i64 0), (.int .i64 0), (.int .i64 0), (.int .i64 0), (.int .i64 0), (.int .i64 0), (.int .i64 0), (.int .i64 0), (.int .i64 0), (.int .i64 0), (.int .i64 0), (.int .i64 0), (.int .i64 0), (.int .i64 0), (.int .i64 0), (.int .i64 0), (.int .i64 0), (.int .i64 0), (.int .i64 0), (.int .i64 0), (.int .i64 0), (.int .i64 0), (.int .i64 0), (.int .i64 0), (.int .i64 0), (.int .i64 0), (.int .i64 0), (.int .i64 0), (.int .i64 0), (.int .i64 0), (.int .i64 0), (.int .i64 0), (.int .i64 0), (.int .i64 0), (.int .i64 0), (.int .i64 0), (.int .i64 0), (.int .i64 0), (.int .i64 0), (.int .i64 0), (.int .i64 0), (.int .i64 0), (.int .i64 0), (.int .i64 0), (.int .i64 0), (.int .i64 0), (.int .i64 0), (.int .i64 0), (.int .i64 0), (.int .i64 0), (.int .i64 0), (.int .i64 0), (.int .i64 0), (.int .i64 0), (.int .i64 0), (.int .i64 0), (.int .i64 0), (.int .i64 0), (.int .i64 0), (.int .i64 0), (.int .i64 0), (.int .i64 0), (.int .i64 0), (.int .i64 0), (.int .i64 0), (.int .i64 0), (.int .i64 0), (.int .i64 0), (.int .i64 0), (.int .i64 0), (.int .i64 0), (.int .i64 0), (.int .i64 0), (.int .i64 0), (.int .i64 0), (.int .i64 0), (.int .i64 0), (.int .i64 0), (.int .i64 0), (.int .i64 0), (.int .i64 0), (.int .i64 0), (.int .i64 0), (.int .i64 0), (.int .i64 0), (.int .i64 0), (.int .i64 0), (.int .i64 0), (.int .i64 0), (.int .i64 0), (.int .i64 0), (.int .i64 0), (.int .i64 0), (.int .i64 0), (.int .i64 0), (.int .i64 0), (.int .i64 0), (.int .i64 0), (.int .i64 0), (.int .i64 0), (.int .i64 0), (.int .i64 0), (.int .i64 0), (.int .i64 0), (.int .i64 0), (.int .i64 0), (.int .i64 0), (.int .i64 0), (.int .i64 0), (.int .i64 0)] [])⟩, ⟨(some 2), none, (.box 86 true 161 (.t 1))⟩, ⟨(some 0), none, (.mov (.t 2))⟩]) .ret))⟩
theorem c35 : cAt Tryd.prog 35 = some F35.er := by kernel_rfl
def F36 : CFunc := ⟨29, [(.tmp 4)], (.seq (.reg [] [⟨(some 3), none, (.box 58 true 5 (.t 1))⟩, ⟨(some 4), none, (.mov (.v (.d (.int .i64 0))))⟩]) (.seq (.seq (.reg [] [⟨(some 5), none, (.mov (.t 0))⟩, ⟨(some 6), none, (.beq .ptr false (.t 5) (.v (.d .nilp)))⟩, ⟨(some 7), none, (.mov (.t 6))⟩, ⟨(some 8), (some (7, false)), (.load true 5 (.t 3))⟩, ⟨(some 9), (some (7, false)), (.call (.v (.fn (.func 43) [] [])) [(.t 8)])⟩, ⟨(some 10), (some (7, false)), (.unop .not (.t 9))⟩, ⟨(some 11), none, (.pick (.t 7) (.v (.d (.bool true))) (.t 10))⟩]) (.cond (.t 11) (.seq (.reg [] [⟨(some 4), none, (.mov (.v (.d (.int .i64 1))))⟩]) .ret) .skip)) (.seq (.reg [⟨(some 12), none, (.mov (.t 0))⟩, ⟨(some 13), none, (.mov (.t 0))⟩, ⟨(some 14), none, (.nilck (.t 13))⟩, ⟨(some 15), none, (.fieldA 160 (.t 14))⟩, ⟨(some 16), none, (.load false 1 (.t 15))⟩, ⟨(some 17), none, (.bin .rem (.t 16) (.v (.d (.int .i64 32))))⟩, ⟨(some 18), none, (.load true 5 (.t 3))⟩, ⟨(some 19), none, (.nilck (.t 12))⟩, ⟨(some 20), none, (.fieldA 0 (.t 19))⟩] [⟨(some 21), none, (.idxAA 32 5 (.t 20) (.t 17))⟩, ⟨none, none, (.store 5 (.t 21) (.t 18))⟩]) (.seq (.reg [] [⟨(some 22), none, (.mov (.t 0))⟩, ⟨(some 23), none, (.nilck (.t 22))⟩, ⟨(some 24), none, (.fieldA 160 (.t 23))⟩, ⟨(some 25), none, (.load false 1 (.t 24))⟩, ⟨(some 26), none, (.bin .add (.t 25) (.v (.d (.int .i64 1))))⟩, ⟨(some 27), none, (.nilck (.t 22))⟩, ⟨(some 28), none, (.fieldA 160 (.t 27))⟩, ⟨none, none, (.store 1 (.t 28) (.t 26))⟩]) (.seq (.reg [] [⟨(some 4), none, (.mov (.v (.d (.int .i64 0))))⟩]) .ret)))))⟩
theorem c36 : cAt Tryd.prog 36 = some F36.er := by kernel_rfl
def S37_0 : C := (.reg [] [⟨(some 3), none, (.fieldA 0 (.t 1))⟩, ⟨(some 4), none, (.load false 1 (.t 3))⟩, ⟨(some 5), none, (.bin .geq (.t 4) (.v (.d (.int .i64 0))))⟩, ⟨(some 6), none, (.mov (.t 5))⟩, ⟨(some 7), (some (6, true)), (.fieldA 1 (.t 1))⟩, ⟨(some 8), (some (6, true)), (.load false 1 (.t 7))⟩, ⟨(some 9), (some (6, true)), (.bin .geq (.t 8) (.v (.d (.int .i64 0))))⟩, ⟨(some 10), none, (.pick (.t 6) (.t 9) (.v (.d (.bool false))))⟩, ⟨(some 11), none, (.mov (.t 10))⟩, ⟨(some 12), (some (11, true)), (.fieldA 1 (.t 1))⟩, ⟨(some 13), (some (11, true)), (.load false 1 (.t 12))⟩, ⟨(some 14), (some (11, true)), (.bin .leq (.t 13) (.v (.d (.int .i64 3))))⟩, ⟨(some 15), none, (.pick (.t 11) (.t 14) (.v (.d (.bool false))))⟩, ⟨(some 16), none, (.mov (.t 15))⟩, ⟨(some 17), (some (16, true)), (.fieldA 2 (.t 1))⟩, ⟨(some 18), (some (16, true)), (.load false 1 (.t 17))⟩, ⟨(some 19), (some (16, true)), (.bin .geq (.t 18) (.v (.d (.int .i64 0))))⟩, ⟨(some 20), none, (.pick (.t 16) (.t 19) (.v (.d (.bool false))))⟩, ⟨(some 21), none, (.mov (.t 20))⟩, ⟨(some 22), (some (21, true)), (.fieldA 2 (.t 1))⟩, ⟨(some 23), (some (21, true)), (.load false 1 (.t 22))⟩, ⟨(some 24), (some (21, true)), (.bin .leq (.t 23) (.v (.d (.int .i64 7))))⟩, ⟨(some 25), none, (.pick (.t 21) (.t 24) (.v (.d (.bool false))))⟩, ⟨(some 26), none, (.mov (.t 25))⟩, ⟨(some 27), (some (26, true)), (.fieldA 3 (.t 1))⟩, ⟨(some 28), (some (26, true)), (.load false 1 (.t 27))⟩, ⟨(some 29), (some (26, true)), (.bin .geq (.t 28) (.v (.d (.int .i64 0))))⟩, ⟨(some 30), none, (.pick (.t 26) (.t 29) (.v (.d (.bool false))))⟩, ⟨(some 31), none, (.mov (.t 30))⟩, ⟨(some 32), (some (31, true)), (.fieldA 3 (.t 1))⟩, ⟨(some 33), (some (31, true)), (.load false 1 (.t 32))⟩, ⟨(some 34), (some (31, true)), (.bin .leq (.t 33) (.v (.d (.int .i64 2))))⟩, ⟨(some 35), none, (.pick (.t 31) (.t 34) (.v (.d (.bool false))))⟩, ⟨(some 36), none, (.mov (.t 35))⟩, ⟨(some 37), (some (36, true)), (.fieldA 4 (.t 1))⟩, ⟨(some 38), (some (36, true)), (.load false 1 (.t 37))⟩, ⟨(some 39), (some (36, true)), (.bin .geq (.t 38) (.v (.d (.int .i64 0))))⟩, ⟨(some 40), none, (.pick (.t 36) (.t 39) (.v (.d (.bool false))))⟩, ⟨(some 41), none, (.mov (.t 40))⟩, ⟨(some 42), (some (41, true)), (.fieldA 4 (.t 1))⟩, ⟨(some 43), (some (41, true)), (.load false 1 (.t 42))⟩, ⟨(some 44), (some (41, true)), (.bin .leq (.t 43) (.v (.d (.int .i64 63))))⟩, ⟨(some 45), none, (.pick (.t 41) (.t 44) (.v (.d (.bool false))))⟩, ⟨(some 2), none, (.mov (.t 45))⟩])
def F37 : CFunc := ⟨46, [(.tmp 2)], (.seq (.reg [] [⟨(some 1), none, (.box 58 true 5 (.t 0))⟩, ⟨(some 2), none, (.mov (.v (.d (.bool false))))⟩]) (.cut [1] [] [2] S37_0 .ret))⟩
theorem c37 : cAt Tryd.prog 37 = some F37.er := by kernel_rfl
def L38_0 : C := (.seq (.seq (.reg [] [⟨(some 11), none, (.mov (.t 5))⟩, ⟨(some 12), none, (.mov (.t 0))⟩, ⟨(some 13), none, (.len (.t 12))⟩, ⟨(some 14), none, (.bin .lss (.t 11) (.t 13))⟩]) (.cond (.t 14) .skip (.exit 0))) (.seq (.block 1 (.seq (.reg [⟨(some 17), none, (.mov (.t 0))⟩, ⟨(some 18), none, (.mov (.t 5))⟩, ⟨(some 19), none, (.idxA 5 (.t 17) (.t 18))⟩, ⟨(some 20), none, (.load true 5 (.t 19))⟩, ⟨(some 21), none, (.mov (.t 1))⟩, ⟨(some 22), none, (.mov (.t 5))⟩, ⟨(some 23), none, (.idxA 5 (.t 21) (.t 22))⟩, ⟨(some 24), none, (.load true 5 (.t 23))⟩] [⟨(some 25), none, (.beq (.cells [(.i .i64), (.i .i64), (.i .i64), (.i .i64), (.i .i64)]) true (.t 20) (.t 24))⟩]) (.cond (.t 25) (.seq (.reg [] [⟨(some 4), none, (.mov (.v (.d (.bool false))))⟩]) .ret) .skip))) (.reg [] [⟨(some 15), none, (.mov (.t 5))⟩, ⟨(some 16), none, (.bin .add (.t 15) (.v (.d (.int .i64 1))))⟩, ⟨(some 5), none, (.mov (.t 16))⟩])))
def F38 : CFunc := ⟨26, [(.tmp 4)], (.seq (.reg [] [⟨(some 4), none, (.mov (.v (.d (.bool false))))⟩]) (.seq (.seq (.reg [] [⟨(some 6), none, (.mov (.t 0))⟩, ⟨(some 7), none, (.len (.t 6))⟩, ⟨(some 8), none, (.mov (.t 1))⟩, ⟨(some 9), none, (.len (.t 8))⟩, ⟨(some 10), none, (.bin .neq (.t 7) (.t 9))⟩]) (.cond (.t 10) (.seq (.reg [] [⟨(some 4), none, (.mov (.v (.d (.bool false))))⟩]) .ret) .skip)) (.seq (.seq (.reg [] [⟨(some 5), none, (.mov (.v (.d (.int .i64 0))))⟩]) (.block 0 (.loop [0, 1, 5] [4] L38_0))) (.seq (.reg [] [⟨(some 4), none, (.mov (.v (.d (.bool true))))⟩]) .ret))))⟩
theorem c38 : cAt Tryd.prog 38 = some F38.er := by kernel_rfl
def L39_0 : C := (.seq (.reg [] [⟨(some 15), none, (.bin .lss (.t 14) (.t 13))⟩]) (.seq (.cond (.t 15) .skip (.exit 0)) (.seq (.block 1 (.seq (.reg [] [⟨(some 16), none, (.mov (.t 14))⟩, ⟨(some 4), none, (.mov (.t 16))⟩]) (.reg [⟨(some 17), none, (.mov (.t 3))⟩, ⟨(some 18), none, (.mov (.t 0))⟩, ⟨(some 19), none, (.mov (.t 0))⟩, ⟨(some 20), none, (.call (.v (.fn (.func 41) [] [])) [(.t 19)])⟩, ⟨(some 21), none, (.mov (.t 4))⟩, ⟨(some 22), none, (.bin .add (.t 20) (.t 21))⟩, ⟨(some 23), none, (.bin .rem (.t 22) (.v (.d (.int .i64 32))))⟩, ⟨(some 24), none, (.nilck (.t 18))⟩, ⟨(some 25), none, (.fieldA 0 (.t 24))⟩, ⟨(some 26), none, (.idxAA 32 5 (.t 25) (.t 23))⟩, ⟨(some 27), none, (.load true 5 (.t 26))⟩, ⟨(some 28), none, (.bslice 58 true 5 1 [(.int .i64 0), (.int .i64 0), (.int .i64 0), (.int .i64 0), (.int .i64 0)] [(0, (.t 27))])⟩] [⟨(some 29), none, (.append 58 true 5 40 (.t 17) (.t 28))⟩, ⟨(some 3), none, (.mov (.t 29))⟩]))) (.reg [] [⟨(some 30), none, (.bin .add (.t 14) (.v (.d (.int .i64 1))))⟩, ⟨(some 14), none, (.mov (.t 30))⟩]))))
def F39 : CFunc := ⟨32, [(.tmp 2)], (.seq (.reg [] [⟨(some 2), none, (.nsl 58 true 5)⟩]) (.seq (.seq (.reg [] [⟨(some 5), none, (.mov (.t 0))⟩, ⟨(some 6), none, (.beq .ptr false (.t 5) (.v (.d .nilp)))⟩]) (.cond (.t 6) (.seq (.reg [] [⟨(some 2), none, (.nsl 58 true 5)⟩]) .ret) .skip)) (.seq (.reg [] [⟨(some 3), none, (.nsl 58 true 5)⟩]) (.seq (.seq (.mix [⟨(some 7), none, (.mov (.t 0))⟩, ⟨(some 8), none, (.nilck (.t 7))⟩, ⟨(some 9), none, (.fieldA 160 (.t 8))⟩, ⟨(some 10), none, (.load false 1 (.t 9))⟩, ⟨(some 11), none, (.mov (.t 0))⟩, ⟨(some 12), none, (.call (.v (.fn (.func 41) [] [])) [(.t 11)])⟩, ⟨(some 13), none, (.bin .sub (.t 10) (.t 12))⟩, ⟨(some 14), none, (.mov (.v (.d (.int .i64 0))))⟩] [[], [], [], [], [], [3], [], []] [false, false, false, false, false, true, false, false]) (.block 0 (.loop [0, 3, 13, 14] [3] L39_0))) (.seq (.reg [] [⟨(some 31), none, (.mov (.t 3))⟩, ⟨(some 2), none, (.mov (.t 31))⟩]) .ret)))))⟩
theorem c39 : cAt Tryd.prog 39 = some F39.er := by kernel_rfl
def F40 : CFunc := ⟨7, [(.tmp 2)], (.seq (.reg [] [⟨(some 2), none, (.nsl 58 true 5)⟩]) (.seq (.reg [] [⟨(some 3), none, (.mov (.t 0))⟩, ⟨(some 4), none, (.mov (.t 0))⟩, ⟨(some 5), none, (.call (.v (.fn (.func 42) [] [])) [(.t 4)])⟩, ⟨(some 6), none, (.slice 5 (.t 3) (some (.t 5)) none none)⟩, ⟨(some 2), none, (.mov (.t 6))⟩]) .ret))⟩
theorem c40 : cAt Tryd.prog 40 = some F40.er := by kernel_rfl
def F41 : CFunc := ⟨11, [(.tmp 2)], (.seq (.reg [] [⟨(some 2), none, (.mov (.v (.d (.int .i64 0))))⟩]) (.seq (.seq (.reg [] [⟨(some 3), none, (.mov (.t 0))⟩, ⟨(some 4), none, (.beq .ptr false (.t 3) (.v (.d .nilp)))⟩]) (.cond (.t 4) (.seq (.reg [] [⟨(some 2), none, (.mov (.v (.d (.int .i64 0))))⟩]) .ret) .skip)) (.seq (.reg [] [⟨(some 5), none, (.mov (.t 0))⟩, ⟨(some 6), none, (.nilck (.t 5))⟩, ⟨(some 7), none, (.fieldA 160 (.t 6))⟩, ⟨(some 8), none, (.load false 1 (.t 7))⟩, ⟨(some 9), none, (.bin .sub (.t 8) (.v (.d (.int .i64 32))))⟩, ⟨(some 10), none, (.mx [(.v (.d (.int .i64 0))), (.t 9)])⟩, ⟨(some 2), none, (.mov (.t 10))⟩]) .ret)))⟩
theorem c41 : cAt Tryd.prog 41 = some F41.er := by kernel_rfl
def F42 : CFunc := ⟨7, [(.tmp 2)], (.seq (.reg [] [⟨(some 2), none, (.mov (.v (.d (.int .i64 0))))⟩]) (.seq (.reg [] [⟨(some 3), none, (.mov (.t 0))⟩, ⟨(some 4), none, (.len (.t 3))⟩, ⟨(some 5), none, (.bin .sub (.t 4) (.v (.d (.int .i64 32))))⟩, ⟨(some 6), none, (.mx [(.v (.d (.int .i64 0))), (.t 5)])⟩, ⟨(some 2), none, (.mov (.t 6))⟩]) .ret))⟩
theorem c42 : cAt Tryd.prog 42 = some F42.er := by kernel_rfl
def F43 : CFunc := ⟨31, [(.tmp 2)], (.seq (.reg [] [⟨(some 1), none, (.box 58 true 5 (.t 0))⟩, ⟨(some 2), none, (.mov (.v (.d (.bool false))))⟩]) (.seq (.reg [] [⟨(some 3), none, (.mov (.v (.fn (.func 69) [] [])))⟩]) (.seq (.reg [] [⟨(some 4), none, (.fieldA 0 (.t 1))⟩, ⟨(some 5), none, (.load false 1 (.t 4))⟩, ⟨(some 6), none, (.bin .geq (.t 5) (.v (.d (.int .i64 0))))⟩, ⟨(some 7), none, (.mov (.t 6))⟩, ⟨(some 8), (some (7, true)), (.mov (.t 3))⟩, ⟨(some 9), (some (7, true)), (.fieldA 1 (.t 1))⟩, ⟨(some 10), (some (7, true)), (.load false 1 (.t 9))⟩, ⟨(some 11), (some (7, true)), (.call (.t 8) [(.t 10), (.v (.d (.int .i64 4)))])⟩, ⟨(some 12), none, (.pick (.t 7) (.t 11) (.v (.d (.bool false))))⟩, ⟨(some 13), none, (.mov (.t 12))⟩, ⟨(some 14), (some (13, true)), (.mov (.t 3))⟩, ⟨(some 15), (some (13, true)), (.fieldA 2 (.t 1))⟩, ⟨(some 16), (some (13, true)), (.load false 1 (.t 15))⟩, ⟨(some 17), (some (13, true)), (.call (.t 14) [(.t 16), (.v (.d (.int .i64 8)))])⟩, ⟨(some 18), none, (.pick (.t 13) (.t 17) (.v (.d (.bool false))))⟩, ⟨(some 19), none, (.mov (.t 18))⟩, ⟨(some 20), (some (19, true)), (.mov (.t 3))⟩, ⟨(some 21), (some (19, true)), (.fieldA 3 (.t 1))⟩, ⟨(some 22), (some (19, true)), (.load false 1 (.t 21))⟩, ⟨(some 23), (some (19, true)), (.call (.t 20) [(.t 22), (.v (.d (.int .i64 3)))])⟩, ⟨(some 24), none, (.pick (.t 19) (.t 23) (.v (.d (.bool false))))⟩, ⟨(some 25), none, (.mov (.t 24))⟩, ⟨(some 26), (some (25, true)), (.fieldA 4 (.t 1))⟩, ⟨(some 27), (some (25, true)), (.load false 1 (.t 26))⟩, ⟨(some 28), (some (25, true)), (.call (.v (.fn (.func 70) [] [])) [(.t 27)])⟩, ⟨(some 29), (some (25, true)), (.bin .neq (.t 28) (.v (.d (.str ⟨#[]⟩))))⟩, ⟨(some 30), none, (.pick (.t 25) (.t 29) (.v (.d (.bool false))))⟩, ⟨(some 2), none, (.mov (.t 30))⟩]) .ret)))⟩
theorem c43 : cAt Tryd.prog 43 = some F43.er := by kernel_rfl
def F44 : CFunc := ⟨24, [(.tmp 2)], (.seq (.reg [] [⟨(some 1), none, (.box 58 true 5 (.t 0))⟩, ⟨(some 2), none, (.mov (.v (.d (.str ⟨#[]⟩))))⟩]) (.seq (.seq (.reg [] [⟨(some 3), none, (.load true 5 (.t 1))⟩, ⟨(some 4), none, (.call (.v (.fn (.func 43) [] [])) [(.t 3)])⟩, ⟨(some 5), none, (.unop .not (.t 4))⟩]) (.cond (.t 5) (.seq (.reg [] [⟨(some 2), none, (.mov (.v (.d (.str ⟨#[]⟩))))⟩]) .ret) .skip)) (.seq (.mix [⟨(some 6), none, (.fieldA 0 (.t 1))⟩, ⟨(some 7), none, (.load false 1 (.t 6))⟩, ⟨(some 8), none, (.call (.v (.fn (.func 63) [] [])) [(.t 7)])⟩, ⟨(some 9), none, (.fieldA 1 (.t 1))⟩, ⟨(some 10), none, (.load false 1 (.t 9))⟩, ⟨(some 11), none, (.call (.v (.fn (.func 63) [] [])) [(.t 10)])⟩, ⟨(some 12), none, (.fieldA 2 (.t 1))⟩, ⟨(some 13), none, (.load false 1 (.t 12))⟩, ⟨(some 14), none, (.call (.v (.fn (.func 63) [] [])) [(.t 13)])⟩, ⟨(some 15), none, (.fieldA 3 (.t 1))⟩, ⟨(some 16), none, (.load false 1 (.t 15))⟩, ⟨(some 17), none, (.idxAA 3 1 (.g 1) (.t 16))⟩, ⟨(some 18), none, (.load false 1 (.t 17))⟩, ⟨(some 19), none, (.fieldA 4 (.t 1))⟩, ⟨(some 20), none, (.load false 1 (.t 19))⟩, ⟨(some 21), none, (.call (.v (.fn (.func 70) [] [])) [(.t 20)])⟩, ⟨(some 22), none, (.bslice 9 true 1 8 [(.str ⟨#[]⟩)] [(0, (.v (.d (.str ⟨#[99, 121, 99, 108, 101]⟩)))), (1, (.t 8)), (2, (.v (.d (.str ⟨#[99, 104, 97, 110, 110, 101, 108]⟩)))), (3, (.t 11)), (4, (.v (.d (.str ⟨#[115, 105, 103, 110, 97, 108]⟩)))), (5, (.t 14)), (6, (.t 18)), (7, (.t 21))])⟩, ⟨(some 23), none, (.call (.v (.fn (.func 71) [] [])) [(.t 22), (.v (.d (.str ⟨#[32]⟩)))])⟩, ⟨(some 2), none, (.mov (.t 23))⟩] [[], [], [], [], [2], [], [], [2, 5], [], [], [2, 5, 8], [], [2, 5, 8], [], [2, 5, 8], [10, 12], [], [], []] [false, false, false, false, false, false, false, false, false, false, false, false, false, false, false, false, false, false, false]) .ret)))⟩
theorem c44 : cAt Tryd.prog 44 = some F44.er := by kernel_rfl
def F45 : CFunc := ⟨45, [(.tmp 2)], (.seq (.reg [] [⟨(some 1), none, (.box 58 true 5 (.t 0))⟩, ⟨(some 2), none, (.mov (.v (.d (.str ⟨#[]⟩))))⟩]) (.seq (.reg [] [⟨(some 9), none, (.load true 5 (.t 1))⟩, ⟨(some 10), none, (.call (.v (.fn (.func 37) [] [])) [(.t 9)])⟩, ⟨(some 3), none, (.mov (.t 10))⟩]) (.seq (.seq (.reg [] [⟨(some 11), none, (.mov (.t 3))⟩, ⟨(some 12), none, (.unop .not (.t 11))⟩]) (.cond (.t 12) (.seq (.reg [] [⟨(some 2), none, (.mov (.v (.d (.str ⟨#[]⟩))))⟩]) .ret) .skip)) (.seq (.reg [] [⟨(some 4), none, (.mov (.v (.d (.str ⟨#[108, 97, 116, 99, 104, 101, 100]⟩))))⟩]) (.seq (.seq (.reg [] [⟨(some 13), none, (.fieldA 3 (.t 1))⟩, ⟨(some 14), none, (.load false 1 (.t 13))⟩, ⟨(some 15), none, (.bin .eql (.t 14) (.v (.d (.int .i64 1))))⟩]) (.cond (.t 15) (.reg [] [⟨(some 4), none, (.mov (.v (.d (.str ⟨#[98, 97, 99, 107]⟩))))⟩]) .skip)) (.seq (.seq (.reg [] [⟨(some 16), none, (.fieldA 3 (.t 1))⟩, ⟨(some 17), none, (.load false 1 (.t 16))⟩, ⟨(some 18), none, (.bin .eql (.t 17) (.v (.d (.int .i64 2))))⟩]) (.cond (.t 18) (.reg [] [⟨(some 4), none, (.mov (.v (.d (.str ⟨#[111, 117, 116]⟩))))⟩]) .skip)) (.seq (.reg [] [⟨(some 19), none, (.fieldA 0 (.t 1))⟩, ⟨(some 20), none, (.load false 1 (.t 19))⟩, ⟨(some 21), none, (.call (.v (.fn (.func 72) [] [])) [(.t 20)])⟩, ⟨(some 5), none, (.mov (.t 21))⟩]) (.seq (.reg [] [⟨(some 22), none, (.fieldA 1 (.t 1))⟩, ⟨(some 23), none, (.load false 1 (.t 22))⟩, ⟨(some 24), none, (.call (.v (.fn (.func 72) [] [])) [(.t 23)])⟩, ⟨(some 6), none, (.mov (.t 24))⟩]) (.seq (.reg [] [⟨(some 25), none, (.fieldA 2 (.t 1))⟩, ⟨(some 26), none, (.load false 1 (.t 25))⟩, ⟨(some 27), none, (.call (.v (.fn (.func 72) [] [])) [(.t 26)])⟩, ⟨(some 7), none, (.mov (.t 27))⟩]) (.seq (.reg [] [⟨(some 28), none, (.fieldA 4 (.t 1))⟩, ⟨(some 29), none, (.load false 1 (.t 28))⟩, ⟨(some 30), none, (.call (.v (.fn (.func 73) [] [])) [(.t 29)])⟩, ⟨(some 8), none, (.mov (.t 30))⟩]) (.seq (.reg [] [⟨(some 31), none, (.mov (.t 5))⟩, ⟨(some 32), none, (.bin .add (.v (.d (.str ⟨#[99, 121, 99, 108, 101, 32]⟩))) (.t 31))⟩, ⟨(some 33), none, (.bin .add (.t 32) (.v (.d (.str ⟨#[32, 99, 104, 97, 110, 110, 101, 108, 32]⟩))))⟩, ⟨(some 34), none, (.mov (.t 6))⟩, ⟨(some 35), none, (.bin .add (.t 33) (.t 34))⟩, ⟨(some 36), none, (.bin .add (.t 35) (.v (.d (.str ⟨#[32, 115, 105, 103, 110, 97, 108, 32]⟩))))⟩, ⟨(some 37), none, (.mov (.t 7))⟩, ⟨(some 38), none, (.bin .add (.t 36) (.t 37))⟩, ⟨(some 39), none, (.bin .add (.t 38) (.v (.d (.str ⟨#[32]⟩))))⟩, ⟨(some 40), none, (.mov (.t 4))⟩, ⟨(some 41), none, (.bin .add (.t 39) (.t 40))⟩, ⟨(some 42), none, (.bin .add (.t 41) (.v (.d (.str ⟨#[32]⟩))))⟩, ⟨(some 43), none, (.mov (.t 8))⟩, ⟨(some 44), none, (.bin .add (.t 42) (.t 43))⟩, ⟨(some 2), none, (.mov (.t 44))⟩]) .ret)))))))))))⟩
theorem c45 : cAt Tryd.prog 45 = some F45.er := by kernel_rfl
def S61_0 : C := (.seq1 (.reg [] [⟨(some 7), none, (.mov (.t 0))⟩, ⟨(some 8), none, (.bin .lss (.t 7) (.v (.d (.int .i64 0))))⟩, ⟨(some 9), none, (.mov (.t 8))⟩, ⟨(some 10), (some (9, false)), (.mov (.t 0))⟩, ⟨(some 11), (some (9, false)), (.bin .gtr (.t 10) (.v (.d (.int .i64 65535))))⟩, ⟨(some 12), none, (.pick (.t 9) (.v (.d (.bool true))) (.t 11))⟩, ⟨(some 13), none, (.mov (.t 12))⟩, ⟨(some 14), (some (13, false)), (.mov (.t 1))⟩, ⟨(some 15), (some (13, false)), (.bin .lss (.t 14) (.v (.d (.int .i64 0))))⟩, ⟨(some 16), none, (.pick (.t 13) (.v (.d (.bool true))) (.t 15))⟩, ⟨(some 17), none, (.mov (.t 16))⟩, ⟨(some 18), (some (17, false)), (.mov (.t 1))⟩, ⟨(some 19), (some (17, false)), (.bin .gtr (.t 18) (.v (.d (.int .i64 15))))⟩, ⟨(some 20), none, (.pick (.t 17) (.v (.d (.bool true))) (.t 19))⟩]) (.cond (.t 20) (.seq (.reg [] [⟨(some 4), none, (.mov (.v (.d (.bool false))))⟩]) .ret) .skip))
def L61_1 : C := (.seq (.seq (.reg [] [⟨(some 22), none, (.mov (.t 6))⟩, ⟨(some 23), none, (.mov (.t 1))⟩, ⟨(some 24), none, (.bin .lss (.t 22) (.t 23))⟩]) (.cond (.t 24) .skip (.exit 0))) (.seq (.block 1 (.reg [] [⟨(some 27), none, (.mov (.t 5))⟩, ⟨(some 28), none, (.bin .quo (.t 27) (.v (.d (.int .i64 2))))⟩, ⟨(some 5), none, (.mov (.t 28))⟩])) (.reg [] [⟨(some 25), none, (.mov (.t 6))⟩, ⟨(some 26), none, (.bin .add (.t 25) (.v (.d (.int .i64 1))))⟩, ⟨(some 6), none, (.mov (.t 26))⟩])))
def S61_2 : C := (.seq1 (.reg [] [⟨(some 6), none, (.mov (.v (.d (.int .i64 0))))⟩]) (.block 0 (.loop [1, 5, 6] [5] L61_1)))
def F61 : CFunc := ⟨32, [(.tmp 4)], (.seq (.reg [] [⟨(some 4), none, (.mov (.v (.d (.bool false))))⟩]) (.cut [0, 1] [4] [0, 1] S61_0 (.seq (.reg [] [⟨(some 21), none, (.mov (.t 0))⟩, ⟨(some 5), none, (.mov (.t 21))⟩]) (.cut [1, 5] [] [5] S61_2 (.seq (.reg [] [⟨(some 29), none, (.mov (.t 5))⟩, ⟨(some 30), none, (.bin .rem (.t 29) (.v (.d (.int .i64 2))))⟩, ⟨(some 31), none, (.bin .eql (.t 30) (.v (.d (.int .i64 1))))⟩, ⟨(some 4), none, (.mov (.t 31))⟩]) .ret)))))⟩
theorem c61 : cAt Tryd.prog 61 = some F61.er := by kernel_rfl
def F67 : CFunc := ⟨9, [(.tmp 2)], (.seq (.reg [] [⟨(some 2), none, (.mov (.v (.d (.bool false))))⟩]) (.seq (.reg [] [⟨(some 3), none, (.mov (.t 0))⟩, ⟨(some 4), none, (.bin .geq (.t 3) (.v (.d (.int .i64 0))))⟩, ⟨(some 5), none, (.mov (.t 4))⟩, ⟨(some 6), (some (5, true)), (.mov (.t 0))⟩, ⟨(some 7), (some (5, true)), (.bin .lss (.t 6) (.v (.d (.int .i64 65536))))⟩, ⟨(some 8), none, (.pick (.t 5) (.t 7) (.v (.d (.bool false))))⟩, ⟨(some 2), none, (.mov (.t 8))⟩]) .ret))⟩
theorem c67 : cAt Tryd.prog 67 = some F67.er := by kernel_rfl
def F69 : CFunc := ⟨12, [(.tmp 4)], (.seq (.reg [] [⟨(some 4), none, (.mov (.v (.d (.bool false))))⟩]) (.seq (.reg [] [⟨(some 5), none, (.mov (.t 0))⟩, ⟨(some 6), none, (.bin .geq (.t 5) (.v (.d (.int .i64 0))))⟩, ⟨(some 7), none, (.mov (.t 6))⟩, ⟨(some 8), (some (7, true)), (.mov (.t 0))⟩, ⟨(some 9), (some (7, true)), (.mov (.t 1))⟩, ⟨(some 10), (some (7, true)), (.bin .lss (.t 8) (.t 9))⟩, ⟨(some 11), none, (.pick (.t 7) (.t 10) (.v (.d (.bool false))))⟩, ⟨(some 4), none, (.mov (.t 11))⟩]) .ret))⟩
theorem c69 : cAt Tryd.prog 69 = some F69.er := by kernel_rfl
def S70_0 : C := (.block 0 (.seq (.reg [] [⟨(some 7), none, (.mov (.t 0))⟩, ⟨(some 8), none, (.bin .lss (.t 7) (.v (.d (.int .i64 0))))⟩, ⟨(some 9), none, (.mov (.t 8))⟩, ⟨(some 10), (some (9, false)), (.mov (.t 0))⟩, ⟨(some 11), (some (9, false)), (.bin .gtr (.t 10) (.v (.d (.int .i64 63))))⟩, ⟨(some 12), none, (.pick (.t 9) (.v (.d (.bool true))) (.t 11))⟩, ⟨(some 6), none, (.mov (.t 12))⟩]) (.cond (.t 6) (.seq (.reg [] [⟨(some 2), none, (.mov (.v (.d (.str ⟨#[]⟩))))⟩]) .ret) (.seq (.reg [] [⟨(some 14), none, (.mov (.t 0))⟩, ⟨(some 15), none, (.bin .eql (.t 14) (.v (.d (.int .i64 0))))⟩, ⟨(some 13), none, (.mov (.t 15))⟩]) (.cond (.t 13) (.seq (.reg [] [⟨(some 2), none, (.mov (.v (.d (.str ⟨#[45]⟩))))⟩]) .ret) .skip)))))
def L70_1 : C := (.seq (.reg [] [⟨(some 18), none, (.bin .lss (.t 17) (.v (.d (.int .i64 6))))⟩]) (.seq (.cond (.t 18) .skip (.exit 1)) (.seq (.block 2 (.seq (.reg [] [⟨(some 19), none, (.mov (.t 17))⟩, ⟨(some 20), none, (.idx false 6 1 (.t 16) (.t 17))⟩, ⟨(some 4), none, (.mov (.t 19))⟩, ⟨(some 5), none, (.mov (.t 20))⟩]) (.seq (.reg [] [⟨(some 21), none, (.mov (.t 0))⟩, ⟨(some 22), none, (.mov (.t 4))⟩, ⟨(some 23), none, (.call (.v (.fn (.func 33) [] [])) [(.t 21), (.t 22)])⟩]) (.cond (.t 23) (.reg [] [⟨(some 24), none, (.mov (.t 3))⟩, ⟨(some 25), none, (.mov (.t 5))⟩, ⟨(some 26), none, (.bslice 9 true 1 1 [(.str ⟨#[]⟩)] [(0, (.t 25))])⟩, ⟨(some 27), none, (.append 9 true 1 16 (.t 24) (.t 26))⟩, ⟨(some 3), none, (.mov (.t 27))⟩]) .skip)))) (.reg [] [⟨(some 28), none, (.bin .add (.t 17) (.v (.d (.int .i64 1))))⟩, ⟨(some 17), none, (.mov (.t 28))⟩]))))
def S70_2 : C := (.seq (.seq (.reg [] [⟨(some 16), none, (.load true 6 (.g 2))⟩, ⟨(some 17), none, (.mov (.v (.d (.int .i64 0))))⟩]) (.block 1 (.loop [0, 3, 16, 17] [3] L70_1))) (.reg [] [⟨(some 29), none, (.mov (.t 3))⟩, ⟨(some 30), none, (.call (.v (.fn (.func 71) [] [])) [(.t 29), (.v (.d (.str ⟨#[43]⟩)))])⟩, ⟨(some 2), none, (.mov (.t 30))⟩]))
def F70 : CFunc := ⟨31, [(.tmp 2)], (.seq (.reg [] [⟨(some 2), none, (.mov (.v (.d (.str ⟨#[]⟩))))⟩]) (.cut [0] [2] [0] S70_0 (.seq (.reg [] [⟨(some 3), none, (.nsl 9 true 1)⟩]) (.cut [0, 3] [] [2] S70_2 .ret))))⟩
theorem c70 : cAt Tryd.prog 70 = some F70.er := by kernel_rfl
def F72 : CFunc := ⟨18, [(.tmp 2)], (.seq (.reg [] [⟨(some 2), none, (.mov (.v (.d (.str ⟨#[]⟩))))⟩]) (.seq (.reg [] [⟨(some 4), none, (.mov (.t 0))⟩, ⟨(some 5), none, (.bin .rem (.t 4) (.v (.d (.int .i64 10))))⟩, ⟨(some 6), none, (.bin .add (.v (.d (.int .i64 48))) (.t 5))⟩, ⟨(some 7), none, (.conv (.int .u8) (.t 6))⟩, ⟨(some 8), none, (.bslice 5 true 1 1 [(.int .u8 0)] [(0, (.t 7))])⟩, ⟨(some 9), none, (.conv .toStr (.t 8))⟩, ⟨(some 3), none, (.mov (.t 9))⟩]) (.seq (.seq (.reg [] [⟨(some 10), none, (.mov (.t 0))⟩, ⟨(some 11), none, (.bin .geq (.t 10) (.v (.d (.int .i64 10))))⟩]) (.cond (.t 11) (.reg [] [⟨(some 12), none, (.mov (.t 0))⟩, ⟨(some 13), none, (.bin .quo (.t 12) (.v (.d (.int .i64 10))))⟩, ⟨(some 14), none, (.call (.v (.fn (.func 72) [] [])) [(.t 13)])⟩, ⟨(some 15), none, (.mov (.t 3))⟩, ⟨(some 16), none, (.bin .add (.t 14) (.t 15))⟩, ⟨(some 3), none, (.mov (.t 16))⟩]) .skip)) (.seq (.reg [] [⟨(some 17), none, (.mov (.t 3))⟩, ⟨(some 2), none, (.mov (.t 17))⟩]) .ret))))⟩
theorem c72 : cAt Tryd.prog 72 = some F72.er := by kernel_rfl
def S73_0 : C := (.seq1 (.reg [] [⟨(some 7), none, (.mov (.t 0))⟩, ⟨(some 8), none, (.bin .lss (.t 7) (.v (.d (.int .i64 0))))⟩, ⟨(some 9), none, (.mov (.t 8))⟩, ⟨(some 10), (some (9, false)), (.mov (.t 0))⟩, ⟨(some 11), (some (9, false)), (.bin .gtr (.t 10) (.v (.d (.int .i64 63))))⟩, ⟨(some 12), none, (.pick (.t 9) (.v (.d (.bool true))) (.t 11))⟩]) (.cond (.t 12) (.seq (.reg [] [⟨(some 2), none, (.mov (.v (.d (.str ⟨#[]⟩))))⟩]) .ret) .skip))
def L73_1 : C := (.seq (.seq (.reg [] [⟨(some 16), none, (.mov (.t 5))⟩, ⟨(some 17), none, (.bin .lss (.t 16) (.v (.d (.int .i64 6))))⟩]) (.cond (.t 17) .skip (.exit 0))) (.seq (.block 1 (.seq (.reg [] [⟨(some 20), none, (.mov (.t 0))⟩, ⟨(some 21), none, (.mov (.t 5))⟩, ⟨(some 22), none, (.call (.v (.fn (.func 61) [] [])) [(.t 20), (.t 21)])⟩, ⟨(some 6), none, (.mov (.t 22))⟩]) (.seq (.seq (.reg [] [⟨(some 23), none, (.mov (.t 6))⟩, ⟨(some 24), none, (.mov (.t 23))⟩, ⟨(some 25), (some (24, true)), (.mov (.t 4))⟩, ⟨(some 26), (some (24, true)), (.bin .neq (.t 25) (.v (.d (.str ⟨#[]⟩))))⟩, ⟨(some 27), none, (.pick (.t 24) (.t 26) (.v (.d (.bool false))))⟩]) (.cond (.t 27) (.reg [] [⟨(some 28), none, (.mov (.t 4))⟩, ⟨(some 29), none, (.bin .add (.t 28) (.v (.d (.str ⟨#[43]⟩))))⟩, ⟨(some 4), none, (.mov (.t 29))⟩]) .skip)) (.seq (.reg [] [⟨(some 30), none, (.mov (.t 6))⟩]) (.cond (.t 30) (.reg [] [⟨(some 31), none, (.mov (.t 4))⟩, ⟨(some 32), none, (.mov (.t 3))⟩, ⟨(some 33), none, (.mov (.t 5))⟩, ⟨(some 34), none, (.idxA 1 (.t 32) (.t 33))⟩, ⟨(some 35), none, (.load false 1 (.t 34))⟩, ⟨(some 36), none, (.bin .add (.t 31) (.t 35))⟩, ⟨(some 4), none, (.mov (.t 36))⟩]) .skip))))) (.reg [] [⟨(some 18), none, (.mov (.t 5))⟩, ⟨(some 19), none, (.bin .add (.t 18) (.v (.d (.int .i64 1))))⟩, ⟨(some 5), none, (.mov (.t 19))⟩])))
def S73_2 : C := (.seq (.reg [] [⟨(some 15), none, (.call (.v (.fn (.func 89) [] [])) [])⟩, ⟨(some 3), none, (.mov (.t 15))⟩]) (.seq (.reg [] [⟨(some 4), none, (.mov (.v (.d (.str ⟨#[]⟩))))⟩]) (.seq1 (.reg [] [⟨(some 5), none, (.mov (.v (.d (.int .i64 0))))⟩]) (.block 0 (.loop [0, 3, 4, 5] [4] L73_1)))))
def F73 : CFunc := ⟨38, [(.tmp 2)], (.seq (.reg [] [⟨(some 2), none, (.mov (.v (.d (.str ⟨#[]⟩))))⟩]) (.cut [0] [2] [0] S73_0 (.seq (.seq (.reg [] [⟨(some 13), none, (.mov (.t 0))⟩, ⟨(some 14), none, (.bin .eql (.t 13) (.v (.d (.int .i64 0))))⟩]) (.cond (.t 14) (.seq (.reg [] [⟨(some 2), none, (.mov (.v (.d (.str ⟨#[45]⟩))))⟩]) .ret) .skip)) (.cut [0] [] [4] S73_2 (.seq (.reg [] [⟨(some 37), none, (.mov (.t 4))⟩, ⟨(some 2), none, (.mov (.t 37))⟩]) .ret)))))⟩
theorem c73 : cAt Tryd.prog 73 = some F73.er := by kernel_rfl
def F89 : CFunc := ⟨2, [(.tmp 0)], (.seq (.reg [] [⟨(some 0), none, (.nsl 9 true 1)⟩]) (.seq (.reg [] [⟨(some 1), none, (.bslice 9 true 1 6 [(.str ⟨#[]⟩)] [(0, (.v (.d (.str ⟨#[102, 114, 97, 109, 101]⟩)))), (1, (.v (.d (.str ⟨#[114, 97, 110, 103, 101]⟩)))), (2, (.v (.d (.str ⟨#[115, 112, 105, 107, 101]⟩)))), (3, (.v (.d (.str ⟨#[115, 116, 117, 99, 107]⟩)))), (4, (.v (.d (.str ⟨#[100, 114, 105, 102, 116]⟩)))), (5, (.v (.d (.str ⟨#[109, 105, 115]⟩))))])⟩, ⟨(some 0), none, (.mov (.t 1))⟩]) .ret))⟩
theorem c89 : cAt Tryd.prog 89 = some F89.er := by kernel_rfl
def cfT : List (Nat × CFunc) := [(3, F3), (4, F4), (8, F8), (33, F33), (34, F34), (35, F35), (36, F36), (37, F37), (38, F38), (39, F39), (40, F40), (41, F41), (42, F42), (43, F43), (44, F44), (45, F45), (61, F61), (67, F67), (69, F69), (70, F70), (72, F72), (73, F73), (89, F89)]
def lookT : List (Nat × CFunc) → Nat → Option CFunc
  | [], _ => none
  | (i, F) :: r, j => match Nat.beq j i with | true => some F | false => lookT r j
def extT : List (FuncId × XK) := [(76, .grow 5 true 1 1), (63, .itoaT 3), (71, .join)]
def gl1_0 : ByteArray := ⟨#[108, 97, 116, 99, 104, 101, 100]⟩
def gl1_1 : ByteArray := ⟨#[98, 97, 99, 107]⟩
def gl1_2 : ByteArray := ⟨#[111, 117, 116]⟩
def gls1 : List ByteArray := [gl1_0, gl1_1, gl1_2]
def gl2_0 : ByteArray := ⟨#[102, 114, 97, 109, 101]⟩
def gl2_1 : ByteArray := ⟨#[114, 97, 110, 103, 101]⟩
def gl2_2 : ByteArray := ⟨#[115, 112, 105, 107, 101]⟩
def gl2_3 : ByteArray := ⟨#[115, 116, 117, 99, 107]⟩
def gl2_4 : ByteArray := ⟨#[100, 114, 105, 102, 116]⟩
def gl2_5 : ByteArray := ⟨#[109, 105, 115]⟩
def gls2 : List ByteArray := [gl2_0, gl2_1, gl2_2, gl2_3, gl2_4, gl2_5]
def E0 : Env := { cf := lookT cfT, ext := extOf extT, gl := fun g => match Nat.beq g 1 with | true => some [.str gl1_0, .str gl1_1, .str gl1_2] | false => match Nat.beq g 2 with | true => some [.str gl2_0, .str gl2_1, .str gl2_2, .str gl2_3, .str gl2_4, .str gl2_5] | false => none, del := fun _ => false, ref := fun f => Nat.beq f 40 || Nat.beq f 47, gw := [(3, isPow)] }
theorem lookT_ok : ∀ (l : List (Nat × CFunc)), (∀ p, p ∈ l → cAt Tryd.prog p.1 = some p.2.er) → ∀ f F, lookT l f = some F → cAt Tryd.prog f = some F.er
  | [], _, f, F, h => by simp [lookT] at h
  | (i, G) :: r, hl, f, F, h => by
    simp only [lookT] at h
    split at h
    · rename_i hb
      cases h
      rw [Nat.eq_of_beq_eq_true hb]
      exact hl (i, _) (List.mem_cons_self ..)
    · exact lookT_ok r (fun p hp => hl p (by simp [hp])) f F h
theorem cfT_ok : ∀ p, p ∈ cfT → cAt Tryd.prog p.1 = some p.2.er := by
  unfold cfT
  simp only [List.forall_mem_cons]
  exact ⟨c3, c4, c8, c33, c34, c35, c36, c37, c38, c39, c40, c41, c42, c43, c44, c45, c61, c67, c69, c70, c72, c73, c89, fun p h => by simp at h⟩
theorem e0_ext {f : FuncId} (h : lookX extT f = none) : ∀ a m, E0.ext f a m = none := ext_none h
theorem e0_cf : ∀ f F, E0.cf f = some F → cAt Tryd.prog f = some F.er := lookT_ok cfT cfT_ok
theorem w3 {args : List V} {m : Mem} (os : List (A E0)) {r : List V × Mem} (h : walkF E0 F3 args m os = some (r, want os)) : cl E0 3 args m = some r := cl_walk (e0_ext (by kernel_rfl)) (by kernel_rfl) (by decide) os h
theorem w4 {args : List V} {m : Mem} (os : List (A E0)) {r : List V × Mem} (h : walkF E0 F4 args m os = some (r, want os)) : cl E0 4 args m = some r := cl_walk (e0_ext (by kernel_rfl)) (by kernel_rfl) (by decide) os h
theorem w8 {args : List V} {m : Mem} (os : List (A E0)) {r : List V × Mem} (h : walkF E0 F8 args m os = some (r, want os)) : cl E0 8 args m = some r := cl_walk (e0_ext (by kernel_rfl)) (by kernel_rfl) (by decide) os h
theorem w33 {args : List V} {m : Mem} (os : List (A E0)) {r : List V × Mem} (h : walkF E0 F33 args m os = some (r, want os)) : cl E0 33 args m = some r := cl_walk (e0_ext (by kernel_rfl)) (by kernel_rfl) (by decide) os h
theorem w35 {args : List V} {m : Mem} (os : List (A E0)) {r : List V × Mem} (h : walkF E0 F35 args m os = some (r, want os)) : cl E0 35 args m = some r := cl_walk (e0_ext (by kernel_rfl)) (by kernel_rfl) (by decide) os h
theorem w36 {args : List V} {m : Mem} (os : List (A E0)) {r : List V × Mem} (h : walkF E0 F36 args m os = some (r, want os)) : cl E0 36 args m = some r := cl_walk (e0_ext (by kernel_rfl)) (by kernel_rfl) (by decide) os h
theorem w37 {args : List V} {m : Mem} (os : List (A E0)) {r : List V × Mem} (h : walkF E0 F37 args m os = some (r, want os)) : cl E0 37 args m = some r := cl_walk (e0_ext (by kernel_rfl)) (by kernel_rfl) (by decide) os h
theorem w38 {args : List V} {m : Mem} (os : List (A E0)) {r : List V × Mem} (h : walkF E0 F38 args m os = some (r, want os)) : cl E0 38 args m = some r := cl_walk (e0_ext (by kernel_rfl)) (by kernel_rfl) (by decide) os h
theorem w39 {args : List V} {m : Mem} (os : List (A E0)) {r : List V × Mem} (h : walkF E0 F39 args m os = some (r, want os)) : cl E0 39 args m = some r := cl_walk (e0_ext (by kernel_rfl)) (by kernel_rfl) (by decide) os h
theorem w40 {args : List V} {m : Mem} (os : List (A E0)) {r : List V × Mem} (h : walkF E0 F40 args m os = some (r, want os)) : cl E0 40 args m = some r := cl_walk (e0_ext (by kernel_rfl)) (by kernel_rfl) (by decide) os h
theorem w41 {args : List V} {m : Mem} (os : List (A E0)) {r : List V × Mem} (h : walkF E0 F41 args m os = some (r, want os)) : cl E0 41 args m = some r := cl_walk (e0_ext (by kernel_rfl)) (by kernel_rfl) (by decide) os h
theorem w42 {args : List V} {m : Mem} (os : List (A E0)) {r : List V × Mem} (h : walkF E0 F42 args m os = some (r, want os)) : cl E0 42 args m = some r := cl_walk (e0_ext (by kernel_rfl)) (by kernel_rfl) (by decide) os h
theorem w43 {args : List V} {m : Mem} (os : List (A E0)) {r : List V × Mem} (h : walkF E0 F43 args m os = some (r, want os)) : cl E0 43 args m = some r := cl_walk (e0_ext (by kernel_rfl)) (by kernel_rfl) (by decide) os h
theorem w44 {args : List V} {m : Mem} (os : List (A E0)) {r : List V × Mem} (h : walkF E0 F44 args m os = some (r, want os)) : cl E0 44 args m = some r := cl_walk (e0_ext (by kernel_rfl)) (by kernel_rfl) (by decide) os h
theorem w45 {args : List V} {m : Mem} (os : List (A E0)) {r : List V × Mem} (h : walkF E0 F45 args m os = some (r, want os)) : cl E0 45 args m = some r := cl_walk (e0_ext (by kernel_rfl)) (by kernel_rfl) (by decide) os h
theorem w61 {args : List V} {m : Mem} (os : List (A E0)) {r : List V × Mem} (h : walkF E0 F61 args m os = some (r, want os)) : cl E0 61 args m = some r := cl_walk (e0_ext (by kernel_rfl)) (by kernel_rfl) (by decide) os h
theorem w67 {args : List V} {m : Mem} (os : List (A E0)) {r : List V × Mem} (h : walkF E0 F67 args m os = some (r, want os)) : cl E0 67 args m = some r := cl_walk (e0_ext (by kernel_rfl)) (by kernel_rfl) (by decide) os h
theorem w69 {args : List V} {m : Mem} (os : List (A E0)) {r : List V × Mem} (h : walkF E0 F69 args m os = some (r, want os)) : cl E0 69 args m = some r := cl_walk (e0_ext (by kernel_rfl)) (by kernel_rfl) (by decide) os h
theorem w70 {args : List V} {m : Mem} (os : List (A E0)) {r : List V × Mem} (h : walkF E0 F70 args m os = some (r, want os)) : cl E0 70 args m = some r := cl_walk (e0_ext (by kernel_rfl)) (by kernel_rfl) (by decide) os h
theorem w72 {args : List V} {m : Mem} (os : List (A E0)) {r : List V × Mem} (h : walkF E0 F72 args m os = some (r, want os)) : cl E0 72 args m = some r := cl_walk (e0_ext (by kernel_rfl)) (by kernel_rfl) (by decide) os h
theorem w73 {args : List V} {m : Mem} (os : List (A E0)) {r : List V × Mem} (h : walkF E0 F73 args m os = some (r, want os)) : cl E0 73 args m = some r := cl_walk (e0_ext (by kernel_rfl)) (by kernel_rfl) (by decide) os h
theorem w89 {args : List V} {m : Mem} (os : List (A E0)) {r : List V × Mem} (h : walkF E0 F89 args m os = some (r, want os)) : cl E0 89 args m = some r := cl_walk (e0_ext (by kernel_rfl)) (by kernel_rfl) (by decide) os h
theorem e0_del : ∀ f, E0.del f = true → DelOK Tryd.prog f := fun f h => by cases h
def rhoG76 : Shelf.Ren := ⟨fun x => if x = 4 then 76 else x, fun x => match x with | 0 => 0 | 3 => 3 | 4 => 4 | 9 => 9 | 20 => 20 | 22 => 25 | 25 => 5 | x => x, fun x => x⟩
theorem laysG76 : Lays8.n4 Tryd.prog rhoG76 := by
  constructor
  case f4 => exact ⟨"slices.Grow[[]byte,byte]", by kernel_rfl, by kernel_rfl⟩
  all_goals first | kernel_rfl | (intro w; kernel_rfl)
theorem xok76 : XOK Tryd.prog 76 (.grow 5 true 1 1) := ⟨by decide, ⟨_, rfl, by kernel_rfl, by kernel_rfl⟩, growOK_of laysG76 rfl rfl (i0 := (Tryd.prog.info? 5).getD default) (z := (((Tryd.prog.info? 5).bind (·.zero)).getD default)) (by kernel_rfl) (by kernel_rfl) (by kernel_rfl) (by kernel_rfl) (by kernel_rfl) (by decide) (by decide)⟩
open Go.Shelf
def rhoI : Shelf.Ren := ⟨fun x => match x with | 171 => 63 | 243 => 83 | 246 => 93 | 283 => 98 | 284 => 99 | 285 => 100 | 286 => 101 | 129 => 105 | 317 => 104 | 318 => 106 | 319 => 107 | 320 => 108 | 337 => 109 | 338 => 110 | n => n,
  fun x => match x with | 3 => 3 | 9 => 9 | 2 => 2 | 4 => 4 | 171 => 116 | 0 => 0 | 53 => 99 | 37 => 25 | 5 => 5 | 173 => 118 | 212 => 123 | 51 => 97 | 20 => 20 | 213 => 124 | 46 => 80 | 232 => 125 | 233 => 126 | n => n,
  fun x => match x with | 17 => 3 | 18 => 5 | 19 => 6 | n => n⟩
theorem laysI : LaysM.n171 Tryd.prog rhoI := by
  constructor <;> first | kernel_rfl | (intro w; kernel_rfl) | decide | (constructor <;> first | kernel_rfl | (intro w; kernel_rfl) | decide | (constructor <;> first | kernel_rfl | (intro w; kernel_rfl) | decide))
theorem xok63 : XOK Tryd.prog 63 (.itoaT 3) := ⟨by decide, ⟨_, rfl, by kernel_rfl, by kernel_rfl⟩, itoaTOK_of laysI rfl (by kernel_rfl)⟩
open Go.Shelf
def rhoJ : Shelf.Ren := ⟨fun x => match x with | 156 => 71 | 165 => 86 | 166 => 87 | 169 => 88 | 240 => 94 | 241 => 95 | 276 => 102 | 277 => 103 | n => n,
  fun x => match x with | 31 => 89 | 9 => 9 | 3 => 3 | 4 => 4 | 0 => 0 | 20 => 20 | 72 => 103 | 76 => 107 | 70 => 101 | 37 => 25 | 75 => 106 | 127 => 114 | 164 => 120 | 5 => 5 | 80 => 109 | n => n,
  fun x => match x with | n => n⟩
theorem laysJ : Lays.n156 Tryd.prog rhoJ := by
  constructor <;> first | kernel_rfl | (intro w; kernel_rfl) | decide | (constructor <;> first | kernel_rfl | (intro w; kernel_rfl) | decide | (constructor <;> first | kernel_rfl | (intro w; kernel_rfl) | decide))
theorem extraJ : Builder.Extra Tryd.prog rhoJ := by
  constructor <;> first | kernel_rfl | (intro w; kernel_rfl) | decide | (constructor <;> first | kernel_rfl | (intro w; kernel_rfl) | decide | (constructor <;> first | kernel_rfl | (intro w; kernel_rfl) | decide))
theorem xok71 : XOK Tryd.prog 71 .join := ⟨by decide, ⟨_, rfl, by kernel_rfl, by kernel_rfl⟩, joinOK_of laysJ extraJ rfl⟩
theorem e0_x : ∀ p, p ∈ extT → XOK Tryd.prog p.1 p.2 := by
  unfold extT
  simp only [List.forall_mem_cons]
  exact ⟨xok76, xok63, xok71, fun p h => by simp at h⟩
theorem e0_w : ∀ p, p ∈ extT → p.2.told E0.gw := by
  unfold extT
  simp only [List.forall_mem_cons]
  exact ⟨by first | exact trivial | simp [XK.told, E0], by first | exact trivial | simp [XK.told, E0], by first | exact trivial | simp [XK.told, E0], fun p h => by simp at h⟩
end Go.Proofs.YtkipngagfiaddaaDoor.Den

namespace Go.Proofs.YtkipngagfiaddaaDoor.Den
open Go
set_option linter.unusedVariables false
set_option linter.unusedSimpArgs false
set_option linter.unusedSectionVars false
def tabE {α : Type} [Inhabited α] (T : List α) (n : Nat) : List α := (List.range n).map fun (j : Nat) => gt T (j : Int)
def staE {α : Type} [Inhabited α] (T : List α) (n : Nat) (i : Int) (v : α) : List α := st (tabE T n) i v
def arrE {α : Type} [Inhabited α] (enc : α → List D) (T : List α) (n : Nat) : List D := ((tabE T n).map enc).flatten
section
variable {α : Type} [Inhabited α]
theorem tabE_len (T : List α) (n : Nat) : (tabE T n).length = n := by simp [tabE]
theorem staE_len (T : List α) (n : Nat) (i : Int) (v : α) : (staE T n i v).length = n := by simp [staE, st, tabE_len]
theorem tabE_id {T : List α} {n : Nat} (h : T.length = n) : tabE T n = T := by
  apply List.ext_getElem
  · rw [tabE_len, h]
  · intro j h1 h2
    simp [tabE, gt, List.getD, h2]
theorem flat_len_E {enc : α → List D} {z : Nat} (hz : ∀ a, (enc a).length = z) : ∀ (l : List α), ((l.map enc).flatten).length = l.length * z
  | [] => by simp
  | a :: l => by
    have := flat_len_E hz l
    simp only [List.map_cons, List.flatten_cons, List.length_append, hz, this, List.length_cons, Nat.succ_mul]; omega
theorem flat_at_E {enc : α → List D} {z : Nat} (hz : ∀ a, (enc a).length = z) : ∀ (l : List α) (i : Nat) (h : i < l.length), (((l.map enc).flatten).drop (i * z)).take z = enc l[i]
  | a :: l, 0, _ => by simp [hz, List.take_append_of_le_length]
  | a :: l, i + 1, h => by
    have := flat_at_E hz l i (by simpa using h)
    simp only [List.map_cons, List.flatten_cons, List.getElem_cons_succ]
    rw [← this, Nat.succ_mul, Nat.add_comm, ← List.drop_drop, List.drop_left' (hz a)]
theorem flat_set_E {enc : α → List D} {z : Nat} (hz : ∀ a, (enc a).length = z) (v : α) : ∀ (l : List α) (i : Nat), i < l.length →
    ((l.set i v).map enc).flatten = ((l.map enc).flatten).take (i * z) ++ (enc v ++ ((l.map enc).flatten).drop (i * z + z))
  | a :: l, 0, _ => by
    simp only [List.set_cons_zero, List.map_cons, List.flatten_cons, Nat.zero_mul, List.take_zero, List.nil_append, Nat.zero_add]
    rw [List.drop_left' (hz a)]
  | a :: l, i + 1, h => by
    have := flat_set_E hz v l i (by simpa using h)
    simp only [List.set_cons_succ, List.map_cons, List.flatten_cons, this]
    have e1 : (i + 1) * z = z + i * z := by rw [Nat.succ_mul, Nat.add_comm]
    have e2 : (enc a).take (z + i * z) = enc a := List.take_of_length_le (by rw [hz]; exact Nat.le_add_right _ _)
    have e3 : ∀ (r : List D) (k : Nat), (enc a ++ r).drop (z + k) = r.drop k := fun r k => by rw [← List.drop_drop, List.drop_left' (hz a)]
    rw [e1, List.take_append, e2, hz, Nat.add_sub_cancel_left, List.append_assoc, Nat.add_assoc, e3]
theorem staE_set {T : List α} {n : Nat} {i : Int} {v : α} (h1 : 0 ≤ i) (h2 : i.toNat < n) : tabE (staE T n i v) n = (tabE T n).set i.toNat v := by
  rw [tabE_id (staE_len T n i v)]; rfl
theorem arrE_len {enc : α → List D} {z : Nat} (hz : ∀ a, (enc a).length = z) (T : List α) (n : Nat) : (arrE enc T n).length = n * z := by
  unfold arrE; rw [flat_len_E hz, tabE_len]
theorem arrE_at {enc : α → List D} {z : Nat} (hz : ∀ a, (enc a).length = z) {T : List α} {n : Nat} {i : Int} (h1 : 0 ≤ i) (h2 : i.toNat < n) : ((arrE enc T n).drop (i.toNat * z)).take z = enc (gt T i) := by
  unfold arrE
  rw [flat_at_E hz _ _ (by rw [tabE_len]; exact h2)]
  simp [tabE, show ((i.toNat : Nat) : Int) = i by omega]
theorem arrE_sta {enc : α → List D} {z : Nat} (hz : ∀ a, (enc a).length = z) {T : List α} {n : Nat} {i : Int} {v : α} (h1 : 0 ≤ i) (h2 : i.toNat < n) :
    arrE enc (staE T n i v) n = (arrE enc T n).take (i.toNat * z) ++ (enc v ++ (arrE enc T n).drop (i.toNat * z + z)) := by
  unfold arrE
  rw [staE_set h1 h2]
  exact flat_set_E hz v _ _ (by rw [tabE_len]; exact h2)
variable {E : Env} {c : CallT} {t : Nat → V} {m : Mem}
theorem part_mid {cells : List V} {A : List D} {off z o size : Nat} {agg : Bool} {v : V} (hx : (cells.drop off).take z = A.map V.d) (hA : A.length = z) (h0 : 0 < z) (hv : part agg (A.map V.d) o size = some v) : part agg cells (off + o) size = some v := by
  have key : ∀ q, q < z → cells[off + q]? = (A.map V.d)[q]? := fun q hq => arr_at hx hq
  unfold part at hv ⊢
  cases agg with
  | false =>
    simp only [Bool.false_eq_true, if_false] at hv ⊢
    have ho : o < z := by
      rcases Nat.lt_or_ge o z with h | h
      · exact h
      · rw [List.getElem?_eq_none (by simp [hA]; exact h)] at hv; cases hv
    rw [key o ho]; exact hv
  | true =>
    simp only [if_true] at hv ⊢
    obtain ⟨w, hw, rfl⟩ := Option.map_eq_some_iff.1 hv
    unfold seg at hw ⊢
    by_cases hl : o + size ≤ (A.map V.d).length
    · rw [if_pos hl] at hw
      cases hw
      have hl' : o + size ≤ z := by simpa [hA] using hl
      have hc : off + z ≤ cells.length := by
        have := congrArg List.length hx
        simp [hA] at this; omega
      have hlen : off + o + size ≤ cells.length := by omega
      rw [if_pos hlen, ← hx]
      simp only [Option.map_some, Option.some.injEq, V.agg.injEq]
      rw [List.drop_take, List.drop_drop, List.take_take, Nat.min_eq_left (by omega)]
    · rw [if_neg hl] at hw; cases hw
theorem o_load_arrE {α : Type} [Inhabited α] {enc : α → List D} {z : Nat} (hz : ∀ a, (enc a).length = z) (h0 : 0 < z) {id nn row off n o size : Nat} {agg : Bool} {T : List α} {i : Int} {v : V}
    (hx : (((m[id]?).bind fun b => b.row? nn row).map fun cs => (cs.drop off).take (n * z)) = some ((arrE enc T n).map V.d)) (h : inb n i = true) (hv : part agg ((enc (gt T i)).map V.d) o size = some v) :
    doI E c (.load agg size (.v (.ptr id nn row (off + i.toNat * z + o)))) t m = some (v, m) := by
  obtain ⟨h1, h2⟩ := inb_spec h
  obtain ⟨cs, hc, hx⟩ := Option.map_eq_some_iff.1 hx
  obtain ⟨b, hb, hc⟩ := Option.bind_eq_some_iff.1 hc
  have hle : i.toNat * z + z ≤ n * z := by rw [← Nat.succ_mul]; exact Nat.mul_le_mul_right z h2
  have hx2 : (cs.drop (off + i.toNat * z)).take z = (enc (gt T i)).map V.d := by
    rw [← arrE_at hz h1 h2 (T := T), List.map_take, List.map_drop, ← hx, List.drop_take, List.drop_drop, List.take_take, Nat.min_eq_left (by omega)]
  have := part_mid hx2 (hz _) h0 hv
  simp [doI, ev, loadV, hb, hc, this]
theorem o_store_arrE {α : Type} [Inhabited α] {enc : α → List D} {z : Nat} (hz : ∀ a, (enc a).length = z) (h0 : 0 < z) (hsc : ∀ a, toSs ((enc a).map V.d) = some (enc a)) {id nn row off n s : Nat} {e : TypeId} {rows : List (List D)} {cs : List D} {T : List α} {i : Int} {v : α}
    (hm : m[id]? = some (.flat e s rows false)) (hr : rows[row]? = some cs) (hn : Nat.beq nn rows.length = true) (hx : (cs.drop off).take (n * z) = arrE enc T n) (h : inb n i = true) :
    doI E c (.store z (.v (.ptr id nn row (off + i.toNat * z))) (.v (.agg ((enc v).map V.d)))) t m = some (.tup [], m.set id (.flat e s (rows.set row (cs.take off ++ (arrE enc (staE T n i v) n ++ cs.drop (off + n * z)))) false)) := by
  obtain ⟨h1, h2⟩ := inb_spec h
  have hle : i.toNat * z + z ≤ n * z := by rw [← Nat.succ_mul]; exact Nat.mul_le_mul_right z h2
  have hlen : off + n * z ≤ cs.length := by
    have := congrArg List.length hx
    rw [arrE_len hz] at this
    simp at this
    rcases Nat.lt_or_ge cs.length (off + n * z) with h | h
    · omega
    · exact h
  have hput : cs.take (off + i.toNat * z) ++ (enc v ++ cs.drop (off + i.toNat * z + z)) = cs.take off ++ (arrE enc (staE T n i v) n ++ cs.drop (off + n * z)) := by
    rw [arrE_sta hz h1 h2, ← hx, List.take_add, List.take_take, Nat.min_eq_left (by omega), List.drop_take, List.drop_drop]
    simp only [List.append_assoc]
    congr 3
    have e1 : cs.drop (off + i.toNat * z + z) = (cs.drop (off + (i.toNat * z + z))).take (n * z - (i.toNat * z + z)) ++ (cs.drop (off + (i.toNat * z + z))).drop (n * z - (i.toNat * z + z)) := by
      rw [List.take_append_drop, Nat.add_assoc]
    rw [e1, List.drop_drop, show off + (i.toNat * z + z) + (n * z - (i.toNat * z + z)) = off + n * z by omega]
  have hl : ((enc v).map V.d).length = z := by simp [hz]
  have hle2 : off + i.toNat * z + z ≤ cs.length := by omega
  simp only [doI, ev, storeV, V.cells, hl, V.cellsOk, hm, Option.bind_some, Blk.put?, beq_len hn, if_true, hsc, setRow, hr, hz, hle2, Option.map_some, and_self, List.append_assoc, hput]
end
end Go.Proofs.YtkipngagfiaddaaDoor.Den

namespace Go.Proofs.YtkipngagfiaddaaDoor.Den
open Go Go.Proofs
set_option maxRecDepth 100000
set_option maxHeartbeats 4000000
set_option linter.unusedVariables false
set_option linter.unusedSimpArgs false
structure R_i64_i64_i64_i64_i64 where
  c0 : Int
  c1 : Int
  c2 : Int
  c3 : Int
  c4 : Int
  deriving Inhabited
def enc_R_i64_i64_i64_i64_i64 (p : R_i64_i64_i64_i64_i64) : List D := [(.int .i64 p.c0), (.int .i64 p.c1), (.int .i64 p.c2), (.int .i64 p.c3), (.int .i64 p.c4)]
end Go.Proofs.YtkipngagfiaddaaDoor.Den

namespace Go.Proofs.YtkipngagfiaddaaDoor.Den
open Go Go.Proofs
set_option maxRecDepth 100000
set_option maxHeartbeats 4000000
set_option linter.unusedVariables false
set_option linter.unusedSimpArgs false
def strings_Join_os_c0 (x0 : Bool) (x1 : List ByteArray) (x2 : ByteArray) : Bool := joinOK x1 x2
theorem strings_Join_os_t0 (x0 : Bool) (x1 : List ByteArray) (x2 : ByteArray) (h : strings_Join_os_c0 x0 x1 x2 = true) : cl E0 71 [(V.d (slD encS true 1 x0 x1)), (V.d (.str x2))] [] = some ([(V.d (.str (joinB x1 x2)))], []) := x_join (l := extT) (f := 71) (m := []) (n := x0) (fl := true) (t := x1) (sep := x2) ⟨⟨rfl, by kernel_rfl⟩, by decide⟩ h
def strconv_Itoa_i_c0 (x0 : Int) : Bool := (decide (0 ≤ x0) && decide (x0 ≤ 9223372036854775807))
theorem strconv_Itoa_i_t0 (x0 : Int) (h : strconv_Itoa_i_c0 x0 = true) : cl E0 63 [(V.d (.int .i64 x0))] [] = some ([(V.d (.str ⟨(digsN (x0 : Int).toNat).toArray⟩))], []) := x_itoaT (l := extT) (f := 63) (m := []) (n := x0) (g := 3) ⟨⟨rfl, by kernel_rfl⟩, by decide⟩ h
end Go.Proofs.YtkipngagfiaddaaDoor.Den

namespace Go.Proofs.YtkipngagfiaddaaDoor.Den
open Go Go.Proofs
set_option maxRecDepth 100000
set_option maxHeartbeats 4000000
set_option linter.unusedVariables false
set_option linter.unusedSimpArgs false
def fix_right_i_r0_0 (x0 : Int) : Bool := (bif tb (decide (0 ≤ x0)) then (decide (x0 < 65536)) else false)
theorem fix_right_i_t0 (x0 : Int) : cl E0 67 [(V.d (.int .i64 x0))] [] = some ([(V.d (.bool (fix_right_i_r0_0 x0)))], []) := by
  unfold fix_right_i_r0_0
  cases h1 : tb (decide (0 ≤ x0))
  · exact w67 [.b (tbE h1)] (by kernel_rfl)
  · exact w67 [.b (tbE h1)] (by kernel_rfl)
def fix_Has_ii_r0_0 (x0 : Int) (x1 : Int) : Bool := (bif tb (fix_right_i_r0_0 x0) then (bif tb (decide (0 ≤ x1)) then (bif tb (decide (x1 < 16)) then (((andI .i64 (shrI .i64 x0 x1) 1) : Int) == 1) else false) else false) else false)
theorem fix_Has_ii_t0 (x0 : Int) (x1 : Int) : cl E0 33 [(V.d (.int .i64 x0)), (V.d (.int .i64 x1))] [] = some ([(V.d (.bool (fix_Has_ii_r0_0 x0 x1)))], []) := by
  unfold fix_Has_ii_r0_0
  cases h1 : tb (fix_right_i_r0_0 x0)
  · exact w33 [.c (fix_right_i_t0 x0), .b (tbE h1)] (by kernel_rfl)
  · cases h2 : tb (decide (0 ≤ x1))
    · exact w33 [.c (fix_right_i_t0 x0), .b (tbE h1), .b (tbE h2)] (by kernel_rfl)
    · cases h3 : tb (decide (x1 < 16))
      · exact w33 [.c (fix_right_i_t0 x0), .b (tbE h1), .b (tbE h2), .b (tbE h3)] (by kernel_rfl)
      · exact w33 [.c (fix_right_i_t0 x0), .b (tbE h1), .b (tbE h2), .b (tbE h3), .o 18 (fun _ => o_shr (k := .i64) (k2 := .i64) (x := x0) (y := x1) (tbE h2))] (by kernel_rfl)
end Go.Proofs.YtkipngagfiaddaaDoor.Den

namespace Go.Proofs.YtkipngagfiaddaaDoor.Den
open Go Go.Proofs
set_option maxRecDepth 100000
set_option maxHeartbeats 4000000
set_option linter.unusedVariables false
set_option linter.unusedSimpArgs false
def trip_Text_i_S0_c0 (x0 : Int) : Bool := (bif tb (decide (x0 < 0)) then true else (bif tb (decide (63 < x0)) then true else (bif tb ((x0 : Int) == 0) then true else false)))
def trip_Text_i_S0_r0_0 (x0 : Int) : ByteArray := (bif tb (decide (x0 < 0)) then ⟨#[]⟩ else (bif tb (decide (63 < x0)) then ⟨#[]⟩ else ⟨#[45]⟩))
theorem trip_Text_i_S0_t0 (x0 : Int) : trip_Text_i_S0_c0 x0 = true → segG (runC E0 (cl E0) S70_0) [0] [2] [0] 0 ([(V.d (.int .i64 x0))], []) = some (.ret, ([(V.d (.str (trip_Text_i_S0_r0_0 x0)))], [])) := by
  unfold trip_Text_i_S0_c0 trip_Text_i_S0_r0_0
  cases h1 : tb (decide (x0 < 0))
  · cases h2 : tb (decide (63 < x0))
    · cases h3 : tb ((x0 : Int) == 0)
      · intro g0
        exact absurd g0 ft
      · intro g0
        exact seg_walk [.b (tbE h1), .b (tbE h2), .b (tbE h3)] (by kernel_rfl)
    · intro g0
      exact seg_walk [.b (tbE h1), .b (tbE h2)] (by kernel_rfl)
  · intro g0
    exact seg_walk [.b (tbE h1)] (by kernel_rfl)
theorem trip_Text_i_S0_t1 (x0 : Int) : trip_Text_i_S0_c0 x0 = false → segG (runC E0 (cl E0) S70_0) [0] [2] [0] 0 ([(V.d (.int .i64 x0))], []) = some (.normal, ([(V.d (.int .i64 x0))], [])) := by
  unfold trip_Text_i_S0_c0
  cases h1 : tb (decide (x0 < 0))
  · cases h2 : tb (decide (63 < x0))
    · cases h3 : tb ((x0 : Int) == 0)
      · intro g0
        exact seg_walk [.b (tbE h1), .b (tbE h2), .b (tbE h3)] (by kernel_rfl)
      · intro g0
        exact absurd g0 tf
    · intro g0
      exact absurd g0 tf
  · intro g0
    exact absurd g0 tf
structure trip_Text_i_L1_s0 where
  c1 : Bool
  c3 : Int
  c4 : List ByteArray
  deriving Inhabited
def trip_Text_i_L1_h0_e0 (x4 : List ByteArray) (s0 : trip_Text_i_L1_s0) : ByteArray := gt ([gt x4 0, gt x4 1, gt x4 2, gt x4 3, gt x4 4, gt x4 5] : List ByteArray) s0.c3
def trip_Text_i_L1_enc (x0 : List ByteArray) (x1 : Bool) (x2 : Int) (x3 : Bool) (x4 : List ByteArray) (x5 : Int) (s0 : trip_Text_i_L1_s0) : List V × Mem := ([(V.d (.int .i64 x2)), (V.so s0.c1 0 s0.c4.length), (V.agg [(V.d (.str (gt x4 0))), (V.d (.str (gt x4 1))), (V.d (.str (gt x4 2))), (V.d (.str (gt x4 3))), (V.d (.str (gt x4 4))), (V.d (.str (gt x4 5)))]), (V.d (.int .i64 s0.c3))], [(Blk.flat 9 1 (List.map encS s0.c4) false)])
def trip_Text_i_L1_sel (x2 : Int) (x4 : List ByteArray) (s0 : trip_Text_i_L1_s0) : Bool := (bif tb (decide (s0.c3 < 6)) then (bif tb (inb 6 s0.c3) then (bif tb (fix_Has_ii_r0_0 x2 s0.c3) then (bif tb (decide ((s0.c4.length + [(trip_Text_i_L1_h0_e0 x4 s0)].length) * 16 ≤ 140737488355328)) then true else false) else true) else false) else false)
def trip_Text_i_L1_nx (x2 : Int) (x4 : List ByteArray) (s0 : trip_Text_i_L1_s0) : trip_Text_i_L1_s0 := (bif tb (fix_Has_ii_r0_0 x2 s0.c3) then ⟨false, (wi (s0.c3 + 1)), (s0.c4 ++ [(trip_Text_i_L1_h0_e0 x4 s0)])⟩ else ⟨s0.c1, (wi (s0.c3 + 1)), s0.c4⟩)
def trip_Text_i_L1_ok (x2 : Int) (x4 : List ByteArray) (s0 : trip_Text_i_L1_s0) : Bool := (itS (trip_Text_i_L1_sel x2 x4) (trip_Text_i_L1_nx x2 x4) bound s0).isSome
def trip_Text_i_L1_end (x2 : Int) (x4 : List ByteArray) (s0 : trip_Text_i_L1_s0) : trip_Text_i_L1_s0 := (itS (trip_Text_i_L1_sel x2 x4) (trip_Text_i_L1_nx x2 x4) bound s0).getD default
theorem trip_Text_i_L1_go (x0 : List ByteArray) (x1 : Bool) (x2 : Int) (x3 : Bool) (x4 : List ByteArray) (x5 : Int) (s0 : trip_Text_i_L1_s0) : trip_Text_i_L1_sel x2 x4 s0 = true → (roundG (runC E0 (cl E0) L70_1) [0, 3, 16, 17] [3] 1) (trip_Text_i_L1_enc x0 x1 x2 x3 x4 x5 s0) = some (.normal, trip_Text_i_L1_enc x0 x1 x2 x3 x4 x5 (trip_Text_i_L1_nx x2 x4 s0)) := by
  unfold trip_Text_i_L1_sel trip_Text_i_L1_nx
  cases h1 : tb (decide (s0.c3 < 6))
  · intro g0
    exact absurd g0 ft
  · cases h2 : tb (inb 6 s0.c3)
    · intro g0
      exact absurd g0 ft
    · cases h3 : tb (fix_Has_ii_r0_0 x2 s0.c3)
      · intro _
        exact round_walk [.b (tbE h1), .o 20 (fun _ => o_idx_arrs (ss := ([gt x4 0, gt x4 1, gt x4 2, gt x4 3, gt x4 4, gt x4 5] : List ByteArray)) (n := 6) (k := .i64) (i := s0.c3) rfl (tbE h2)), .c (fix_Has_ii_t0 x2 s0.c3), .b (tbE h3)] (by kernel_rfl)
      · cases h4 : tb (decide ((s0.c4.length + [(trip_Text_i_L1_h0_e0 x4 s0)].length) * 16 ≤ 140737488355328))
        · intro g0
          exact absurd g0 ft
        · intro _
          exact round_walk [.b (tbE h1), .o 20 (fun _ => o_idx_arrs (ss := ([gt x4 0, gt x4 1, gt x4 2, gt x4 3, gt x4 4, gt x4 5] : List ByteArray)) (n := 6) (k := .i64) (i := s0.c3) rfl (tbE h2)), .c (fix_Has_ii_t0 x2 s0.c3), .b (tbE h3), .m 27 (o_app_so (nl := s0.c1) (m := [(Blk.flat 9 1 (List.map encS s0.c4) false), (Blk.flat 9 1 [[(.str (trip_Text_i_L1_h0_e0 x4 s0))]] false)]) (enc := encS) (l0 := s0.c4) (l1 := [(trip_Text_i_L1_h0_e0 x4 s0)]) (id := 0) (e := 9) (s := 1) (bytes := 16) (x := (V.so false 1 1)) (n := s0.c4.length) (Nat.beq_refl _) (by kernel_rfl) (by kernel_rfl) (by kernel_rfl) (tbE h4))] (by kernel_rfl)
def trip_Text_i_L1_c0 (s0 : trip_Text_i_L1_s0) : Bool := (bif tb (decide (s0.c3 < 6)) then false else true)
theorem trip_Text_i_L1_x0 (x0 : List ByteArray) (x1 : Bool) (x2 : Int) (x3 : Bool) (x4 : List ByteArray) (x5 : Int) (s0 : trip_Text_i_L1_s0) : trip_Text_i_L1_sel x2 x4 s0 = false → trip_Text_i_L1_c0 s0 = true → (roundG (runC E0 (cl E0) L70_1) [0, 3, 16, 17] [3] 1) (trip_Text_i_L1_enc x0 x1 x2 x3 x4 x5 s0) = some ((.exit 1), ([(V.so s0.c1 0 s0.c4.length)], [(Blk.flat 9 1 (List.map encS s0.c4) false)])) := by
  unfold trip_Text_i_L1_sel trip_Text_i_L1_c0
  cases h1 : tb (decide (s0.c3 < 6))
  · intro g0 g1
    exact round_walk [.b (tbE h1)] (by kernel_rfl)
  · cases h2 : tb (inb 6 s0.c3)
    · intro g0 g1
      exact absurd g1 ft
    · cases h3 : tb (fix_Has_ii_r0_0 x2 s0.c3)
      · intro g0 g1
        exact absurd g0 tf
      · cases h4 : tb (decide ((s0.c4.length + [(trip_Text_i_L1_h0_e0 x4 s0)].length) * 16 ≤ 140737488355328))
        · intro g0 g1
          exact absurd g1 ft
        · intro g0 g1
          exact absurd g0 tf
theorem trip_Text_i_L1_f0_0 (x0 : List ByteArray) (x1 : Bool) (x2 : Int) (x3 : Bool) (x4 : List ByteArray) (x5 : Int) (s : trip_Text_i_L1_s0) (hok : trip_Text_i_L1_ok x2 x4 s = true) (c0 : trip_Text_i_L1_c0 (trip_Text_i_L1_end x2 x4 s) = true) : loopG (roundG (runC E0 (cl E0) L70_1) [0, 3, 16, 17] [3] 1) bound (trip_Text_i_L1_enc x0 x1 x2 x3 x4 x5 s) = some ((.exit 1), ([(V.so ((trip_Text_i_L1_end x2 x4 s).c1) 0 (((trip_Text_i_L1_end x2 x4 s).c4).length))], [(Blk.flat 9 1 (List.map encS ((trip_Text_i_L1_end x2 x4 s).c4)) false)])) := by
  have e : itS (trip_Text_i_L1_sel x2 x4) (trip_Text_i_L1_nx x2 x4) bound s = some (trip_Text_i_L1_end x2 x4 s) := itS_get hok
  have f := itS_false e
  exact loop_it (trip_Text_i_L1_go x0 x1 x2 x3 x4 x5) bound s _ _ _ e (fun h => by cases h) (trip_Text_i_L1_x0 x0 x1 x2 x3 x4 x5 (trip_Text_i_L1_end x2 x4 s) f c0)
def trip_Text_i_S2_e0 (x1 : Int) : trip_Text_i_L1_s0 := trip_Text_i_L1_end x1 [gl2_0, gl2_1, gl2_2, gl2_3, gl2_4, gl2_5] (⟨true, 0, ([] : List ByteArray)⟩ : trip_Text_i_L1_s0)
def trip_Text_i_S2_c0 (x1 : Int) : Bool := (bif tb (trip_Text_i_L1_ok x1 [gl2_0, gl2_1, gl2_2, gl2_3, gl2_4, gl2_5] (⟨true, 0, ([] : List ByteArray)⟩ : trip_Text_i_L1_s0)) then (bif tb (trip_Text_i_L1_c0 (trip_Text_i_S2_e0 x1)) then (bif tb (strings_Join_os_c0 ((trip_Text_i_S2_e0 x1).c1) ((trip_Text_i_S2_e0 x1).c4) ⟨#[43]⟩) then true else false) else false) else false)
theorem trip_Text_i_S2_t0 (x1 : Int) : trip_Text_i_S2_c0 x1 = true → segG (runC E0 (cl E0) S70_2) [0, 3] [] [2] 1 ([(V.d (.int .i64 x1)), (V.so true 0 0)], [(Blk.flat 9 1 [] false)]) = some (.normal, ([(V.d (.str (joinB ((trip_Text_i_S2_e0 x1).c4) ⟨#[43]⟩)))], [(Blk.flat 9 1 (List.map encS ((trip_Text_i_S2_e0 x1).c4)) false)])) := by
  unfold trip_Text_i_S2_c0
  cases h1 : tb (trip_Text_i_L1_ok x1 [gl2_0, gl2_1, gl2_2, gl2_3, gl2_4, gl2_5] (⟨true, 0, ([] : List ByteArray)⟩ : trip_Text_i_L1_s0))
  · intro g0
    exact absurd g0 ft
  · cases h2 : tb (trip_Text_i_L1_c0 (trip_Text_i_S2_e0 x1))
    · intro g0
      exact absurd g0 ft
    · cases h3 : tb (strings_Join_os_c0 ((trip_Text_i_S2_e0 x1).c1) ((trip_Text_i_S2_e0 x1).c4) ⟨#[43]⟩)
      · intro g0
        exact absurd g0 ft
      · intro g0
        exact seg_walk [.l (trip_Text_i_L1_f0_0 ([] : List ByteArray) false x1 true [gl2_0, gl2_1, gl2_2, gl2_3, gl2_4, gl2_5] 0 (⟨true, 0, ([] : List ByteArray)⟩ : trip_Text_i_L1_s0) (tbE h1) (tbE h2)), .y (mm := [(Blk.flat 9 1 (List.map encS ((trip_Text_i_S2_e0 x1).c4)) false)]) (args := [(V.so ((trip_Text_i_S2_e0 x1).c1) 0 (((trip_Text_i_S2_e0 x1).c4).length)), (V.d (.str ⟨#[43]⟩))]) (args1 := [(V.d (slD encS true 1 ((trip_Text_i_S2_e0 x1).c1) ((trip_Text_i_S2_e0 x1).c4))), (V.d (.str ⟨#[43]⟩))]) (byvals_cons (byval_so (enc := encS) (l := ((trip_Text_i_S2_e0 x1).c4)) (b := ((trip_Text_i_S2_e0 x1).c1)) (e := 9) (s := 1) (p := false) (n := (((trip_Text_i_S2_e0 x1).c4).length)) (Nat.beq_refl _) (by kernel_rfl)) (by kernel_rfl)), .c (strings_Join_os_t0 ((trip_Text_i_S2_e0 x1).c1) ((trip_Text_i_S2_e0 x1).c4) ⟨#[43]⟩ (tbE h3))] (by kernel_rfl)
def trip_Text_i_c0 (x0 : Int) : Bool := (bif tb (trip_Text_i_S0_c0 x0) then true else (bif tb (trip_Text_i_S2_c0 x0) then true else false))
def trip_Text_i_r0_0 (x0 : Int) : ByteArray := (bif tb (trip_Text_i_S0_c0 x0) then (trip_Text_i_S0_r0_0 x0) else (joinB ((trip_Text_i_S2_e0 x0).c4) ⟨#[43]⟩))
theorem trip_Text_i_t0 (x0 : Int) : trip_Text_i_c0 x0 = true → cl E0 70 [(V.d (.int .i64 x0))] [] = some ([(V.d (.str (trip_Text_i_r0_0 x0)))], []) := by
  unfold trip_Text_i_c0 trip_Text_i_r0_0
  cases h1 : tb (trip_Text_i_S0_c0 x0)
  · cases h2 : tb (trip_Text_i_S2_c0 x0)
    · intro g0
      exact absurd g0 ft
    · intro g0
      exact w70 [.s (trip_Text_i_S0_t1 x0 (tbE h1)), .s (trip_Text_i_S2_t0 x0 (tbE h2))] (by kernel_rfl)
  · intro g0
    exact w70 [.s (trip_Text_i_S0_t0 x0 (tbE h1))] (by kernel_rfl)
end Go.Proofs.YtkipngagfiaddaaDoor.Den

namespace Go.Proofs.YtkipngagfiaddaaDoor.Den
open Go Go.Proofs
set_option maxRecDepth 100000
set_option maxHeartbeats 4000000
set_option linter.unusedVariables false
set_option linter.unusedSimpArgs false
theorem ring_New_t0  : cl E0 35 [] [] = some ([(V.ptr 0 1 0 0)], [(Blk.flat 86 161 [(arrE enc_R_i64_i64_i64_i64_i64 ([⟨0, 0, 0, 0, 0⟩, ⟨0, 0, 0, 0, 0⟩, ⟨0, 0, 0, 0, 0⟩, ⟨0, 0, 0, 0, 0⟩, ⟨0, 0, 0, 0, 0⟩, ⟨0, 0, 0, 0, 0⟩, ⟨0, 0, 0, 0, 0⟩, ⟨0, 0, 0, 0, 0⟩, ⟨0, 0, 0, 0, 0⟩, ⟨0, 0, 0, 0, 0⟩, ⟨0, 0, 0, 0, 0⟩, ⟨0, 0, 0, 0, 0⟩, ⟨0, 0, 0, 0, 0⟩, ⟨0, 0, 0, 0, 0⟩, ⟨0, 0, 0, 0, 0⟩, ⟨0, 0, 0, 0, 0⟩, ⟨0, 0, 0, 0, 0⟩, ⟨0, 0, 0, 0, 0⟩, ⟨0, 0, 0, 0, 0⟩, ⟨0, 0, 0, 0, 0⟩, ⟨0, 0, 0, 0, 0⟩, ⟨0, 0, 0, 0, 0⟩, ⟨0, 0, 0, 0, 0⟩, ⟨0, 0, 0, 0, 0⟩, ⟨0, 0, 0, 0, 0⟩, ⟨0, 0, 0, 0, 0⟩, ⟨0, 0, 0, 0, 0⟩, ⟨0, 0, 0, 0, 0⟩, ⟨0, 0, 0, 0, 0⟩, ⟨0, 0, 0, 0, 0⟩, ⟨0, 0, 0, 0, 0⟩, ⟨0, 0, 0, 0, 0⟩] : List R_i64_i64_i64_i64_i64) 32 ++ [(.int .i64 0)])] false)]) := by
  exact w35 [] (by kernel_rfl)
def ring_Right_c1_ii_r0_0 (x0 : Int) (x1 : Int) : Bool := (bif tb (decide (0 ≤ x0)) then (decide (x0 < x1)) else false)
theorem ring_Right_c1_ii_t0 (x0 : Int) (x1 : Int) : cl E0 69 [(V.d (.int .i64 x0)), (V.d (.int .i64 x1))] [] = some ([(V.d (.bool (ring_Right_c1_ii_r0_0 x0 x1)))], []) := by
  unfold ring_Right_c1_ii_r0_0
  cases h1 : tb (decide (0 ≤ x0))
  · exact w69 [.b (tbE h1)] (by kernel_rfl)
  · exact w69 [.b (tbE h1)] (by kernel_rfl)
def ring_Right_ai5_c0 (x0 : Int) (x1 : Int) (x2 : Int) (x3 : Int) (x4 : Int) : Bool := (bif tb (decide (0 ≤ x0)) then (bif tb (ring_Right_c1_ii_r0_0 x1 4) then (bif tb (ring_Right_c1_ii_r0_0 x2 8) then (bif tb (ring_Right_c1_ii_r0_0 x3 3) then (bif tb (trip_Text_i_c0 x4) then true else false) else true) else true) else true) else true)
def ring_Right_ai5_r0_0 (x0 : Int) (x1 : Int) (x2 : Int) (x3 : Int) (x4 : Int) : Bool := (bif tb (decide (0 ≤ x0)) then (bif tb (ring_Right_c1_ii_r0_0 x1 4) then (bif tb (ring_Right_c1_ii_r0_0 x2 8) then (bif tb (ring_Right_c1_ii_r0_0 x3 3) then (!((trip_Text_i_r0_0 x4).toList == (⟨#[]⟩ : ByteArray).toList)) else false) else false) else false) else false)
theorem ring_Right_ai5_t0 (x0 : Int) (x1 : Int) (x2 : Int) (x3 : Int) (x4 : Int) : ring_Right_ai5_c0 x0 x1 x2 x3 x4 = true → cl E0 43 [(V.agg [(V.d (.int .i64 x0)), (V.d (.int .i64 x1)), (V.d (.int .i64 x2)), (V.d (.int .i64 x3)), (V.d (.int .i64 x4))])] [] = some ([(V.d (.bool (ring_Right_ai5_r0_0 x0 x1 x2 x3 x4)))], []) := by
  unfold ring_Right_ai5_c0 ring_Right_ai5_r0_0
  cases h1 : tb (decide (0 ≤ x0))
  · intro g0
    exact w43 [.b (tbE h1)] (by kernel_rfl)
  · cases h2 : tb (ring_Right_c1_ii_r0_0 x1 4)
    · intro g0
      exact w43 [.b (tbE h1), .c (ring_Right_c1_ii_t0 x1 4), .b (tbE h2)] (by kernel_rfl)
    · cases h3 : tb (ring_Right_c1_ii_r0_0 x2 8)
      · intro g0
        exact w43 [.b (tbE h1), .c (ring_Right_c1_ii_t0 x1 4), .b (tbE h2), .c (ring_Right_c1_ii_t0 x2 8), .b (tbE h3)] (by kernel_rfl)
      · cases h4 : tb (ring_Right_c1_ii_r0_0 x3 3)
        · intro g0
          exact w43 [.b (tbE h1), .c (ring_Right_c1_ii_t0 x1 4), .b (tbE h2), .c (ring_Right_c1_ii_t0 x2 8), .b (tbE h3), .c (ring_Right_c1_ii_t0 x3 3), .b (tbE h4)] (by kernel_rfl)
        · cases h5 : tb (trip_Text_i_c0 x4)
          · intro g0
            exact absurd g0 ft
          · intro g0
            exact w43 [.b (tbE h1), .c (ring_Right_c1_ii_t0 x1 4), .b (tbE h2), .c (ring_Right_c1_ii_t0 x2 8), .b (tbE h3), .c (ring_Right_c1_ii_t0 x3 3), .b (tbE h4), .c (trip_Text_i_t0 x4 (tbE h5))] (by kernel_rfl)
def ring_Ring_Add_pai5_Fi161_e0 (x0 : List R_i64_i64_i64_i64_i64) (x1 : Int) (x3 : Int) (x4 : Int) (x5 : Int) (x6 : Int) (x7 : Int) : List R_i64_i64_i64_i64_i64 := staE x0 32 (remI .i64 x1 32) (⟨x3, x4, x5, x6, x7⟩ : R_i64_i64_i64_i64_i64)
def ring_Ring_Add_pai5_Fi161_c0 (x1 : Int) (x3 : Int) (x4 : Int) (x5 : Int) (x6 : Int) (x7 : Int) : Bool := (bif tb (ring_Right_ai5_c0 x3 x4 x5 x6 x7) then (bif tb (ring_Right_ai5_r0_0 x3 x4 x5 x6 x7) then (bif tb (inb 32 (remI .i64 x1 32)) then true else false) else true) else false)
def ring_Ring_Add_pai5_Fi161_r0_0 (x3 : Int) (x4 : Int) (x5 : Int) (x6 : Int) (x7 : Int) : Int := (bif tb (ring_Right_ai5_r0_0 x3 x4 x5 x6 x7) then 0 else 1)
def ring_Ring_Add_pai5_Fi161_r0_1 (x0 : List R_i64_i64_i64_i64_i64) (x1 : Int) (x3 : Int) (x4 : Int) (x5 : Int) (x6 : Int) (x7 : Int) : List R_i64_i64_i64_i64_i64 := (bif tb (ring_Right_ai5_r0_0 x3 x4 x5 x6 x7) then (ring_Ring_Add_pai5_Fi161_e0 x0 x1 x3 x4 x5 x6 x7) else x0)
def ring_Ring_Add_pai5_Fi161_r0_2 (x1 : Int) (x3 : Int) (x4 : Int) (x5 : Int) (x6 : Int) (x7 : Int) : Int := (bif tb (ring_Right_ai5_r0_0 x3 x4 x5 x6 x7) then (wi (x1 + 1)) else x1)
theorem ring_Ring_Add_pai5_Fi161_t0 (x0 : List R_i64_i64_i64_i64_i64) (x1 : Int) (x3 : Int) (x4 : Int) (x5 : Int) (x6 : Int) (x7 : Int) : ring_Ring_Add_pai5_Fi161_c0 x1 x3 x4 x5 x6 x7 = true → cl E0 36 [(V.ptr 0 1 0 0), (V.agg [(V.d (.int .i64 x3)), (V.d (.int .i64 x4)), (V.d (.int .i64 x5)), (V.d (.int .i64 x6)), (V.d (.int .i64 x7))])] [(Blk.flat 86 161 [(arrE enc_R_i64_i64_i64_i64_i64 x0 32 ++ [(.int .i64 x1)])] false)] = some ([(V.d (.int .i64 (ring_Ring_Add_pai5_Fi161_r0_0 x3 x4 x5 x6 x7)))], [(Blk.flat 86 161 [(arrE enc_R_i64_i64_i64_i64_i64 (ring_Ring_Add_pai5_Fi161_r0_1 x0 x1 x3 x4 x5 x6 x7) 32 ++ [(.int .i64 (ring_Ring_Add_pai5_Fi161_r0_2 x1 x3 x4 x5 x6 x7))])] false)]) := by
  unfold ring_Ring_Add_pai5_Fi161_c0 ring_Ring_Add_pai5_Fi161_r0_0 ring_Ring_Add_pai5_Fi161_r0_1 ring_Ring_Add_pai5_Fi161_r0_2
  cases h1 : tb (ring_Right_ai5_c0 x3 x4 x5 x6 x7)
  · intro g0
    exact absurd g0 ft
  · cases h2 : tb (ring_Right_ai5_r0_0 x3 x4 x5 x6 x7)
    · intro g0
      exact w36 [.k false, .c (ring_Right_ai5_t0 x3 x4 x5 x6 x7 (tbE h1)), .b (notF (tbE h2))] (by kernel_rfl)
    · cases h3 : tb (inb 32 (remI .i64 x1 32))
      · intro g0
        exact absurd g0 ft
      · intro g0
        exact w36 [.k false, .c (ring_Right_ai5_t0 x3 x4 x5 x6 x7 (tbE h1)), .b (notT (tbE h2)), .o 21 (fun _ => o_idxAA (id := 0) (nn := 1) (row := 0) (off := 0) (n := 32) (s := 5) (k := .i64) (i := (remI .i64 x1 32)) (tbE h3)), .m 100021 (o_store_arrE (m := [(Blk.flat 86 161 [(arrE enc_R_i64_i64_i64_i64_i64 x0 32 ++ [(.int .i64 x1)])] false), (Blk.flat 58 5 [[(.int .i64 x3), (.int .i64 x4), (.int .i64 x5), (.int .i64 x6), (.int .i64 x7)]] false)]) (enc := enc_R_i64_i64_i64_i64_i64) (z := 5) (fun _ => rfl) (by decide) (fun _ => rfl) (id := 0) (nn := 1) (row := 0) (off := 0) (n := 32) (s := 161) (e := 86) (rows := [(arrE enc_R_i64_i64_i64_i64_i64 x0 32 ++ [(.int .i64 x1)])]) (cs := (arrE enc_R_i64_i64_i64_i64_i64 x0 32 ++ [(.int .i64 x1)])) (T := x0) (i := (remI .i64 x1 32)) (v := (⟨x3, x4, x5, x6, x7⟩ : R_i64_i64_i64_i64_i64)) (by kernel_rfl) (by kernel_rfl) (by kernel_rfl) (by kernel_rfl) (tbE h3))] (by kernel_rfl)
theorem ring_Ring_Lost_p_Fi161_t0 (x0 : List R_i64_i64_i64_i64_i64) (x1 : Int) (x2 : Bool) : cl E0 41 [(V.ptr 0 1 0 0)] [(Blk.flat 86 161 [(arrE enc_R_i64_i64_i64_i64_i64 x0 32 ++ [(.int .i64 x1)])] x2)] = some ([(V.d (.int .i64 (mxI 0 (wi (x1 - 32)))))], [(Blk.flat 86 161 [(arrE enc_R_i64_i64_i64_i64_i64 x0 32 ++ [(.int .i64 x1)])] x2)]) := by
  exact w41 [.k false] (by kernel_rfl)
structure ring_Ring_All_p_Fi161_L0_s0 where
  c0 : Bool
  c2 : Int
  c7 : List R_i64_i64_i64_i64_i64
  deriving Inhabited
def ring_Ring_All_p_Fi161_L0_h0_e0 (x0 : List R_i64_i64_i64_i64_i64) (x1 : Int) (s0 : ring_Ring_All_p_Fi161_L0_s0) : List R_i64_i64_i64_i64_i64 := (s0.c7 ++ ([⟨((gt x0 (remI .i64 (wi ((mxI 0 (wi (x1 - 32))) + s0.c2)) 32)).c0), ((gt x0 (remI .i64 (wi ((mxI 0 (wi (x1 - 32))) + s0.c2)) 32)).c1), ((gt x0 (remI .i64 (wi ((mxI 0 (wi (x1 - 32))) + s0.c2)) 32)).c2), ((gt x0 (remI .i64 (wi ((mxI 0 (wi (x1 - 32))) + s0.c2)) 32)).c3), ((gt x0 (remI .i64 (wi ((mxI 0 (wi (x1 - 32))) + s0.c2)) 32)).c4)⟩] : List R_i64_i64_i64_i64_i64))
def ring_Ring_All_p_Fi161_L0_enc (x0 : List R_i64_i64_i64_i64_i64) (x1 : Int) (x2 : List R_i64_i64_i64_i64_i64) (x3 : Bool) (x4 : Bool) (x5 : Bool) (x6 : Bool) (x7 : Int) (x8 : Int) (s0 : ring_Ring_All_p_Fi161_L0_s0) : List V × Mem := ([(V.ptr 0 1 0 0), (V.so s0.c0 2 s0.c7.length), (V.d (.int .i64 x7)), (V.d (.int .i64 s0.c2))], [(Blk.flat 86 161 [(arrE enc_R_i64_i64_i64_i64_i64 x0 32 ++ [(.int .i64 x1)])] x3), (Blk.flat 58 5 [] x4), (Blk.flat 58 5 (List.map enc_R_i64_i64_i64_i64_i64 s0.c7) false)])
def ring_Ring_All_p_Fi161_L0_sel (x0 : List R_i64_i64_i64_i64_i64) (x1 : Int) (x7 : Int) (s0 : ring_Ring_All_p_Fi161_L0_s0) : Bool := (bif tb (decide (s0.c2 < x7)) then (bif tb (inb 32 (remI .i64 (wi ((mxI 0 (wi (x1 - 32))) + s0.c2)) 32)) then (bif tb (decide ((s0.c7.length + ([⟨((gt x0 (remI .i64 (wi ((mxI 0 (wi (x1 - 32))) + s0.c2)) 32)).c0), ((gt x0 (remI .i64 (wi ((mxI 0 (wi (x1 - 32))) + s0.c2)) 32)).c1), ((gt x0 (remI .i64 (wi ((mxI 0 (wi (x1 - 32))) + s0.c2)) 32)).c2), ((gt x0 (remI .i64 (wi ((mxI 0 (wi (x1 - 32))) + s0.c2)) 32)).c3), ((gt x0 (remI .i64 (wi ((mxI 0 (wi (x1 - 32))) + s0.c2)) 32)).c4)⟩] : List R_i64_i64_i64_i64_i64).length) * 40 ≤ 140737488355328)) then true else false) else false) else false)
def ring_Ring_All_p_Fi161_L0_nx (x0 : List R_i64_i64_i64_i64_i64) (x1 : Int) (x7 : Int) (s0 : ring_Ring_All_p_Fi161_L0_s0) : ring_Ring_All_p_Fi161_L0_s0 := ⟨false, (wi (s0.c2 + 1)), (ring_Ring_All_p_Fi161_L0_h0_e0 x0 x1 s0)⟩
def ring_Ring_All_p_Fi161_L0_ok (x0 : List R_i64_i64_i64_i64_i64) (x1 : Int) (x7 : Int) (s0 : ring_Ring_All_p_Fi161_L0_s0) : Bool := (itS (ring_Ring_All_p_Fi161_L0_sel x0 x1 x7) (ring_Ring_All_p_Fi161_L0_nx x0 x1 x7) bound s0).isSome
def ring_Ring_All_p_Fi161_L0_end (x0 : List R_i64_i64_i64_i64_i64) (x1 : Int) (x7 : Int) (s0 : ring_Ring_All_p_Fi161_L0_s0) : ring_Ring_All_p_Fi161_L0_s0 := (itS (ring_Ring_All_p_Fi161_L0_sel x0 x1 x7) (ring_Ring_All_p_Fi161_L0_nx x0 x1 x7) bound s0).getD default
theorem ring_Ring_All_p_Fi161_L0_go (x0 : List R_i64_i64_i64_i64_i64) (x1 : Int) (x2 : List R_i64_i64_i64_i64_i64) (x3 : Bool) (x4 : Bool) (x5 : Bool) (x6 : Bool) (x7 : Int) (x8 : Int) (s0 : ring_Ring_All_p_Fi161_L0_s0) : ring_Ring_All_p_Fi161_L0_sel x0 x1 x7 s0 = true → (roundG (runC E0 (cl E0) L39_0) [0, 3, 13, 14] [3] 3) (ring_Ring_All_p_Fi161_L0_enc x0 x1 x2 x3 x4 x5 x6 x7 x8 s0) = some (.normal, ring_Ring_All_p_Fi161_L0_enc x0 x1 x2 x3 x4 x5 x6 x7 x8 (ring_Ring_All_p_Fi161_L0_nx x0 x1 x7 s0)) := by
  unfold ring_Ring_All_p_Fi161_L0_sel ring_Ring_All_p_Fi161_L0_nx
  cases h1 : tb (decide (s0.c2 < x7))
  · intro g0
    exact absurd g0 ft
  · cases h2 : tb (inb 32 (remI .i64 (wi ((mxI 0 (wi (x1 - 32))) + s0.c2)) 32))
    · intro g0
      exact absurd g0 ft
    · cases h3 : tb (decide ((s0.c7.length + ([⟨((gt x0 (remI .i64 (wi ((mxI 0 (wi (x1 - 32))) + s0.c2)) 32)).c0), ((gt x0 (remI .i64 (wi ((mxI 0 (wi (x1 - 32))) + s0.c2)) 32)).c1), ((gt x0 (remI .i64 (wi ((mxI 0 (wi (x1 - 32))) + s0.c2)) 32)).c2), ((gt x0 (remI .i64 (wi ((mxI 0 (wi (x1 - 32))) + s0.c2)) 32)).c3), ((gt x0 (remI .i64 (wi ((mxI 0 (wi (x1 - 32))) + s0.c2)) 32)).c4)⟩] : List R_i64_i64_i64_i64_i64).length) * 40 ≤ 140737488355328))
      · intro g0
        exact absurd g0 ft
      · intro _
        exact round_walk [.b (tbE h1), .c (ring_Ring_Lost_p_Fi161_t0 x0 x1 true), .o 26 (fun _ => o_idxAA (id := 0) (nn := 1) (row := 0) (off := 0) (n := 32) (s := 5) (k := .i64) (i := (remI .i64 (wi ((mxI 0 (wi (x1 - 32))) + s0.c2)) 32)) (tbE h2)), .m 27 (o_load_arrE (m := [(Blk.flat 86 161 [(arrE enc_R_i64_i64_i64_i64_i64 x0 32 ++ [(.int .i64 x1)])] true), (Blk.flat 58 5 [] true), (Blk.flat 58 5 (List.map enc_R_i64_i64_i64_i64_i64 s0.c7) true)]) (enc := enc_R_i64_i64_i64_i64_i64) (z := 5) (fun _ => rfl) (by decide) (id := 0) (nn := 1) (row := 0) (off := 0) (n := 32) (o := 0) (size := 5) (agg := true) (T := x0) (i := (remI .i64 (wi ((mxI 0 (wi (x1 - 32))) + s0.c2)) 32)) (v := (V.agg [(V.d (.int .i64 ((gt x0 (remI .i64 (wi ((mxI 0 (wi (x1 - 32))) + s0.c2)) 32)).c0))), (V.d (.int .i64 ((gt x0 (remI .i64 (wi ((mxI 0 (wi (x1 - 32))) + s0.c2)) 32)).c1))), (V.d (.int .i64 ((gt x0 (remI .i64 (wi ((mxI 0 (wi (x1 - 32))) + s0.c2)) 32)).c2))), (V.d (.int .i64 ((gt x0 (remI .i64 (wi ((mxI 0 (wi (x1 - 32))) + s0.c2)) 32)).c3))), (V.d (.int .i64 ((gt x0 (remI .i64 (wi ((mxI 0 (wi (x1 - 32))) + s0.c2)) 32)).c4)))])) (by kernel_rfl) (tbE h2) (by kernel_rfl)), .m 29 (o_app_so (nl := s0.c0) (m := [(Blk.flat 86 161 [(arrE enc_R_i64_i64_i64_i64_i64 x0 32 ++ [(.int .i64 x1)])] x3), (Blk.flat 58 5 [] x4), (Blk.flat 58 5 (List.map enc_R_i64_i64_i64_i64_i64 s0.c7) false), (Blk.flat 58 5 [[(.int .i64 ((gt x0 (remI .i64 (wi ((mxI 0 (wi (x1 - 32))) + s0.c2)) 32)).c0)), (.int .i64 ((gt x0 (remI .i64 (wi ((mxI 0 (wi (x1 - 32))) + s0.c2)) 32)).c1)), (.int .i64 ((gt x0 (remI .i64 (wi ((mxI 0 (wi (x1 - 32))) + s0.c2)) 32)).c2)), (.int .i64 ((gt x0 (remI .i64 (wi ((mxI 0 (wi (x1 - 32))) + s0.c2)) 32)).c3)), (.int .i64 ((gt x0 (remI .i64 (wi ((mxI 0 (wi (x1 - 32))) + s0.c2)) 32)).c4))]] false)]) (enc := enc_R_i64_i64_i64_i64_i64) (l0 := s0.c7) (l1 := ([⟨((gt x0 (remI .i64 (wi ((mxI 0 (wi (x1 - 32))) + s0.c2)) 32)).c0), ((gt x0 (remI .i64 (wi ((mxI 0 (wi (x1 - 32))) + s0.c2)) 32)).c1), ((gt x0 (remI .i64 (wi ((mxI 0 (wi (x1 - 32))) + s0.c2)) 32)).c2), ((gt x0 (remI .i64 (wi ((mxI 0 (wi (x1 - 32))) + s0.c2)) 32)).c3), ((gt x0 (remI .i64 (wi ((mxI 0 (wi (x1 - 32))) + s0.c2)) 32)).c4)⟩] : List R_i64_i64_i64_i64_i64)) (id := 2) (e := 58) (s := 5) (bytes := 40) (x := (V.so false 3 1)) (n := s0.c7.length) (Nat.beq_refl _) (by kernel_rfl) (by kernel_rfl) (by kernel_rfl) (tbE h3))] (by kernel_rfl)
def ring_Ring_All_p_Fi161_L0_c0 (x7 : Int) (s0 : ring_Ring_All_p_Fi161_L0_s0) : Bool := (bif tb (decide (s0.c2 < x7)) then false else true)
theorem ring_Ring_All_p_Fi161_L0_x0 (x0 : List R_i64_i64_i64_i64_i64) (x1 : Int) (x2 : List R_i64_i64_i64_i64_i64) (x3 : Bool) (x4 : Bool) (x5 : Bool) (x6 : Bool) (x7 : Int) (x8 : Int) (s0 : ring_Ring_All_p_Fi161_L0_s0) : ring_Ring_All_p_Fi161_L0_sel x0 x1 x7 s0 = false → ring_Ring_All_p_Fi161_L0_c0 x7 s0 = true → (roundG (runC E0 (cl E0) L39_0) [0, 3, 13, 14] [3] 3) (ring_Ring_All_p_Fi161_L0_enc x0 x1 x2 x3 x4 x5 x6 x7 x8 s0) = some ((.exit 0), ([(V.so s0.c0 2 s0.c7.length)], [(Blk.flat 86 161 [(arrE enc_R_i64_i64_i64_i64_i64 x0 32 ++ [(.int .i64 x1)])] x3), (Blk.flat 58 5 [] x4), (Blk.flat 58 5 (List.map enc_R_i64_i64_i64_i64_i64 s0.c7) false)])) := by
  unfold ring_Ring_All_p_Fi161_L0_sel ring_Ring_All_p_Fi161_L0_c0
  cases h1 : tb (decide (s0.c2 < x7))
  · intro g0 g1
    exact round_walk [.b (tbE h1)] (by kernel_rfl)
  · cases h2 : tb (inb 32 (remI .i64 (wi ((mxI 0 (wi (x1 - 32))) + s0.c2)) 32))
    · intro g0 g1
      exact absurd g1 ft
    · cases h3 : tb (decide ((s0.c7.length + ([⟨((gt x0 (remI .i64 (wi ((mxI 0 (wi (x1 - 32))) + s0.c2)) 32)).c0), ((gt x0 (remI .i64 (wi ((mxI 0 (wi (x1 - 32))) + s0.c2)) 32)).c1), ((gt x0 (remI .i64 (wi ((mxI 0 (wi (x1 - 32))) + s0.c2)) 32)).c2), ((gt x0 (remI .i64 (wi ((mxI 0 (wi (x1 - 32))) + s0.c2)) 32)).c3), ((gt x0 (remI .i64 (wi ((mxI 0 (wi (x1 - 32))) + s0.c2)) 32)).c4)⟩] : List R_i64_i64_i64_i64_i64).length) * 40 ≤ 140737488355328))
      · intro g0 g1
        exact absurd g1 ft
      · intro g0 g1
        exact absurd g0 tf
theorem ring_Ring_All_p_Fi161_L0_f0_0 (x0 : List R_i64_i64_i64_i64_i64) (x1 : Int) (x2 : List R_i64_i64_i64_i64_i64) (x3 : Bool) (x4 : Bool) (x5 : Bool) (x6 : Bool) (x7 : Int) (x8 : Int) (s : ring_Ring_All_p_Fi161_L0_s0) (hok : ring_Ring_All_p_Fi161_L0_ok x0 x1 x7 s = true) (c0 : ring_Ring_All_p_Fi161_L0_c0 x7 (ring_Ring_All_p_Fi161_L0_end x0 x1 x7 s) = true) : loopG (roundG (runC E0 (cl E0) L39_0) [0, 3, 13, 14] [3] 3) bound (ring_Ring_All_p_Fi161_L0_enc x0 x1 x2 x3 x4 x5 x6 x7 x8 s) = some ((.exit 0), ([(V.so ((ring_Ring_All_p_Fi161_L0_end x0 x1 x7 s).c0) 2 (((ring_Ring_All_p_Fi161_L0_end x0 x1 x7 s).c7).length))], [(Blk.flat 86 161 [(arrE enc_R_i64_i64_i64_i64_i64 x0 32 ++ [(.int .i64 x1)])] x3), (Blk.flat 58 5 [] x4), (Blk.flat 58 5 (List.map enc_R_i64_i64_i64_i64_i64 ((ring_Ring_All_p_Fi161_L0_end x0 x1 x7 s).c7)) false)])) := by
  have e : itS (ring_Ring_All_p_Fi161_L0_sel x0 x1 x7) (ring_Ring_All_p_Fi161_L0_nx x0 x1 x7) bound s = some (ring_Ring_All_p_Fi161_L0_end x0 x1 x7 s) := itS_get hok
  have f := itS_false e
  exact loop_it (ring_Ring_All_p_Fi161_L0_go x0 x1 x2 x3 x4 x5 x6 x7 x8) bound s _ _ _ e (fun h => by cases h) (ring_Ring_All_p_Fi161_L0_x0 x0 x1 x2 x3 x4 x5 x6 x7 x8 (ring_Ring_All_p_Fi161_L0_end x0 x1 x7 s) f c0)
def ring_Ring_All_p_Fi161_e0 (x0 : List R_i64_i64_i64_i64_i64) (x1 : Int) : ring_Ring_All_p_Fi161_L0_s0 := ring_Ring_All_p_Fi161_L0_end x0 x1 (wi (x1 - (mxI 0 (wi (x1 - 32))))) (⟨true, 0, ([] : List R_i64_i64_i64_i64_i64)⟩ : ring_Ring_All_p_Fi161_L0_s0)
def ring_Ring_All_p_Fi161_c0 (x0 : List R_i64_i64_i64_i64_i64) (x1 : Int) : Bool := (bif tb (ring_Ring_All_p_Fi161_L0_ok x0 x1 (wi (x1 - (mxI 0 (wi (x1 - 32))))) (⟨true, 0, ([] : List R_i64_i64_i64_i64_i64)⟩ : ring_Ring_All_p_Fi161_L0_s0)) then (bif tb (ring_Ring_All_p_Fi161_L0_c0 (wi (x1 - (mxI 0 (wi (x1 - 32))))) (ring_Ring_All_p_Fi161_e0 x0 x1)) then true else false) else false)
theorem ring_Ring_All_p_Fi161_t0 (x0 : List R_i64_i64_i64_i64_i64) (x1 : Int) (x2 : Bool) : ring_Ring_All_p_Fi161_c0 x0 x1 = true → cl E0 39 [(V.ptr 0 1 0 0)] [(Blk.flat 86 161 [(arrE enc_R_i64_i64_i64_i64_i64 x0 32 ++ [(.int .i64 x1)])] x2)] = some ([(V.so ((ring_Ring_All_p_Fi161_e0 x0 x1).c0) 1 (((ring_Ring_All_p_Fi161_e0 x0 x1).c7).length))], [(Blk.flat 86 161 [(arrE enc_R_i64_i64_i64_i64_i64 x0 32 ++ [(.int .i64 x1)])] x2), (Blk.flat 58 5 (List.map enc_R_i64_i64_i64_i64_i64 ((ring_Ring_All_p_Fi161_e0 x0 x1).c7)) false)]) := by
  unfold ring_Ring_All_p_Fi161_c0
  cases h1 : tb (ring_Ring_All_p_Fi161_L0_ok x0 x1 (wi (x1 - (mxI 0 (wi (x1 - 32))))) (⟨true, 0, ([] : List R_i64_i64_i64_i64_i64)⟩ : ring_Ring_All_p_Fi161_L0_s0))
  · intro g0
    exact absurd g0 ft
  · cases h2 : tb (ring_Ring_All_p_Fi161_L0_c0 (wi (x1 - (mxI 0 (wi (x1 - 32))))) (ring_Ring_All_p_Fi161_e0 x0 x1))
    · intro g0
      exact absurd g0 ft
    · intro g0
      exact w39 [.k false, .c (ring_Ring_Lost_p_Fi161_t0 x0 x1 true), .l (ring_Ring_All_p_Fi161_L0_f0_0 x0 x1 ([] : List R_i64_i64_i64_i64_i64) x2 false false true (wi (x1 - (mxI 0 (wi (x1 - 32))))) 0 (⟨true, 0, ([] : List R_i64_i64_i64_i64_i64)⟩ : ring_Ring_All_p_Fi161_L0_s0) (tbE h1) (tbE h2))] (by kernel_rfl)
def ring_Text_ai5_e0 (x0 : Int) (x1 : Int) (x2 : Int) (x3 : Int) (x4 : Int) : List ByteArray := [⟨#[99, 121, 99, 108, 101]⟩, ⟨(digsN (x0 : Int).toNat).toArray⟩, ⟨#[99, 104, 97, 110, 110, 101, 108]⟩, ⟨(digsN (x1 : Int).toNat).toArray⟩, ⟨#[115, 105, 103, 110, 97, 108]⟩, ⟨(digsN (x2 : Int).toNat).toArray⟩, (gt [gl1_0, gl1_1, gl1_2] x3), (trip_Text_i_r0_0 x4)]
def ring_Text_ai5_c0 (x0 : Int) (x1 : Int) (x2 : Int) (x3 : Int) (x4 : Int) : Bool := (bif tb (ring_Right_ai5_c0 x0 x1 x2 x3 x4) then (bif tb (ring_Right_ai5_r0_0 x0 x1 x2 x3 x4) then (bif tb (strconv_Itoa_i_c0 x0) then (bif tb (strconv_Itoa_i_c0 x1) then (bif tb (strconv_Itoa_i_c0 x2) then (bif tb (inb 3 x3) then (bif tb (trip_Text_i_c0 x4) then (bif tb (strings_Join_os_c0 false (ring_Text_ai5_e0 x0 x1 x2 x3 x4) ⟨#[32]⟩) then true else false) else false) else false) else false) else false) else false) else true) else false)
def ring_Text_ai5_r0_0 (x0 : Int) (x1 : Int) (x2 : Int) (x3 : Int) (x4 : Int) : ByteArray := (bif tb (ring_Right_ai5_r0_0 x0 x1 x2 x3 x4) then (joinB (ring_Text_ai5_e0 x0 x1 x2 x3 x4) ⟨#[32]⟩) else ⟨#[]⟩)
theorem ring_Text_ai5_t0 (x0 : Int) (x1 : Int) (x2 : Int) (x3 : Int) (x4 : Int) : ring_Text_ai5_c0 x0 x1 x2 x3 x4 = true → cl E0 44 [(V.agg [(V.d (.int .i64 x0)), (V.d (.int .i64 x1)), (V.d (.int .i64 x2)), (V.d (.int .i64 x3)), (V.d (.int .i64 x4))])] [] = some ([(V.d (.str (ring_Text_ai5_r0_0 x0 x1 x2 x3 x4)))], []) := by
  unfold ring_Text_ai5_c0 ring_Text_ai5_r0_0
  cases h1 : tb (ring_Right_ai5_c0 x0 x1 x2 x3 x4)
  · intro g0
    exact absurd g0 ft
  · cases h2 : tb (ring_Right_ai5_r0_0 x0 x1 x2 x3 x4)
    · intro g0
      exact w44 [.c (ring_Right_ai5_t0 x0 x1 x2 x3 x4 (tbE h1)), .b (notF (tbE h2))] (by kernel_rfl)
    · cases h3 : tb (strconv_Itoa_i_c0 x0)
      · intro g0
        exact absurd g0 ft
      · cases h4 : tb (strconv_Itoa_i_c0 x1)
        · intro g0
          exact absurd g0 ft
        · cases h5 : tb (strconv_Itoa_i_c0 x2)
          · intro g0
            exact absurd g0 ft
          · cases h6 : tb (inb 3 x3)
            · intro g0
              exact absurd g0 ft
            · cases h7 : tb (trip_Text_i_c0 x4)
              · intro g0
                exact absurd g0 ft
              · cases h8 : tb (strings_Join_os_c0 false (ring_Text_ai5_e0 x0 x1 x2 x3 x4) ⟨#[32]⟩)
                · intro g0
                  exact absurd g0 ft
                · intro g0
                  exact w44 [.c (ring_Right_ai5_t0 x0 x1 x2 x3 x4 (tbE h1)), .b (notT (tbE h2)), .c (strconv_Itoa_i_t0 x0 (tbE h3)), .c (strconv_Itoa_i_t0 x1 (tbE h4)), .c (strconv_Itoa_i_t0 x2 (tbE h5)), .o 17 (fun _ => o_idxAA_rps (ss := [gl1_0, gl1_1, gl1_2]) (n := 3) (k := .i64) (i := x3) rfl (tbE h6)), .c (trip_Text_i_t0 x4 (tbE h7)), .c (strings_Join_os_t0 false (ring_Text_ai5_e0 x0 x1 x2 x3 x4) ⟨#[32]⟩ (tbE h8))] (by kernel_rfl)
theorem ring_Ring_Add_nai5_t0 (x0 : Int) (x1 : Int) (x2 : Int) (x3 : Int) (x4 : Int) : cl E0 36 [(V.d .nilp), (V.agg [(V.d (.int .i64 x0)), (V.d (.int .i64 x1)), (V.d (.int .i64 x2)), (V.d (.int .i64 x3)), (V.d (.int .i64 x4))])] [] = some ([(V.d (.int .i64 1))], []) := by
  exact w36 [.k true] (by kernel_rfl)
theorem ring_Ring_All_n_t0  : cl E0 39 [(V.d .nilp)] [] = some ([(V.so true 0 0)], [(Blk.flat 58 5 [] false)]) := by
  exact w39 [.k true] (by kernel_rfl)
theorem ring_Ring_Lost_n_t0  : cl E0 41 [(V.d .nilp)] [] = some ([(V.d (.int .i64 0))], []) := by
  exact w41 [.k true] (by kernel_rfl)
end Go.Proofs.YtkipngagfiaddaaDoor.Den

namespace Go.Proofs.YtkipngagfiaddaaDoor.Den
open Go Go.Proofs
set_option linter.unusedVariables false
set_option linter.unusedSimpArgs false
set_option maxRecDepth 100000
abbrev N5 := R_i64_i64_i64_i64_i64
def rN (n : N5) : Bool := ring_Right_ai5_r0_0 n.c0 n.c1 n.c2 n.c3 n.c4
theorem trip_all : ((List.range 64).all fun n => trip_Text_i_c0 (n : Int)) = true := by kernel_rfl
theorem trip_c (x : Int) : trip_Text_i_c0 x = true := by
  by_cases h : 0 ≤ x ∧ x ≤ 63
  · have := List.all_eq_true.1 trip_all x.toNat (List.mem_range.2 (by omega))
    rwa [show ((x.toNat : Nat) : Int) = x by omega] at this
  · have : trip_Text_i_S0_c0 x = true := by
      simp only [trip_Text_i_S0_c0, tb_eq]
      by_cases h1 : x < 0
      · simp [h1]
      · have h2 : 63 < x := by omega
        simp [h1, h2]
    simp only [trip_Text_i_c0, this, tb_eq]; rfl
theorem rN_c (a b c d e : Int) : ring_Right_ai5_c0 a b c d e = true := by
  simp only [ring_Right_ai5_c0, trip_c, tb_eq]
  cases decide (0 ≤ a) <;> cases ring_Right_c1_ii_r0_0 b 4 <;> cases ring_Right_c1_ii_r0_0 c 8 <;> cases ring_Right_c1_ii_r0_0 d 3 <;> rfl
def RingOK (T m : List N5) : Prop := T.length = 32 ∧ ∀ j, j < m.length → m.length ≤ j + 32 → gt T ((j % 32 : Nat) : Int) = gt m (j : Int)
theorem ring_add {T m : List N5} (h : RingOK T m) (n : N5) : RingOK (staE T 32 ((m.length % 32 : Nat) : Int) n) (m ++ [n]) := by
  obtain ⟨h1, h2⟩ := h
  have hs : staE T 32 ((m.length % 32 : Nat) : Int) n = T.set (m.length % 32) n := by
    unfold staE st; rw [tabE_id h1]; rfl
  rw [hs]
  refine ⟨by simp [h1], fun j hj hk => ?_⟩
  rw [List.length_append, List.length_singleton] at hj hk
  have hlt : j % 32 < (T.set (m.length % 32) n).length := by rw [List.length_set]; omega
  rw [gt_nat hlt, gt_nat (by rw [List.length_append, List.length_singleton]; exact hj), List.getElem_set]
  by_cases e : j = m.length
  · subst e
    rw [if_pos rfl]; simp
  · have hj' : j < m.length := by omega
    have hne : ¬ m.length % 32 = j % 32 := by omega
    rw [if_neg hne, List.getElem_append_left hj', ← gt_nat, ← gt_nat]
    exact h2 j hj' (by omega)
theorem add_eq {T m : List N5} (n : N5) (hm : m.length ≤ 100000) :
    ring_Ring_Add_pai5_Fi161_c0 ((m.length : Nat) : Int) n.c0 n.c1 n.c2 n.c3 n.c4 = true ∧ ring_Ring_Add_pai5_Fi161_r0_0 n.c0 n.c1 n.c2 n.c3 n.c4 = (if rN n = true then 0 else 1) ∧
    ring_Ring_Add_pai5_Fi161_r0_1 T ((m.length : Nat) : Int) n.c0 n.c1 n.c2 n.c3 n.c4 = (if rN n = true then staE T 32 ((m.length % 32 : Nat) : Int) n else T) ∧
    ring_Ring_Add_pai5_Fi161_r0_2 ((m.length : Nat) : Int) n.c0 n.c1 n.c2 n.c3 n.c4 = (if rN n = true then ((m.length + 1 : Nat) : Int) else ((m.length : Nat) : Int)) := by
  have hr : ring_Right_ai5_r0_0 n.c0 n.c1 n.c2 n.c3 n.c4 = rN n := rfl
  have hi : remI .i64 ((m.length : Nat) : Int) 32 = ((m.length % 32 : Nat) : Int) := by rw [rem_i64 (by omega)]; omega
  have i1 : inb 32 ((m.length % 32 : Nat) : Int) = true := inb_of (by omega) (by omega)
  have hw : wi (((m.length : Nat) : Int) + 1) = ((m.length + 1 : Nat) : Int) := by rw [wi_eq (by omega) (by omega)]; omega
  simp only [ring_Ring_Add_pai5_Fi161_c0, ring_Ring_Add_pai5_Fi161_r0_0, ring_Ring_Add_pai5_Fi161_r0_1, ring_Ring_Add_pai5_Fi161_r0_2, ring_Ring_Add_pai5_Fi161_e0, rN_c, hr, hi, i1, hw, tb_eq]
  cases rN n <;> simp
theorem lost_eq {m : List N5} (hm : m.length ≤ 100000) : mxI 0 (wi (((m.length : Nat) : Int) - 32)) = ((m.length - 32 : Nat) : Int) := by
  rw [wi_eq (by omega) (by omega), mxI_eq]; omega
theorem all_eq {T m : List N5} (h : RingOK T m) (hm : m.length ≤ 100000) : ring_Ring_All_p_Fi161_c0 T ((m.length : Nat) : Int) = true ∧ (ring_Ring_All_p_Fi161_e0 T ((m.length : Nat) : Int)).c7 = m.drop (m.length - 32) := by
  obtain ⟨h1, h2⟩ := h
  have hx : wi (((m.length : Nat) : Int) - mxI 0 (wi (((m.length : Nat) : Int) - 32))) = ((m.length - (m.length - 32) : Nat) : Int) := by
    rw [lost_eq hm, wi_eq (by omega) (by omega)]; omega
  have run := loop_seq (sel := ring_Ring_All_p_Fi161_L0_sel T ((m.length : Nat) : Int) ((m.length - (m.length - 32) : Nat) : Int)) (nx := ring_Ring_All_p_Fi161_L0_nx T ((m.length : Nat) : Int) ((m.length - (m.length - 32) : Nat) : Int))
    (fun k => (⟨decide (k = 0), (k : Int), (m.drop (m.length - 32)).take k⟩ : ring_Ring_All_p_Fi161_L0_s0)) (m.length - (m.length - 32)) (by omega) (fun k hk => by
      have e1 : wi (((m.length - 32 : Nat) : Int) + (k : Int)) = ((m.length - 32 + k : Nat) : Int) := by rw [wi_eq (by omega) (by omega)]; omega
      have e2 : remI .i64 ((m.length - 32 + k : Nat) : Int) 32 = (((m.length - 32 + k) % 32 : Nat) : Int) := by rw [rem_i64 (by omega)]; omega
      have i1 : inb 32 (((m.length - 32 + k) % 32 : Nat) : Int) = true := inb_of (by omega) (by omega)
      have hl : ((m.drop (m.length - 32)).take k).length = k := by rw [List.length_take, List.length_drop]; omega
      have hw : wi ((k : Int) + 1) = ((k + 1 : Nat) : Int) := by rw [wi_eq (by omega) (by omega)]; omega
      have he := h2 (m.length - 32 + k) (by omega) (by omega)
      constructor
      · simp only [ring_Ring_All_p_Fi161_L0_sel, lost_eq hm, e1, e2, i1, hl, tb_eq]
        rw [decide_eq_true (show (k : Int) < ((m.length - (m.length - 32) : Nat) : Int) by omega), decide_eq_true (by show (k + 1) * 40 ≤ _; omega)]; rfl
      · have eE : ring_Ring_All_p_Fi161_L0_h0_e0 T ((m.length : Nat) : Int) ⟨decide (k = 0), (k : Int), (m.drop (m.length - 32)).take k⟩ = (m.drop (m.length - 32)).take (k + 1) := by
          show (m.drop (m.length - 32)).take k ++ [gt T (remI .i64 (wi ((mxI 0 (wi (((m.length : Nat) : Int) - 32))) + (k : Int))) 32)] = _
          rw [lost_eq hm, e1, e2, he, take_succ_gt (show k < (m.drop (m.length - 32)).length by rw [List.length_drop]; omega), gt_nat (by omega), gt_nat (by rw [List.length_drop]; omega), List.getElem_drop]
        simp only [ring_Ring_All_p_Fi161_L0_nx, eE, hw]
        simp) (by simp [ring_Ring_All_p_Fi161_L0_sel, tb_eq])
  simp only [List.take_zero, decide_true] at run
  rw [show ((0 : Nat) : Int) = 0 from rfl] at run
  have e0 : ring_Ring_All_p_Fi161_e0 T ((m.length : Nat) : Int) = ⟨decide (m.length - (m.length - 32) = 0), ((m.length - (m.length - 32) : Nat) : Int), (m.drop (m.length - 32)).take (m.length - (m.length - 32))⟩ := by
    simp only [ring_Ring_All_p_Fi161_e0, hx, ring_Ring_All_p_Fi161_L0_end, run, Option.getD_some]
  refine ⟨?_, ?_⟩
  · simp only [ring_Ring_All_p_Fi161_c0, e0, hx, ring_Ring_All_p_Fi161_L0_ok, run, Option.isSome_some, ring_Ring_All_p_Fi161_L0_c0, tb_eq]
    rw [decide_eq_false (by omega)]; rfl
  · rw [e0]
    show (m.drop (m.length - 32)).take (m.length - (m.length - 32)) = _
    rw [List.take_of_length_le (by rw [List.length_drop]; omega)]
end Go.Proofs.YtkipngagfiaddaaDoor.Den

namespace Go.Proofs.YtkipngagfiaddaaDoor.Den
open Go Go.Proofs
set_option maxRecDepth 100000
set_option maxHeartbeats 4000000
set_option linter.unusedVariables false
set_option linter.unusedSimpArgs false
def ref01_Has_ii_S0_c0 (x0 : Int) (x1 : Int) : Bool := (bif tb (decide (x0 < 0)) then true else (bif tb (decide (65535 < x0)) then true else (bif tb (decide (x1 < 0)) then true else (bif tb (decide (15 < x1)) then true else false))))
theorem ref01_Has_ii_S0_t0 (x0 : Int) (x1 : Int) : ref01_Has_ii_S0_c0 x0 x1 = true → segG (runC E0 (cl E0) S61_0) [0, 1] [4] [0, 1] 0 ([(V.d (.int .i64 x0)), (V.d (.int .i64 x1))], []) = some (.ret, ([(V.d (.bool false))], [])) := by
  unfold ref01_Has_ii_S0_c0
  cases h1 : tb (decide (x0 < 0))
  · cases h2 : tb (decide (65535 < x0))
    · cases h3 : tb (decide (x1 < 0))
      · cases h4 : tb (decide (15 < x1))
        · intro g0
          exact absurd g0 ft
        · intro g0
          exact seg_walk [.b (tbE h1), .b (tbE h2), .b (tbE h3), .b (tbE h4)] (by kernel_rfl)
      · intro g0
        exact seg_walk [.b (tbE h1), .b (tbE h2), .b (tbE h3)] (by kernel_rfl)
    · intro g0
      exact seg_walk [.b (tbE h1), .b (tbE h2)] (by kernel_rfl)
  · intro g0
    exact seg_walk [.b (tbE h1)] (by kernel_rfl)
theorem ref01_Has_ii_S0_t1 (x0 : Int) (x1 : Int) : ref01_Has_ii_S0_c0 x0 x1 = false → segG (runC E0 (cl E0) S61_0) [0, 1] [4] [0, 1] 0 ([(V.d (.int .i64 x0)), (V.d (.int .i64 x1))], []) = some (.normal, ([(V.d (.int .i64 x0)), (V.d (.int .i64 x1))], [])) := by
  unfold ref01_Has_ii_S0_c0
  cases h1 : tb (decide (x0 < 0))
  · cases h2 : tb (decide (65535 < x0))
    · cases h3 : tb (decide (x1 < 0))
      · cases h4 : tb (decide (15 < x1))
        · intro g0
          exact seg_walk [.b (tbE h1), .b (tbE h2), .b (tbE h3), .b (tbE h4)] (by kernel_rfl)
        · intro g0
          exact absurd g0 tf
      · intro g0
        exact absurd g0 tf
    · intro g0
      exact absurd g0 tf
  · intro g0
    exact absurd g0 tf
structure ref01_Has_ii_L1_s0 where
  c1 : Int
  c2 : Int
  deriving Inhabited
def ref01_Has_ii_L1_enc (x0 : Int) (x1 : Int) (x2 : Int) (s0 : ref01_Has_ii_L1_s0) : List V × Mem := ([(V.d (.int .i64 x0)), (V.d (.int .i64 s0.c1)), (V.d (.int .i64 s0.c2))], [])
def ref01_Has_ii_L1_sel (x0 : Int) (s0 : ref01_Has_ii_L1_s0) : Bool := (bif tb (decide (s0.c2 < x0)) then true else false)
def ref01_Has_ii_L1_nx (x0 : Int) (s0 : ref01_Has_ii_L1_s0) : ref01_Has_ii_L1_s0 := ⟨(quoI .i64 s0.c1 2), (wi (s0.c2 + 1))⟩
def ref01_Has_ii_L1_ok (x0 : Int) (s0 : ref01_Has_ii_L1_s0) : Bool := (itS (ref01_Has_ii_L1_sel x0) (ref01_Has_ii_L1_nx x0) bound s0).isSome
def ref01_Has_ii_L1_end (x0 : Int) (s0 : ref01_Has_ii_L1_s0) : ref01_Has_ii_L1_s0 := (itS (ref01_Has_ii_L1_sel x0) (ref01_Has_ii_L1_nx x0) bound s0).getD default
theorem ref01_Has_ii_L1_go (x0 : Int) (x1 : Int) (x2 : Int) (s0 : ref01_Has_ii_L1_s0) : ref01_Has_ii_L1_sel x0 s0 = true → (roundG (runC E0 (cl E0) L61_1) [1, 5, 6] [5] 0) (ref01_Has_ii_L1_enc x0 x1 x2 s0) = some (.normal, ref01_Has_ii_L1_enc x0 x1 x2 (ref01_Has_ii_L1_nx x0 s0)) := by
  unfold ref01_Has_ii_L1_sel ref01_Has_ii_L1_nx
  cases h1 : tb (decide (s0.c2 < x0))
  · intro g0
    exact absurd g0 ft
  · intro _
    exact round_walk [.b (tbE h1)] (by kernel_rfl)
theorem ref01_Has_ii_L1_x0 (x0 : Int) (x1 : Int) (x2 : Int) (s0 : ref01_Has_ii_L1_s0) : ref01_Has_ii_L1_sel x0 s0 = false → (roundG (runC E0 (cl E0) L61_1) [1, 5, 6] [5] 0) (ref01_Has_ii_L1_enc x0 x1 x2 s0) = some ((.exit 0), ([(V.d (.int .i64 s0.c1))], [])) := by
  unfold ref01_Has_ii_L1_sel
  cases h1 : tb (decide (s0.c2 < x0))
  · intro g0
    exact round_walk [.b (tbE h1)] (by kernel_rfl)
  · intro g0
    exact absurd g0 tf
theorem ref01_Has_ii_L1_f0_0 (x0 : Int) (x1 : Int) (x2 : Int) (s : ref01_Has_ii_L1_s0) (hok : ref01_Has_ii_L1_ok x0 s = true) : loopG (roundG (runC E0 (cl E0) L61_1) [1, 5, 6] [5] 0) bound (ref01_Has_ii_L1_enc x0 x1 x2 s) = some ((.exit 0), ([(V.d (.int .i64 ((ref01_Has_ii_L1_end x0 s).c1)))], [])) := by
  have e : itS (ref01_Has_ii_L1_sel x0) (ref01_Has_ii_L1_nx x0) bound s = some (ref01_Has_ii_L1_end x0 s) := itS_get hok
  have f := itS_false e
  exact loop_it (ref01_Has_ii_L1_go x0 x1 x2) bound s _ _ _ e (fun h => by cases h) (ref01_Has_ii_L1_x0 x0 x1 x2 (ref01_Has_ii_L1_end x0 s) f )
def ref01_Has_ii_S2_c0 (x0 : Int) (x1 : Int) : Bool := (bif tb (ref01_Has_ii_L1_ok x0 (⟨x1, 0⟩ : ref01_Has_ii_L1_s0)) then true else false)
theorem ref01_Has_ii_S2_t0 (x0 : Int) (x1 : Int) : ref01_Has_ii_S2_c0 x0 x1 = true → segG (runC E0 (cl E0) S61_2) [1, 5] [] [5] 0 ([(V.d (.int .i64 x0)), (V.d (.int .i64 x1))], []) = some (.normal, ([(V.d (.int .i64 ((ref01_Has_ii_L1_end x0 (⟨x1, 0⟩ : ref01_Has_ii_L1_s0)).c1)))], [])) := by
  unfold ref01_Has_ii_S2_c0
  cases h1 : tb (ref01_Has_ii_L1_ok x0 (⟨x1, 0⟩ : ref01_Has_ii_L1_s0))
  · intro g0
    exact absurd g0 ft
  · intro g0
    exact seg_walk [.l (ref01_Has_ii_L1_f0_0 x0 x1 0 (⟨x1, 0⟩ : ref01_Has_ii_L1_s0) (tbE h1))] (by kernel_rfl)
def ref01_Has_ii_e0 (x0 : Int) (x1 : Int) : Int := remI .i64 ((ref01_Has_ii_L1_end x1 (⟨x0, 0⟩ : ref01_Has_ii_L1_s0)).c1) 2
def ref01_Has_ii_c0 (x0 : Int) (x1 : Int) : Bool := (bif tb (ref01_Has_ii_S0_c0 x0 x1) then true else (bif tb (ref01_Has_ii_S2_c0 x1 x0) then true else false))
def ref01_Has_ii_r0_0 (x0 : Int) (x1 : Int) : Bool := (bif tb (ref01_Has_ii_S0_c0 x0 x1) then false else (((ref01_Has_ii_e0 x0 x1) : Int) == 1))
theorem ref01_Has_ii_t0 (x0 : Int) (x1 : Int) : ref01_Has_ii_c0 x0 x1 = true → cl E0 61 [(V.d (.int .i64 x0)), (V.d (.int .i64 x1))] [] = some ([(V.d (.bool (ref01_Has_ii_r0_0 x0 x1)))], []) := by
  unfold ref01_Has_ii_c0 ref01_Has_ii_r0_0
  cases h1 : tb (ref01_Has_ii_S0_c0 x0 x1)
  · cases h2 : tb (ref01_Has_ii_S2_c0 x1 x0)
    · intro g0
      exact absurd g0 ft
    · intro g0
      exact w61 [.s (ref01_Has_ii_S0_t1 x0 x1 (tbE h1)), .s (ref01_Has_ii_S2_t0 x1 x0 (tbE h2))] (by kernel_rfl)
  · intro g0
    exact w61 [.s (ref01_Has_ii_S0_t0 x0 x1 (tbE h1))] (by kernel_rfl)
end Go.Proofs.YtkipngagfiaddaaDoor.Den

namespace Go.Proofs.YtkipngagfiaddaaDoor.Den
open Go Go.Proofs
set_option maxRecDepth 100000
set_option maxHeartbeats 4000000
set_option linter.unusedVariables false
set_option linter.unusedSimpArgs false
def ref14_Text_i_S0_c0 (x0 : Int) : Bool := (bif tb (decide (x0 < 0)) then true else (bif tb (decide (63 < x0)) then true else false))
theorem ref14_Text_i_S0_t0 (x0 : Int) : ref14_Text_i_S0_c0 x0 = true → segG (runC E0 (cl E0) S73_0) [0] [2] [0] 0 ([(V.d (.int .i64 x0))], []) = some (.ret, ([(V.d (.str ⟨#[]⟩))], [])) := by
  unfold ref14_Text_i_S0_c0
  cases h1 : tb (decide (x0 < 0))
  · cases h2 : tb (decide (63 < x0))
    · intro g0
      exact absurd g0 ft
    · intro g0
      exact seg_walk [.b (tbE h1), .b (tbE h2)] (by kernel_rfl)
  · intro g0
    exact seg_walk [.b (tbE h1)] (by kernel_rfl)
theorem ref14_Text_i_S0_t1 (x0 : Int) : ref14_Text_i_S0_c0 x0 = false → segG (runC E0 (cl E0) S73_0) [0] [2] [0] 0 ([(V.d (.int .i64 x0))], []) = some (.normal, ([(V.d (.int .i64 x0))], [])) := by
  unfold ref14_Text_i_S0_c0
  cases h1 : tb (decide (x0 < 0))
  · cases h2 : tb (decide (63 < x0))
    · intro g0
      exact seg_walk [.b (tbE h1), .b (tbE h2)] (by kernel_rfl)
    · intro g0
      exact absurd g0 tf
  · intro g0
    exact absurd g0 tf
theorem ref14_names_t0  : cl E0 89 [] [] = some ([(V.so false 0 6)], [(Blk.flat 9 1 [[(.str ⟨#[102, 114, 97, 109, 101]⟩)], [(.str ⟨#[114, 97, 110, 103, 101]⟩)], [(.str ⟨#[115, 112, 105, 107, 101]⟩)], [(.str ⟨#[115, 116, 117, 99, 107]⟩)], [(.str ⟨#[100, 114, 105, 102, 116]⟩)], [(.str ⟨#[109, 105, 115]⟩)]] false)]) := by
  exact w89 [] (by kernel_rfl)
structure ref14_Text_i_L1_s0 where
  c2 : ByteArray
  c3 : Int
  deriving Inhabited
def ref14_Text_i_L1_enc (x0 : List ByteArray) (x1 : Bool) (x2 : Int) (x3 : Bool) (x4 : ByteArray) (x5 : Int) (s0 : ref14_Text_i_L1_s0) : List V × Mem := ([(V.d (.int .i64 x2)), (V.so x3 0 x0.length), (V.d (.str s0.c2)), (V.d (.int .i64 s0.c3))], [(Blk.flat 9 1 (List.map encS x0) x1)])
def ref14_Text_i_L1_sel (x0 : List ByteArray) (x2 : Int) (s0 : ref14_Text_i_L1_s0) : Bool := (bif tb (decide (s0.c3 < 6)) then (bif tb (ref01_Has_ii_c0 x2 s0.c3) then (bif tb (ref01_Has_ii_r0_0 x2 s0.c3) then (bif tb (!(s0.c2.toList == (⟨#[]⟩ : ByteArray).toList)) then (bif tb (decide (s0.c2.size + (⟨#[43]⟩ : ByteArray).size ≤ 9223372036854775807)) then (bif tb (inb x0.length s0.c3) then (bif tb (decide ((s0.c2 ++ (⟨#[43]⟩ : ByteArray)).size + (gt x0 s0.c3).size ≤ 9223372036854775807)) then true else false) else false) else false) else (bif tb (inb x0.length s0.c3) then (bif tb (decide (s0.c2.size + (gt x0 s0.c3).size ≤ 9223372036854775807)) then true else false) else false)) else true) else false) else false)
def ref14_Text_i_L1_nx (x0 : List ByteArray) (x2 : Int) (s0 : ref14_Text_i_L1_s0) : ref14_Text_i_L1_s0 := (bif tb (ref01_Has_ii_r0_0 x2 s0.c3) then (bif tb (!(s0.c2.toList == (⟨#[]⟩ : ByteArray).toList)) then ⟨((s0.c2 ++ (⟨#[43]⟩ : ByteArray)) ++ (gt x0 s0.c3)), (wi (s0.c3 + 1))⟩ else ⟨(s0.c2 ++ (gt x0 s0.c3)), (wi (s0.c3 + 1))⟩) else ⟨s0.c2, (wi (s0.c3 + 1))⟩)
def ref14_Text_i_L1_ok (x0 : List ByteArray) (x2 : Int) (s0 : ref14_Text_i_L1_s0) : Bool := (itS (ref14_Text_i_L1_sel x0 x2) (ref14_Text_i_L1_nx x0 x2) bound s0).isSome
def ref14_Text_i_L1_end (x0 : List ByteArray) (x2 : Int) (s0 : ref14_Text_i_L1_s0) : ref14_Text_i_L1_s0 := (itS (ref14_Text_i_L1_sel x0 x2) (ref14_Text_i_L1_nx x0 x2) bound s0).getD default
theorem ref14_Text_i_L1_go (x0 : List ByteArray) (x1 : Bool) (x2 : Int) (x3 : Bool) (x4 : ByteArray) (x5 : Int) (s0 : ref14_Text_i_L1_s0) : ref14_Text_i_L1_sel x0 x2 s0 = true → (roundG (runC E0 (cl E0) L73_1) [0, 3, 4, 5] [4] 1) (ref14_Text_i_L1_enc x0 x1 x2 x3 x4 x5 s0) = some (.normal, ref14_Text_i_L1_enc x0 x1 x2 x3 x4 x5 (ref14_Text_i_L1_nx x0 x2 s0)) := by
  unfold ref14_Text_i_L1_sel ref14_Text_i_L1_nx
  cases h1 : tb (decide (s0.c3 < 6))
  · intro g0
    exact absurd g0 ft
  · cases h2 : tb (ref01_Has_ii_c0 x2 s0.c3)
    · intro g0
      exact absurd g0 ft
    · cases h3 : tb (ref01_Has_ii_r0_0 x2 s0.c3)
      · intro _
        exact round_walk [.b (tbE h1), .c (ref01_Has_ii_t0 x2 s0.c3 (tbE h2)), .b (tbE h3), .b (tbE h3)] (by kernel_rfl)
      · cases h4 : tb (!(s0.c2.toList == (⟨#[]⟩ : ByteArray).toList))
        · cases h5 : tb (inb x0.length s0.c3)
          · intro g0
            exact absurd g0 ft
          · cases h6 : tb (decide (s0.c2.size + (gt x0 s0.c3).size ≤ 9223372036854775807))
            · intro g0
              exact absurd g0 ft
            · intro _
              exact round_walk [.b (tbE h1), .c (ref01_Has_ii_t0 x2 s0.c3 (tbE h2)), .b (tbE h3), .b (tbE h4), .b (tbE h3), .m 34 (o_idx_so (m := [(Blk.flat 9 1 (List.map encS x0) x1)]) (b := x3) (id := 0) (n := x0.length) (s := 1) (k := .i64) (by kernel_rfl) (tbE h5)), .m 35 (o_load_L (m := [(Blk.flat 9 1 (List.map encS x0) x1)]) (enc := encS) (l := x0) (id := 0) (e := 9) (s := 1) (off := 0) (size := 1) (p := x1) (agg := false) (i := s0.c3) (v := (V.d (.str (gt x0 s0.c3)))) (n := x0.length) (Nat.beq_refl _) (by kernel_rfl) (tbE h5) (by kernel_rfl)), .o 36 (fun _ => o_addstr (x := s0.c2) (y := (gt x0 s0.c3)) (tbE h6))] (by kernel_rfl)
        · cases h5 : tb (decide (s0.c2.size + (⟨#[43]⟩ : ByteArray).size ≤ 9223372036854775807))
          · intro g0
            exact absurd g0 ft
          · cases h6 : tb (inb x0.length s0.c3)
            · intro g0
              exact absurd g0 ft
            · cases h7 : tb (decide ((s0.c2 ++ (⟨#[43]⟩ : ByteArray)).size + (gt x0 s0.c3).size ≤ 9223372036854775807))
              · intro g0
                exact absurd g0 ft
              · intro _
                exact round_walk [.b (tbE h1), .c (ref01_Has_ii_t0 x2 s0.c3 (tbE h2)), .b (tbE h3), .b (tbE h4), .o 29 (fun _ => o_addstr (x := s0.c2) (y := (⟨#[43]⟩ : ByteArray)) (tbE h5)), .b (tbE h3), .m 34 (o_idx_so (m := [(Blk.flat 9 1 (List.map encS x0) x1)]) (b := x3) (id := 0) (n := x0.length) (s := 1) (k := .i64) (by kernel_rfl) (tbE h6)), .m 35 (o_load_L (m := [(Blk.flat 9 1 (List.map encS x0) x1)]) (enc := encS) (l := x0) (id := 0) (e := 9) (s := 1) (off := 0) (size := 1) (p := x1) (agg := false) (i := s0.c3) (v := (V.d (.str (gt x0 s0.c3)))) (n := x0.length) (Nat.beq_refl _) (by kernel_rfl) (tbE h6) (by kernel_rfl)), .o 36 (fun _ => o_addstr (x := (s0.c2 ++ (⟨#[43]⟩ : ByteArray))) (y := (gt x0 s0.c3)) (tbE h7))] (by kernel_rfl)
def ref14_Text_i_L1_c0 (s0 : ref14_Text_i_L1_s0) : Bool := (bif tb (decide (s0.c3 < 6)) then false else true)
theorem ref14_Text_i_L1_x0 (x0 : List ByteArray) (x1 : Bool) (x2 : Int) (x3 : Bool) (x4 : ByteArray) (x5 : Int) (s0 : ref14_Text_i_L1_s0) : ref14_Text_i_L1_sel x0 x2 s0 = false → ref14_Text_i_L1_c0 s0 = true → (roundG (runC E0 (cl E0) L73_1) [0, 3, 4, 5] [4] 1) (ref14_Text_i_L1_enc x0 x1 x2 x3 x4 x5 s0) = some ((.exit 0), ([(V.d (.str s0.c2))], [(Blk.flat 9 1 (List.map encS x0) x1)])) := by
  unfold ref14_Text_i_L1_sel ref14_Text_i_L1_c0
  cases h1 : tb (decide (s0.c3 < 6))
  · intro g0 g1
    exact round_walk [.b (tbE h1)] (by kernel_rfl)
  · cases h2 : tb (ref01_Has_ii_c0 x2 s0.c3)
    · intro g0 g1
      exact absurd g1 ft
    · cases h3 : tb (ref01_Has_ii_r0_0 x2 s0.c3)
      · intro g0 g1
        exact absurd g0 tf
      · cases h4 : tb (!(s0.c2.toList == (⟨#[]⟩ : ByteArray).toList))
        · cases h5 : tb (inb x0.length s0.c3)
          · intro g0 g1
            exact absurd g1 ft
          · cases h6 : tb (decide (s0.c2.size + (gt x0 s0.c3).size ≤ 9223372036854775807))
            · intro g0 g1
              exact absurd g1 ft
            · intro g0 g1
              exact absurd g0 tf
        · cases h5 : tb (decide (s0.c2.size + (⟨#[43]⟩ : ByteArray).size ≤ 9223372036854775807))
          · intro g0 g1
            exact absurd g1 ft
          · cases h6 : tb (inb x0.length s0.c3)
            · intro g0 g1
              exact absurd g1 ft
            · cases h7 : tb (decide ((s0.c2 ++ (⟨#[43]⟩ : ByteArray)).size + (gt x0 s0.c3).size ≤ 9223372036854775807))
              · intro g0 g1
                exact absurd g1 ft
              · intro g0 g1
                exact absurd g0 tf
theorem ref14_Text_i_L1_f0_0 (x0 : List ByteArray) (x1 : Bool) (x2 : Int) (x3 : Bool) (x4 : ByteArray) (x5 : Int) (s : ref14_Text_i_L1_s0) (hok : ref14_Text_i_L1_ok x0 x2 s = true) (c0 : ref14_Text_i_L1_c0 (ref14_Text_i_L1_end x0 x2 s) = true) : loopG (roundG (runC E0 (cl E0) L73_1) [0, 3, 4, 5] [4] 1) bound (ref14_Text_i_L1_enc x0 x1 x2 x3 x4 x5 s) = some ((.exit 0), ([(V.d (.str ((ref14_Text_i_L1_end x0 x2 s).c2)))], [(Blk.flat 9 1 (List.map encS x0) x1)])) := by
  have e : itS (ref14_Text_i_L1_sel x0 x2) (ref14_Text_i_L1_nx x0 x2) bound s = some (ref14_Text_i_L1_end x0 x2 s) := itS_get hok
  have f := itS_false e
  exact loop_it (ref14_Text_i_L1_go x0 x1 x2 x3 x4 x5) bound s _ _ _ e (fun h => by cases h) (ref14_Text_i_L1_x0 x0 x1 x2 x3 x4 x5 (ref14_Text_i_L1_end x0 x2 s) f c0)
def ref14_Text_i_S2_e0  : List ByteArray := ([⟨#[102, 114, 97, 109, 101]⟩, ⟨#[114, 97, 110, 103, 101]⟩, ⟨#[115, 112, 105, 107, 101]⟩, ⟨#[115, 116, 117, 99, 107]⟩, ⟨#[100, 114, 105, 102, 116]⟩, ⟨#[109, 105, 115]⟩] : List ByteArray)
def ref14_Text_i_S2_e1 (x0 : Int) : ref14_Text_i_L1_s0 := ref14_Text_i_L1_end ref14_Text_i_S2_e0 x0 (⟨⟨#[]⟩, 0⟩ : ref14_Text_i_L1_s0)
def ref14_Text_i_S2_c0 (x0 : Int) : Bool := (bif tb (ref14_Text_i_L1_ok ref14_Text_i_S2_e0 x0 (⟨⟨#[]⟩, 0⟩ : ref14_Text_i_L1_s0)) then (bif tb (ref14_Text_i_L1_c0 (ref14_Text_i_S2_e1 x0)) then true else false) else false)
theorem ref14_Text_i_S2_t0 (x0 : Int) : ref14_Text_i_S2_c0 x0 = true → segG (runC E0 (cl E0) S73_2) [0] [] [4] 0 ([(V.d (.int .i64 x0))], []) = some (.normal, ([(V.d (.str ((ref14_Text_i_S2_e1 x0).c2)))], [])) := by
  unfold ref14_Text_i_S2_c0
  cases h1 : tb (ref14_Text_i_L1_ok ref14_Text_i_S2_e0 x0 (⟨⟨#[]⟩, 0⟩ : ref14_Text_i_L1_s0))
  · intro g0
    exact absurd g0 ft
  · cases h2 : tb (ref14_Text_i_L1_c0 (ref14_Text_i_S2_e1 x0))
    · intro g0
      exact absurd g0 ft
    · intro g0
      exact seg_walk [.c (ref14_names_t0), .l (ref14_Text_i_L1_f0_0 ref14_Text_i_S2_e0 false x0 false ⟨#[]⟩ 0 (⟨⟨#[]⟩, 0⟩ : ref14_Text_i_L1_s0) (tbE h1) (tbE h2))] (by kernel_rfl)
def ref14_Text_i_c0 (x0 : Int) : Bool := (bif tb (ref14_Text_i_S0_c0 x0) then true else (bif tb ((x0 : Int) == 0) then true else (bif tb (ref14_Text_i_S2_c0 x0) then true else false)))
def ref14_Text_i_r0_0 (x0 : Int) : ByteArray := (bif tb (ref14_Text_i_S0_c0 x0) then ⟨#[]⟩ else (bif tb ((x0 : Int) == 0) then ⟨#[45]⟩ else ((ref14_Text_i_S2_e1 x0).c2)))
theorem ref14_Text_i_t0 (x0 : Int) : ref14_Text_i_c0 x0 = true → cl E0 73 [(V.d (.int .i64 x0))] [] = some ([(V.d (.str (ref14_Text_i_r0_0 x0)))], []) := by
  unfold ref14_Text_i_c0 ref14_Text_i_r0_0
  cases h1 : tb (ref14_Text_i_S0_c0 x0)
  · cases h2 : tb ((x0 : Int) == 0)
    · cases h3 : tb (ref14_Text_i_S2_c0 x0)
      · intro g0
        exact absurd g0 ft
      · intro g0
        exact w73 [.s (ref14_Text_i_S0_t1 x0 (tbE h1)), .b (tbE h2), .s (ref14_Text_i_S2_t0 x0 (tbE h3))] (by kernel_rfl)
    · intro g0
      exact w73 [.s (ref14_Text_i_S0_t1 x0 (tbE h1)), .b (tbE h2)] (by kernel_rfl)
  · intro g0
    exact w73 [.s (ref14_Text_i_S0_t0 x0 (tbE h1))] (by kernel_rfl)
end Go.Proofs.YtkipngagfiaddaaDoor.Den

namespace Go.Proofs.YtkipngagfiaddaaDoor.Den
open Go Go.Proofs
set_option maxRecDepth 100000
set_option maxHeartbeats 4000000
set_option linter.unusedVariables false
set_option linter.unusedSimpArgs false
def ref17_Right_ai5_S0_r0_0 (x0 : Int) (x1 : Int) (x2 : Int) (x3 : Int) (x4 : Int) : Bool := (bif tb (decide (0 ≤ x0)) then (bif tb (decide (0 ≤ x1)) then (bif tb (decide (x1 ≤ 3)) then (bif tb (decide (0 ≤ x2)) then (bif tb (decide (x2 ≤ 7)) then (bif tb (decide (0 ≤ x3)) then (bif tb (decide (x3 ≤ 2)) then (bif tb (decide (0 ≤ x4)) then (decide (x4 ≤ 63)) else false) else false) else false) else false) else false) else false) else false) else false)
theorem ref17_Right_ai5_S0_t0 (x0 : Int) (x1 : Int) (x2 : Int) (x3 : Int) (x4 : Int) (x5 : Bool) : segG (runC E0 (cl E0) S37_0) [1] [] [2] 1 ([(V.ptr 0 1 0 0)], [(Blk.flat 58 5 [[(.int .i64 x0), (.int .i64 x1), (.int .i64 x2), (.int .i64 x3), (.int .i64 x4)]] x5)]) = some (.normal, ([(V.d (.bool (ref17_Right_ai5_S0_r0_0 x0 x1 x2 x3 x4)))], [(Blk.flat 58 5 [[(.int .i64 x0), (.int .i64 x1), (.int .i64 x2), (.int .i64 x3), (.int .i64 x4)]] x5)])) := by
  unfold ref17_Right_ai5_S0_r0_0
  cases h1 : tb (decide (0 ≤ x0))
  · exact seg_walk [.b (tbE h1)] (by kernel_rfl)
  · cases h2 : tb (decide (0 ≤ x1))
    · exact seg_walk [.b (tbE h1), .b (tbE h2)] (by kernel_rfl)
    · cases h3 : tb (decide (x1 ≤ 3))
      · exact seg_walk [.b (tbE h1), .b (tbE h2), .b (tbE h3)] (by kernel_rfl)
      · cases h4 : tb (decide (0 ≤ x2))
        · exact seg_walk [.b (tbE h1), .b (tbE h2), .b (tbE h3), .b (tbE h4)] (by kernel_rfl)
        · cases h5 : tb (decide (x2 ≤ 7))
          · exact seg_walk [.b (tbE h1), .b (tbE h2), .b (tbE h3), .b (tbE h4), .b (tbE h5)] (by kernel_rfl)
          · cases h6 : tb (decide (0 ≤ x3))
            · exact seg_walk [.b (tbE h1), .b (tbE h2), .b (tbE h3), .b (tbE h4), .b (tbE h5), .b (tbE h6)] (by kernel_rfl)
            · cases h7 : tb (decide (x3 ≤ 2))
              · exact seg_walk [.b (tbE h1), .b (tbE h2), .b (tbE h3), .b (tbE h4), .b (tbE h5), .b (tbE h6), .b (tbE h7)] (by kernel_rfl)
              · cases h8 : tb (decide (0 ≤ x4))
                · exact seg_walk [.b (tbE h1), .b (tbE h2), .b (tbE h3), .b (tbE h4), .b (tbE h5), .b (tbE h6), .b (tbE h7), .b (tbE h8)] (by kernel_rfl)
                · exact seg_walk [.b (tbE h1), .b (tbE h2), .b (tbE h3), .b (tbE h4), .b (tbE h5), .b (tbE h6), .b (tbE h7), .b (tbE h8)] (by kernel_rfl)
theorem ref17_Right_ai5_t0 (x0 : Int) (x1 : Int) (x2 : Int) (x3 : Int) (x4 : Int) : cl E0 37 [(V.agg [(V.d (.int .i64 x0)), (V.d (.int .i64 x1)), (V.d (.int .i64 x2)), (V.d (.int .i64 x3)), (V.d (.int .i64 x4))])] [] = some ([(V.d (.bool (ref17_Right_ai5_S0_r0_0 x0 x1 x2 x3 x4)))], []) := by
  exact w37 [.s (ref17_Right_ai5_S0_t0 x0 x1 x2 x3 x4 false)] (by kernel_rfl)
theorem ref17_Lost_o_t0 (x0 : Bool) (x1 : List R_i64_i64_i64_i64_i64) : cl E0 42 [(V.d (slD enc_R_i64_i64_i64_i64_i64 true 5 x0 x1))] [] = some ([(V.d (.int .i64 (mxI 0 (wi (((x1.length : Nat) : Int) - 32)))))], []) := by
  exact w42 [.o 4 (fun _ => o_len_os (enc := enc_R_i64_i64_i64_i64_i64) (l := x1) (fl := true) (n := x0) (s := 5))] (by kernel_rfl)
def ref17_All_v_L_c0 (x0 : List R_i64_i64_i64_i64_i64) (x2 : Bool) : Bool := (bif tb (x2) then (bif tb (((mxI 0 (wi (((x0.length : Nat) : Int) - 32))) : Int) == 0) then true else false) else false)
def ref17_All_v_L_c1 (x0 : List R_i64_i64_i64_i64_i64) (x2 : Bool) : Bool := (bif tb (x2) then false else (bif tb (ins x0.length (mxI 0 (wi (((x0.length : Nat) : Int) - 32))) ((x0.length : Nat) : Int)) then (bif tb (decide ((mxI 0 (wi (((x0.length : Nat) : Int) - 32))) < ((x0.length : Nat) : Int))) then true else false) else false))
def ref17_All_v_L_c2 (x0 : List R_i64_i64_i64_i64_i64) (x2 : Bool) : Bool := (bif tb (x2) then false else (bif tb (ins x0.length (mxI 0 (wi (((x0.length : Nat) : Int) - 32))) ((x0.length : Nat) : Int)) then (bif tb (decide ((mxI 0 (wi (((x0.length : Nat) : Int) - 32))) < ((x0.length : Nat) : Int))) then false else true) else false))
theorem ref17_All_v_L_t0 (x0 : List R_i64_i64_i64_i64_i64) (x1 : Bool) (x2 : Bool) : ref17_All_v_L_c0 x0 x2 = true → cl E0 40 [(V.so x2 0 x0.length)] [(Blk.flat 58 5 (List.map enc_R_i64_i64_i64_i64_i64 x0) x1)] = some ([(V.d .nils)], [(Blk.flat 58 5 (List.map enc_R_i64_i64_i64_i64_i64 x0) x1)]) := by
  unfold ref17_All_v_L_c0
  cases h1 : tb (x2)
  · cases h2 : tb (ins x0.length (mxI 0 (wi (((x0.length : Nat) : Int) - 32))) ((x0.length : Nat) : Int))
    · intro g0
      exact absurd g0 ft
    · cases h3 : tb (decide ((mxI 0 (wi (((x0.length : Nat) : Int) - 32))) < ((x0.length : Nat) : Int)))
      · intro g0
        exact absurd g0 ft
      · intro g0
        exact absurd g0 ft
  · cases h2 : tb (((mxI 0 (wi (((x0.length : Nat) : Int) - 32))) : Int) == 0)
    · intro g0
      exact absurd g0 ft
    · intro g0
      exact w40 [.y (mm := [(Blk.flat 58 5 (List.map enc_R_i64_i64_i64_i64_i64 x0) x1), (Blk.flat 58 5 [] false)]) (args := [(V.so x2 0 x0.length)]) (args1 := [(V.d (slD enc_R_i64_i64_i64_i64_i64 true 5 x2 x0))]) (byvals_cons (byval_so (enc := enc_R_i64_i64_i64_i64_i64) (l := x0) (b := x2) (e := 58) (s := 5) (p := x1) (n := x0.length) (Nat.beq_refl _) (by kernel_rfl)) (by kernel_rfl)), .c (ref17_Lost_o_t0 x2 x0), .m 6 (o_slice_so_nil (m := [(Blk.flat 58 5 (List.map enc_R_i64_i64_i64_i64_i64 x0) x1), (Blk.flat 58 5 [] false)]) (nl := x2) (id := 0) (n := x0.length) (s := 5) (some (.i64, (mxI 0 (wi (((x0.length : Nat) : Int) - 32))))) none (tbE h1) (tbE h2) (by kernel_rfl))] (by kernel_rfl)
theorem ref17_All_v_L_t1 (x0 : List R_i64_i64_i64_i64_i64) (x1 : Bool) (x2 : Bool) : ref17_All_v_L_c0 x0 x2 = false → ref17_All_v_L_c1 x0 x2 = true → cl E0 40 [(V.so x2 0 x0.length)] [(Blk.flat 58 5 (List.map enc_R_i64_i64_i64_i64_i64 x0) x1)] = some ([(V.sl 0 x0.length ((mxI 0 (wi (((x0.length : Nat) : Int) - 32))) : Int).toNat ((((x0.length : Nat) : Int) : Int).toNat - ((mxI 0 (wi (((x0.length : Nat) : Int) - 32))) : Int).toNat))], [(Blk.flat 58 5 (List.map enc_R_i64_i64_i64_i64_i64 x0) x1)]) := by
  unfold ref17_All_v_L_c0 ref17_All_v_L_c1
  cases h1 : tb (x2)
  · cases h2 : tb (ins x0.length (mxI 0 (wi (((x0.length : Nat) : Int) - 32))) ((x0.length : Nat) : Int))
    · intro g0 g1
      exact absurd g1 ft
    · cases h3 : tb (decide ((mxI 0 (wi (((x0.length : Nat) : Int) - 32))) < ((x0.length : Nat) : Int)))
      · intro g0 g1
        exact absurd g1 ft
      · intro g0 g1
        exact w40 [.y (mm := [(Blk.flat 58 5 (List.map enc_R_i64_i64_i64_i64_i64 x0) x1), (Blk.flat 58 5 [] false)]) (args := [(V.so x2 0 x0.length)]) (args1 := [(V.d (slD enc_R_i64_i64_i64_i64_i64 true 5 x2 x0))]) (byvals_cons (byval_so (enc := enc_R_i64_i64_i64_i64_i64) (l := x0) (b := x2) (e := 58) (s := 5) (p := x1) (n := x0.length) (Nat.beq_refl _) (by kernel_rfl)) (by kernel_rfl)), .c (ref17_Lost_o_t0 x2 x0), .m 6 (o_slice_spo (nl := x2) (m := [(Blk.flat 58 5 (List.map enc_R_i64_i64_i64_i64_i64 x0) x1), (Blk.flat 58 5 [] false)]) (enc := enc_R_i64_i64_i64_i64_i64) (l := x0) (id := 0) (e := 58) (s := 5) (n := x0.length) (p := x1) (tbE h1) (some (.i64, (mxI 0 (wi (((x0.length : Nat) : Int) - 32))))) none (by kernel_rfl) (tbE h2) (tbE h3))] (by kernel_rfl)
  · cases h2 : tb (((mxI 0 (wi (((x0.length : Nat) : Int) - 32))) : Int) == 0)
    · intro g0 g1
      exact absurd g1 ft
    · intro g0 g1
      exact absurd g0 tf
theorem ref17_All_v_L_t2 (x0 : List R_i64_i64_i64_i64_i64) (x1 : Bool) (x2 : Bool) : ref17_All_v_L_c0 x0 x2 = false → ref17_All_v_L_c1 x0 x2 = false → ref17_All_v_L_c2 x0 x2 = true → cl E0 40 [(V.so x2 0 x0.length)] [(Blk.flat 58 5 (List.map enc_R_i64_i64_i64_i64_i64 x0) x1)] = some ([(V.d (.rs false 5 [] false))], [(Blk.flat 58 5 (List.map enc_R_i64_i64_i64_i64_i64 x0) x1)]) := by
  unfold ref17_All_v_L_c0 ref17_All_v_L_c1 ref17_All_v_L_c2
  cases h1 : tb (x2)
  · cases h2 : tb (ins x0.length (mxI 0 (wi (((x0.length : Nat) : Int) - 32))) ((x0.length : Nat) : Int))
    · intro g0 g1 g2
      exact absurd g2 ft
    · cases h3 : tb (decide ((mxI 0 (wi (((x0.length : Nat) : Int) - 32))) < ((x0.length : Nat) : Int)))
      · intro g0 g1 g2
        exact w40 [.y (mm := [(Blk.flat 58 5 (List.map enc_R_i64_i64_i64_i64_i64 x0) x1), (Blk.flat 58 5 [] false)]) (args := [(V.so x2 0 x0.length)]) (args1 := [(V.d (slD enc_R_i64_i64_i64_i64_i64 true 5 x2 x0))]) (byvals_cons (byval_so (enc := enc_R_i64_i64_i64_i64_i64) (l := x0) (b := x2) (e := 58) (s := 5) (p := x1) (n := x0.length) (Nat.beq_refl _) (by kernel_rfl)) (by kernel_rfl)), .c (ref17_Lost_o_t0 x2 x0), .m 6 (o_slice_sp0 (m := [(Blk.flat 58 5 (List.map enc_R_i64_i64_i64_i64_i64 x0) x1), (Blk.flat 58 5 [] false)]) (enc := enc_R_i64_i64_i64_i64_i64) (l := x0) (id := 0) (e := 58) (s := 5) (n := x0.length) (p := x1) (some (.i64, (mxI 0 (wi (((x0.length : Nat) : Int) - 32))))) none (deSo_f (tbE h1)) (Nat.beq_refl _) (by kernel_rfl) (tbE h2) (tbE h3))] (by kernel_rfl)
      · intro g0 g1 g2
        exact absurd g1 tf
  · cases h2 : tb (((mxI 0 (wi (((x0.length : Nat) : Int) - 32))) : Int) == 0)
    · intro g0 g1 g2
      exact absurd g2 ft
    · intro g0 g1 g2
      exact absurd g0 tf
structure ref17_Same_oo_L0_s0 where
  c4 : Int
  deriving Inhabited
def ref17_Same_oo_L0_h0_e0 (x1 : List R_i64_i64_i64_i64_i64) (x3 : List R_i64_i64_i64_i64_i64) (s0 : ref17_Same_oo_L0_s0) : Bool := (true != (((((gt x1 s0.c4).c0) : Int) == ((gt x3 s0.c4).c0)) && (((((gt x1 s0.c4).c1) : Int) == ((gt x3 s0.c4).c1)) && (((((gt x1 s0.c4).c2) : Int) == ((gt x3 s0.c4).c2)) && (((((gt x1 s0.c4).c3) : Int) == ((gt x3 s0.c4).c3)) && (((((gt x1 s0.c4).c4) : Int) == ((gt x3 s0.c4).c4)) && true))))))
def ref17_Same_oo_L0_enc (x0 : Bool) (x1 : List R_i64_i64_i64_i64_i64) (x2 : Bool) (x3 : List R_i64_i64_i64_i64_i64) (x4 : Int) (s0 : ref17_Same_oo_L0_s0) : List V × Mem := ([(V.d (slD enc_R_i64_i64_i64_i64_i64 true 5 x0 x1)), (V.d (slD enc_R_i64_i64_i64_i64_i64 true 5 x2 x3)), (V.d (.int .i64 s0.c4))], [])
def ref17_Same_oo_L0_sel (x1 : List R_i64_i64_i64_i64_i64) (x3 : List R_i64_i64_i64_i64_i64) (s0 : ref17_Same_oo_L0_s0) : Bool := (bif tb (decide (s0.c4 < ((x1.length : Nat) : Int))) then (bif tb (inb x1.length s0.c4) then (bif tb (inb x3.length s0.c4) then (bif tb (ref17_Same_oo_L0_h0_e0 x1 x3 s0) then false else true) else false) else false) else false)
def ref17_Same_oo_L0_nx (x1 : List R_i64_i64_i64_i64_i64) (x3 : List R_i64_i64_i64_i64_i64) (s0 : ref17_Same_oo_L0_s0) : ref17_Same_oo_L0_s0 := ⟨(wi (s0.c4 + 1))⟩
def ref17_Same_oo_L0_ok (x1 : List R_i64_i64_i64_i64_i64) (x3 : List R_i64_i64_i64_i64_i64) (s0 : ref17_Same_oo_L0_s0) : Bool := (itS (ref17_Same_oo_L0_sel x1 x3) (ref17_Same_oo_L0_nx x1 x3) bound s0).isSome
def ref17_Same_oo_L0_end (x1 : List R_i64_i64_i64_i64_i64) (x3 : List R_i64_i64_i64_i64_i64) (s0 : ref17_Same_oo_L0_s0) : ref17_Same_oo_L0_s0 := (itS (ref17_Same_oo_L0_sel x1 x3) (ref17_Same_oo_L0_nx x1 x3) bound s0).getD default
theorem ref17_Same_oo_L0_go (x0 : Bool) (x1 : List R_i64_i64_i64_i64_i64) (x2 : Bool) (x3 : List R_i64_i64_i64_i64_i64) (x4 : Int) (s0 : ref17_Same_oo_L0_s0) : ref17_Same_oo_L0_sel x1 x3 s0 = true → (roundG (runC E0 (cl E0) L38_0) [0, 1, 5] [4] 0) (ref17_Same_oo_L0_enc x0 x1 x2 x3 x4 s0) = some (.normal, ref17_Same_oo_L0_enc x0 x1 x2 x3 x4 (ref17_Same_oo_L0_nx x1 x3 s0)) := by
  unfold ref17_Same_oo_L0_sel ref17_Same_oo_L0_nx
  cases h1 : tb (decide (s0.c4 < ((x1.length : Nat) : Int)))
  · intro g0
    exact absurd g0 ft
  · cases h2 : tb (inb x1.length s0.c4)
    · intro g0
      exact absurd g0 ft
    · cases h3 : tb (inb x3.length s0.c4)
      · intro g0
        exact absurd g0 ft
      · cases h4 : tb (ref17_Same_oo_L0_h0_e0 x1 x3 s0)
        · intro _
          exact round_walk [.o 13 (fun _ => o_len_os (enc := enc_R_i64_i64_i64_i64_i64) (l := x1) (fl := true) (n := x0) (s := 5)), .b (tbE h1), .o 19 (fun _ => o_idx_os (enc := enc_R_i64_i64_i64_i64_i64) (l := x1) (fl := true) (n := x0) (s := 5) (k := .i64) (tbE h2)), .o 23 (fun _ => o_idx_os (enc := enc_R_i64_i64_i64_i64_i64) (l := x3) (fl := true) (n := x2) (s := 5) (k := .i64) (tbE h3)), .b (tbE h4)] (by kernel_rfl)
        · intro g0
          exact absurd g0 ft
def ref17_Same_oo_L0_c0 (x1 : List R_i64_i64_i64_i64_i64) (x3 : List R_i64_i64_i64_i64_i64) (s0 : ref17_Same_oo_L0_s0) : Bool := (bif tb (decide (s0.c4 < ((x1.length : Nat) : Int))) then (bif tb (inb x1.length s0.c4) then (bif tb (inb x3.length s0.c4) then true else false) else false) else false)
def ref17_Same_oo_L0_c1 (x1 : List R_i64_i64_i64_i64_i64) (s0 : ref17_Same_oo_L0_s0) : Bool := (bif tb (decide (s0.c4 < ((x1.length : Nat) : Int))) then false else true)
theorem ref17_Same_oo_L0_x0 (x0 : Bool) (x1 : List R_i64_i64_i64_i64_i64) (x2 : Bool) (x3 : List R_i64_i64_i64_i64_i64) (x4 : Int) (s0 : ref17_Same_oo_L0_s0) : ref17_Same_oo_L0_sel x1 x3 s0 = false → ref17_Same_oo_L0_c0 x1 x3 s0 = true → (roundG (runC E0 (cl E0) L38_0) [0, 1, 5] [4] 0) (ref17_Same_oo_L0_enc x0 x1 x2 x3 x4 s0) = some (.ret, ([(V.d (.bool false))], [])) := by
  unfold ref17_Same_oo_L0_sel ref17_Same_oo_L0_c0
  cases h1 : tb (decide (s0.c4 < ((x1.length : Nat) : Int)))
  · intro g0 g1
    exact absurd g1 ft
  · cases h2 : tb (inb x1.length s0.c4)
    · intro g0 g1
      exact absurd g1 ft
    · cases h3 : tb (inb x3.length s0.c4)
      · intro g0 g1
        exact absurd g1 ft
      · cases h4 : tb (ref17_Same_oo_L0_h0_e0 x1 x3 s0)
        · intro g0 g1
          exact absurd g0 tf
        · intro g0 g1
          exact round_walk [.o 13 (fun _ => o_len_os (enc := enc_R_i64_i64_i64_i64_i64) (l := x1) (fl := true) (n := x0) (s := 5)), .b (tbE h1), .o 19 (fun _ => o_idx_os (enc := enc_R_i64_i64_i64_i64_i64) (l := x1) (fl := true) (n := x0) (s := 5) (k := .i64) (tbE h2)), .o 23 (fun _ => o_idx_os (enc := enc_R_i64_i64_i64_i64_i64) (l := x3) (fl := true) (n := x2) (s := 5) (k := .i64) (tbE h3)), .b (tbE h4)] (by kernel_rfl)
theorem ref17_Same_oo_L0_x1 (x0 : Bool) (x1 : List R_i64_i64_i64_i64_i64) (x2 : Bool) (x3 : List R_i64_i64_i64_i64_i64) (x4 : Int) (s0 : ref17_Same_oo_L0_s0) : ref17_Same_oo_L0_sel x1 x3 s0 = false → ref17_Same_oo_L0_c0 x1 x3 s0 = false → ref17_Same_oo_L0_c1 x1 s0 = true → (roundG (runC E0 (cl E0) L38_0) [0, 1, 5] [4] 0) (ref17_Same_oo_L0_enc x0 x1 x2 x3 x4 s0) = some ((.exit 0), ([V.un], [])) := by
  unfold ref17_Same_oo_L0_sel ref17_Same_oo_L0_c0 ref17_Same_oo_L0_c1
  cases h1 : tb (decide (s0.c4 < ((x1.length : Nat) : Int)))
  · intro g0 g1 g2
    exact round_walk [.o 13 (fun _ => o_len_os (enc := enc_R_i64_i64_i64_i64_i64) (l := x1) (fl := true) (n := x0) (s := 5)), .b (tbE h1)] (by kernel_rfl)
  · cases h2 : tb (inb x1.length s0.c4)
    · intro g0 g1 g2
      exact absurd g2 ft
    · cases h3 : tb (inb x3.length s0.c4)
      · intro g0 g1 g2
        exact absurd g2 ft
      · cases h4 : tb (ref17_Same_oo_L0_h0_e0 x1 x3 s0)
        · intro g0 g1 g2
          exact absurd g0 tf
        · intro g0 g1 g2
          exact absurd g1 tf
theorem ref17_Same_oo_L0_f0_0 (x0 : Bool) (x1 : List R_i64_i64_i64_i64_i64) (x2 : Bool) (x3 : List R_i64_i64_i64_i64_i64) (x4 : Int) (s : ref17_Same_oo_L0_s0) (hok : ref17_Same_oo_L0_ok x1 x3 s = true) (c0 : ref17_Same_oo_L0_c0 x1 x3 (ref17_Same_oo_L0_end x1 x3 s) = true) : loopG (roundG (runC E0 (cl E0) L38_0) [0, 1, 5] [4] 0) bound (ref17_Same_oo_L0_enc x0 x1 x2 x3 x4 s) = some (.ret, ([(V.d (.bool false))], [])) := by
  have e : itS (ref17_Same_oo_L0_sel x1 x3) (ref17_Same_oo_L0_nx x1 x3) bound s = some (ref17_Same_oo_L0_end x1 x3 s) := itS_get hok
  have f := itS_false e
  exact loop_it (ref17_Same_oo_L0_go x0 x1 x2 x3 x4) bound s _ _ _ e (fun h => by cases h) (ref17_Same_oo_L0_x0 x0 x1 x2 x3 x4 (ref17_Same_oo_L0_end x1 x3 s) f c0)
theorem ref17_Same_oo_L0_f0_1 (x0 : Bool) (x1 : List R_i64_i64_i64_i64_i64) (x2 : Bool) (x3 : List R_i64_i64_i64_i64_i64) (x4 : Int) (s : ref17_Same_oo_L0_s0) (hok : ref17_Same_oo_L0_ok x1 x3 s = true) (c0 : ref17_Same_oo_L0_c0 x1 x3 (ref17_Same_oo_L0_end x1 x3 s) = false) (c1 : ref17_Same_oo_L0_c1 x1 (ref17_Same_oo_L0_end x1 x3 s) = true) : loopG (roundG (runC E0 (cl E0) L38_0) [0, 1, 5] [4] 0) bound (ref17_Same_oo_L0_enc x0 x1 x2 x3 x4 s) = some ((.exit 0), ([V.un], [])) := by
  have e : itS (ref17_Same_oo_L0_sel x1 x3) (ref17_Same_oo_L0_nx x1 x3) bound s = some (ref17_Same_oo_L0_end x1 x3 s) := itS_get hok
  have f := itS_false e
  exact loop_it (ref17_Same_oo_L0_go x0 x1 x2 x3 x4) bound s _ _ _ e (fun h => by cases h) (ref17_Same_oo_L0_x1 x0 x1 x2 x3 x4 (ref17_Same_oo_L0_end x1 x3 s) f c0 c1)
def ref17_Same_oo_c0 (x1 : List R_i64_i64_i64_i64_i64) (x3 : List R_i64_i64_i64_i64_i64) : Bool := (bif tb ((((x1.length : Nat) : Int) : Int) != ((x3.length : Nat) : Int)) then true else (bif tb (ref17_Same_oo_L0_ok x1 x3 (⟨0⟩ : ref17_Same_oo_L0_s0)) then (bif tb (ref17_Same_oo_L0_c0 x1 x3 (ref17_Same_oo_L0_end x1 x3 (⟨0⟩ : ref17_Same_oo_L0_s0))) then true else (bif tb (ref17_Same_oo_L0_c1 x1 (ref17_Same_oo_L0_end x1 x3 (⟨0⟩ : ref17_Same_oo_L0_s0))) then true else false)) else false))
def ref17_Same_oo_r0_0 (x1 : List R_i64_i64_i64_i64_i64) (x3 : List R_i64_i64_i64_i64_i64) : Bool := (bif tb ((((x1.length : Nat) : Int) : Int) != ((x3.length : Nat) : Int)) then false else (bif tb (ref17_Same_oo_L0_c0 x1 x3 (ref17_Same_oo_L0_end x1 x3 (⟨0⟩ : ref17_Same_oo_L0_s0))) then false else true))
theorem ref17_Same_oo_t0 (x0 : Bool) (x1 : List R_i64_i64_i64_i64_i64) (x2 : Bool) (x3 : List R_i64_i64_i64_i64_i64) : ref17_Same_oo_c0 x1 x3 = true → cl E0 38 [(V.d (slD enc_R_i64_i64_i64_i64_i64 true 5 x0 x1)), (V.d (slD enc_R_i64_i64_i64_i64_i64 true 5 x2 x3))] [] = some ([(V.d (.bool (ref17_Same_oo_r0_0 x1 x3)))], []) := by
  unfold ref17_Same_oo_c0 ref17_Same_oo_r0_0
  cases h1 : tb ((((x1.length : Nat) : Int) : Int) != ((x3.length : Nat) : Int))
  · cases h2 : tb (ref17_Same_oo_L0_ok x1 x3 (⟨0⟩ : ref17_Same_oo_L0_s0))
    · intro g0
      exact absurd g0 ft
    · cases h3 : tb (ref17_Same_oo_L0_c0 x1 x3 (ref17_Same_oo_L0_end x1 x3 (⟨0⟩ : ref17_Same_oo_L0_s0)))
      · cases h4 : tb (ref17_Same_oo_L0_c1 x1 (ref17_Same_oo_L0_end x1 x3 (⟨0⟩ : ref17_Same_oo_L0_s0)))
        · intro g0
          exact absurd g0 ft
        · intro g0
          exact w38 [.o 7 (fun _ => o_len_os (enc := enc_R_i64_i64_i64_i64_i64) (l := x1) (fl := true) (n := x0) (s := 5)), .o 9 (fun _ => o_len_os (enc := enc_R_i64_i64_i64_i64_i64) (l := x3) (fl := true) (n := x2) (s := 5)), .b (tbE h1), .l (ref17_Same_oo_L0_f0_1 x0 x1 x2 x3 0 (⟨0⟩ : ref17_Same_oo_L0_s0) (tbE h2) (tbE h3) (tbE h4))] (by kernel_rfl)
      · intro g0
        exact w38 [.o 7 (fun _ => o_len_os (enc := enc_R_i64_i64_i64_i64_i64) (l := x1) (fl := true) (n := x0) (s := 5)), .o 9 (fun _ => o_len_os (enc := enc_R_i64_i64_i64_i64_i64) (l := x3) (fl := true) (n := x2) (s := 5)), .b (tbE h1), .l (ref17_Same_oo_L0_f0_0 x0 x1 x2 x3 0 (⟨0⟩ : ref17_Same_oo_L0_s0) (tbE h2) (tbE h3))] (by kernel_rfl)
  · intro g0
    exact w38 [.o 7 (fun _ => o_len_os (enc := enc_R_i64_i64_i64_i64_i64) (l := x1) (fl := true) (n := x0) (s := 5)), .o 9 (fun _ => o_len_os (enc := enc_R_i64_i64_i64_i64_i64) (l := x3) (fl := true) (n := x2) (s := 5)), .b (tbE h1)] (by kernel_rfl)
structure ref17_Same_oz_L0_s0 where mk ::
  deriving Inhabited
def ref17_Same_oz_L0_enc (x0 : Bool) (x1 : List R_i64_i64_i64_i64_i64) (x2 : Int) (s0 : ref17_Same_oz_L0_s0) : List V × Mem := ([(V.d (slD enc_R_i64_i64_i64_i64_i64 true 5 x0 x1)), (V.d (.rs false 5 [] false)), (V.d (.int .i64 x2))], [])
def ref17_Same_oz_L0_sel  (s0 : ref17_Same_oz_L0_s0) : Bool := false
def ref17_Same_oz_L0_nx  (s0 : ref17_Same_oz_L0_s0) : ref17_Same_oz_L0_s0 := default
def ref17_Same_oz_L0_ok  (s0 : ref17_Same_oz_L0_s0) : Bool := (itS (ref17_Same_oz_L0_sel ) (ref17_Same_oz_L0_nx ) bound s0).isSome
def ref17_Same_oz_L0_end  (s0 : ref17_Same_oz_L0_s0) : ref17_Same_oz_L0_s0 := (itS (ref17_Same_oz_L0_sel ) (ref17_Same_oz_L0_nx ) bound s0).getD default
theorem ref17_Same_oz_L0_go (x0 : Bool) (x1 : List R_i64_i64_i64_i64_i64) (x2 : Int) (s0 : ref17_Same_oz_L0_s0) : ref17_Same_oz_L0_sel  s0 = true → (roundG (runC E0 (cl E0) L38_0) [0, 1, 5] [4] 0) (ref17_Same_oz_L0_enc x0 x1 x2 s0) = some (.normal, ref17_Same_oz_L0_enc x0 x1 x2 (ref17_Same_oz_L0_nx  s0)) := by
  unfold ref17_Same_oz_L0_sel ref17_Same_oz_L0_nx
  cases h1 : tb (decide (x2 < ((x1.length : Nat) : Int)))
  · intro g0
    exact absurd g0 ft
  · cases h2 : tb (inb x1.length x2)
    · intro g0
      exact absurd g0 ft
    · intro g0
      exact absurd g0 ft
def ref17_Same_oz_L0_c0 (x1 : List R_i64_i64_i64_i64_i64) (x2 : Int) : Bool := (bif tb (decide (x2 < ((x1.length : Nat) : Int))) then false else true)
theorem ref17_Same_oz_L0_x0 (x0 : Bool) (x1 : List R_i64_i64_i64_i64_i64) (x2 : Int) (s0 : ref17_Same_oz_L0_s0) : ref17_Same_oz_L0_sel  s0 = false → ref17_Same_oz_L0_c0 x1 x2 = true → (roundG (runC E0 (cl E0) L38_0) [0, 1, 5] [4] 0) (ref17_Same_oz_L0_enc x0 x1 x2 s0) = some ((.exit 0), ([V.un], [])) := by
  unfold ref17_Same_oz_L0_sel ref17_Same_oz_L0_c0
  cases h1 : tb (decide (x2 < ((x1.length : Nat) : Int)))
  · intro g0 g1
    exact round_walk [.o 13 (fun _ => o_len_os (enc := enc_R_i64_i64_i64_i64_i64) (l := x1) (fl := true) (n := x0) (s := 5)), .b (tbE h1)] (by kernel_rfl)
  · cases h2 : tb (inb x1.length x2)
    · intro g0 g1
      exact absurd g1 ft
    · intro g0 g1
      exact absurd g1 ft
theorem ref17_Same_oz_L0_f0_0 (x0 : Bool) (x1 : List R_i64_i64_i64_i64_i64) (x2 : Int) (s : ref17_Same_oz_L0_s0) (hok : ref17_Same_oz_L0_ok  s = true) (c0 : ref17_Same_oz_L0_c0 x1 x2 = true) : loopG (roundG (runC E0 (cl E0) L38_0) [0, 1, 5] [4] 0) bound (ref17_Same_oz_L0_enc x0 x1 x2 s) = some ((.exit 0), ([V.un], [])) := by
  have e : itS (ref17_Same_oz_L0_sel ) (ref17_Same_oz_L0_nx ) bound s = some (ref17_Same_oz_L0_end  s) := itS_get hok
  have f := itS_false e
  exact loop_it (ref17_Same_oz_L0_go x0 x1 x2) bound s _ _ _ e (fun h => by cases h) (ref17_Same_oz_L0_x0 x0 x1 x2 (ref17_Same_oz_L0_end  s) f c0)
def ref17_Same_oz_c0 (x1 : List R_i64_i64_i64_i64_i64) : Bool := (bif tb ((((x1.length : Nat) : Int) : Int) != 0) then true else (bif tb (ref17_Same_oz_L0_ok  (⟨⟩ : ref17_Same_oz_L0_s0)) then (bif tb (ref17_Same_oz_L0_c0 x1 0) then true else false) else false))
def ref17_Same_oz_r0_0 (x1 : List R_i64_i64_i64_i64_i64) : Bool := (bif tb ((((x1.length : Nat) : Int) : Int) != 0) then false else true)
theorem ref17_Same_oz_t0 (x0 : Bool) (x1 : List R_i64_i64_i64_i64_i64) : ref17_Same_oz_c0 x1 = true → cl E0 38 [(V.d (slD enc_R_i64_i64_i64_i64_i64 true 5 x0 x1)), (V.d (.rs false 5 [] false))] [] = some ([(V.d (.bool (ref17_Same_oz_r0_0 x1)))], []) := by
  unfold ref17_Same_oz_c0 ref17_Same_oz_r0_0
  cases h1 : tb ((((x1.length : Nat) : Int) : Int) != 0)
  · cases h2 : tb (ref17_Same_oz_L0_ok  (⟨⟩ : ref17_Same_oz_L0_s0))
    · intro g0
      exact absurd g0 ft
    · cases h3 : tb (ref17_Same_oz_L0_c0 x1 0)
      · intro g0
        exact absurd g0 ft
      · intro g0
        exact w38 [.o 7 (fun _ => o_len_os (enc := enc_R_i64_i64_i64_i64_i64) (l := x1) (fl := true) (n := x0) (s := 5)), .b (tbE h1), .l (ref17_Same_oz_L0_f0_0 x0 x1 0 (⟨⟩ : ref17_Same_oz_L0_s0) (tbE h2) (tbE h3))] (by kernel_rfl)
  · intro g0
    exact w38 [.o 7 (fun _ => o_len_os (enc := enc_R_i64_i64_i64_i64_i64) (l := x1) (fl := true) (n := x0) (s := 5)), .b (tbE h1)] (by kernel_rfl)
def ref17_Figures_i_e0 (x0 : Int) (x1 : ByteArray) : ByteArray := x1 ++ (⟨#[UInt8.ofNat ((IntKind.u8.wrap (wi (48 + (remI .i64 x0 10)))) : Int).toNat]⟩ : ByteArray)
def ref17_Figures_i_c0 (x0 : Int) (x1 : ByteArray) : Bool := (bif tb (decide (10 ≤ x0)) then (bif tb (decide (x1.size + (⟨#[UInt8.ofNat ((IntKind.u8.wrap (wi (48 + (remI .i64 x0 10)))) : Int).toNat]⟩ : ByteArray).size ≤ 9223372036854775807)) then true else false) else true)
def ref17_Figures_i_r0_0 (x0 : Int) (x1 : ByteArray) : ByteArray := (bif tb (decide (10 ≤ x0)) then (ref17_Figures_i_e0 x0 x1) else ⟨#[UInt8.ofNat ((IntKind.u8.wrap (wi (48 + (remI .i64 x0 10)))) : Int).toNat]⟩)
theorem ref17_Figures_i_t0 (x0 : Int) (x1 : ByteArray) (ih : decide (10 ≤ x0) = true → cl E0 72 [V.d (.int .i64 (quoI .i64 x0 10))] [] = some ([V.d (.str x1)], [])) : ref17_Figures_i_c0 x0 x1 = true → cl E0 72 [(V.d (.int .i64 x0))] [] = some ([(V.d (.str (ref17_Figures_i_r0_0 x0 x1)))], []) := by
  unfold ref17_Figures_i_c0 ref17_Figures_i_r0_0
  cases h1 : tb (decide (10 ≤ x0))
  · intro g0
    exact w72 [.b (tbE h1)] (by kernel_rfl)
  · cases h2 : tb (decide (x1.size + (⟨#[UInt8.ofNat ((IntKind.u8.wrap (wi (48 + (remI .i64 x0 10)))) : Int).toNat]⟩ : ByteArray).size ≤ 9223372036854775807))
    · intro g0
      exact absurd g0 ft
    · intro g0
      exact w72 [.b (tbE h1), .c (ih (tbE h1)), .o 16 (fun _ => o_addstr (x := x1) (y := (⟨#[UInt8.ofNat ((IntKind.u8.wrap (wi (48 + (remI .i64 x0 10)))) : Int).toNat]⟩ : ByteArray)) (tbE h2))] (by kernel_rfl)
def ref17_Figures_i_in (x0 : Int) : Bool := (decide (0 ≤ x0) && decide (x0 ≤ 9223372036854775807))
theorem ref17_Figures_i_k : ∀ (k n : Nat), n < 10 ^ (k + 1) → n ≤ 9223372036854775807 → k ≤ 19 → cl E0 72 [V.d (.int .i64 (n : Int))] [] = some ([V.d (.str ⟨(digsF k n).toArray⟩)], []) := by
  have small : ∀ k n : Nat, n < 10 → cl E0 72 [V.d (.int .i64 (n : Int))] [] = some ([V.d (.str ⟨(digsF k n).toArray⟩)], []) := fun k n h => by
    have hd : decide (10 ≤ (n : Int)) = false := decide_eq_false (by omega)
    have t := ref17_Figures_i_t0 (n : Int) ByteArray.empty (fun h9 => by rw [hd] at h9; cases h9) (by unfold ref17_Figures_i_c0; rw [hd]; rfl)
    have e : ref17_Figures_i_r0_0 (n : Int) ByteArray.empty = ⟨(digsF k n).toArray⟩ := by
      unfold ref17_Figures_i_r0_0
      rw [hd, digsF_lt h]
      show (⟨#[UInt8.ofNat ((IntKind.u8.wrap (wi (48 + (remI .i64 (n : Int) 10)))) : Int).toNat]⟩ : ByteArray) = _
      rw [digit_eq, Nat.mod_eq_of_lt h]
    rw [e] at t; exact t
  intro k
  induction k with
  | zero => intro n h _ _; exact small 0 n (by simpa using h)
  | succ k ih =>
    intro n h hm hk
    by_cases h9 : n < 10
    · exact small (k + 1) n h9
    · have hd : decide (10 ≤ (n : Int)) = true := decide_eq_true (by omega)
      have hi := ih (n / 10) (by rw [Nat.div_lt_iff_lt_mul (by omega)]; rwa [Nat.pow_succ] at h) (by omega) (by omega)
      rw [← quo10 hm] at hi
      have hlen := digsF_len k (n / 10)
      have t := ref17_Figures_i_t0 (n : Int) ⟨(digsF k (n / 10)).toArray⟩ (fun _ => hi) (by
        unfold ref17_Figures_i_c0
        rw [hd, digit_eq]
        have : decide ((⟨(digsF k (n / 10)).toArray⟩ : ByteArray).size + (⟨[UInt8.ofNat (48 + n % 10)].toArray⟩ : ByteArray).size ≤ 9223372036854775807) = true := decide_eq_true (by
          show (digsF k (n / 10)).length + 1 ≤ _
          omega)
        rw [this]; rfl)
      have e : ref17_Figures_i_r0_0 (n : Int) ⟨(digsF k (n / 10)).toArray⟩ = ⟨(digsF (k + 1) n).toArray⟩ := by
        unfold ref17_Figures_i_r0_0 ref17_Figures_i_e0
        rw [hd, digsF_ge h9, ← bytes_app, ← digit_eq]; rfl
      rw [e] at t; exact t
theorem ref17_Figures_i_all (x0 : Int) (h : ref17_Figures_i_in x0 = true) : cl E0 72 [V.d (.int .i64 x0)] [] = some ([V.d (.str ⟨(digsN (x0 : Int).toNat).toArray⟩)], []) := by
  simp only [ref17_Figures_i_in, Bool.and_eq_true, decide_eq_true_eq] at h
  have := ref17_Figures_i_k 19 x0.toNat (Nat.lt_of_le_of_lt (show x0.toNat ≤ 9223372036854775807 by omega) (by decide)) (by omega) (Nat.le_refl _)
  rwa [show ((x0.toNat : Nat) : Int) = x0 by omega] at this
def ref17_Text_ai5_e0 (x0 : Int) : ByteArray := (⟨#[99, 121, 99, 108, 101, 32]⟩ : ByteArray) ++ (⟨(digsN (x0 : Int).toNat).toArray⟩ : ByteArray)
def ref17_Text_ai5_e1 (x0 : Int) : ByteArray := (ref17_Text_ai5_e0 x0) ++ (⟨#[32, 99, 104, 97, 110, 110, 101, 108, 32]⟩ : ByteArray)
def ref17_Text_ai5_e2 (x0 : Int) (x1 : Int) : ByteArray := (ref17_Text_ai5_e1 x0) ++ (⟨(digsN (x1 : Int).toNat).toArray⟩ : ByteArray)
def ref17_Text_ai5_e3 (x0 : Int) (x1 : Int) : ByteArray := (ref17_Text_ai5_e2 x0 x1) ++ (⟨#[32, 115, 105, 103, 110, 97, 108, 32]⟩ : ByteArray)
def ref17_Text_ai5_e4 (x0 : Int) (x1 : Int) (x2 : Int) : ByteArray := (ref17_Text_ai5_e3 x0 x1) ++ (⟨(digsN (x2 : Int).toNat).toArray⟩ : ByteArray)
def ref17_Text_ai5_e5 (x0 : Int) (x1 : Int) (x2 : Int) : ByteArray := ((ref17_Text_ai5_e4 x0 x1 x2) ++ (⟨#[32]⟩ : ByteArray)) ++ (⟨#[111, 117, 116]⟩ : ByteArray)
def ref17_Text_ai5_e6 (x0 : Int) (x1 : Int) (x2 : Int) (x4 : Int) : ByteArray := ((ref17_Text_ai5_e5 x0 x1 x2) ++ (⟨#[32]⟩ : ByteArray)) ++ (ref14_Text_i_r0_0 x4)
def ref17_Text_ai5_e7 (x0 : Int) (x1 : Int) (x2 : Int) : ByteArray := ((ref17_Text_ai5_e4 x0 x1 x2) ++ (⟨#[32]⟩ : ByteArray)) ++ (⟨#[98, 97, 99, 107]⟩ : ByteArray)
def ref17_Text_ai5_e8 (x0 : Int) (x1 : Int) (x2 : Int) (x4 : Int) : ByteArray := ((ref17_Text_ai5_e7 x0 x1 x2) ++ (⟨#[32]⟩ : ByteArray)) ++ (ref14_Text_i_r0_0 x4)
def ref17_Text_ai5_e9 (x0 : Int) (x1 : Int) (x2 : Int) : ByteArray := ((ref17_Text_ai5_e4 x0 x1 x2) ++ (⟨#[32]⟩ : ByteArray)) ++ (⟨#[108, 97, 116, 99, 104, 101, 100]⟩ : ByteArray)
def ref17_Text_ai5_e10 (x0 : Int) (x1 : Int) (x2 : Int) (x4 : Int) : ByteArray := ((ref17_Text_ai5_e9 x0 x1 x2) ++ (⟨#[32]⟩ : ByteArray)) ++ (ref14_Text_i_r0_0 x4)
def ref17_Text_ai5_c0 (x0 : Int) (x1 : Int) (x2 : Int) (x3 : Int) (x4 : Int) : Bool := (bif tb (ref17_Right_ai5_S0_r0_0 x0 x1 x2 x3 x4) then (bif tb ((x3 : Int) == 1) then (bif tb ((x3 : Int) == 2) then (bif tb (ref17_Figures_i_in x0) then (bif tb (ref17_Figures_i_in x1) then (bif tb (ref17_Figures_i_in x2) then (bif tb (ref14_Text_i_c0 x4) then (bif tb (decide ((⟨#[99, 121, 99, 108, 101, 32]⟩ : ByteArray).size + (⟨(digsN (x0 : Int).toNat).toArray⟩ : ByteArray).size ≤ 9223372036854775807)) then (bif tb (decide ((ref17_Text_ai5_e0 x0).size + (⟨#[32, 99, 104, 97, 110, 110, 101, 108, 32]⟩ : ByteArray).size ≤ 9223372036854775807)) then (bif tb (decide ((ref17_Text_ai5_e1 x0).size + (⟨(digsN (x1 : Int).toNat).toArray⟩ : ByteArray).size ≤ 9223372036854775807)) then (bif tb (decide ((ref17_Text_ai5_e2 x0 x1).size + (⟨#[32, 115, 105, 103, 110, 97, 108, 32]⟩ : ByteArray).size ≤ 9223372036854775807)) then (bif tb (decide ((ref17_Text_ai5_e3 x0 x1).size + (⟨(digsN (x2 : Int).toNat).toArray⟩ : ByteArray).size ≤ 9223372036854775807)) then (bif tb (decide ((ref17_Text_ai5_e4 x0 x1 x2).size + (⟨#[32]⟩ : ByteArray).size ≤ 9223372036854775807)) then (bif tb (decide (((ref17_Text_ai5_e4 x0 x1 x2) ++ (⟨#[32]⟩ : ByteArray)).size + (⟨#[111, 117, 116]⟩ : ByteArray).size ≤ 9223372036854775807)) then (bif tb (decide ((ref17_Text_ai5_e5 x0 x1 x2).size + (⟨#[32]⟩ : ByteArray).size ≤ 9223372036854775807)) then (bif tb (decide (((ref17_Text_ai5_e5 x0 x1 x2) ++ (⟨#[32]⟩ : ByteArray)).size + (ref14_Text_i_r0_0 x4).size ≤ 9223372036854775807)) then true else false) else false) else false) else false) else false) else false) else false) else false) else false) else false) else false) else false) else false) else (bif tb (ref17_Figures_i_in x0) then (bif tb (ref17_Figures_i_in x1) then (bif tb (ref17_Figures_i_in x2) then (bif tb (ref14_Text_i_c0 x4) then (bif tb (decide ((⟨#[99, 121, 99, 108, 101, 32]⟩ : ByteArray).size + (⟨(digsN (x0 : Int).toNat).toArray⟩ : ByteArray).size ≤ 9223372036854775807)) then (bif tb (decide ((ref17_Text_ai5_e0 x0).size + (⟨#[32, 99, 104, 97, 110, 110, 101, 108, 32]⟩ : ByteArray).size ≤ 9223372036854775807)) then (bif tb (decide ((ref17_Text_ai5_e1 x0).size + (⟨(digsN (x1 : Int).toNat).toArray⟩ : ByteArray).size ≤ 9223372036854775807)) then (bif tb (decide ((ref17_Text_ai5_e2 x0 x1).size + (⟨#[32, 115, 105, 103, 110, 97, 108, 32]⟩ : ByteArray).size ≤ 9223372036854775807)) then (bif tb (decide ((ref17_Text_ai5_e3 x0 x1).size + (⟨(digsN (x2 : Int).toNat).toArray⟩ : ByteArray).size ≤ 9223372036854775807)) then (bif tb (decide ((ref17_Text_ai5_e4 x0 x1 x2).size + (⟨#[32]⟩ : ByteArray).size ≤ 9223372036854775807)) then (bif tb (decide (((ref17_Text_ai5_e4 x0 x1 x2) ++ (⟨#[32]⟩ : ByteArray)).size + (⟨#[98, 97, 99, 107]⟩ : ByteArray).size ≤ 9223372036854775807)) then (bif tb (decide ((ref17_Text_ai5_e7 x0 x1 x2).size + (⟨#[32]⟩ : ByteArray).size ≤ 9223372036854775807)) then (bif tb (decide (((ref17_Text_ai5_e7 x0 x1 x2) ++ (⟨#[32]⟩ : ByteArray)).size + (ref14_Text_i_r0_0 x4).size ≤ 9223372036854775807)) then true else false) else false) else false) else false) else false) else false) else false) else false) else false) else false) else false) else false) else false)) else (bif tb ((x3 : Int) == 2) then (bif tb (ref17_Figures_i_in x0) then (bif tb (ref17_Figures_i_in x1) then (bif tb (ref17_Figures_i_in x2) then (bif tb (ref14_Text_i_c0 x4) then (bif tb (decide ((⟨#[99, 121, 99, 108, 101, 32]⟩ : ByteArray).size + (⟨(digsN (x0 : Int).toNat).toArray⟩ : ByteArray).size ≤ 9223372036854775807)) then (bif tb (decide ((ref17_Text_ai5_e0 x0).size + (⟨#[32, 99, 104, 97, 110, 110, 101, 108, 32]⟩ : ByteArray).size ≤ 9223372036854775807)) then (bif tb (decide ((ref17_Text_ai5_e1 x0).size + (⟨(digsN (x1 : Int).toNat).toArray⟩ : ByteArray).size ≤ 9223372036854775807)) then (bif tb (decide ((ref17_Text_ai5_e2 x0 x1).size + (⟨#[32, 115, 105, 103, 110, 97, 108, 32]⟩ : ByteArray).size ≤ 9223372036854775807)) then (bif tb (decide ((ref17_Text_ai5_e3 x0 x1).size + (⟨(digsN (x2 : Int).toNat).toArray⟩ : ByteArray).size ≤ 9223372036854775807)) then (bif tb (decide ((ref17_Text_ai5_e4 x0 x1 x2).size + (⟨#[32]⟩ : ByteArray).size ≤ 9223372036854775807)) then (bif tb (decide (((ref17_Text_ai5_e4 x0 x1 x2) ++ (⟨#[32]⟩ : ByteArray)).size + (⟨#[111, 117, 116]⟩ : ByteArray).size ≤ 9223372036854775807)) then (bif tb (decide ((ref17_Text_ai5_e5 x0 x1 x2).size + (⟨#[32]⟩ : ByteArray).size ≤ 9223372036854775807)) then (bif tb (decide (((ref17_Text_ai5_e5 x0 x1 x2) ++ (⟨#[32]⟩ : ByteArray)).size + (ref14_Text_i_r0_0 x4).size ≤ 9223372036854775807)) then true else false) else false) else false) else false) else false) else false) else false) else false) else false) else false) else false) else false) else false) else (bif tb (ref17_Figures_i_in x0) then (bif tb (ref17_Figures_i_in x1) then (bif tb (ref17_Figures_i_in x2) then (bif tb (ref14_Text_i_c0 x4) then (bif tb (decide ((⟨#[99, 121, 99, 108, 101, 32]⟩ : ByteArray).size + (⟨(digsN (x0 : Int).toNat).toArray⟩ : ByteArray).size ≤ 9223372036854775807)) then (bif tb (decide ((ref17_Text_ai5_e0 x0).size + (⟨#[32, 99, 104, 97, 110, 110, 101, 108, 32]⟩ : ByteArray).size ≤ 9223372036854775807)) then (bif tb (decide ((ref17_Text_ai5_e1 x0).size + (⟨(digsN (x1 : Int).toNat).toArray⟩ : ByteArray).size ≤ 9223372036854775807)) then (bif tb (decide ((ref17_Text_ai5_e2 x0 x1).size + (⟨#[32, 115, 105, 103, 110, 97, 108, 32]⟩ : ByteArray).size ≤ 9223372036854775807)) then (bif tb (decide ((ref17_Text_ai5_e3 x0 x1).size + (⟨(digsN (x2 : Int).toNat).toArray⟩ : ByteArray).size ≤ 9223372036854775807)) then (bif tb (decide ((ref17_Text_ai5_e4 x0 x1 x2).size + (⟨#[32]⟩ : ByteArray).size ≤ 9223372036854775807)) then (bif tb (decide (((ref17_Text_ai5_e4 x0 x1 x2) ++ (⟨#[32]⟩ : ByteArray)).size + (⟨#[108, 97, 116, 99, 104, 101, 100]⟩ : ByteArray).size ≤ 9223372036854775807)) then (bif tb (decide ((ref17_Text_ai5_e9 x0 x1 x2).size + (⟨#[32]⟩ : ByteArray).size ≤ 9223372036854775807)) then (bif tb (decide (((ref17_Text_ai5_e9 x0 x1 x2) ++ (⟨#[32]⟩ : ByteArray)).size + (ref14_Text_i_r0_0 x4).size ≤ 9223372036854775807)) then true else false) else false) else false) else false) else false) else false) else false) else false) else false) else false) else false) else false) else false))) else true)
def ref17_Text_ai5_r0_0 (x0 : Int) (x1 : Int) (x2 : Int) (x3 : Int) (x4 : Int) : ByteArray := (bif tb (ref17_Right_ai5_S0_r0_0 x0 x1 x2 x3 x4) then (bif tb ((x3 : Int) == 1) then (bif tb ((x3 : Int) == 2) then (ref17_Text_ai5_e6 x0 x1 x2 x4) else (ref17_Text_ai5_e8 x0 x1 x2 x4)) else (bif tb ((x3 : Int) == 2) then (ref17_Text_ai5_e6 x0 x1 x2 x4) else (ref17_Text_ai5_e10 x0 x1 x2 x4))) else ⟨#[]⟩)
theorem ref17_Text_ai5_t0 (x0 : Int) (x1 : Int) (x2 : Int) (x3 : Int) (x4 : Int) : ref17_Text_ai5_c0 x0 x1 x2 x3 x4 = true → cl E0 45 [(V.agg [(V.d (.int .i64 x0)), (V.d (.int .i64 x1)), (V.d (.int .i64 x2)), (V.d (.int .i64 x3)), (V.d (.int .i64 x4))])] [] = some ([(V.d (.str (ref17_Text_ai5_r0_0 x0 x1 x2 x3 x4)))], []) := by
  unfold ref17_Text_ai5_c0 ref17_Text_ai5_r0_0
  cases h1 : tb (ref17_Right_ai5_S0_r0_0 x0 x1 x2 x3 x4)
  · intro g0
    exact w45 [.c (ref17_Right_ai5_t0 x0 x1 x2 x3 x4), .b (notF (tbE h1))] (by kernel_rfl)
  · cases h2 : tb ((x3 : Int) == 1)
    · cases h3 : tb ((x3 : Int) == 2)
      · cases h4 : tb (ref17_Figures_i_in x0)
        · intro g0
          exact absurd g0 ft
        · cases h5 : tb (ref17_Figures_i_in x1)
          · intro g0
            exact absurd g0 ft
          · cases h6 : tb (ref17_Figures_i_in x2)
            · intro g0
              exact absurd g0 ft
            · cases h7 : tb (ref14_Text_i_c0 x4)
              · intro g0
                exact absurd g0 ft
              · cases h8 : tb (decide ((⟨#[99, 121, 99, 108, 101, 32]⟩ : ByteArray).size + (⟨(digsN (x0 : Int).toNat).toArray⟩ : ByteArray).size ≤ 9223372036854775807))
                · intro g0
                  exact absurd g0 ft
                · cases h9 : tb (decide ((ref17_Text_ai5_e0 x0).size + (⟨#[32, 99, 104, 97, 110, 110, 101, 108, 32]⟩ : ByteArray).size ≤ 9223372036854775807))
                  · intro g0
                    exact absurd g0 ft
                  · cases h10 : tb (decide ((ref17_Text_ai5_e1 x0).size + (⟨(digsN (x1 : Int).toNat).toArray⟩ : ByteArray).size ≤ 9223372036854775807))
                    · intro g0
                      exact absurd g0 ft
                    · cases h11 : tb (decide ((ref17_Text_ai5_e2 x0 x1).size + (⟨#[32, 115, 105, 103, 110, 97, 108, 32]⟩ : ByteArray).size ≤ 9223372036854775807))
                      · intro g0
                        exact absurd g0 ft
                      · cases h12 : tb (decide ((ref17_Text_ai5_e3 x0 x1).size + (⟨(digsN (x2 : Int).toNat).toArray⟩ : ByteArray).size ≤ 9223372036854775807))
                        · intro g0
                          exact absurd g0 ft
                        · cases h13 : tb (decide ((ref17_Text_ai5_e4 x0 x1 x2).size + (⟨#[32]⟩ : ByteArray).size ≤ 9223372036854775807))
                          · intro g0
                            exact absurd g0 ft
                          · cases h14 : tb (decide (((ref17_Text_ai5_e4 x0 x1 x2) ++ (⟨#[32]⟩ : ByteArray)).size + (⟨#[108, 97, 116, 99, 104, 101, 100]⟩ : ByteArray).size ≤ 9223372036854775807))
                            · intro g0
                              exact absurd g0 ft
                            · cases h15 : tb (decide ((ref17_Text_ai5_e9 x0 x1 x2).size + (⟨#[32]⟩ : ByteArray).size ≤ 9223372036854775807))
                              · intro g0
                                exact absurd g0 ft
                              · cases h16 : tb (decide (((ref17_Text_ai5_e9 x0 x1 x2) ++ (⟨#[32]⟩ : ByteArray)).size + (ref14_Text_i_r0_0 x4).size ≤ 9223372036854775807))
                                · intro g0
                                  exact absurd g0 ft
                                · intro g0
                                  exact w45 [.c (ref17_Right_ai5_t0 x0 x1 x2 x3 x4), .b (notT (tbE h1)), .b (tbE h2), .b (tbE h3), .c (ref17_Figures_i_all x0 (tbE h4)), .c (ref17_Figures_i_all x1 (tbE h5)), .c (ref17_Figures_i_all x2 (tbE h6)), .c (ref14_Text_i_t0 x4 (tbE h7)), .o 32 (fun _ => o_addstr (x := (⟨#[99, 121, 99, 108, 101, 32]⟩ : ByteArray)) (y := (⟨(digsN (x0 : Int).toNat).toArray⟩ : ByteArray)) (tbE h8)), .o 33 (fun _ => o_addstr (x := (ref17_Text_ai5_e0 x0)) (y := (⟨#[32, 99, 104, 97, 110, 110, 101, 108, 32]⟩ : ByteArray)) (tbE h9)), .o 35 (fun _ => o_addstr (x := (ref17_Text_ai5_e1 x0)) (y := (⟨(digsN (x1 : Int).toNat).toArray⟩ : ByteArray)) (tbE h10)), .o 36 (fun _ => o_addstr (x := (ref17_Text_ai5_e2 x0 x1)) (y := (⟨#[32, 115, 105, 103, 110, 97, 108, 32]⟩ : ByteArray)) (tbE h11)), .o 38 (fun _ => o_addstr (x := (ref17_Text_ai5_e3 x0 x1)) (y := (⟨(digsN (x2 : Int).toNat).toArray⟩ : ByteArray)) (tbE h12)), .o 39 (fun _ => o_addstr (x := (ref17_Text_ai5_e4 x0 x1 x2)) (y := (⟨#[32]⟩ : ByteArray)) (tbE h13)), .o 41 (fun _ => o_addstr (x := ((ref17_Text_ai5_e4 x0 x1 x2) ++ (⟨#[32]⟩ : ByteArray))) (y := (⟨#[108, 97, 116, 99, 104, 101, 100]⟩ : ByteArray)) (tbE h14)), .o 42 (fun _ => o_addstr (x := (ref17_Text_ai5_e9 x0 x1 x2)) (y := (⟨#[32]⟩ : ByteArray)) (tbE h15)), .o 44 (fun _ => o_addstr (x := ((ref17_Text_ai5_e9 x0 x1 x2) ++ (⟨#[32]⟩ : ByteArray))) (y := (ref14_Text_i_r0_0 x4)) (tbE h16))] (by kernel_rfl)
      · cases h4 : tb (ref17_Figures_i_in x0)
        · intro g0
          exact absurd g0 ft
        · cases h5 : tb (ref17_Figures_i_in x1)
          · intro g0
            exact absurd g0 ft
          · cases h6 : tb (ref17_Figures_i_in x2)
            · intro g0
              exact absurd g0 ft
            · cases h7 : tb (ref14_Text_i_c0 x4)
              · intro g0
                exact absurd g0 ft
              · cases h8 : tb (decide ((⟨#[99, 121, 99, 108, 101, 32]⟩ : ByteArray).size + (⟨(digsN (x0 : Int).toNat).toArray⟩ : ByteArray).size ≤ 9223372036854775807))
                · intro g0
                  exact absurd g0 ft
                · cases h9 : tb (decide ((ref17_Text_ai5_e0 x0).size + (⟨#[32, 99, 104, 97, 110, 110, 101, 108, 32]⟩ : ByteArray).size ≤ 9223372036854775807))
                  · intro g0
                    exact absurd g0 ft
                  · cases h10 : tb (decide ((ref17_Text_ai5_e1 x0).size + (⟨(digsN (x1 : Int).toNat).toArray⟩ : ByteArray).size ≤ 9223372036854775807))
                    · intro g0
                      exact absurd g0 ft
                    · cases h11 : tb (decide ((ref17_Text_ai5_e2 x0 x1).size + (⟨#[32, 115, 105, 103, 110, 97, 108, 32]⟩ : ByteArray).size ≤ 9223372036854775807))
                      · intro g0
                        exact absurd g0 ft
                      · cases h12 : tb (decide ((ref17_Text_ai5_e3 x0 x1).size + (⟨(digsN (x2 : Int).toNat).toArray⟩ : ByteArray).size ≤ 9223372036854775807))
                        · intro g0
                          exact absurd g0 ft
                        · cases h13 : tb (decide ((ref17_Text_ai5_e4 x0 x1 x2).size + (⟨#[32]⟩ : ByteArray).size ≤ 9223372036854775807))
                          · intro g0
                            exact absurd g0 ft
                          · cases h14 : tb (decide (((ref17_Text_ai5_e4 x0 x1 x2) ++ (⟨#[32]⟩ : ByteArray)).size + (⟨#[111, 117, 116]⟩ : ByteArray).size ≤ 9223372036854775807))
                            · intro g0
                              exact absurd g0 ft
                            · cases h15 : tb (decide ((ref17_Text_ai5_e5 x0 x1 x2).size + (⟨#[32]⟩ : ByteArray).size ≤ 9223372036854775807))
                              · intro g0
                                exact absurd g0 ft
                              · cases h16 : tb (decide (((ref17_Text_ai5_e5 x0 x1 x2) ++ (⟨#[32]⟩ : ByteArray)).size + (ref14_Text_i_r0_0 x4).size ≤ 9223372036854775807))
                                · intro g0
                                  exact absurd g0 ft
                                · intro g0
                                  exact w45 [.c (ref17_Right_ai5_t0 x0 x1 x2 x3 x4), .b (notT (tbE h1)), .b (tbE h2), .b (tbE h3), .c (ref17_Figures_i_all x0 (tbE h4)), .c (ref17_Figures_i_all x1 (tbE h5)), .c (ref17_Figures_i_all x2 (tbE h6)), .c (ref14_Text_i_t0 x4 (tbE h7)), .o 32 (fun _ => o_addstr (x := (⟨#[99, 121, 99, 108, 101, 32]⟩ : ByteArray)) (y := (⟨(digsN (x0 : Int).toNat).toArray⟩ : ByteArray)) (tbE h8)), .o 33 (fun _ => o_addstr (x := (ref17_Text_ai5_e0 x0)) (y := (⟨#[32, 99, 104, 97, 110, 110, 101, 108, 32]⟩ : ByteArray)) (tbE h9)), .o 35 (fun _ => o_addstr (x := (ref17_Text_ai5_e1 x0)) (y := (⟨(digsN (x1 : Int).toNat).toArray⟩ : ByteArray)) (tbE h10)), .o 36 (fun _ => o_addstr (x := (ref17_Text_ai5_e2 x0 x1)) (y := (⟨#[32, 115, 105, 103, 110, 97, 108, 32]⟩ : ByteArray)) (tbE h11)), .o 38 (fun _ => o_addstr (x := (ref17_Text_ai5_e3 x0 x1)) (y := (⟨(digsN (x2 : Int).toNat).toArray⟩ : ByteArray)) (tbE h12)), .o 39 (fun _ => o_addstr (x := (ref17_Text_ai5_e4 x0 x1 x2)) (y := (⟨#[32]⟩ : ByteArray)) (tbE h13)), .o 41 (fun _ => o_addstr (x := ((ref17_Text_ai5_e4 x0 x1 x2) ++ (⟨#[32]⟩ : ByteArray))) (y := (⟨#[111, 117, 116]⟩ : ByteArray)) (tbE h14)), .o 42 (fun _ => o_addstr (x := (ref17_Text_ai5_e5 x0 x1 x2)) (y := (⟨#[32]⟩ : ByteArray)) (tbE h15)), .o 44 (fun _ => o_addstr (x := ((ref17_Text_ai5_e5 x0 x1 x2) ++ (⟨#[32]⟩ : ByteArray))) (y := (ref14_Text_i_r0_0 x4)) (tbE h16))] (by kernel_rfl)
    · cases h3 : tb ((x3 : Int) == 2)
      · cases h4 : tb (ref17_Figures_i_in x0)
        · intro g0
          exact absurd g0 ft
        · cases h5 : tb (ref17_Figures_i_in x1)
          · intro g0
            exact absurd g0 ft
          · cases h6 : tb (ref17_Figures_i_in x2)
            · intro g0
              exact absurd g0 ft
            · cases h7 : tb (ref14_Text_i_c0 x4)
              · intro g0
                exact absurd g0 ft
              · cases h8 : tb (decide ((⟨#[99, 121, 99, 108, 101, 32]⟩ : ByteArray).size + (⟨(digsN (x0 : Int).toNat).toArray⟩ : ByteArray).size ≤ 9223372036854775807))
                · intro g0
                  exact absurd g0 ft
                · cases h9 : tb (decide ((ref17_Text_ai5_e0 x0).size + (⟨#[32, 99, 104, 97, 110, 110, 101, 108, 32]⟩ : ByteArray).size ≤ 9223372036854775807))
                  · intro g0
                    exact absurd g0 ft
                  · cases h10 : tb (decide ((ref17_Text_ai5_e1 x0).size + (⟨(digsN (x1 : Int).toNat).toArray⟩ : ByteArray).size ≤ 9223372036854775807))
                    · intro g0
                      exact absurd g0 ft
                    · cases h11 : tb (decide ((ref17_Text_ai5_e2 x0 x1).size + (⟨#[32, 115, 105, 103, 110, 97, 108, 32]⟩ : ByteArray).size ≤ 9223372036854775807))
                      · intro g0
                        exact absurd g0 ft
                      · cases h12 : tb (decide ((ref17_Text_ai5_e3 x0 x1).size + (⟨(digsN (x2 : Int).toNat).toArray⟩ : ByteArray).size ≤ 9223372036854775807))
                        · intro g0
                          exact absurd g0 ft
                        · cases h13 : tb (decide ((ref17_Text_ai5_e4 x0 x1 x2).size + (⟨#[32]⟩ : ByteArray).size ≤ 9223372036854775807))
                          · intro g0
                            exact absurd g0 ft
                          · cases h14 : tb (decide (((ref17_Text_ai5_e4 x0 x1 x2) ++ (⟨#[32]⟩ : ByteArray)).size + (⟨#[98, 97, 99, 107]⟩ : ByteArray).size ≤ 9223372036854775807))
                            · intro g0
                              exact absurd g0 ft
                            · cases h15 : tb (decide ((ref17_Text_ai5_e7 x0 x1 x2).size + (⟨#[32]⟩ : ByteArray).size ≤ 9223372036854775807))
                              · intro g0
                                exact absurd g0 ft
                              · cases h16 : tb (decide (((ref17_Text_ai5_e7 x0 x1 x2) ++ (⟨#[32]⟩ : ByteArray)).size + (ref14_Text_i_r0_0 x4).size ≤ 9223372036854775807))
                                · intro g0
                                  exact absurd g0 ft
                                · intro g0
                                  exact w45 [.c (ref17_Right_ai5_t0 x0 x1 x2 x3 x4), .b (notT (tbE h1)), .b (tbE h2), .b (tbE h3), .c (ref17_Figures_i_all x0 (tbE h4)), .c (ref17_Figures_i_all x1 (tbE h5)), .c (ref17_Figures_i_all x2 (tbE h6)), .c (ref14_Text_i_t0 x4 (tbE h7)), .o 32 (fun _ => o_addstr (x := (⟨#[99, 121, 99, 108, 101, 32]⟩ : ByteArray)) (y := (⟨(digsN (x0 : Int).toNat).toArray⟩ : ByteArray)) (tbE h8)), .o 33 (fun _ => o_addstr (x := (ref17_Text_ai5_e0 x0)) (y := (⟨#[32, 99, 104, 97, 110, 110, 101, 108, 32]⟩ : ByteArray)) (tbE h9)), .o 35 (fun _ => o_addstr (x := (ref17_Text_ai5_e1 x0)) (y := (⟨(digsN (x1 : Int).toNat).toArray⟩ : ByteArray)) (tbE h10)), .o 36 (fun _ => o_addstr (x := (ref17_Text_ai5_e2 x0 x1)) (y := (⟨#[32, 115, 105, 103, 110, 97, 108, 32]⟩ : ByteArray)) (tbE h11)), .o 38 (fun _ => o_addstr (x := (ref17_Text_ai5_e3 x0 x1)) (y := (⟨(digsN (x2 : Int).toNat).toArray⟩ : ByteArray)) (tbE h12)), .o 39 (fun _ => o_addstr (x := (ref17_Text_ai5_e4 x0 x1 x2)) (y := (⟨#[32]⟩ : ByteArray)) (tbE h13)), .o 41 (fun _ => o_addstr (x := ((ref17_Text_ai5_e4 x0 x1 x2) ++ (⟨#[32]⟩ : ByteArray))) (y := (⟨#[98, 97, 99, 107]⟩ : ByteArray)) (tbE h14)), .o 42 (fun _ => o_addstr (x := (ref17_Text_ai5_e7 x0 x1 x2)) (y := (⟨#[32]⟩ : ByteArray)) (tbE h15)), .o 44 (fun _ => o_addstr (x := ((ref17_Text_ai5_e7 x0 x1 x2) ++ (⟨#[32]⟩ : ByteArray))) (y := (ref14_Text_i_r0_0 x4)) (tbE h16))] (by kernel_rfl)
      · cases h4 : tb (ref17_Figures_i_in x0)
        · intro g0
          exact absurd g0 ft
        · cases h5 : tb (ref17_Figures_i_in x1)
          · intro g0
            exact absurd g0 ft
          · cases h6 : tb (ref17_Figures_i_in x2)
            · intro g0
              exact absurd g0 ft
            · cases h7 : tb (ref14_Text_i_c0 x4)
              · intro g0
                exact absurd g0 ft
              · cases h8 : tb (decide ((⟨#[99, 121, 99, 108, 101, 32]⟩ : ByteArray).size + (⟨(digsN (x0 : Int).toNat).toArray⟩ : ByteArray).size ≤ 9223372036854775807))
                · intro g0
                  exact absurd g0 ft
                · cases h9 : tb (decide ((ref17_Text_ai5_e0 x0).size + (⟨#[32, 99, 104, 97, 110, 110, 101, 108, 32]⟩ : ByteArray).size ≤ 9223372036854775807))
                  · intro g0
                    exact absurd g0 ft
                  · cases h10 : tb (decide ((ref17_Text_ai5_e1 x0).size + (⟨(digsN (x1 : Int).toNat).toArray⟩ : ByteArray).size ≤ 9223372036854775807))
                    · intro g0
                      exact absurd g0 ft
                    · cases h11 : tb (decide ((ref17_Text_ai5_e2 x0 x1).size + (⟨#[32, 115, 105, 103, 110, 97, 108, 32]⟩ : ByteArray).size ≤ 9223372036854775807))
                      · intro g0
                        exact absurd g0 ft
                      · cases h12 : tb (decide ((ref17_Text_ai5_e3 x0 x1).size + (⟨(digsN (x2 : Int).toNat).toArray⟩ : ByteArray).size ≤ 9223372036854775807))
                        · intro g0
                          exact absurd g0 ft
                        · cases h13 : tb (decide ((ref17_Text_ai5_e4 x0 x1 x2).size + (⟨#[32]⟩ : ByteArray).size ≤ 9223372036854775807))
                          · intro g0
                            exact absurd g0 ft
                          · cases h14 : tb (decide (((ref17_Text_ai5_e4 x0 x1 x2) ++ (⟨#[32]⟩ : ByteArray)).size + (⟨#[111, 117, 116]⟩ : ByteArray).size ≤ 9223372036854775807))
                            · intro g0
                              exact absurd g0 ft
                            · cases h15 : tb (decide ((ref17_Text_ai5_e5 x0 x1 x2).size + (⟨#[32]⟩ : ByteArray).size ≤ 9223372036854775807))
                              · intro g0
                                exact absurd g0 ft
                              · cases h16 : tb (decide (((ref17_Text_ai5_e5 x0 x1 x2) ++ (⟨#[32]⟩ : ByteArray)).size + (ref14_Text_i_r0_0 x4).size ≤ 9223372036854775807))
                                · intro g0
                                  exact absurd g0 ft
                                · intro g0
                                  exact w45 [.c (ref17_Right_ai5_t0 x0 x1 x2 x3 x4), .b (notT (tbE h1)), .b (tbE h2), .b (tbE h3), .c (ref17_Figures_i_all x0 (tbE h4)), .c (ref17_Figures_i_all x1 (tbE h5)), .c (ref17_Figures_i_all x2 (tbE h6)), .c (ref14_Text_i_t0 x4 (tbE h7)), .o 32 (fun _ => o_addstr (x := (⟨#[99, 121, 99, 108, 101, 32]⟩ : ByteArray)) (y := (⟨(digsN (x0 : Int).toNat).toArray⟩ : ByteArray)) (tbE h8)), .o 33 (fun _ => o_addstr (x := (ref17_Text_ai5_e0 x0)) (y := (⟨#[32, 99, 104, 97, 110, 110, 101, 108, 32]⟩ : ByteArray)) (tbE h9)), .o 35 (fun _ => o_addstr (x := (ref17_Text_ai5_e1 x0)) (y := (⟨(digsN (x1 : Int).toNat).toArray⟩ : ByteArray)) (tbE h10)), .o 36 (fun _ => o_addstr (x := (ref17_Text_ai5_e2 x0 x1)) (y := (⟨#[32, 115, 105, 103, 110, 97, 108, 32]⟩ : ByteArray)) (tbE h11)), .o 38 (fun _ => o_addstr (x := (ref17_Text_ai5_e3 x0 x1)) (y := (⟨(digsN (x2 : Int).toNat).toArray⟩ : ByteArray)) (tbE h12)), .o 39 (fun _ => o_addstr (x := (ref17_Text_ai5_e4 x0 x1 x2)) (y := (⟨#[32]⟩ : ByteArray)) (tbE h13)), .o 41 (fun _ => o_addstr (x := ((ref17_Text_ai5_e4 x0 x1 x2) ++ (⟨#[32]⟩ : ByteArray))) (y := (⟨#[111, 117, 116]⟩ : ByteArray)) (tbE h14)), .o 42 (fun _ => o_addstr (x := (ref17_Text_ai5_e5 x0 x1 x2)) (y := (⟨#[32]⟩ : ByteArray)) (tbE h15)), .o 44 (fun _ => o_addstr (x := ((ref17_Text_ai5_e5 x0 x1 x2) ++ (⟨#[32]⟩ : ByteArray))) (y := (ref14_Text_i_r0_0 x4)) (tbE h16))] (by kernel_rfl)
end Go.Proofs.YtkipngagfiaddaaDoor.Den

namespace Go.Proofs.YtkipngagfiaddaaDoor.Den
open Go Go.Proofs
set_option linter.unusedVariables false
set_option linter.unusedSimpArgs false
set_option maxRecDepth 100000
def ckM (e : Nat) : Bool := ref14_Text_i_c0 (e : Int) && ((trip_Text_i_r0_0 (e : Int)).data.toList == (ref14_Text_i_r0_0 (e : Int)).data.toList) && Nat.ble (trip_Text_i_r0_0 (e : Int)).data.toList.length 100 && !((trip_Text_i_r0_0 (e : Int)).toList == (⟨#[]⟩ : ByteArray).toList)
theorem ckM_all : (List.range 64).all ckM = true := by kernel_rfl
theorem mask_in {e : Int} (h : 0 ≤ e ∧ e ≤ 63) : ref14_Text_i_c0 e = true ∧ ref14_Text_i_r0_0 e = trip_Text_i_r0_0 e ∧ (trip_Text_i_r0_0 e).size ≤ 100 ∧ ((trip_Text_i_r0_0 e).toList == (⟨#[]⟩ : ByteArray).toList) = false := by
  have := List.all_eq_true.1 ckM_all e.toNat (List.mem_range.2 (by omega))
  unfold ckM at this
  rw [show ((e.toNat : Nat) : Int) = e by omega] at this
  simp only [Bool.and_eq_true, beq_iff_eq, Bool.not_eq_true'] at this
  obtain ⟨⟨⟨h1, h2⟩, h3⟩, h4⟩ := this
  refine ⟨h1, ?_, by have := Nat.le_of_ble_eq_true h3; rw [Array.length_toList] at this; exact this, h4⟩
  apply ByteArray.ext
  exact (Array.ext' h2).symm
theorem mask_out {e : Int} (h : ¬ (0 ≤ e ∧ e ≤ 63)) : trip_Text_i_r0_0 e = ⟨#[]⟩ := by
  by_cases h1 : e < 0
  · simp [trip_Text_i_r0_0, trip_Text_i_S0_c0, trip_Text_i_S0_r0_0, tb_eq, h1]
  · have h2 : 63 < e := by omega
    simp [trip_Text_i_r0_0, trip_Text_i_S0_c0, trip_Text_i_S0_r0_0, tb_eq, h1, h2]
theorem rN_iff (n : N5) : rN n = true ↔ 0 ≤ n.c0 ∧ (0 ≤ n.c1 ∧ n.c1 < 4) ∧ (0 ≤ n.c2 ∧ n.c2 < 8) ∧ (0 ≤ n.c3 ∧ n.c3 < 3) ∧ (0 ≤ n.c4 ∧ n.c4 ≤ 63) := by
  have hm : (!((trip_Text_i_r0_0 n.c4).toList == (⟨#[]⟩ : ByteArray).toList)) = decide (0 ≤ n.c4 ∧ n.c4 ≤ 63) := by
    by_cases h : 0 ≤ n.c4 ∧ n.c4 ≤ 63
    · rw [(mask_in h).2.2.2, decide_eq_true h]; rfl
    · rw [mask_out h, decide_eq_false h, beq_self_eq_true]; rfl
  have h2 : ∀ a b : Int, ring_Right_c1_ii_r0_0 a b = decide (0 ≤ a ∧ a < b) := fun a b => by
    simp only [ring_Right_c1_ii_r0_0, tb_eq]
    by_cases h : 0 ≤ a <;> simp [h]
  unfold rN ring_Right_ai5_r0_0
  simp only [hm, h2, tb_eq]
  by_cases a1 : 0 ≤ n.c0 <;> by_cases a2 : 0 ≤ n.c1 ∧ n.c1 < 4 <;> by_cases a3 : 0 ≤ n.c2 ∧ n.c2 < 8 <;> by_cases a4 : 0 ≤ n.c3 ∧ n.c3 < 3 <;> simp [a1, a2, a3, a4]
theorem rright_N (n : N5) : ref17_Right_ai5_S0_r0_0 n.c0 n.c1 n.c2 n.c3 n.c4 = rN n := by
  rw [Bool.eq_iff_iff, rN_iff]
  simp only [ref17_Right_ai5_S0_r0_0, tb_eq]
  by_cases a1 : 0 ≤ n.c0 <;> by_cases a2 : 0 ≤ n.c1 <;> by_cases a3 : n.c1 ≤ 3 <;> by_cases a4 : 0 ≤ n.c2 <;> by_cases a5 : n.c2 ≤ 7 <;> by_cases a6 : 0 ≤ n.c3 <;> by_cases a7 : n.c3 ≤ 2 <;> by_cases a8 : 0 ≤ n.c4 <;> simp [a1, a2, a3, a4, a5, a6, a7, a8] <;> omega
theorem digsN_len (n : Nat) : (digsN n).length ≤ 20 := digsF_len 19 n
theorem digs_size (n : Nat) : (⟨(digsN n).toArray⟩ : ByteArray).size ≤ 20 := by
  show (digsN n).toArray.size ≤ 20
  simpa using digsN_len n
theorem text_eq {n : N5} (hr : rN n = true) (hw : n.c0 ≤ 9223372036854775807) :
    ring_Text_ai5_c0 n.c0 n.c1 n.c2 n.c3 n.c4 = true ∧ ref17_Text_ai5_c0 n.c0 n.c1 n.c2 n.c3 n.c4 = true ∧ ring_Text_ai5_r0_0 n.c0 n.c1 n.c2 n.c3 n.c4 = ref17_Text_ai5_r0_0 n.c0 n.c1 n.c2 n.c3 n.c4 := by
  have hr' : ring_Right_ai5_r0_0 n.c0 n.c1 n.c2 n.c3 n.c4 = true := hr
  have hrr := rright_N n
  rw [hr] at hrr
  have hi := (rN_iff n).1 hr
  obtain ⟨m1, m2, m3, m4⟩ := mask_in hi.2.2.2.2
  obtain ⟨a, b, c, d, e⟩ := n
  simp only at hr' hrr hi m1 m2 m3 m4 hw ⊢
  obtain ⟨h0, h1, h2, h3, h4⟩ := hi
  have z0 := digs_size a.toNat
  have z1 := digs_size b.toNat
  have z2 := digs_size c.toNat
  generalize hT : trip_Text_i_r0_0 e = T at *
  have i0 : strconv_Itoa_i_c0 a = true := by simp only [strconv_Itoa_i_c0, Bool.and_eq_true, decide_eq_true_eq]; omega
  have i1 : strconv_Itoa_i_c0 b = true := by simp only [strconv_Itoa_i_c0, Bool.and_eq_true, decide_eq_true_eq]; omega
  have i2 : strconv_Itoa_i_c0 c = true := by simp only [strconv_Itoa_i_c0, Bool.and_eq_true, decide_eq_true_eq]; omega
  have f0 : ref17_Figures_i_in a = true := by simp only [ref17_Figures_i_in, Bool.and_eq_true, decide_eq_true_eq]; omega
  have f1 : ref17_Figures_i_in b = true := by simp only [ref17_Figures_i_in, Bool.and_eq_true, decide_eq_true_eq]; omega
  have f2 : ref17_Figures_i_in c = true := by simp only [ref17_Figures_i_in, Bool.and_eq_true, decide_eq_true_eq]; omega
  have i3 : inb 3 d = true := inb_of h3.1 h3.2
  generalize hA : (⟨(digsN a.toNat).toArray⟩ : ByteArray) = A at *
  generalize hB : (⟨(digsN b.toNat).toArray⟩ : ByteArray) = B at *
  generalize hC : (⟨(digsN c.toNat).toArray⟩ : ByteArray) = C at *
  have s0 : (ref17_Text_ai5_e0 a).size = 6 + A.size := by simp only [ref17_Text_ai5_e0, hA, ByteArray.size_append]; rfl
  have s1 : (ref17_Text_ai5_e1 a).size = 15 + A.size := by simp only [ref17_Text_ai5_e1, ByteArray.size_append, s0]; show 6 + A.size + 9 = _; omega
  have s2 : (ref17_Text_ai5_e2 a b).size = 15 + A.size + B.size := by simp only [ref17_Text_ai5_e2, ByteArray.size_append, s1, hB]
  have s3 : (ref17_Text_ai5_e3 a b).size = 23 + A.size + B.size := by simp only [ref17_Text_ai5_e3, ByteArray.size_append, s2]; show 15 + A.size + B.size + 8 = _; omega
  have s4 : (ref17_Text_ai5_e4 a b c).size = 23 + A.size + B.size + C.size := by simp only [ref17_Text_ai5_e4, ByteArray.size_append, s3, hC]
  have q32 : (⟨#[32]⟩ : ByteArray).size = 1 := rfl
  have qo : (⟨#[111, 117, 116]⟩ : ByteArray).size = 3 := rfl
  have qb : (⟨#[98, 97, 99, 107]⟩ : ByteArray).size = 4 := rfl
  have ql : (⟨#[108, 97, 116, 99, 104, 101, 100]⟩ : ByteArray).size = 7 := rfl
  have s5 : (ref17_Text_ai5_e5 a b c).size = 27 + A.size + B.size + C.size := by simp only [ref17_Text_ai5_e5, ByteArray.size_append, s4, q32, qo]; omega
  have s7 : (ref17_Text_ai5_e7 a b c).size = 28 + A.size + B.size + C.size := by simp only [ref17_Text_ai5_e7, ByteArray.size_append, s4, q32, qb]; omega
  have s9 : (ref17_Text_ai5_e9 a b c).size = 31 + A.size + B.size + C.size := by simp only [ref17_Text_ai5_e9, ByteArray.size_append, s4, q32, ql]; omega
  have sm : ∀ x : Nat, x ≤ 1000 → decide (x ≤ 9223372036854775807) = true := fun x h => decide_eq_true (by omega)
  have d1 : d = 0 ∨ d = 1 ∨ d = 2 := by omega
  have rc : ref17_Text_ai5_c0 a b c d e = true := by
    have k1 : decide ((⟨#[99, 121, 99, 108, 101, 32]⟩ : ByteArray).size + A.size ≤ 9223372036854775807) = true := decide_eq_true (by show 6 + A.size ≤ _; omega)
    have k2 : decide ((ref17_Text_ai5_e0 a).size + (⟨#[32, 99, 104, 97, 110, 110, 101, 108, 32]⟩ : ByteArray).size ≤ 9223372036854775807) = true := decide_eq_true (by rw [s0]; show 6 + A.size + 9 ≤ _; omega)
    have k3 : decide ((ref17_Text_ai5_e1 a).size + B.size ≤ 9223372036854775807) = true := decide_eq_true (by rw [s1]; omega)
    have k4 : decide ((ref17_Text_ai5_e2 a b).size + (⟨#[32, 115, 105, 103, 110, 97, 108, 32]⟩ : ByteArray).size ≤ 9223372036854775807) = true := decide_eq_true (by rw [s2]; show 15 + A.size + B.size + 8 ≤ _; omega)
    have k5 : decide ((ref17_Text_ai5_e3 a b).size + C.size ≤ 9223372036854775807) = true := decide_eq_true (by rw [s3]; omega)
    have k6 : decide ((ref17_Text_ai5_e4 a b c).size + (⟨#[32]⟩ : ByteArray).size ≤ 9223372036854775807) = true := decide_eq_true (by rw [s4, q32]; omega)
    have k7 : decide (((ref17_Text_ai5_e4 a b c) ++ (⟨#[32]⟩ : ByteArray)).size + (⟨#[111, 117, 116]⟩ : ByteArray).size ≤ 9223372036854775807) = true := decide_eq_true (by rw [ByteArray.size_append, s4, q32, qo]; omega)
    have k8 : decide (((ref17_Text_ai5_e4 a b c) ++ (⟨#[32]⟩ : ByteArray)).size + (⟨#[98, 97, 99, 107]⟩ : ByteArray).size ≤ 9223372036854775807) = true := decide_eq_true (by rw [ByteArray.size_append, s4, q32, qb]; omega)
    have k9 : decide (((ref17_Text_ai5_e4 a b c) ++ (⟨#[32]⟩ : ByteArray)).size + (⟨#[108, 97, 116, 99, 104, 101, 100]⟩ : ByteArray).size ≤ 9223372036854775807) = true := decide_eq_true (by rw [ByteArray.size_append, s4, q32, ql]; omega)
    have k10 : decide ((ref17_Text_ai5_e5 a b c).size + (⟨#[32]⟩ : ByteArray).size ≤ 9223372036854775807) = true := decide_eq_true (by rw [s5, q32]; omega)
    have k11 : decide ((ref17_Text_ai5_e7 a b c).size + (⟨#[32]⟩ : ByteArray).size ≤ 9223372036854775807) = true := decide_eq_true (by rw [s7, q32]; omega)
    have k12 : decide ((ref17_Text_ai5_e9 a b c).size + (⟨#[32]⟩ : ByteArray).size ≤ 9223372036854775807) = true := decide_eq_true (by rw [s9, q32]; omega)
    have k13 : decide (((ref17_Text_ai5_e5 a b c) ++ (⟨#[32]⟩ : ByteArray)).size + T.size ≤ 9223372036854775807) = true := decide_eq_true (by rw [ByteArray.size_append, s5, q32]; omega)
    have k14 : decide (((ref17_Text_ai5_e7 a b c) ++ (⟨#[32]⟩ : ByteArray)).size + T.size ≤ 9223372036854775807) = true := decide_eq_true (by rw [ByteArray.size_append, s7, q32]; omega)
    have k15 : decide (((ref17_Text_ai5_e9 a b c) ++ (⟨#[32]⟩ : ByteArray)).size + T.size ≤ 9223372036854775807) = true := decide_eq_true (by rw [ByteArray.size_append, s9, q32]; omega)
    simp only [ref17_Text_ai5_c0, hrr, f0, f1, f2, m1, m2, hA, hB, hC, k1, k2, k3, k4, k5, k6, k7, k8, k9, k10, k11, k12, k13, k14, k15, tb_eq, cond_true]
    rcases d1 with rfl | rfl | rfl <;> rfl
  have hjl : ∀ K : ByteArray, K.size ≤ 7 → joinOK [⟨#[99, 121, 99, 108, 101]⟩, A, ⟨#[99, 104, 97, 110, 110, 101, 108]⟩, B, ⟨#[115, 105, 103, 110, 97, 108]⟩, C, K, T] ⟨#[32]⟩ = true := fun K hK => by
    have e1 : A.data.toList.length = A.size := by rw [Array.length_toList]; rfl
    have e2 : B.data.toList.length = B.size := by rw [Array.length_toList]; rfl
    have e3 : C.data.toList.length = C.size := by rw [Array.length_toList]; rfl
    have e4 : K.data.toList.length = K.size := by rw [Array.length_toList]; rfl
    have e5 : T.data.toList.length = T.size := by rw [Array.length_toList]; rfl
    simp only [joinOK, joinL, List.map_cons, List.map_nil, List.length_append, e1, e2, e3, e4, e5, Bool.and_eq_true]
    refine ⟨rfl, Nat.ble_eq_true_of_le ?_⟩
    show 5 + (1 + (A.size + (1 + (7 + (1 + (B.size + (1 + (6 + (1 + (C.size + (1 + (K.size + (1 + T.size))))))))))))) ≤ _
    omega
  have hg : (gt [gl1_0, gl1_1, gl1_2] d) = (if d = 0 then (⟨#[108, 97, 116, 99, 104, 101, 100]⟩ : ByteArray) else if d = 1 then ⟨#[98, 97, 99, 107]⟩ else ⟨#[111, 117, 116]⟩) := by
    rcases d1 with rfl | rfl | rfl <;> rfl
  refine ⟨?_, rc, ?_⟩
  · simp only [ring_Text_ai5_c0, rN_c, hr', i0, i1, i2, i3, trip_c, strings_Join_os_c0, ring_Text_ai5_e0, hA, hB, hC, hT, tb_eq]
    rw [hjl _ (by rw [hg]; rcases d1 with rfl | rfl | rfl <;> decide)]; rfl
  · have hE : ∀ K : ByteArray, joinB [⟨#[99, 121, 99, 108, 101]⟩, A, ⟨#[99, 104, 97, 110, 110, 101, 108]⟩, B, ⟨#[115, 105, 103, 110, 97, 108]⟩, C, K, T] ⟨#[32]⟩ = (((ref17_Text_ai5_e4 a b c ++ (⟨#[32]⟩ : ByteArray)) ++ K) ++ (⟨#[32]⟩ : ByteArray)) ++ T := fun K => by
      apply ByteArray.ext
      apply Array.ext'
      simp [joinB, joinL, ref17_Text_ai5_e4, ref17_Text_ai5_e3, ref17_Text_ai5_e2, ref17_Text_ai5_e1, ref17_Text_ai5_e0, hA, hB, hC]
    simp only [ring_Text_ai5_r0_0, ref17_Text_ai5_r0_0, hr', hrr, ring_Text_ai5_e0, hA, hB, hC, hT, hE, ref17_Text_ai5_e6, ref17_Text_ai5_e8, ref17_Text_ai5_e10, ref17_Text_ai5_e5, ref17_Text_ai5_e7, ref17_Text_ai5_e9, m2, tb_eq, cond_true]
    rw [hg]
    rcases d1 with rfl | rfl | rfl <;> rfl
end Go.Proofs.YtkipngagfiaddaaDoor.Den

namespace Go.Proofs.YtkipngagfiaddaaDoor.Den
open Go Go.Proofs
set_option maxRecDepth 100000
set_option maxHeartbeats 4000000
set_option linter.unusedVariables false
set_option linter.unusedSimpArgs false
theorem law17_alive_t0 : cl E0 34 [] [] = some ([(V.d (.bool true))], []) := cl_of (n := 60) (by kernel_rfl)
end Go.Proofs.YtkipngagfiaddaaDoor.Den
