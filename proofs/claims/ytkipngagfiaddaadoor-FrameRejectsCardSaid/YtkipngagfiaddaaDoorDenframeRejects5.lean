/- FrameRejectsCard: part 5 of what its proof rests on: an evaluator of the program's code, proved sound; plain functions printed from the code by a program of this session, with proofs; plain laws. No condition. -/
import Derived.Test.YtkipngagfiaddaaDoorDenframeRejects4
import Derived.Test.YtkipngagfiaddaaDoorProg

namespace Go.Proofs.YtkipngagfiaddaaDoor.Den
open Go Go.Proofs
set_option maxRecDepth 100000
def S3_0 : C := (.seq1 (.reg [] [⟨(some 16), none, (.fieldA 1 (.t 5))⟩, ⟨(some 17), none, (.load false 1 (.t 16))⟩, ⟨(some 18), none, (.len (.t 17))⟩, ⟨(some 19), none, (.bin .gtr (.t 18) (.v (.d (.int .i64 300))))⟩]) (.cond (.t 19) (.seq (.reg [] [⟨(some 20), none, (.call (.v (.fn (.func 10) [] [])) [])⟩, ⟨(some 6), none, (.mov (.t 20))⟩]) .ret) .skip))
def S3_1 : C := (.seq (.reg [] [⟨(some 22), none, (.mov (.t 0))⟩, ⟨(some 23), none, (.load true 9 (.t 4))⟩, ⟨(some 24), none, (.call (.v (.fn (.func 11) [] [])) [(.t 22), (.t 23)])⟩, ⟨(some 21), none, (.mov (.t 24))⟩, ⟨(some 25), none, (.extract 0 (.t 21))⟩, ⟨(some 26), none, (.extract 1 (.t 21))⟩, ⟨(some 7), none, (.mov (.t 25))⟩, ⟨(some 8), none, (.mov (.t 26))⟩]) (.seq (.reg [] [⟨(some 28), none, (.mov (.t 0))⟩, ⟨(some 29), none, (.load true 9 (.t 4))⟩, ⟨(some 30), none, (.call (.v (.fn (.func 12) [] [])) [(.t 28), (.t 29)])⟩, ⟨(some 27), none, (.mov (.t 30))⟩, ⟨(some 31), none, (.extract 0 (.t 27))⟩, ⟨(some 32), none, (.extract 1 (.t 27))⟩, ⟨(some 9), none, (.mov (.t 31))⟩, ⟨(some 10), none, (.mov (.t 32))⟩]) (.seq (.reg [] [⟨(some 34), none, (.mov (.t 0))⟩, ⟨(some 35), none, (.load true 2 (.t 5))⟩, ⟨(some 36), none, (.call (.v (.fn (.func 13) [] [])) [(.t 34), (.t 35)])⟩, ⟨(some 33), none, (.mov (.t 36))⟩, ⟨(some 37), none, (.extract 0 (.t 33))⟩, ⟨(some 38), none, (.extract 1 (.t 33))⟩, ⟨(some 11), none, (.alloc 24 [(.int .i64 0), (.int .i64 0), (.int .i64 0), (.int .i64 0), (.int .i64 0), (.int .i64 0), (.int .i64 0), (.int .i64 0), (.int .i64 0)] true)⟩, ⟨none, none, (.store 9 (.t 11) (.t 37))⟩, ⟨(some 12), none, (.mov (.t 38))⟩]) (.seq (.reg [] [⟨(some 40), none, (.mov (.t 0))⟩, ⟨(some 41), none, (.load true 2 (.t 5))⟩, ⟨(some 42), none, (.call (.v (.fn (.func 14) [] [])) [(.t 40), (.t 41)])⟩, ⟨(some 39), none, (.mov (.t 42))⟩, ⟨(some 43), none, (.extract 0 (.t 39))⟩, ⟨(some 44), none, (.extract 1 (.t 39))⟩, ⟨(some 13), none, (.alloc 24 [(.int .i64 0), (.int .i64 0), (.int .i64 0), (.int .i64 0), (.int .i64 0), (.int .i64 0), (.int .i64 0), (.int .i64 0), (.int .i64 0)] true)⟩, ⟨none, none, (.store 9 (.t 13) (.t 43))⟩, ⟨(some 14), none, (.mov (.t 44))⟩]) (.seq (.reg [] [⟨(some 45), none, (.mov (.t 7))⟩, ⟨(some 46), none, (.mov (.t 9))⟩, ⟨(some 47), none, (.call (.v (.fn (.func 15) [] [])) [(.t 45), (.t 46)])⟩, ⟨(some 15), none, (.mov (.t 47))⟩]) (.mix [⟨(some 48), none, (.call (.v (.fn (.func 10) [] [])) [])⟩, ⟨(some 49), none, (.mov (.t 48))⟩, ⟨(some 50), (some (49, true)), (.mov (.t 15))⟩, ⟨(some 51), none, (.pick (.t 49) (.t 50) (.v (.d (.bool false))))⟩, ⟨(some 52), none, (.mov (.t 51))⟩, ⟨(some 53), (some (52, true)), (.mov (.t 8))⟩, ⟨(some 54), (some (52, true)), (.mov (.t 10))⟩, ⟨(some 55), (some (52, true)), (.bin .eql (.t 53) (.t 54))⟩, ⟨(some 56), none, (.pick (.t 52) (.t 55) (.v (.d (.bool false))))⟩, ⟨(some 57), none, (.mov (.t 56))⟩, ⟨(some 58), (some (57, true)), (.load true 9 (.t 11))⟩, ⟨(some 59), (some (57, true)), (.load true 9 (.t 13))⟩, ⟨(some 60), (some (57, true)), (.beq (.cells [(.i .i64), (.i .i64), (.i .i64), (.i .i64), (.i .i64), (.i .i64), (.i .i64), (.i .i64), (.i .i64)]) false (.t 58) (.t 59))⟩, ⟨(some 61), none, (.pick (.t 57) (.t 60) (.v (.d (.bool false))))⟩, ⟨(some 62), none, (.mov (.t 61))⟩, ⟨(some 63), (some (62, true)), (.mov (.t 12))⟩, ⟨(some 64), (some (62, true)), (.mov (.t 14))⟩, ⟨(some 65), (some (62, true)), (.bin .eql (.t 63) (.t 64))⟩, ⟨(some 66), none, (.pick (.t 62) (.t 65) (.v (.d (.bool false))))⟩, ⟨(some 67), none, (.mov (.t 66))⟩, ⟨(some 68), (some (67, true)), (.load true 9 (.t 4))⟩, ⟨(some 69), (some (67, true)), (.call (.v (.fn (.func 16) [] [])) [(.t 68)])⟩, ⟨(some 70), (some (67, true)), (.load true 9 (.t 4))⟩, ⟨(some 71), (some (67, true)), (.call (.v (.fn (.func 17) [] [])) [(.t 70)])⟩, ⟨(some 72), (some (67, true)), (.beq .bool false (.t 69) (.t 71))⟩, ⟨(some 73), none, (.pick (.t 67) (.t 72) (.v (.d (.bool false))))⟩, ⟨(some 74), none, (.mov (.t 73))⟩, ⟨(some 75), (some (74, true)), (.mov (.t 0))⟩, ⟨(some 76), (some (74, true)), (.call (.v (.fn (.func 18) [] [])) [(.t 75)])⟩, ⟨(some 77), (some (74, true)), (.mov (.t 0))⟩, ⟨(some 78), (some (74, true)), (.call (.v (.fn (.func 19) [] [])) [(.t 77)])⟩, ⟨(some 79), (some (74, true)), (.bin .eql (.t 76) (.t 78))⟩, ⟨(some 80), none, (.pick (.t 74) (.t 79) (.v (.d (.bool false))))⟩, ⟨(some 6), none, (.mov (.t 80))⟩] [[], [], [], [], [], [], [], [], [], [], [], [], [], [], [], [], [], [], [], [], [], [], [21], [], [], [], [], [], [], [], [], [], [], []] [false, false, false, false, false, false, false, false, false, false, false, false, false, false, false, false, false, false, false, false, false, false, false, true, false, false, false, false, true, false, true, false, false, false]))))))
def F3 : CFunc := ⟨81, [(.tmp 6)], (.seq (.reg [] [⟨(some 4), none, (.box 24 true 9 (.t 1))⟩, ⟨(some 5), none, (.box 27 false 2 (.t 2))⟩, ⟨(some 6), none, (.mov (.v (.d (.bool false))))⟩]) (.cut [0, 4, 5] [6] [0, 4, 5] S3_0 (.cut [0, 4, 5] [] [6] S3_1 .ret)))⟩
theorem c3 : cAt Tryd.prog 3 = some F3.er := by kernel_rfl
def S5_0 : C := (.seq (.reg [] [⟨(some 39), none, (.bslice 5 true 1 0 [(.int .u8 0)] [])⟩, ⟨(some 40), none, (.mov (.t 7))⟩, ⟨(some 41), none, (.append 5 true 1 1 (.t 39) (.t 40))⟩, ⟨(some 10), none, (.mov (.t 41))⟩]) (.seq (.reg [] [⟨(some 42), none, (.mov (.t 10))⟩, ⟨(some 43), none, (.mov (.t 9))⟩, ⟨(some 44), none, (.mov (.t 10))⟩, ⟨(some 45), none, (.mov (.t 9))⟩, ⟨(some 46), none, (.idxA 1 (.t 44) (.t 45))⟩, ⟨(some 47), none, (.load false 1 (.t 46))⟩, ⟨(some 48), none, (.mov (.t 2))⟩, ⟨(some 49), none, (.bin .add (.t 47) (.t 48))⟩, ⟨(some 50), none, (.idxA 1 (.t 42) (.t 43))⟩, ⟨none, none, (.store 1 (.t 50) (.t 49))⟩]) (.seq (.reg [] [⟨(some 52), none, (.mov (.t 10))⟩, ⟨(some 53), none, (.build [(.bool false), .nils] [(0, (1, (.v (.d (.bool true))))), (1, (1, (.t 52)))])⟩, ⟨(some 54), none, (.call (.v (.fn (.func 13) [] [])) [(.v (.d (.int .i64 1))), (.t 53)])⟩, ⟨(some 51), none, (.mov (.t 54))⟩, ⟨(some 55), none, (.extract 0 (.t 51))⟩, ⟨(some 56), none, (.extract 1 (.t 51))⟩, ⟨(some 11), none, (.alloc 24 [(.int .i64 0), (.int .i64 0), (.int .i64 0), (.int .i64 0), (.int .i64 0), (.int .i64 0), (.int .i64 0), (.int .i64 0), (.int .i64 0)] true)⟩, ⟨none, none, (.store 9 (.t 11) (.t 55))⟩, ⟨(some 12), none, (.mov (.t 56))⟩]) (.seq (.reg [] [⟨(some 13), none, (.mov (.v (.d (.int .i64 5))))⟩]) (.seq (.seq (.reg [] [⟨(some 57), none, (.mov (.t 9))⟩, ⟨(some 58), none, (.bin .eql (.t 57) (.v (.d (.int .i64 0))))⟩]) (.cond (.t 58) (.reg [] [⟨(some 13), none, (.mov (.v (.d (.int .i64 3))))⟩]) .skip)) (.seq (.seq (.reg [] [⟨(some 59), none, (.mov (.t 9))⟩, ⟨(some 60), none, (.bin .eql (.t 59) (.v (.d (.int .i64 1))))⟩]) (.cond (.t 60) (.reg [] [⟨(some 13), none, (.mov (.v (.d (.int .i64 4))))⟩]) .skip)) (.reg [] [⟨(some 61), none, (.mov (.t 12))⟩, ⟨(some 62), none, (.mov (.t 13))⟩, ⟨(some 63), none, (.bin .neq (.t 61) (.t 62))⟩, ⟨(some 64), none, (.mov (.t 63))⟩, ⟨(some 65), (some (64, false)), (.load true 9 (.t 11))⟩, ⟨(some 66), (some (64, false)), (.build [(.int .i64 0), (.int .i64 0), (.int .i64 0), (.int .i64 0), (.int .i64 0), (.int .i64 0), (.int .i64 0), (.int .i64 0), (.int .i64 0)] [])⟩, ⟨(some 67), (some (64, false)), (.beq (.cells [(.i .i64), (.i .i64), (.i .i64), (.i .i64), (.i .i64), (.i .i64), (.i .i64), (.i .i64), (.i .i64)]) true (.t 65) (.t 66))⟩, ⟨(some 68), none, (.pick (.t 64) (.v (.d (.bool true))) (.t 67))⟩])))))))
def S5_1 : C := (.seq (.reg [] [⟨(some 19), none, (.load true 9 (.t 3))⟩, ⟨(some 20), none, (.call (.v (.fn (.func 11) [] [])) [(.v (.d (.int .i64 1))), (.t 19)])⟩, ⟨(some 18), none, (.mov (.t 20))⟩, ⟨(some 21), none, (.extract 0 (.t 18))⟩, ⟨(some 22), none, (.extract 1 (.t 18))⟩, ⟨(some 7), none, (.mov (.t 21))⟩, ⟨(some 8), none, (.mov (.t 22))⟩]) (.seq (.seq (.reg [] [⟨(some 23), none, (.mov (.t 8))⟩, ⟨(some 24), none, (.bin .neq (.t 23) (.v (.d (.int .i64 0))))⟩]) (.cond (.t 24) (.seq (.reg [] [⟨(some 25), none, (.call (.v (.fn (.func 10) [] [])) [])⟩, ⟨(some 26), none, (.mov (.t 25))⟩, ⟨(some 27), (some (26, true)), (.mov (.t 7))⟩, ⟨(some 28), (some (26, true)), (.len (.t 27))⟩, ⟨(some 29), (some (26, true)), (.bin .eql (.t 28) (.v (.d (.int .i64 0))))⟩, ⟨(some 30), none, (.pick (.t 26) (.t 29) (.v (.d (.bool false))))⟩, ⟨(some 6), none, (.mov (.t 30))⟩]) .ret) .skip)) (.seq (.seq (.reg [] [⟨(some 31), none, (.mov (.t 7))⟩, ⟨(some 32), none, (.len (.t 31))⟩, ⟨(some 33), none, (.bin .neq (.t 32) (.v (.d (.int .i64 38))))⟩]) (.cond (.t 33) (.seq (.reg [] [⟨(some 6), none, (.mov (.v (.d (.bool false))))⟩]) .ret) .skip)) (.seq (.reg [] [⟨(some 34), none, (.mov (.t 1))⟩, ⟨(some 35), none, (.conv (.int .i64) (.t 34))⟩, ⟨(some 36), none, (.bin .rem (.t 35) (.v (.d (.int .i64 38))))⟩, ⟨(some 9), none, (.mov (.t 36))⟩]) (.seq (.seq (.reg [] [⟨(some 37), none, (.mov (.t 2))⟩, ⟨(some 38), none, (.bin .neq (.t 37) (.v (.d (.int .u8 0))))⟩]) (.cond (.t 38) (.cut [2, 7, 9] [] [2, 7, 9, 68] S5_0 (.cond (.t 68) (.seq (.reg [] [⟨(some 6), none, (.mov (.v (.d (.bool false))))⟩]) .ret) .skip)) .skip)) (.seq (.reg [] [⟨(some 70), none, (.mov (.t 7))⟩, ⟨(some 71), none, (.mov (.t 9))⟩, ⟨(some 72), none, (.slice 1 (.t 70) none (some (.t 71)) none)⟩, ⟨(some 73), none, (.build [(.bool false), .nils] [(0, (1, (.v (.d (.bool true))))), (1, (1, (.t 72)))])⟩, ⟨(some 74), none, (.call (.v (.fn (.func 13) [] [])) [(.v (.d (.int .i64 1))), (.t 73)])⟩, ⟨(some 69), none, (.mov (.t 74))⟩, ⟨(some 75), none, (.extract 0 (.t 69))⟩, ⟨(some 76), none, (.extract 1 (.t 69))⟩, ⟨(some 14), none, (.alloc 24 [(.int .i64 0), (.int .i64 0), (.int .i64 0), (.int .i64 0), (.int .i64 0), (.int .i64 0), (.int .i64 0), (.int .i64 0), (.int .i64 0)] true)⟩, ⟨none, none, (.store 9 (.t 14) (.t 75))⟩, ⟨(some 15), none, (.mov (.t 76))⟩]) (.reg [] [⟨(some 78), none, (.bslice 5 true 1 0 [(.int .u8 0)] [])⟩, ⟨(some 79), none, (.mov (.t 7))⟩, ⟨(some 80), none, (.append 5 true 1 1 (.t 78) (.t 79))⟩, ⟨(some 81), none, (.mov (.t 2))⟩, ⟨(some 82), none, (.bslice 5 true 1 1 [(.int .u8 0)] [(0, (.t 81))])⟩, ⟨(some 83), none, (.append 5 true 1 1 (.t 80) (.t 82))⟩, ⟨(some 84), none, (.build [(.bool false), .nils] [(0, (1, (.v (.d (.bool true))))), (1, (1, (.t 83)))])⟩, ⟨(some 85), none, (.call (.v (.fn (.func 13) [] [])) [(.v (.d (.int .i64 1))), (.t 84)])⟩, ⟨(some 77), none, (.mov (.t 85))⟩, ⟨(some 86), none, (.extract 0 (.t 77))⟩, ⟨(some 87), none, (.extract 1 (.t 77))⟩, ⟨(some 16), none, (.alloc 24 [(.int .i64 0), (.int .i64 0), (.int .i64 0), (.int .i64 0), (.int .i64 0), (.int .i64 0), (.int .i64 0), (.int .i64 0), (.int .i64 0)] true)⟩, ⟨none, none, (.store 9 (.t 16) (.t 86))⟩, ⟨(some 17), none, (.mov (.t 87))⟩])))))))
def S5_2 : C := (.reg [] [⟨(some 88), none, (.call (.v (.fn (.func 10) [] [])) [])⟩, ⟨(some 89), none, (.mov (.t 88))⟩, ⟨(some 90), (some (89, true)), (.mov (.t 15))⟩, ⟨(some 91), (some (89, true)), (.bin .eql (.t 90) (.v (.d (.int .i64 2))))⟩, ⟨(some 92), none, (.pick (.t 89) (.t 91) (.v (.d (.bool false))))⟩, ⟨(some 93), none, (.mov (.t 92))⟩, ⟨(some 94), (some (93, true)), (.mov (.t 17))⟩, ⟨(some 95), (some (93, true)), (.bin .eql (.t 94) (.v (.d (.int .i64 2))))⟩, ⟨(some 96), none, (.pick (.t 93) (.t 95) (.v (.d (.bool false))))⟩, ⟨(some 6), none, (.mov (.t 96))⟩])
def F5 : CFunc := ⟨97, [(.tmp 6)], (.seq (.reg [] [⟨(some 3), none, (.box 24 true 9 (.t 0))⟩, ⟨(some 6), none, (.mov (.v (.d (.bool false))))⟩]) (.cut [1, 2, 3] [6] [15, 17] S5_1 (.cut [15, 17] [] [6] S5_2 .ret)))⟩
theorem c5 : cAt Tryd.prog 5 = some F5.er := by kernel_rfl
def S10_0 : C := (.seq (.reg [] [⟨(some 16), none, (.build [(.int .i64 0), (.int .i64 0), (.int .i64 0), (.int .i64 0), (.int .i64 0), (.int .i64 0), (.int .i64 0), (.int .i64 0)] [(0, (1, (.v (.d (.int .i64 (-1)))))), (7, (1, (.v (.d (.int .i64 5)))))])⟩, ⟨(some 17), none, (.build [(.int .i64 0), (.int .i64 0), (.int .i64 0), (.int .i64 0), (.int .i64 0), (.int .i64 0), (.int .i64 0), (.int .i64 0), (.int .i64 0)] [(0, (1, (.v (.d (.int .i64 258))))), (1, (8, (.t 16)))])⟩, ⟨(some 18), none, (.call (.v (.fn (.func 11) [] [])) [(.v (.d (.int .i64 2))), (.t 17)])⟩, ⟨(some 15), none, (.mov (.t 18))⟩, ⟨(some 19), none, (.extract 0 (.t 15))⟩, ⟨(some 20), none, (.extract 1 (.t 15))⟩, ⟨(some 1), none, (.mov (.t 19))⟩, ⟨(some 2), none, (.mov (.t 20))⟩]) (.seq (.reg [] [⟨(some 22), none, (.mov (.t 1))⟩, ⟨(some 23), none, (.build [(.bool false), .nils] [(0, (1, (.v (.d (.bool true))))), (1, (1, (.t 22)))])⟩, ⟨(some 24), none, (.call (.v (.fn (.func 13) [] [])) [(.v (.d (.int .i64 2))), (.t 23)])⟩, ⟨(some 21), none, (.mov (.t 24))⟩, ⟨(some 25), none, (.extract 0 (.t 21))⟩, ⟨(some 26), none, (.extract 1 (.t 21))⟩, ⟨(some 3), none, (.alloc 24 [(.int .i64 0), (.int .i64 0), (.int .i64 0), (.int .i64 0), (.int .i64 0), (.int .i64 0), (.int .i64 0), (.int .i64 0), (.int .i64 0)] true)⟩, ⟨none, none, (.store 9 (.t 3) (.t 25))⟩, ⟨(some 4), none, (.mov (.t 26))⟩]) (.seq (.reg [] [⟨(some 28), none, (.mov (.t 1))⟩, ⟨(some 29), none, (.build [(.bool false), .nils] [(0, (1, (.v (.d (.bool true))))), (1, (1, (.t 28)))])⟩, ⟨(some 30), none, (.call (.v (.fn (.func 13) [] [])) [(.v (.d (.int .i64 1))), (.t 29)])⟩, ⟨(some 27), none, (.mov (.t 30))⟩, ⟨(some 31), none, (.extract 0 (.t 27))⟩, ⟨(some 32), none, (.extract 1 (.t 27))⟩, ⟨(some 5), none, (.alloc 24 [(.int .i64 0), (.int .i64 0), (.int .i64 0), (.int .i64 0), (.int .i64 0), (.int .i64 0), (.int .i64 0), (.int .i64 0), (.int .i64 0)] true)⟩, ⟨none, none, (.store 9 (.t 5) (.t 31))⟩, ⟨(some 6), none, (.mov (.t 32))⟩]) (.seq (.reg [] [⟨(some 34), none, (.mov (.t 1))⟩, ⟨(some 35), none, (.build [(.bool false), .nils] [(1, (1, (.t 34)))])⟩, ⟨(some 36), none, (.call (.v (.fn (.func 13) [] [])) [(.v (.d (.int .i64 2))), (.t 35)])⟩, ⟨(some 33), none, (.mov (.t 36))⟩, ⟨(some 37), none, (.extract 0 (.t 33))⟩, ⟨(some 38), none, (.extract 1 (.t 33))⟩, ⟨(some 7), none, (.alloc 24 [(.int .i64 0), (.int .i64 0), (.int .i64 0), (.int .i64 0), (.int .i64 0), (.int .i64 0), (.int .i64 0), (.int .i64 0), (.int .i64 0)] true)⟩, ⟨none, none, (.store 9 (.t 7) (.t 37))⟩, ⟨(some 8), none, (.mov (.t 38))⟩]) (.seq (.reg [] [⟨(some 40), none, (.build [(.bool false), .nils] [(0, (1, (.v (.d (.bool true)))))])⟩, ⟨(some 41), none, (.call (.v (.fn (.func 13) [] [])) [(.v (.d (.int .i64 2))), (.t 40)])⟩, ⟨(some 39), none, (.mov (.t 41))⟩, ⟨(some 42), none, (.extract 0 (.t 39))⟩, ⟨(some 43), none, (.extract 1 (.t 39))⟩, ⟨(some 9), none, (.alloc 24 [(.int .i64 0), (.int .i64 0), (.int .i64 0), (.int .i64 0), (.int .i64 0), (.int .i64 0), (.int .i64 0), (.int .i64 0), (.int .i64 0)] true)⟩, ⟨none, none, (.store 9 (.t 9) (.t 42))⟩, ⟨(some 10), none, (.mov (.t 43))⟩]) (.seq (.reg [] [⟨(some 45), none, (.build [(.int .i64 0), (.int .i64 0), (.int .i64 0), (.int .i64 0), (.int .i64 0), (.int .i64 0), (.int .i64 0), (.int .i64 0), (.int .i64 0)] [])⟩, ⟨(some 46), none, (.call (.v (.fn (.func 11) [] [])) [(.v (.d (.int .i64 4))), (.t 45)])⟩, ⟨(some 44), none, (.mov (.t 46))⟩, ⟨(some 47), none, (.extract 0 (.t 44))⟩, ⟨(some 48), none, (.extract 1 (.t 44))⟩, ⟨(some 11), none, (.mov (.t 47))⟩, ⟨(some 12), none, (.mov (.t 48))⟩]) (.seq (.reg [] [⟨(some 50), none, (.build [(.int .i64 0), (.int .i64 0), (.int .i64 0), (.int .i64 0), (.int .i64 0), (.int .i64 0), (.int .i64 0), (.int .i64 0), (.int .i64 0)] [(0, (1, (.v (.d (.int .i64 65536)))))])⟩, ⟨(some 51), none, (.call (.v (.fn (.func 11) [] [])) [(.v (.d (.int .i64 0))), (.t 50)])⟩, ⟨(some 49), none, (.mov (.t 51))⟩, ⟨(some 52), none, (.extract 0 (.t 49))⟩, ⟨(some 53), none, (.extract 1 (.t 49))⟩, ⟨(some 13), none, (.mov (.t 52))⟩, ⟨(some 14), none, (.mov (.t 53))⟩]) (.seq (.seq (.reg [] [⟨(some 54), none, (.mov (.t 1))⟩, ⟨(some 55), none, (.len (.t 54))⟩, ⟨(some 56), none, (.bin .neq (.t 55) (.v (.d (.int .i64 38))))⟩]) (.cond (.t 56) (.seq (.reg [] [⟨(some 0), none, (.mov (.v (.d (.bool false))))⟩]) .ret) .skip)) (.reg [] [⟨(some 57), none, (.mov (.t 2))⟩, ⟨(some 58), none, (.bin .eql (.t 57) (.v (.d (.int .i64 0))))⟩, ⟨(some 59), none, (.mov (.t 58))⟩, ⟨(some 60), (some (59, true)), (.mov (.t 1))⟩, ⟨(some 61), (some (59, true)), (.idxA 1 (.t 60) (.v (.d (.int .i64 0))))⟩, ⟨(some 62), (some (59, true)), (.load false 1 (.t 61))⟩, ⟨(some 63), (some (59, true)), (.bin .eql (.t 62) (.v (.d (.int .u8 165))))⟩, ⟨(some 64), none, (.pick (.t 59) (.t 63) (.v (.d (.bool false))))⟩, ⟨(some 65), none, (.mov (.t 64))⟩, ⟨(some 66), (some (65, true)), (.mov (.t 1))⟩, ⟨(some 67), (some (65, true)), (.idxA 1 (.t 66) (.v (.d (.int .i64 1))))⟩, ⟨(some 68), (some (65, true)), (.load false 1 (.t 67))⟩, ⟨(some 69), (some (65, true)), (.bin .eql (.t 68) (.v (.d (.int .u8 2))))⟩, ⟨(some 70), none, (.pick (.t 65) (.t 69) (.v (.d (.bool false))))⟩, ⟨(some 71), none, (.mov (.t 70))⟩, ⟨(some 72), (some (71, true)), (.mov (.t 1))⟩, ⟨(some 73), (some (71, true)), (.idxA 1 (.t 72) (.v (.d (.int .i64 2))))⟩, ⟨(some 74), (some (71, true)), (.load false 1 (.t 73))⟩, ⟨(some 75), (some (71, true)), (.bin .eql (.t 74) (.v (.d (.int .u8 1))))⟩, ⟨(some 76), none, (.pick (.t 71) (.t 75) (.v (.d (.bool false))))⟩, ⟨(some 77), none, (.mov (.t 76))⟩, ⟨(some 78), (some (77, true)), (.mov (.t 1))⟩, ⟨(some 79), (some (77, true)), (.idxA 1 (.t 78) (.v (.d (.int .i64 3))))⟩, ⟨(some 80), (some (77, true)), (.load false 1 (.t 79))⟩, ⟨(some 81), (some (77, true)), (.bin .eql (.t 80) (.v (.d (.int .u8 2))))⟩, ⟨(some 82), none, (.pick (.t 77) (.t 81) (.v (.d (.bool false))))⟩, ⟨(some 83), none, (.mov (.t 82))⟩, ⟨(some 84), (some (83, true)), (.mov (.t 1))⟩, ⟨(some 85), (some (83, true)), (.idxA 1 (.t 84) (.v (.d (.int .i64 4))))⟩, ⟨(some 86), (some (83, true)), (.load false 1 (.t 85))⟩, ⟨(some 87), (some (83, true)), (.bin .eql (.t 86) (.v (.d (.int .u8 255))))⟩, ⟨(some 88), none, (.pick (.t 83) (.t 87) (.v (.d (.bool false))))⟩, ⟨(some 89), none, (.mov (.t 88))⟩, ⟨(some 90), (some (89, true)), (.mov (.t 1))⟩, ⟨(some 91), (some (89, true)), (.idxA 1 (.t 90) (.v (.d (.int .i64 35))))⟩, ⟨(some 92), (some (89, true)), (.load false 1 (.t 91))⟩, ⟨(some 93), (some (89, true)), (.bin .eql (.t 92) (.v (.d (.int .u8 5))))⟩, ⟨(some 94), none, (.pick (.t 89) (.t 93) (.v (.d (.bool false))))⟩, ⟨(some 95), none, (.mov (.t 94))⟩, ⟨(some 96), (some (95, true)), (.mov (.t 4))⟩, ⟨(some 97), (some (95, true)), (.bin .eql (.t 96) (.v (.d (.int .i64 0))))⟩, ⟨(some 98), none, (.pick (.t 95) (.t 97) (.v (.d (.bool false))))⟩, ⟨(some 99), none, (.mov (.t 98))⟩, ⟨(some 100), (some (99, true)), (.fieldA 0 (.t 3))⟩, ⟨(some 101), (some (99, true)), (.load false 1 (.t 100))⟩, ⟨(some 102), (some (99, true)), (.bin .eql (.t 101) (.v (.d (.int .i64 258))))⟩, ⟨(some 103), none, (.pick (.t 99) (.t 102) (.v (.d (.bool false))))⟩, ⟨(some 104), none, (.mov (.t 103))⟩, ⟨(some 105), (some (104, true)), (.fieldA 1 (.t 3))⟩, ⟨(some 106), (some (104, true)), (.idxAA 8 1 (.t 105) (.v (.d (.int .i64 0))))⟩, ⟨(some 107), (some (104, true)), (.load false 1 (.t 106))⟩, ⟨(some 108), (some (104, true)), (.bin .eql (.t 107) (.v (.d (.int .i64 (-1)))))⟩, ⟨(some 109), none, (.pick (.t 104) (.t 108) (.v (.d (.bool false))))⟩, ⟨(some 110), none, (.mov (.t 109))⟩, ⟨(some 111), (some (110, true)), (.fieldA 1 (.t 3))⟩, ⟨(some 112), (some (110, true)), (.idxAA 8 1 (.t 111) (.v (.d (.int .i64 7))))⟩, ⟨(some 113), (some (110, true)), (.load false 1 (.t 112))⟩, ⟨(some 114), (some (110, true)), (.bin .eql (.t 113) (.v (.d (.int .i64 5))))⟩, ⟨(some 115), none, (.pick (.t 110) (.t 114) (.v (.d (.bool false))))⟩, ⟨(some 116), none, (.mov (.t 115))⟩, ⟨(some 117), (some (116, true)), (.mov (.t 6))⟩, ⟨(some 118), (some (116, true)), (.bin .eql (.t 117) (.v (.d (.int .i64 4))))⟩, ⟨(some 119), none, (.pick (.t 116) (.t 118) (.v (.d (.bool false))))⟩, ⟨(some 120), none, (.mov (.t 119))⟩, ⟨(some 121), (some (120, true)), (.mov (.t 8))⟩, ⟨(some 122), (some (120, true)), (.bin .eql (.t 121) (.v (.d (.int .i64 1))))⟩, ⟨(some 123), none, (.pick (.t 120) (.t 122) (.v (.d (.bool false))))⟩, ⟨(some 124), none, (.mov (.t 123))⟩, ⟨(some 125), (some (124, true)), (.mov (.t 10))⟩, ⟨(some 126), (some (124, true)), (.bin .eql (.t 125) (.v (.d (.int .i64 2))))⟩, ⟨(some 127), none, (.pick (.t 124) (.t 126) (.v (.d (.bool false))))⟩, ⟨(some 128), none, (.mov (.t 127))⟩, ⟨(some 129), (some (128, true)), (.mov (.t 12))⟩, ⟨(some 130), (some (128, true)), (.bin .eql (.t 129) (.v (.d (.int .i64 1))))⟩, ⟨(some 131), none, (.pick (.t 128) (.t 130) (.v (.d (.bool false))))⟩, ⟨(some 132), none, (.mov (.t 131))⟩, ⟨(some 133), (some (132, true)), (.mov (.t 14))⟩, ⟨(some 134), (some (132, true)), (.bin .eql (.t 133) (.v (.d (.int .i64 1))))⟩, ⟨(some 135), none, (.pick (.t 132) (.t 134) (.v (.d (.bool false))))⟩, ⟨(some 136), none, (.mov (.t 135))⟩, ⟨(some 137), (some (136, true)), (.call (.v (.fn (.func 18) [] [])) [(.v (.d (.int .i64 6)))])⟩, ⟨(some 138), (some (136, true)), (.bin .eql (.t 137) (.v (.d (.str ⟨#[115, 116, 97, 108, 101]⟩))))⟩, ⟨(some 139), none, (.pick (.t 136) (.t 138) (.v (.d (.bool false))))⟩, ⟨(some 140), none, (.mov (.t 139))⟩, ⟨(some 141), (some (140, true)), (.call (.v (.fn (.func 18) [] [])) [(.v (.d (.int .i64 7)))])⟩, ⟨(some 142), (some (140, true)), (.bin .eql (.t 141) (.v (.d (.str ⟨#[]⟩))))⟩, ⟨(some 143), none, (.pick (.t 140) (.t 142) (.v (.d (.bool false))))⟩, ⟨(some 144), none, (.mov (.t 143))⟩, ⟨(some 145), (some (144, true)), (.load true 9 (.t 3))⟩, ⟨(some 146), (some (144, true)), (.call (.v (.fn (.func 16) [] [])) [(.t 145)])⟩, ⟨(some 147), none, (.pick (.t 144) (.t 146) (.v (.d (.bool false))))⟩, ⟨(some 0), none, (.mov (.t 147))⟩])))))))))
def F10 : CFunc := ⟨148, [(.tmp 0)], (.seq (.reg [] [⟨(some 0), none, (.mov (.v (.d (.bool false))))⟩]) (.cut [] [0] [0] S10_0 .ret))⟩
theorem c10 : cAt Tryd.prog 10 = some F10.er := by kernel_rfl
def S11_0 : C := (.seq1 (.reg [] [⟨(some 6), none, (.mov (.t 0))⟩, ⟨(some 7), none, (.bin .lss (.t 6) (.v (.d (.int .i64 0))))⟩, ⟨(some 8), none, (.mov (.t 7))⟩, ⟨(some 9), (some (8, false)), (.mov (.t 0))⟩, ⟨(some 10), (some (8, false)), (.bin .geq (.t 9) (.v (.d (.int .i64 4))))⟩, ⟨(some 11), none, (.pick (.t 8) (.v (.d (.bool true))) (.t 10))⟩, ⟨(some 12), none, (.mov (.t 11))⟩, ⟨(some 13), (some (12, false)), (.load true 9 (.t 3))⟩, ⟨(some 14), (some (12, false)), (.call (.v (.fn (.func 16) [] [])) [(.t 13)])⟩, ⟨(some 15), (some (12, false)), (.unop .not (.t 14))⟩, ⟨(some 16), none, (.pick (.t 12) (.v (.d (.bool true))) (.t 15))⟩]) (.cond (.t 16) (.seq (.reg [] [⟨(some 4), none, (.nsl 5 true 1)⟩, ⟨(some 5), none, (.mov (.v (.d (.int .i64 1))))⟩]) .ret) .skip))
def F11 : CFunc := ⟨29, [(.tmp 4), (.tmp 5)], (.seq (.reg [] [⟨(some 3), none, (.box 24 true 9 (.t 1))⟩, ⟨(some 4), none, (.nsl 5 true 1)⟩, ⟨(some 5), none, (.mov (.v (.d (.int .i64 0))))⟩]) (.cut [0, 3] [4, 5] [0, 3] S11_0 (.seq (.mix [⟨(some 17), none, (.mov (.t 0))⟩, ⟨(some 18), none, (.conv (.int .u8) (.t 17))⟩, ⟨(some 19), none, (.bslice 5 true 1 2 [(.int .u8 0)] [(0, (.v (.d (.int .u8 165)))), (1, (.t 18))])⟩, ⟨(some 20), none, (.fieldA 0 (.t 3))⟩, ⟨(some 21), none, (.load false 1 (.t 20))⟩, ⟨(some 22), none, (.call (.v (.fn (.func 31) [] [])) [(.t 21)])⟩, ⟨(some 23), none, (.fieldA 1 (.t 3))⟩, ⟨(some 24), none, (.slarr 8 1 (.t 23) none none none)⟩, ⟨(some 25), none, (.call (.v (.fn (.func 48) [] [])) [(.t 24)])⟩, ⟨(some 26), none, (.bslice 25 false 1 3 [.nils] [(0, (.t 19)), (1, (.t 22)), (2, (.t 25))])⟩, ⟨(some 27), none, (.call (.v (.fn (.func 47) [] [])) [(.t 26)])⟩, ⟨(some 28), none, (.call (.v (.fn (.func 46) [] [])) [(.t 27)])⟩, ⟨(some 4), none, (.mov (.t 28))⟩, ⟨(some 5), none, (.mov (.v (.d (.int .i64 0))))⟩] [[], [], [], [], [2], [2], [], [], [2], [], [], [], [], []] [false, false, false, false, false, true, false, false, true, false, false, false, false, false]) .ret)))⟩
theorem c11 : cAt Tryd.prog 11 = some F11.er := by kernel_rfl
def S13_0 : C := (.block 0 (.seq (.reg [] [⟨(some 12), none, (.fieldA 0 (.t 3))⟩, ⟨(some 13), none, (.load false 1 (.t 12))⟩, ⟨(some 14), none, (.unop .not (.t 13))⟩, ⟨(some 11), none, (.mov (.t 14))⟩]) (.cond (.t 11) (.seq (.reg [] [⟨(some 15), none, (.build [(.int .i64 0), (.int .i64 0), (.int .i64 0), (.int .i64 0), (.int .i64 0), (.int .i64 0), (.int .i64 0), (.int .i64 0), (.int .i64 0)] [])⟩, ⟨none, none, (.store 9 (.t 4) (.t 15))⟩, ⟨(some 5), none, (.mov (.v (.d (.int .i64 1))))⟩]) .ret) (.seq (.reg [] [⟨(some 17), none, (.fieldA 1 (.t 3))⟩, ⟨(some 18), none, (.load false 1 (.t 17))⟩, ⟨(some 19), none, (.len (.t 18))⟩, ⟨(some 20), none, (.bin .neq (.t 19) (.v (.d (.int .i64 38))))⟩, ⟨(some 16), none, (.mov (.t 20))⟩]) (.cond (.t 16) (.seq (.reg [] [⟨(some 21), none, (.build [(.int .i64 0), (.int .i64 0), (.int .i64 0), (.int .i64 0), (.int .i64 0), (.int .i64 0), (.int .i64 0), (.int .i64 0), (.int .i64 0)] [])⟩, ⟨none, none, (.store 9 (.t 4) (.t 21))⟩, ⟨(some 5), none, (.mov (.v (.d (.int .i64 2))))⟩]) .ret) (.seq (.reg [] [⟨(some 23), none, (.fieldA 1 (.t 3))⟩, ⟨(some 24), none, (.load false 1 (.t 23))⟩, ⟨(some 25), none, (.idxA 1 (.t 24) (.v (.d (.int .i64 0))))⟩, ⟨(some 26), none, (.load false 1 (.t 25))⟩, ⟨(some 27), none, (.bin .neq (.t 26) (.v (.d (.int .u8 165))))⟩, ⟨(some 22), none, (.mov (.t 27))⟩]) (.cond (.t 22) (.seq (.reg [] [⟨(some 28), none, (.build [(.int .i64 0), (.int .i64 0), (.int .i64 0), (.int .i64 0), (.int .i64 0), (.int .i64 0), (.int .i64 0), (.int .i64 0), (.int .i64 0)] [])⟩, ⟨none, none, (.store 9 (.t 4) (.t 28))⟩, ⟨(some 5), none, (.mov (.v (.d (.int .i64 3))))⟩]) .ret) (.seq (.reg [] [⟨(some 30), none, (.fieldA 1 (.t 3))⟩, ⟨(some 31), none, (.load false 1 (.t 30))⟩, ⟨(some 32), none, (.idxA 1 (.t 31) (.v (.d (.int .i64 1))))⟩, ⟨(some 33), none, (.load false 1 (.t 32))⟩, ⟨(some 34), none, (.conv (.int .i64) (.t 33))⟩, ⟨(some 35), none, (.mov (.t 0))⟩, ⟨(some 36), none, (.bin .neq (.t 34) (.t 35))⟩, ⟨(some 29), none, (.mov (.t 36))⟩]) (.cond (.t 29) (.seq (.reg [] [⟨(some 37), none, (.build [(.int .i64 0), (.int .i64 0), (.int .i64 0), (.int .i64 0), (.int .i64 0), (.int .i64 0), (.int .i64 0), (.int .i64 0), (.int .i64 0)] [])⟩, ⟨none, none, (.store 9 (.t 4) (.t 37))⟩, ⟨(some 5), none, (.mov (.v (.d (.int .i64 4))))⟩]) .ret) .skip)))))))))
def S13_1 : C := (.seq (.reg [] [⟨(some 39), none, (.fieldA 1 (.t 3))⟩, ⟨(some 40), none, (.load false 1 (.t 39))⟩, ⟨(some 41), none, (.call (.v (.fn (.func 52) [] [])) [(.t 40)])⟩, ⟨(some 38), none, (.mov (.t 41))⟩, ⟨(some 42), none, (.extract 0 (.t 38))⟩, ⟨(some 43), none, (.extract 1 (.t 38))⟩, ⟨(some 6), none, (.mov (.t 42))⟩, ⟨(some 7), none, (.mov (.t 43))⟩]) (.seq (.seq (.reg [] [⟨(some 44), none, (.mov (.t 7))⟩, ⟨(some 45), none, (.unop .not (.t 44))⟩]) (.cond (.t 45) (.seq (.reg [] [⟨(some 46), none, (.build [(.int .i64 0), (.int .i64 0), (.int .i64 0), (.int .i64 0), (.int .i64 0), (.int .i64 0), (.int .i64 0), (.int .i64 0), (.int .i64 0)] [])⟩, ⟨none, none, (.store 9 (.t 4) (.t 46))⟩, ⟨(some 5), none, (.mov (.v (.d (.int .i64 5))))⟩]) .ret) .skip)) (.seq (.reg [] [⟨(some 8), none, (.alloc 24 [(.int .i64 0), (.int .i64 0), (.int .i64 0), (.int .i64 0), (.int .i64 0), (.int .i64 0), (.int .i64 0), (.int .i64 0), (.int .i64 0)] true)⟩]) (.seq (.reg [] [⟨(some 48), none, (.mov (.t 6))⟩, ⟨(some 49), none, (.slice 1 (.t 48) (some (.v (.d (.int .i64 2)))) (some (.v (.d (.int .i64 4)))) none)⟩, ⟨(some 50), none, (.call (.v (.fn (.func 53) [] [])) [(.t 49)])⟩, ⟨(some 47), none, (.mov (.t 50))⟩, ⟨(some 51), none, (.extract 0 (.t 47))⟩, ⟨(some 52), none, (.extract 1 (.t 47))⟩, ⟨(some 53), none, (.fieldA 0 (.t 8))⟩, ⟨none, none, (.store 1 (.t 53) (.t 51))⟩]) (.seq (.reg [] [⟨(some 55), none, (.mov (.t 6))⟩, ⟨(some 56), none, (.slice 1 (.t 55) (some (.v (.d (.int .i64 4)))) none none)⟩, ⟨(some 57), none, (.call (.v (.fn (.func 54) [] [])) [(.t 56)])⟩, ⟨(some 54), none, (.mov (.t 57))⟩, ⟨(some 58), none, (.extract 0 (.t 54))⟩, ⟨(some 59), none, (.extract 1 (.t 54))⟩, ⟨(some 9), none, (.mov (.t 58))⟩, ⟨(some 10), none, (.mov (.t 59))⟩]) (.seq (.reg [] [⟨(some 60), none, (.mov (.t 9))⟩, ⟨(some 61), none, (.arrP 8 1 (.t 60))⟩, ⟨(some 62), none, (.load true 8 (.t 61))⟩, ⟨(some 63), none, (.fieldA 1 (.t 8))⟩, ⟨none, none, (.store 8 (.t 63) (.t 62))⟩]) (.reg [] [⟨(some 64), none, (.load true 9 (.t 8))⟩, ⟨none, none, (.store 9 (.t 4) (.t 64))⟩, ⟨(some 5), none, (.mov (.v (.d (.int .i64 0))))⟩])))))))
def F13 : CFunc := ⟨65, [(.cell true 9 4), (.tmp 5)], (.seq (.reg [] [⟨(some 3), none, (.box 27 false 2 (.t 1))⟩, ⟨(some 4), none, (.alloc 24 [(.int .i64 0), (.int .i64 0), (.int .i64 0), (.int .i64 0), (.int .i64 0), (.int .i64 0), (.int .i64 0), (.int .i64 0), (.int .i64 0)] true)⟩, ⟨(some 5), none, (.mov (.v (.d (.int .i64 0))))⟩]) (.cut [0, 3, 4] [4, 5] [3, 4] S13_0 (.cut [3, 4] [4, 5] [4, 5] S13_1 .ret)))⟩
theorem c13 : cAt Tryd.prog 13 = some F13.er := by kernel_rfl
def F16 : CFunc := ⟨19, [(.tmp 2)], (.seq (.reg [] [⟨(some 1), none, (.box 24 true 9 (.t 0))⟩, ⟨(some 2), none, (.mov (.v (.d (.bool false))))⟩]) (.seq (.reg [] [⟨(some 3), none, (.mov (.v (.fn (.func 58) [] [])))⟩]) (.seq (.reg [] [⟨(some 4), none, (.fieldA 0 (.t 1))⟩, ⟨(some 5), none, (.load false 1 (.t 4))⟩, ⟨(some 6), none, (.bin .geq (.t 5) (.v (.d (.int .i64 0))))⟩, ⟨(some 7), none, (.mov (.t 6))⟩, ⟨(some 8), (some (7, true)), (.fieldA 0 (.t 1))⟩, ⟨(some 9), (some (7, true)), (.load false 1 (.t 8))⟩, ⟨(some 10), (some (7, true)), (.bin .lss (.t 9) (.v (.d (.int .i64 65536))))⟩, ⟨(some 11), none, (.pick (.t 7) (.t 10) (.v (.d (.bool false))))⟩, ⟨(some 12), none, (.mov (.t 11))⟩, ⟨(some 13), (some (12, true)), (.fieldA 1 (.t 1))⟩, ⟨(some 14), (some (12, true)), (.slarr 8 1 (.t 13) none none none)⟩, ⟨(some 15), (some (12, true)), (.mov (.t 3))⟩, ⟨(some 16), (some (12, true)), (.call (.v (.fn (.func 59) [] [])) [(.t 14), (.t 15)])⟩, ⟨(some 17), (some (12, true)), (.unop .not (.t 16))⟩, ⟨(some 18), none, (.pick (.t 12) (.t 17) (.v (.d (.bool false))))⟩, ⟨(some 2), none, (.mov (.t 18))⟩]) .ret)))⟩
theorem c16 : cAt Tryd.prog 16 = some F16.er := by kernel_rfl
def F18 : CFunc := ⟨12, [(.tmp 2)], (.seq (.reg [] [⟨(some 2), none, (.mov (.v (.d (.str ⟨#[]⟩))))⟩]) (.seq (.seq (.reg [] [⟨(some 3), none, (.mov (.t 0))⟩, ⟨(some 4), none, (.bin .lss (.t 3) (.v (.d (.int .i64 0))))⟩, ⟨(some 5), none, (.mov (.t 4))⟩, ⟨(some 6), (some (5, false)), (.mov (.t 0))⟩, ⟨(some 7), (some (5, false)), (.bin .geq (.t 6) (.v (.d (.int .i64 7))))⟩, ⟨(some 8), none, (.pick (.t 5) (.v (.d (.bool true))) (.t 7))⟩]) (.cond (.t 8) (.seq (.reg [] [⟨(some 2), none, (.mov (.v (.d (.str ⟨#[]⟩))))⟩]) .ret) .skip)) (.seq (.reg [] [⟨(some 9), none, (.mov (.t 0))⟩, ⟨(some 10), none, (.idxAA 7 1 (.g 0) (.t 9))⟩, ⟨(some 11), none, (.load false 1 (.t 10))⟩, ⟨(some 2), none, (.mov (.t 11))⟩]) .ret)))⟩
theorem c18 : cAt Tryd.prog 18 = some F18.er := by kernel_rfl
def F31 : CFunc := ⟨12, [(.tmp 2)], (.seq (.reg [] [⟨(some 2), none, (.nsl 5 true 1)⟩]) (.seq (.seq (.reg [] [⟨(some 3), none, (.mov (.t 0))⟩, ⟨(some 4), none, (.call (.v (.fn (.func 66) [] [])) [(.t 3)])⟩, ⟨(some 5), none, (.unop .not (.t 4))⟩]) (.cond (.t 5) (.seq (.reg [] [⟨(some 2), none, (.nsl 5 true 1)⟩]) .ret) .skip)) (.seq (.reg [] [⟨(some 6), none, (.mov (.t 0))⟩, ⟨(some 7), none, (.bin .shr (.t 6) (.v (.d (.int .u64 8))))⟩, ⟨(some 8), none, (.conv (.int .u8) (.t 7))⟩, ⟨(some 9), none, (.mov (.t 0))⟩, ⟨(some 10), none, (.conv (.int .u8) (.t 9))⟩, ⟨(some 11), none, (.bslice 5 true 1 2 [(.int .u8 0)] [(0, (.t 8)), (1, (.t 10))])⟩, ⟨(some 2), none, (.mov (.t 11))⟩]) .ret)))⟩
theorem c31 : cAt Tryd.prog 31 = some F31.er := by kernel_rfl
def F46 : CFunc := ⟨15, [(.tmp 2)], (.seq (.reg [] [⟨(some 2), none, (.nsl 5 true 1)⟩]) (.seq (.reg [] [⟨(some 4), none, (.mov (.t 0))⟩, ⟨(some 5), none, (.call (.v (.fn (.func 74) [] [])) [(.t 4)])⟩, ⟨(some 3), none, (.mov (.t 5))⟩]) (.seq (.reg [] [⟨(some 6), none, (.mov (.t 0))⟩, ⟨(some 7), none, (.call (.v (.fn (.func 75) [] [])) [(.t 6)])⟩, ⟨(some 8), none, (.mov (.t 3))⟩, ⟨(some 9), none, (.bin .shr (.t 8) (.v (.d (.int .u64 8))))⟩, ⟨(some 10), none, (.conv (.int .u8) (.t 9))⟩, ⟨(some 11), none, (.mov (.t 3))⟩, ⟨(some 12), none, (.conv (.int .u8) (.t 11))⟩, ⟨(some 13), none, (.bslice 5 true 1 2 [(.int .u8 0)] [(0, (.t 10)), (1, (.t 12))])⟩, ⟨(some 14), none, (.append 5 true 1 1 (.t 7) (.t 13))⟩, ⟨(some 2), none, (.mov (.t 14))⟩]) .ret)))⟩
theorem c46 : cAt Tryd.prog 46 = some F46.er := by kernel_rfl
def L47_0 : C := (.seq (.reg [] [⟨(some 12), none, (.bin .lss (.t 11) (.t 10))⟩]) (.seq (.cond (.t 12) .skip (.exit 0)) (.seq (.block 1 (.seq (.reg [] [⟨(some 13), none, (.idxA 1 (.t 9) (.t 11))⟩, ⟨(some 14), none, (.load false 1 (.t 13))⟩, ⟨(some 5), none, (.mov (.t 14))⟩]) (.seq (.reg [] [⟨(some 15), none, (.mov (.t 3))⟩, ⟨(some 16), none, (.mov (.t 5))⟩, ⟨(some 17), none, (.len (.t 16))⟩, ⟨(some 18), none, (.bin .add (.t 15) (.t 17))⟩, ⟨(some 3), none, (.mov (.t 18))⟩]) (.seq (.reg [] [⟨(some 19), none, (.mov (.t 3))⟩, ⟨(some 20), none, (.bin .lss (.t 19) (.v (.d (.int .i64 0))))⟩]) (.cond (.t 20) (.reg [] [⟨(some 21), none, (.mkif 9 (.v (.d (.str ⟨#[108, 101, 110, 32, 111, 117, 116, 32, 111, 102, 32, 114, 97, 110, 103, 101]⟩))))⟩, ⟨none, none, (.chk 1 (.v (.ptr 0 1 0 0)) 1 (.v (.ptr 0 1 0 0)))⟩]) .skip))))) (.reg [] [⟨(some 22), none, (.bin .add (.t 11) (.v (.d (.int .i64 1))))⟩, ⟨(some 11), none, (.mov (.t 22))⟩]))))
def S47_1 : C := (.seq1 (.reg [] [⟨(some 9), none, (.mov (.t 0))⟩, ⟨(some 10), none, (.len (.t 9))⟩, ⟨(some 11), none, (.mov (.v (.d (.int .i64 0))))⟩]) (.block 0 (.loop [0, 3, 9, 10, 11] [0, 3] L47_0)))
def L47_2 : C := (.seq (.reg [] [⟨(some 28), none, (.bin .lss (.t 27) (.t 26))⟩]) (.seq (.cond (.t 28) .skip (.exit 2)) (.seq (.block 3 (.seq (.reg [] [⟨(some 29), none, (.idxA 1 (.t 25) (.t 27))⟩, ⟨(some 30), none, (.load false 1 (.t 29))⟩, ⟨(some 8), none, (.mov (.t 30))⟩]) (.reg [] [⟨(some 31), none, (.mov (.t 6))⟩, ⟨(some 32), none, (.mov (.t 8))⟩, ⟨(some 33), none, (.append 5 true 1 1 (.t 31) (.t 32))⟩, ⟨(some 6), none, (.mov (.t 33))⟩]))) (.reg [] [⟨(some 34), none, (.bin .add (.t 27) (.v (.d (.int .i64 1))))⟩, ⟨(some 27), none, (.mov (.t 34))⟩]))))
def F47 : CFunc := ⟨36, [(.tmp 2)], (.seq (.reg [] [⟨(some 2), none, (.nsl 5 true 1)⟩]) (.seq (.reg [] [⟨(some 3), none, (.mov (.v (.d (.int .i64 0))))⟩]) (.cut [0, 3] [] [0, 3] S47_1 (.seq (.reg [] [⟨(some 23), none, (.mov (.t 3))⟩, ⟨(some 24), none, (.call (.v (.fn (.func 76) [] [])) [(.v (.d .nils)), (.t 23)])⟩, ⟨(some 6), none, (.mov (.t 24))⟩]) (.seq (.seq (.reg [] [⟨(some 25), none, (.mov (.t 0))⟩, ⟨(some 26), none, (.len (.t 25))⟩, ⟨(some 27), none, (.mov (.v (.d (.int .i64 0))))⟩]) (.block 2 (.loop [6, 25, 26, 27] [6] L47_2))) (.seq (.reg [] [⟨(some 35), none, (.mov (.t 6))⟩, ⟨(some 2), none, (.mov (.t 35))⟩]) .ret))))))⟩
theorem c47 : cAt Tryd.prog 47 = some F47.er := by kernel_rfl
def L48_0 : C := (.seq (.reg [] [⟨(some 10), none, (.bin .lss (.t 9) (.t 8))⟩]) (.seq (.cond (.t 10) .skip (.exit 0)) (.seq (.block 1 (.seq (.reg [] [⟨(some 11), none, (.idxA 1 (.t 7) (.t 9))⟩, ⟨(some 12), none, (.load false 1 (.t 11))⟩, ⟨(some 5), none, (.mov (.t 12))⟩]) (.seq (.reg [] [⟨(some 13), none, (.mov (.t 5))⟩, ⟨(some 14), none, (.call (.v (.fn (.func 77) [] [])) [(.t 13)])⟩, ⟨(some 6), none, (.mov (.t 14))⟩]) (.seq (.seq (.reg [] [⟨(some 15), none, (.mov (.t 6))⟩, ⟨(some 16), none, (.beq .slc false (.t 15) (.v (.d .nils)))⟩]) (.cond (.t 16) (.seq (.reg [] [⟨(some 2), none, (.nsl 5 true 1)⟩]) .ret) .skip)) (.reg [] [⟨(some 17), none, (.mov (.t 3))⟩, ⟨(some 18), none, (.mov (.t 6))⟩, ⟨(some 19), none, (.append 5 true 1 1 (.t 17) (.t 18))⟩, ⟨(some 3), none, (.mov (.t 19))⟩]))))) (.reg [] [⟨(some 20), none, (.bin .add (.t 9) (.v (.d (.int .i64 1))))⟩, ⟨(some 9), none, (.mov (.t 20))⟩]))))
def F48 : CFunc := ⟨22, [(.tmp 2)], (.seq (.reg [] [⟨(some 2), none, (.nsl 5 true 1)⟩]) (.seq (.reg [] [⟨(some 3), none, (.nsl 5 true 1)⟩]) (.seq (.seq (.reg [] [⟨(some 7), none, (.mov (.t 0))⟩, ⟨(some 8), none, (.len (.t 7))⟩, ⟨(some 9), none, (.mov (.v (.d (.int .i64 0))))⟩]) (.block 0 (.loop [3, 7, 8, 9] [2, 3] L48_0))) (.seq (.reg [] [⟨(some 21), none, (.mov (.t 3))⟩, ⟨(some 2), none, (.mov (.t 21))⟩]) .ret))))⟩
theorem c48 : cAt Tryd.prog 48 = some F48.er := by kernel_rfl
def F52 : CFunc := ⟨23, [(.tmp 2), (.tmp 3)], (.seq (.reg [] [⟨(some 2), none, (.nsl 5 true 1)⟩, ⟨(some 3), none, (.mov (.v (.d (.bool false))))⟩]) (.seq (.reg [] [⟨(some 5), none, (.mov (.t 0))⟩, ⟨(some 6), none, (.len (.t 5))⟩, ⟨(some 7), none, (.bin .sub (.t 6) (.v (.d (.int .i64 2))))⟩, ⟨(some 4), none, (.mov (.t 7))⟩]) (.seq (.seq (.reg [] [⟨(some 8), none, (.mov (.t 4))⟩, ⟨(some 9), none, (.bin .lss (.t 8) (.v (.d (.int .i64 0))))⟩, ⟨(some 10), none, (.mov (.t 9))⟩, ⟨(some 11), (some (10, false)), (.mov (.t 0))⟩, ⟨(some 12), (some (10, false)), (.mov (.t 4))⟩, ⟨(some 13), (some (10, false)), (.slice 1 (.t 11) none (some (.t 12)) none)⟩, ⟨(some 14), (some (10, false)), (.call (.v (.fn (.func 46) [] [])) [(.t 13)])⟩, ⟨(some 15), (some (10, false)), (.mov (.t 0))⟩, ⟨(some 16), (some (10, false)), (.call (.v (.fn (.func 79) [] [])) [(.t 14), (.t 15)])⟩, ⟨(some 17), (some (10, false)), (.unop .not (.t 16))⟩, ⟨(some 18), none, (.pick (.t 10) (.v (.d (.bool true))) (.t 17))⟩]) (.cond (.t 18) (.seq (.reg [] [⟨(some 2), none, (.nsl 5 true 1)⟩, ⟨(some 3), none, (.mov (.v (.d (.bool false))))⟩]) .ret) .skip)) (.seq (.reg [] [⟨(some 19), none, (.mov (.t 0))⟩, ⟨(some 20), none, (.mov (.t 4))⟩, ⟨(some 21), none, (.slice 1 (.t 19) none (some (.t 20)) none)⟩, ⟨(some 22), none, (.call (.v (.fn (.func 75) [] [])) [(.t 21)])⟩, ⟨(some 2), none, (.mov (.t 22))⟩, ⟨(some 3), none, (.mov (.v (.d (.bool true))))⟩]) .ret))))⟩
theorem c52 : cAt Tryd.prog 52 = some F52.er := by kernel_rfl
def F53 : CFunc := ⟨17, [(.tmp 2), (.tmp 3)], (.seq (.reg [] [⟨(some 2), none, (.mov (.v (.d (.int .i64 0))))⟩, ⟨(some 3), none, (.mov (.v (.d (.bool false))))⟩]) (.seq (.seq (.reg [] [⟨(some 4), none, (.mov (.t 0))⟩, ⟨(some 5), none, (.len (.t 4))⟩, ⟨(some 6), none, (.bin .neq (.t 5) (.v (.d (.int .i64 2))))⟩]) (.cond (.t 6) (.seq (.reg [] [⟨(some 2), none, (.mov (.v (.d (.int .i64 0))))⟩, ⟨(some 3), none, (.mov (.v (.d (.bool false))))⟩]) .ret) .skip)) (.seq (.reg [⟨(some 7), none, (.mov (.t 0))⟩, ⟨(some 8), none, (.idxA 1 (.t 7) (.v (.d (.int .i64 0))))⟩, ⟨(some 9), none, (.load false 1 (.t 8))⟩, ⟨(some 10), none, (.conv (.int .i64) (.t 9))⟩, ⟨(some 11), none, (.bin .shl (.t 10) (.v (.d (.int .u64 8))))⟩, ⟨(some 12), none, (.mov (.t 0))⟩, ⟨(some 13), none, (.idxA 1 (.t 12) (.v (.d (.int .i64 1))))⟩, ⟨(some 14), none, (.load false 1 (.t 13))⟩, ⟨(some 15), none, (.conv (.int .i64) (.t 14))⟩] [⟨(some 16), none, (.bin .or (.t 11) (.t 15))⟩, ⟨(some 2), none, (.mov (.t 16))⟩, ⟨(some 3), none, (.mov (.v (.d (.bool true))))⟩]) .ret)))⟩
theorem c53 : cAt Tryd.prog 53 = some F53.er := by kernel_rfl
def L54_0 : C := (.reg [] [⟨(some 5), none, (.mov (.t 14))⟩])
def L54_1 : C := (.block 1 (.seq (.reg [] [⟨(some 16), none, (.mov (.t 5))⟩, ⟨(some 17), none, (.call (.v (.fn (.func 81) [] [])) [(.t 16)])⟩, ⟨(some 15), none, (.mov (.t 17))⟩, ⟨(some 18), none, (.extract 0 (.t 15))⟩, ⟨(some 19), none, (.extract 1 (.t 15))⟩, ⟨(some 6), none, (.mov (.t 18))⟩, ⟨(some 7), none, (.mov (.t 19))⟩]) (.reg [] [⟨(some 20), none, (.load false 1 (.t 4))⟩, ⟨(some 21), none, (.mov (.t 6))⟩, ⟨(some 22), none, (.bslice 3 true 1 1 [(.int .i64 0)] [(0, (.t 21))])⟩, ⟨(some 23), none, (.append 3 true 1 8 (.t 20) (.t 22))⟩, ⟨none, none, (.store 1 (.t 4) (.t 23))⟩])))
def F54 : CFunc := ⟨25, [(.tmp 2), (.tmp 3)], (.seq (.reg [] [⟨(some 2), none, (.nsl 3 true 1)⟩, ⟨(some 3), none, (.mov (.v (.d (.bool false))))⟩]) (.seq (.seq (.reg [] [⟨(some 8), none, (.mov (.t 0))⟩, ⟨(some 9), none, (.len (.t 8))⟩, ⟨(some 10), none, (.bin .rem (.t 9) (.v (.d (.int .i64 4))))⟩, ⟨(some 11), none, (.bin .neq (.t 10) (.v (.d (.int .i64 0))))⟩]) (.cond (.t 11) (.seq (.reg [] [⟨(some 2), none, (.nsl 3 true 1)⟩, ⟨(some 3), none, (.mov (.v (.d (.bool false))))⟩]) .ret) .skip)) (.seq (.reg [] [⟨(some 4), none, (.allocn 70 3 true 1)⟩]) (.seq (.seq (.reg [] [⟨(some 12), none, (.mov (.t 0))⟩, ⟨(some 13), none, (.call (.v (.fn (.func 80) [] [])) [(.t 12)])⟩]) (.block 0 (.rfun 25 [4] (.t 13) [14] L54_0 L54_1))) (.seq (.reg [] [⟨(some 24), none, (.load false 1 (.t 4))⟩, ⟨(some 2), none, (.mov (.t 24))⟩, ⟨(some 3), none, (.mov (.v (.d (.bool true))))⟩]) .ret)))))⟩
theorem c54 : cAt Tryd.prog 54 = some F54.er := by kernel_rfl
def F58 : CFunc := ⟨9, [(.tmp 2)], (.seq (.reg [] [⟨(some 2), none, (.mov (.v (.d (.bool false))))⟩]) (.seq (.reg [] [⟨(some 3), none, (.mov (.t 0))⟩, ⟨(some 4), none, (.bin .lss (.t 3) (.v (.d (.int .i64 (-2147483648)))))⟩, ⟨(some 5), none, (.mov (.t 4))⟩, ⟨(some 6), (some (5, false)), (.mov (.t 0))⟩, ⟨(some 7), (some (5, false)), (.bin .gtr (.t 6) (.v (.d (.int .i64 2147483647))))⟩, ⟨(some 8), none, (.pick (.t 5) (.v (.d (.bool true))) (.t 7))⟩, ⟨(some 2), none, (.mov (.t 8))⟩]) .ret))⟩
theorem c58 : cAt Tryd.prog 58 = some F58.er := by kernel_rfl
def F59 : CFunc := ⟨9, [(.tmp 4)], (.seq (.reg [] [⟨(some 4), none, (.mov (.v (.d (.bool false))))⟩]) (.seq (.reg [] [⟨(some 5), none, (.mov (.t 0))⟩, ⟨(some 6), none, (.mov (.t 1))⟩, ⟨(some 7), none, (.call (.v (.fn (.func 82) [] [])) [(.t 5), (.t 6)])⟩, ⟨(some 8), none, (.bin .geq (.t 7) (.v (.d (.int .i64 0))))⟩, ⟨(some 4), none, (.mov (.t 8))⟩]) .ret))⟩
theorem c59 : cAt Tryd.prog 59 = some F59.er := by kernel_rfl
def F66 : CFunc := ⟨9, [(.tmp 2)], (.seq (.reg [] [⟨(some 2), none, (.mov (.v (.d (.bool false))))⟩]) (.seq (.reg [] [⟨(some 3), none, (.mov (.t 0))⟩, ⟨(some 4), none, (.bin .geq (.t 3) (.v (.d (.int .i64 0))))⟩, ⟨(some 5), none, (.mov (.t 4))⟩, ⟨(some 6), (some (5, true)), (.mov (.t 0))⟩, ⟨(some 7), (some (5, true)), (.bin .lss (.t 6) (.v (.d (.int .i64 65536))))⟩, ⟨(some 8), none, (.pick (.t 5) (.t 7) (.v (.d (.bool false))))⟩, ⟨(some 2), none, (.mov (.t 8))⟩]) .ret))⟩
theorem c66 : cAt Tryd.prog 66 = some F66.er := by kernel_rfl
def F74 : CFunc := ⟨5, [(.tmp 2)], (.seq (.reg [] [⟨(some 2), none, (.mov (.v (.d (.int .i64 0))))⟩]) (.seq (.reg [] [⟨(some 3), none, (.mov (.t 0))⟩, ⟨(some 4), none, (.call (.v (.fn (.func 90) [] [])) [(.v (.d (.int .i64 65535))), (.t 3)])⟩, ⟨(some 2), none, (.mov (.t 4))⟩]) .ret))⟩
theorem c74 : cAt Tryd.prog 74 = some F74.er := by kernel_rfl
def F75 : CFunc := ⟨8, [(.tmp 2)], (.seq (.reg [] [⟨(some 2), none, (.nsl 5 true 1)⟩]) (.seq (.seq (.reg [] [⟨(some 3), none, (.mov (.t 0))⟩, ⟨(some 4), none, (.beq .slc false (.t 3) (.v (.d .nils)))⟩]) (.cond (.t 4) (.seq (.reg [] [⟨(some 2), none, (.nsl 5 true 1)⟩]) .ret) .skip)) (.seq (.reg [] [⟨(some 5), none, (.bslice 5 true 1 0 [(.int .u8 0)] [])⟩, ⟨(some 6), none, (.mov (.t 0))⟩, ⟨(some 7), none, (.append 5 true 1 1 (.t 5) (.t 6))⟩, ⟨(some 2), none, (.mov (.t 7))⟩]) .ret)))⟩
theorem c75 : cAt Tryd.prog 75 = some F75.er := by kernel_rfl
def F77 : CFunc := ⟨21, [(.tmp 2)], (.seq (.reg [] [⟨(some 2), none, (.nsl 5 true 1)⟩]) (.seq (.seq (.reg [] [⟨(some 3), none, (.mov (.t 0))⟩, ⟨(some 4), none, (.bin .lss (.t 3) (.v (.d (.int .i64 (-2147483648)))))⟩, ⟨(some 5), none, (.mov (.t 4))⟩, ⟨(some 6), (some (5, false)), (.mov (.t 0))⟩, ⟨(some 7), (some (5, false)), (.bin .gtr (.t 6) (.v (.d (.int .i64 2147483647))))⟩, ⟨(some 8), none, (.pick (.t 5) (.v (.d (.bool true))) (.t 7))⟩]) (.cond (.t 8) (.seq (.reg [] [⟨(some 2), none, (.nsl 5 true 1)⟩]) .ret) .skip)) (.seq (.reg [] [⟨(some 9), none, (.mov (.t 0))⟩, ⟨(some 10), none, (.bin .shr (.t 9) (.v (.d (.int .u64 24))))⟩, ⟨(some 11), none, (.conv (.int .u8) (.t 10))⟩, ⟨(some 12), none, (.mov (.t 0))⟩, ⟨(some 13), none, (.bin .shr (.t 12) (.v (.d (.int .u64 16))))⟩, ⟨(some 14), none, (.conv (.int .u8) (.t 13))⟩, ⟨(some 15), none, (.mov (.t 0))⟩, ⟨(some 16), none, (.bin .shr (.t 15) (.v (.d (.int .u64 8))))⟩, ⟨(some 17), none, (.conv (.int .u8) (.t 16))⟩, ⟨(some 18), none, (.mov (.t 0))⟩, ⟨(some 19), none, (.conv (.int .u8) (.t 18))⟩, ⟨(some 20), none, (.bslice 5 true 1 4 [(.int .u8 0)] [(0, (.t 11)), (1, (.t 14)), (2, (.t 17)), (3, (.t 19))])⟩, ⟨(some 2), none, (.mov (.t 20))⟩]) .ret)))⟩
theorem c77 : cAt Tryd.prog 77 = some F77.er := by kernel_rfl
def L79_0 : C := (.seq (.reg [] [⟨(some 14), none, (.bin .lss (.t 13) (.t 12))⟩]) (.seq (.cond (.t 14) .skip (.exit 0)) (.seq (.block 1 (.seq (.reg [] [⟨(some 15), none, (.mov (.t 13))⟩, ⟨(some 5), none, (.mov (.t 15))⟩]) (.seq (.reg [⟨(some 16), none, (.mov (.t 0))⟩, ⟨(some 17), none, (.mov (.t 5))⟩, ⟨(some 18), none, (.idxA 1 (.t 16) (.t 17))⟩, ⟨(some 19), none, (.load false 1 (.t 18))⟩, ⟨(some 20), none, (.mov (.t 1))⟩, ⟨(some 21), none, (.mov (.t 5))⟩, ⟨(some 22), none, (.idxA 1 (.t 20) (.t 21))⟩, ⟨(some 23), none, (.load false 1 (.t 22))⟩] [⟨(some 24), none, (.bin .neq (.t 19) (.t 23))⟩]) (.cond (.t 24) (.seq (.reg [] [⟨(some 4), none, (.mov (.v (.d (.bool false))))⟩]) .ret) .skip)))) (.reg [] [⟨(some 25), none, (.bin .add (.t 13) (.v (.d (.int .i64 1))))⟩, ⟨(some 13), none, (.mov (.t 25))⟩]))))
def F79 : CFunc := ⟨26, [(.tmp 4)], (.seq (.reg [] [⟨(some 4), none, (.mov (.v (.d (.bool false))))⟩]) (.seq (.seq (.reg [] [⟨(some 6), none, (.mov (.t 0))⟩, ⟨(some 7), none, (.len (.t 6))⟩, ⟨(some 8), none, (.mov (.t 1))⟩, ⟨(some 9), none, (.len (.t 8))⟩, ⟨(some 10), none, (.bin .neq (.t 7) (.t 9))⟩]) (.cond (.t 10) (.seq (.reg [] [⟨(some 4), none, (.mov (.v (.d (.bool false))))⟩]) .ret) .skip)) (.seq (.seq (.reg [] [⟨(some 11), none, (.mov (.t 0))⟩, ⟨(some 12), none, (.len (.t 11))⟩, ⟨(some 13), none, (.mov (.v (.d (.int .i64 0))))⟩]) (.block 0 (.loop [0, 1, 12, 13] [4] L79_0))) (.seq (.reg [] [⟨(some 4), none, (.mov (.v (.d (.bool true))))⟩]) .ret))))⟩
theorem c79 : cAt Tryd.prog 79 = some F79.er := by kernel_rfl
def F80 : CFunc := ⟨4, [(.tmp 2)], (.seq (.reg [] [⟨(some 1), none, (.box 25 false 1 (.t 0))⟩, ⟨(some 2), none, (.mov (.v (.d .nilf)))⟩]) (.seq (.reg [] [⟨(some 3), none, (.mkfn (.func 92) [] [(.t 1)])⟩, ⟨(some 2), none, (.mov (.t 3))⟩]) .ret))⟩
theorem c80 : cAt Tryd.prog 80 = some F80.er := by kernel_rfl
def F81 : CFunc := ⟨33, [(.tmp 2), (.tmp 3)], (.seq (.reg [] [⟨(some 2), none, (.mov (.v (.d (.int .i64 0))))⟩, ⟨(some 3), none, (.mov (.v (.d (.bool false))))⟩]) (.seq (.seq (.reg [] [⟨(some 5), none, (.mov (.t 0))⟩, ⟨(some 6), none, (.len (.t 5))⟩, ⟨(some 7), none, (.bin .neq (.t 6) (.v (.d (.int .i64 4))))⟩]) (.cond (.t 7) (.seq (.reg [] [⟨(some 2), none, (.mov (.v (.d (.int .i64 0))))⟩, ⟨(some 3), none, (.mov (.v (.d (.bool false))))⟩]) .ret) .skip)) (.seq (.reg [⟨(some 8), none, (.mov (.t 0))⟩, ⟨(some 9), none, (.idxA 1 (.t 8) (.v (.d (.int .i64 0))))⟩, ⟨(some 10), none, (.load false 1 (.t 9))⟩, ⟨(some 11), none, (.conv (.int .u32) (.t 10))⟩, ⟨(some 12), none, (.bin .shl (.t 11) (.v (.d (.int .u64 24))))⟩, ⟨(some 13), none, (.mov (.t 0))⟩, ⟨(some 14), none, (.idxA 1 (.t 13) (.v (.d (.int .i64 1))))⟩, ⟨(some 15), none, (.load false 1 (.t 14))⟩, ⟨(some 16), none, (.conv (.int .u32) (.t 15))⟩, ⟨(some 17), none, (.bin .shl (.t 16) (.v (.d (.int .u64 16))))⟩, ⟨(some 18), none, (.bin .or (.t 12) (.t 17))⟩, ⟨(some 19), none, (.mov (.t 0))⟩, ⟨(some 20), none, (.idxA 1 (.t 19) (.v (.d (.int .i64 2))))⟩, ⟨(some 21), none, (.load false 1 (.t 20))⟩, ⟨(some 22), none, (.conv (.int .u32) (.t 21))⟩, ⟨(some 23), none, (.bin .shl (.t 22) (.v (.d (.int .u64 8))))⟩, ⟨(some 24), none, (.bin .or (.t 18) (.t 23))⟩, ⟨(some 25), none, (.mov (.t 0))⟩, ⟨(some 26), none, (.idxA 1 (.t 25) (.v (.d (.int .i64 3))))⟩, ⟨(some 27), none, (.load false 1 (.t 26))⟩, ⟨(some 28), none, (.conv (.int .u32) (.t 27))⟩] [⟨(some 29), none, (.bin .or (.t 24) (.t 28))⟩, ⟨(some 4), none, (.mov (.t 29))⟩]) (.seq (.reg [] [⟨(some 30), none, (.mov (.t 4))⟩, ⟨(some 31), none, (.conv (.int .i32) (.t 30))⟩, ⟨(some 32), none, (.conv (.int .i64) (.t 31))⟩, ⟨(some 2), none, (.mov (.t 32))⟩, ⟨(some 3), none, (.mov (.v (.d (.bool true))))⟩]) .ret))))⟩
theorem c81 : cAt Tryd.prog 81 = some F81.er := by kernel_rfl
def L82_0 : C := (.seq (.reg [] [⟨(some 9), none, (.bin .lss (.t 8) (.t 7))⟩]) (.seq (.cond (.t 9) .skip (.exit 0)) (.seq (.block 1 (.seq (.reg [] [⟨(some 10), none, (.mov (.t 8))⟩, ⟨(some 5), none, (.mov (.t 10))⟩]) (.seq (.reg [] [⟨(some 11), none, (.mov (.t 1))⟩, ⟨(some 12), none, (.mov (.t 0))⟩, ⟨(some 13), none, (.mov (.t 5))⟩, ⟨(some 14), none, (.idxA 1 (.t 12) (.t 13))⟩, ⟨(some 15), none, (.load false 1 (.t 14))⟩, ⟨(some 16), none, (.call (.t 11) [(.t 15)])⟩]) (.cond (.t 16) (.seq (.reg [] [⟨(some 17), none, (.mov (.t 5))⟩, ⟨(some 4), none, (.mov (.t 17))⟩]) .ret) .skip)))) (.reg [] [⟨(some 18), none, (.bin .add (.t 8) (.v (.d (.int .i64 1))))⟩, ⟨(some 8), none, (.mov (.t 18))⟩]))))
def F82 : CFunc := ⟨19, [(.tmp 4)], (.seq (.reg [] [⟨(some 4), none, (.mov (.v (.d (.int .i64 0))))⟩]) (.seq (.seq (.reg [] [⟨(some 6), none, (.mov (.t 0))⟩, ⟨(some 7), none, (.len (.t 6))⟩, ⟨(some 8), none, (.mov (.v (.d (.int .i64 0))))⟩]) (.block 0 (.loop [0, 1, 7, 8] [4] L82_0))) (.seq (.reg [] [⟨(some 4), none, (.mov (.v (.d (.int .i64 (-1)))))⟩]) .ret)))⟩
theorem c82 : cAt Tryd.prog 82 = some F82.er := by kernel_rfl
def S90_0 : C := (.seq1 (.reg [] [⟨(some 8), none, (.load false 1 (.t 2))⟩, ⟨(some 9), none, (.bin .lss (.t 8) (.v (.d (.int .i64 0))))⟩, ⟨(some 10), none, (.mov (.t 9))⟩, ⟨(some 11), (some (10, false)), (.load false 1 (.t 2))⟩, ⟨(some 12), (some (10, false)), (.bin .gtr (.t 11) (.v (.d (.int .i64 65535))))⟩, ⟨(some 13), none, (.pick (.t 10) (.v (.d (.bool true))) (.t 12))⟩]) (.cond (.t 13) (.seq (.reg [] [⟨(some 4), none, (.mov (.v (.d (.int .i64 0))))⟩]) .ret) .skip))
def L90_1 : C := (.seq (.reg [] [⟨(some 27), none, (.bin .lss (.t 26) (.v (.d (.int .i64 8))))⟩]) (.seq (.cond (.t 27) .skip (.exit 2)) (.seq (.block 3 (.reg [] [⟨(some 28), none, (.mov (.t 5))⟩, ⟨(some 29), none, (.call (.t 28) [])⟩])) (.reg [] [⟨(some 30), none, (.bin .add (.t 26) (.v (.d (.int .i64 1))))⟩, ⟨(some 26), none, (.mov (.t 30))⟩]))))
def L90_2 : C := (.seq (.reg [] [⟨(some 18), none, (.bin .lss (.t 17) (.t 16))⟩]) (.seq (.cond (.t 18) .skip (.exit 0)) (.seq (.block 1 (.seq (.reg [] [⟨(some 19), none, (.idxA 1 (.t 15) (.t 17))⟩, ⟨(some 20), none, (.load false 1 (.t 19))⟩, ⟨(some 7), none, (.mov (.t 20))⟩]) (.seq (.reg [] [⟨(some 21), none, (.load false 1 (.t 2))⟩, ⟨(some 22), none, (.mov (.t 7))⟩, ⟨(some 23), none, (.conv (.int .i64) (.t 22))⟩, ⟨(some 24), none, (.bin .shl (.t 23) (.v (.d (.int .u64 8))))⟩, ⟨(some 25), none, (.bin .xor (.t 21) (.t 24))⟩, ⟨none, none, (.store 1 (.t 2) (.t 25))⟩]) (.seq (.reg [] [⟨(some 26), none, (.mov (.v (.d (.int .i64 0))))⟩]) (.block 2 (.loop [2, 5, 15, 16, 17, 26] [2, 5, 15, 16, 17] L90_1)))))) (.reg [] [⟨(some 31), none, (.bin .add (.t 17) (.v (.d (.int .i64 1))))⟩, ⟨(some 17), none, (.mov (.t 31))⟩]))))
def S90_3 : C := (.seq1 (.reg [] [⟨(some 15), none, (.mov (.t 1))⟩, ⟨(some 16), none, (.len (.t 15))⟩, ⟨(some 17), none, (.mov (.v (.d (.int .i64 0))))⟩]) (.block 0 (.loop [2, 5, 15, 16, 17] [2] L90_2)))
def F90 : CFunc := ⟨33, [(.tmp 4)], (.seq (.reg [] [⟨(some 2), none, (.box 3 true 1 (.t 0))⟩, ⟨(some 4), none, (.mov (.v (.d (.int .i64 0))))⟩]) (.cut [1, 2] [4] [1, 2] S90_0 (.seq (.reg [] [⟨(some 14), none, (.mkfn (.func 96) [] [(.t 2)])⟩, ⟨(some 5), none, (.mov (.t 14))⟩]) (.cut [1, 2, 5] [] [2] S90_3 (.seq (.reg [] [⟨(some 32), none, (.load false 1 (.t 2))⟩, ⟨(some 4), none, (.mov (.t 32))⟩]) .ret)))))⟩
theorem c90 : cAt Tryd.prog 90 = some F90.er := by kernel_rfl
def L92_0 : C := (.seq (.seq (.reg [] [⟨(some 3), none, (.load false 1 (.t 1))⟩, ⟨(some 4), none, (.len (.t 3))⟩, ⟨(some 5), none, (.bin .geq (.t 4) (.v (.d (.int .i64 4))))⟩]) (.cond (.t 5) .skip (.exit 0))) (.seq (.block 1 (.seq (.reg [] [⟨(some 8), none, (.mov (.t 0))⟩, ⟨(some 9), none, (.load false 1 (.t 1))⟩, ⟨(some 10), none, (.slice 1 (.t 9) none (some (.v (.d (.int .i64 4)))) (some (.v (.d (.int .i64 4)))))⟩, ⟨(some 11), none, (.call (.t 8) [(.t 10)])⟩, ⟨(some 12), none, (.unop .not (.t 11))⟩]) (.cond (.t 12) .ret .skip))) (.reg [] [⟨(some 6), none, (.load false 1 (.t 1))⟩, ⟨(some 7), none, (.slice 1 (.t 6) (some (.v (.d (.int .i64 4)))) none none)⟩, ⟨none, none, (.store 1 (.t 1) (.t 7))⟩])))
def F92 : CFunc := ⟨13, [], (.block 0 (.loop [0, 1] [] L92_0))⟩
theorem c92 : cAt Tryd.prog 92 = some F92.er := by kernel_rfl
def F96 : CFunc := ⟨11, [], (.seq (.reg [] [⟨(some 2), none, (.load false 1 (.t 0))⟩, ⟨(some 3), none, (.bin .and (.t 2) (.v (.d (.int .i64 32768))))⟩, ⟨(some 4), none, (.bin .neq (.t 3) (.v (.d (.int .i64 0))))⟩, ⟨(some 1), none, (.mov (.t 4))⟩]) (.seq (.reg [] [⟨(some 5), none, (.load false 1 (.t 0))⟩, ⟨(some 6), none, (.bin .shl (.t 5) (.v (.d (.int .u64 1))))⟩, ⟨(some 7), none, (.bin .and (.t 6) (.v (.d (.int .i64 65535))))⟩, ⟨none, none, (.store 1 (.t 0) (.t 7))⟩]) (.seq (.reg [] [⟨(some 8), none, (.mov (.t 1))⟩]) (.cond (.t 8) (.reg [] [⟨(some 9), none, (.load false 1 (.t 0))⟩, ⟨(some 10), none, (.bin .xor (.t 9) (.v (.d (.int .i64 4129))))⟩, ⟨none, none, (.store 1 (.t 0) (.t 10))⟩]) .skip))))⟩
theorem c96 : cAt Tryd.prog 96 = some F96.er := by kernel_rfl
def cfT : List (Nat × CFunc) := [(3, F3), (5, F5), (10, F10), (11, F11), (13, F13), (16, F16), (18, F18), (31, F31), (46, F46), (47, F47), (48, F48), (52, F52), (53, F53), (54, F54), (58, F58), (59, F59), (66, F66), (74, F74), (75, F75), (77, F77), (79, F79), (80, F80), (81, F81), (82, F82), (90, F90), (92, F92), (96, F96)]
def lookT : List (Nat × CFunc) → Nat → Option CFunc
  | [], _ => none
  | (i, F) :: r, j => match Nat.beq j i with | true => some F | false => lookT r j
def extT : List (FuncId × XK) := [(76, .grow 5 true 1 1)]
def gl0_0 : ByteArray := ⟨#[102, 105, 110, 101]⟩
def gl0_1 : ByteArray := ⟨#[97, 98, 115, 101, 110, 116]⟩
def gl0_2 : ByteArray := ⟨#[108, 101, 110, 103, 116, 104]⟩
def gl0_3 : ByteArray := ⟨#[115, 121, 110, 99]⟩
def gl0_4 : ByteArray := ⟨#[111, 116, 104, 101, 114]⟩
def gl0_5 : ByteArray := ⟨#[115, 117, 109]⟩
def gl0_6 : ByteArray := ⟨#[115, 116, 97, 108, 101]⟩
def gls0 : List ByteArray := [gl0_0, gl0_1, gl0_2, gl0_3, gl0_4, gl0_5, gl0_6]
def E0 : Env := ⟨lookT cfT, extOf extT, fun g => match Nat.beq g 0 with | true => some [.str gl0_0, .str gl0_1, .str gl0_2, .str gl0_3, .str gl0_4, .str gl0_5, .str gl0_6] | false => none, fun _ => false, fun f => Nat.beq f 47⟩
theorem lookT_ok : ∀ (l : List (Nat × CFunc)), (∀ p, p ∈ l → cAt Tryd.prog p.1 = some p.2.er) → ∀ f F, lookT l f = some F → cAt Tryd.prog f = some F.er
  | [], _, f, F, h => by simp [lookT] at h
  | (i, G) :: r, hl, f, F, h => by
    simp only [lookT] at h
    split at h
    · rename_i hb
      cases h
      rw [Nat.eq_of_beq_eq_true hb]
      exact hl (i, _) (List.mem_cons_self ..)
    · exact lookT_ok r (fun p hp => hl p (by simp [hp])) f F h
theorem cfT_ok : ∀ p, p ∈ cfT → cAt Tryd.prog p.1 = some p.2.er := by
  unfold cfT
  simp only [List.forall_mem_cons]
  exact ⟨c3, c5, c10, c11, c13, c16, c18, c31, c46, c47, c48, c52, c53, c54, c58, c59, c66, c74, c75, c77, c79, c80, c81, c82, c90, c92, c96, fun p h => by simp at h⟩
theorem e0_ext {f : FuncId} (h : lookX extT f = none) : ∀ a m, E0.ext f a m = none := ext_none h
theorem e0_cf : ∀ f F, E0.cf f = some F → cAt Tryd.prog f = some F.er := lookT_ok cfT cfT_ok
theorem w3 {args : List V} {m : Mem} (os : List (A E0)) {r : List V × Mem} (h : walkF E0 F3 args m os = some (r, want os)) : cl E0 3 args m = some r := cl_walk (e0_ext (by kernel_rfl)) (by kernel_rfl) (by decide) os h
theorem w5 {args : List V} {m : Mem} (os : List (A E0)) {r : List V × Mem} (h : walkF E0 F5 args m os = some (r, want os)) : cl E0 5 args m = some r := cl_walk (e0_ext (by kernel_rfl)) (by kernel_rfl) (by decide) os h
theorem w11 {args : List V} {m : Mem} (os : List (A E0)) {r : List V × Mem} (h : walkF E0 F11 args m os = some (r, want os)) : cl E0 11 args m = some r := cl_walk (e0_ext (by kernel_rfl)) (by kernel_rfl) (by decide) os h
theorem w13 {args : List V} {m : Mem} (os : List (A E0)) {r : List V × Mem} (h : walkF E0 F13 args m os = some (r, want os)) : cl E0 13 args m = some r := cl_walk (e0_ext (by kernel_rfl)) (by kernel_rfl) (by decide) os h
theorem w16 {args : List V} {m : Mem} (os : List (A E0)) {r : List V × Mem} (h : walkF E0 F16 args m os = some (r, want os)) : cl E0 16 args m = some r := cl_walk (e0_ext (by kernel_rfl)) (by kernel_rfl) (by decide) os h
theorem w31 {args : List V} {m : Mem} (os : List (A E0)) {r : List V × Mem} (h : walkF E0 F31 args m os = some (r, want os)) : cl E0 31 args m = some r := cl_walk (e0_ext (by kernel_rfl)) (by kernel_rfl) (by decide) os h
theorem w46 {args : List V} {m : Mem} (os : List (A E0)) {r : List V × Mem} (h : walkF E0 F46 args m os = some (r, want os)) : cl E0 46 args m = some r := cl_walk (e0_ext (by kernel_rfl)) (by kernel_rfl) (by decide) os h
theorem w47 {args : List V} {m : Mem} (os : List (A E0)) {r : List V × Mem} (h : walkF E0 F47 args m os = some (r, want os)) : cl E0 47 args m = some r := cl_walk (e0_ext (by kernel_rfl)) (by kernel_rfl) (by decide) os h
theorem w48 {args : List V} {m : Mem} (os : List (A E0)) {r : List V × Mem} (h : walkF E0 F48 args m os = some (r, want os)) : cl E0 48 args m = some r := cl_walk (e0_ext (by kernel_rfl)) (by kernel_rfl) (by decide) os h
theorem w52 {args : List V} {m : Mem} (os : List (A E0)) {r : List V × Mem} (h : walkF E0 F52 args m os = some (r, want os)) : cl E0 52 args m = some r := cl_walk (e0_ext (by kernel_rfl)) (by kernel_rfl) (by decide) os h
theorem w53 {args : List V} {m : Mem} (os : List (A E0)) {r : List V × Mem} (h : walkF E0 F53 args m os = some (r, want os)) : cl E0 53 args m = some r := cl_walk (e0_ext (by kernel_rfl)) (by kernel_rfl) (by decide) os h
theorem w54 {args : List V} {m : Mem} (os : List (A E0)) {r : List V × Mem} (h : walkF E0 F54 args m os = some (r, want os)) : cl E0 54 args m = some r := cl_walk (e0_ext (by kernel_rfl)) (by kernel_rfl) (by decide) os h
theorem w58 {args : List V} {m : Mem} (os : List (A E0)) {r : List V × Mem} (h : walkF E0 F58 args m os = some (r, want os)) : cl E0 58 args m = some r := cl_walk (e0_ext (by kernel_rfl)) (by kernel_rfl) (by decide) os h
theorem w59 {args : List V} {m : Mem} (os : List (A E0)) {r : List V × Mem} (h : walkF E0 F59 args m os = some (r, want os)) : cl E0 59 args m = some r := cl_walk (e0_ext (by kernel_rfl)) (by kernel_rfl) (by decide) os h
theorem w66 {args : List V} {m : Mem} (os : List (A E0)) {r : List V × Mem} (h : walkF E0 F66 args m os = some (r, want os)) : cl E0 66 args m = some r := cl_walk (e0_ext (by kernel_rfl)) (by kernel_rfl) (by decide) os h
theorem w74 {args : List V} {m : Mem} (os : List (A E0)) {r : List V × Mem} (h : walkF E0 F74 args m os = some (r, want os)) : cl E0 74 args m = some r := cl_walk (e0_ext (by kernel_rfl)) (by kernel_rfl) (by decide) os h
theorem w75 {args : List V} {m : Mem} (os : List (A E0)) {r : List V × Mem} (h : walkF E0 F75 args m os = some (r, want os)) : cl E0 75 args m = some r := cl_walk (e0_ext (by kernel_rfl)) (by kernel_rfl) (by decide) os h
theorem w77 {args : List V} {m : Mem} (os : List (A E0)) {r : List V × Mem} (h : walkF E0 F77 args m os = some (r, want os)) : cl E0 77 args m = some r := cl_walk (e0_ext (by kernel_rfl)) (by kernel_rfl) (by decide) os h
theorem w79 {args : List V} {m : Mem} (os : List (A E0)) {r : List V × Mem} (h : walkF E0 F79 args m os = some (r, want os)) : cl E0 79 args m = some r := cl_walk (e0_ext (by kernel_rfl)) (by kernel_rfl) (by decide) os h
theorem w80 {args : List V} {m : Mem} (os : List (A E0)) {r : List V × Mem} (h : walkF E0 F80 args m os = some (r, want os)) : cl E0 80 args m = some r := cl_walk (e0_ext (by kernel_rfl)) (by kernel_rfl) (by decide) os h
theorem w81 {args : List V} {m : Mem} (os : List (A E0)) {r : List V × Mem} (h : walkF E0 F81 args m os = some (r, want os)) : cl E0 81 args m = some r := cl_walk (e0_ext (by kernel_rfl)) (by kernel_rfl) (by decide) os h
theorem w82 {args : List V} {m : Mem} (os : List (A E0)) {r : List V × Mem} (h : walkF E0 F82 args m os = some (r, want os)) : cl E0 82 args m = some r := cl_walk (e0_ext (by kernel_rfl)) (by kernel_rfl) (by decide) os h
theorem w90 {args : List V} {m : Mem} (os : List (A E0)) {r : List V × Mem} (h : walkF E0 F90 args m os = some (r, want os)) : cl E0 90 args m = some r := cl_walk (e0_ext (by kernel_rfl)) (by kernel_rfl) (by decide) os h
theorem w92 {args : List V} {m : Mem} (os : List (A E0)) {r : List V × Mem} (h : walkF E0 F92 args m os = some (r, want os)) : cl E0 92 args m = some r := cl_walk (e0_ext (by kernel_rfl)) (by kernel_rfl) (by decide) os h
theorem w96 {args : List V} {m : Mem} (os : List (A E0)) {r : List V × Mem} (h : walkF E0 F96 args m os = some (r, want os)) : cl E0 96 args m = some r := cl_walk (e0_ext (by kernel_rfl)) (by kernel_rfl) (by decide) os h
theorem e0_del : ∀ f, E0.del f = true → DelOK Tryd.prog f := fun f h => by cases h
def rhoG76 : Shelf.Ren := ⟨fun x => if x = 4 then 76 else x, fun x => match x with | 0 => 0 | 3 => 3 | 4 => 4 | 9 => 9 | 20 => 20 | 22 => 25 | 25 => 5 | x => x, fun x => x⟩
theorem laysG76 : Lays8.n4 Tryd.prog rhoG76 := by
  constructor
  case f4 => exact ⟨"slices.Grow[[]byte,byte]", by kernel_rfl, by kernel_rfl⟩
  all_goals first | kernel_rfl | (intro w; kernel_rfl)
theorem xok76 : XOK Tryd.prog 76 (.grow 5 true 1 1) := ⟨by decide, ⟨_, rfl, by kernel_rfl, by kernel_rfl⟩, growOK_of laysG76 rfl rfl (i0 := (Tryd.prog.info? 5).getD default) (z := (((Tryd.prog.info? 5).bind (·.zero)).getD default)) (by kernel_rfl) (by kernel_rfl) (by kernel_rfl) (by kernel_rfl) (by kernel_rfl) (by decide) (by decide)⟩
theorem e0_x : ∀ p, p ∈ extT → XOK Tryd.prog p.1 p.2 := by
  unfold extT
  simp only [List.forall_mem_cons]
  exact ⟨xok76, fun p h => by simp at h⟩
end Go.Proofs.YtkipngagfiaddaaDoor.Den

namespace Go.Proofs.YtkipngagfiaddaaDoor.Den
open Go Go.Proofs
set_option maxRecDepth 100000
set_option maxHeartbeats 4000000
set_option linter.unusedVariables false
set_option linter.unusedSimpArgs false
end Go.Proofs.YtkipngagfiaddaaDoor.Den

namespace Go.Proofs.YtkipngagfiaddaaDoor.Den
open Go Go.Proofs
set_option maxRecDepth 100000
set_option maxHeartbeats 4000000
set_option linter.unusedVariables false
set_option linter.unusedSimpArgs false
def word_seq_i_r0_0 (x0 : Int) : Bool := (bif tb (decide (0 ≤ x0)) then (decide (x0 < 65536)) else false)
theorem word_seq_i_t0 (x0 : Int) : cl E0 66 [(V.d (.int .i64 x0))] [] = some ([(V.d (.bool (word_seq_i_r0_0 x0)))], []) := by
  unfold word_seq_i_r0_0
  cases h1 : tb (decide (0 ≤ x0))
  · exact w66 [.b (tbE h1)] (by kernel_rfl)
  · exact w66 [.b (tbE h1)] (by kernel_rfl)
def word_Put2_i_r0_0 (x0 : Int) : Bool := (bif tb (word_seq_i_r0_0 x0) then false else true)
def word_Put2_i_r0_1 (x0 : Int) : List Int := (bif tb (word_seq_i_r0_0 x0) then [(IntKind.u8.wrap (shrI .i64 x0 8)), (IntKind.u8.wrap (x0))] else ([] : List Int))
theorem word_Put2_i_t0 (x0 : Int) : cl E0 31 [(V.d (.int .i64 x0))] [] = some ([(V.so (word_Put2_i_r0_0 x0) 0 ((word_Put2_i_r0_1 x0).length))], [(Blk.flat 5 1 (List.map (encI .u8) (word_Put2_i_r0_1 x0)) false)]) := by
  unfold word_Put2_i_r0_0 word_Put2_i_r0_1
  cases h1 : tb (word_seq_i_r0_0 x0)
  · exact w31 [.c (word_seq_i_t0 x0), .b (notF (tbE h1))] (by kernel_rfl)
  · exact w31 [.c (word_seq_i_t0 x0), .b (notT (tbE h1)), .o 7 (fun _ => o_shr (k := .i64) (k2 := .u64) (x := x0) (y := 8) rfl)] (by kernel_rfl)
def word_Put4_i_r0_0 (x0 : Int) : Bool := (bif tb (decide (x0 < (-2147483648))) then true else (bif tb (decide (2147483647 < x0)) then true else false))
def word_Put4_i_r0_1 (x0 : Int) : List Int := (bif tb (decide (x0 < (-2147483648))) then ([] : List Int) else (bif tb (decide (2147483647 < x0)) then ([] : List Int) else [(IntKind.u8.wrap (shrI .i64 x0 24)), (IntKind.u8.wrap (shrI .i64 x0 16)), (IntKind.u8.wrap (shrI .i64 x0 8)), (IntKind.u8.wrap (x0))]))
theorem word_Put4_i_t0 (x0 : Int) : cl E0 77 [(V.d (.int .i64 x0))] [] = some ([(V.so (word_Put4_i_r0_0 x0) 0 ((word_Put4_i_r0_1 x0).length))], [(Blk.flat 5 1 (List.map (encI .u8) (word_Put4_i_r0_1 x0)) false)]) := by
  unfold word_Put4_i_r0_0 word_Put4_i_r0_1
  cases h1 : tb (decide (x0 < (-2147483648)))
  · cases h2 : tb (decide (2147483647 < x0))
    · exact w77 [.b (tbE h1), .b (tbE h2), .o 10 (fun _ => o_shr (k := .i64) (k2 := .u64) (x := x0) (y := 24) rfl), .o 13 (fun _ => o_shr (k := .i64) (k2 := .u64) (x := x0) (y := 16) rfl), .o 16 (fun _ => o_shr (k := .i64) (k2 := .u64) (x := x0) (y := 8) rfl)] (by kernel_rfl)
    · exact w77 [.b (tbE h1), .b (tbE h2)] (by kernel_rfl)
  · exact w77 [.b (tbE h1)] (by kernel_rfl)
structure word_PutAll_o_L0_s0 where
  c0 : Bool
  c4 : Int
  c6 : List Int
  deriving Inhabited
def word_PutAll_o_L0_enc (x0 : List Int) (x1 : Bool) (x2 : Bool) (x3 : Bool) (x4 : Bool) (x5 : List Int) (x6 : Int) (x7 : Int) (s0 : word_PutAll_o_L0_s0) : List V × Mem := ([(V.so s0.c0 1 s0.c6.length), (V.d (slD (encI .i64) true 1 x4 x5)), (V.d (.int .i64 x6)), (V.d (.int .i64 s0.c4))], [(Blk.flat 5 1 [] x1), (Blk.flat 5 1 (List.map (encI .u8) s0.c6) false)])
def word_PutAll_o_L0_sel (x5 : List Int) (x6 : Int) (s0 : word_PutAll_o_L0_s0) : Bool := (bif tb (decide (s0.c4 < x6)) then (bif tb (inb x5.length s0.c4) then (bif tb (false != (word_Put4_i_r0_0 (gt x5 s0.c4))) then false else (bif tb (decide ((s0.c6.length + (word_Put4_i_r0_1 (gt x5 s0.c4)).length) * 1 ≤ 140737488355328)) then true else false)) else false) else false)
def word_PutAll_o_L0_nx (x5 : List Int) (x6 : Int) (s0 : word_PutAll_o_L0_s0) : word_PutAll_o_L0_s0 := ⟨((word_Put4_i_r0_1 (gt x5 s0.c4)).isEmpty && s0.c0), (wi (s0.c4 + 1)), (s0.c6 ++ (word_Put4_i_r0_1 (gt x5 s0.c4)))⟩
def word_PutAll_o_L0_ok (x5 : List Int) (x6 : Int) (s0 : word_PutAll_o_L0_s0) : Bool := (itS (word_PutAll_o_L0_sel x5 x6) (word_PutAll_o_L0_nx x5 x6) bound s0).isSome
def word_PutAll_o_L0_end (x5 : List Int) (x6 : Int) (s0 : word_PutAll_o_L0_s0) : word_PutAll_o_L0_s0 := (itS (word_PutAll_o_L0_sel x5 x6) (word_PutAll_o_L0_nx x5 x6) bound s0).getD default
theorem word_PutAll_o_L0_go (x0 : List Int) (x1 : Bool) (x2 : Bool) (x3 : Bool) (x4 : Bool) (x5 : List Int) (x6 : Int) (x7 : Int) (s0 : word_PutAll_o_L0_s0) : word_PutAll_o_L0_sel x5 x6 s0 = true → (roundG (runC E0 (cl E0) L48_0) [3, 7, 8, 9] [2, 3] 2) (word_PutAll_o_L0_enc x0 x1 x2 x3 x4 x5 x6 x7 s0) = some (.normal, word_PutAll_o_L0_enc x0 x1 x2 x3 x4 x5 x6 x7 (word_PutAll_o_L0_nx x5 x6 s0)) := by
  unfold word_PutAll_o_L0_sel word_PutAll_o_L0_nx
  cases h1 : tb (decide (s0.c4 < x6))
  · intro g0
    exact absurd g0 ft
  · cases h2 : tb (inb x5.length s0.c4)
    · intro g0
      exact absurd g0 ft
    · cases h3 : tb (false != (word_Put4_i_r0_0 (gt x5 s0.c4)))
      · cases h4 : tb (decide ((s0.c6.length + (word_Put4_i_r0_1 (gt x5 s0.c4)).length) * 1 ≤ 140737488355328))
        · intro g0
          exact absurd g0 ft
        · intro _
          exact round_walk [.b (tbE h1), .o 11 (fun _ => o_idx_os (enc := (encI .i64)) (l := x5) (fl := true) (n := x4) (s := 1) (k := .i64) (tbE h2)), .c (word_Put4_i_t0 (gt x5 s0.c4)), .b (tbE h3), .m 19 (o_app_so (nl := s0.c0) (m := [(Blk.flat 5 1 [] x1), (Blk.flat 5 1 (List.map (encI .u8) s0.c6) false), (Blk.flat 5 1 (List.map (encI .u8) (word_Put4_i_r0_1 (gt x5 s0.c4))) false)]) (enc := (encI .u8)) (l0 := s0.c6) (l1 := (word_Put4_i_r0_1 (gt x5 s0.c4))) (id := 1) (e := 5) (s := 1) (bytes := 1) (x := (V.so (word_Put4_i_r0_0 (gt x5 s0.c4)) 2 ((word_Put4_i_r0_1 (gt x5 s0.c4)).length))) (n := s0.c6.length) (Nat.beq_refl _) (by kernel_rfl) (flatRowsOf_so' (b := (word_Put4_i_r0_0 (gt x5 s0.c4))) (e := 5) (s := 1) (p := false) (Nat.beq_refl _) (by kernel_rfl)) (by kernel_rfl) (tbE h4))] (by kernel_rfl)
      · intro g0
        exact absurd g0 ft
def word_PutAll_o_L0_c0 (x5 : List Int) (x6 : Int) (s0 : word_PutAll_o_L0_s0) : Bool := (bif tb (decide (s0.c4 < x6)) then (bif tb (inb x5.length s0.c4) then (bif tb (false != (word_Put4_i_r0_0 (gt x5 s0.c4))) then true else false) else false) else false)
def word_PutAll_o_L0_c1 (x6 : Int) (s0 : word_PutAll_o_L0_s0) : Bool := (bif tb (decide (s0.c4 < x6)) then false else true)
theorem word_PutAll_o_L0_x0 (x0 : List Int) (x1 : Bool) (x2 : Bool) (x3 : Bool) (x4 : Bool) (x5 : List Int) (x6 : Int) (x7 : Int) (s0 : word_PutAll_o_L0_s0) : word_PutAll_o_L0_sel x5 x6 s0 = false → word_PutAll_o_L0_c0 x5 x6 s0 = true → (roundG (runC E0 (cl E0) L48_0) [3, 7, 8, 9] [2, 3] 2) (word_PutAll_o_L0_enc x0 x1 x2 x3 x4 x5 x6 x7 s0) = some (.ret, ([(V.so true 2 0), (V.so s0.c0 1 s0.c6.length)], [(Blk.flat 5 1 [] x1), (Blk.flat 5 1 (List.map (encI .u8) s0.c6) false), (Blk.flat 5 1 [] false)])) := by
  unfold word_PutAll_o_L0_sel word_PutAll_o_L0_c0
  cases h1 : tb (decide (s0.c4 < x6))
  · intro g0 g1
    exact absurd g1 ft
  · cases h2 : tb (inb x5.length s0.c4)
    · intro g0 g1
      exact absurd g1 ft
    · cases h3 : tb (false != (word_Put4_i_r0_0 (gt x5 s0.c4)))
      · cases h4 : tb (decide ((s0.c6.length + (word_Put4_i_r0_1 (gt x5 s0.c4)).length) * 1 ≤ 140737488355328))
        · intro g0 g1
          exact absurd g1 ft
        · intro g0 g1
          exact absurd g0 tf
      · intro g0 g1
        exact round_walk [.b (tbE h1), .o 11 (fun _ => o_idx_os (enc := (encI .i64)) (l := x5) (fl := true) (n := x4) (s := 1) (k := .i64) (tbE h2)), .c (word_Put4_i_t0 (gt x5 s0.c4)), .b (tbE h3)] (by kernel_rfl)
theorem word_PutAll_o_L0_x1 (x0 : List Int) (x1 : Bool) (x2 : Bool) (x3 : Bool) (x4 : Bool) (x5 : List Int) (x6 : Int) (x7 : Int) (s0 : word_PutAll_o_L0_s0) : word_PutAll_o_L0_sel x5 x6 s0 = false → word_PutAll_o_L0_c0 x5 x6 s0 = false → word_PutAll_o_L0_c1 x6 s0 = true → (roundG (runC E0 (cl E0) L48_0) [3, 7, 8, 9] [2, 3] 2) (word_PutAll_o_L0_enc x0 x1 x2 x3 x4 x5 x6 x7 s0) = some ((.exit 0), ([V.un, (V.so s0.c0 1 s0.c6.length)], [(Blk.flat 5 1 [] x1), (Blk.flat 5 1 (List.map (encI .u8) s0.c6) false)])) := by
  unfold word_PutAll_o_L0_sel word_PutAll_o_L0_c0 word_PutAll_o_L0_c1
  cases h1 : tb (decide (s0.c4 < x6))
  · intro g0 g1 g2
    exact round_walk [.b (tbE h1)] (by kernel_rfl)
  · cases h2 : tb (inb x5.length s0.c4)
    · intro g0 g1 g2
      exact absurd g2 ft
    · cases h3 : tb (false != (word_Put4_i_r0_0 (gt x5 s0.c4)))
      · cases h4 : tb (decide ((s0.c6.length + (word_Put4_i_r0_1 (gt x5 s0.c4)).length) * 1 ≤ 140737488355328))
        · intro g0 g1 g2
          exact absurd g2 ft
        · intro g0 g1 g2
          exact absurd g0 tf
      · intro g0 g1 g2
        exact absurd g1 tf
theorem word_PutAll_o_L0_f0_0 (x0 : List Int) (x1 : Bool) (x2 : Bool) (x3 : Bool) (x4 : Bool) (x5 : List Int) (x6 : Int) (x7 : Int) (s : word_PutAll_o_L0_s0) (hok : word_PutAll_o_L0_ok x5 x6 s = true) (c0 : word_PutAll_o_L0_c0 x5 x6 (word_PutAll_o_L0_end x5 x6 s) = true) : loopG (roundG (runC E0 (cl E0) L48_0) [3, 7, 8, 9] [2, 3] 2) bound (word_PutAll_o_L0_enc x0 x1 x2 x3 x4 x5 x6 x7 s) = some (.ret, ([(V.so true 2 0), (V.so ((word_PutAll_o_L0_end x5 x6 s).c0) 1 (((word_PutAll_o_L0_end x5 x6 s).c6).length))], [(Blk.flat 5 1 [] x1), (Blk.flat 5 1 (List.map (encI .u8) ((word_PutAll_o_L0_end x5 x6 s).c6)) false), (Blk.flat 5 1 [] false)])) := by
  have e : itS (word_PutAll_o_L0_sel x5 x6) (word_PutAll_o_L0_nx x5 x6) bound s = some (word_PutAll_o_L0_end x5 x6 s) := itS_get hok
  have f := itS_false e
  exact loop_it (word_PutAll_o_L0_go x0 x1 x2 x3 x4 x5 x6 x7) bound s _ _ _ e (fun h => by cases h) (word_PutAll_o_L0_x0 x0 x1 x2 x3 x4 x5 x6 x7 (word_PutAll_o_L0_end x5 x6 s) f c0)
theorem word_PutAll_o_L0_f0_1 (x0 : List Int) (x1 : Bool) (x2 : Bool) (x3 : Bool) (x4 : Bool) (x5 : List Int) (x6 : Int) (x7 : Int) (s : word_PutAll_o_L0_s0) (hok : word_PutAll_o_L0_ok x5 x6 s = true) (c0 : word_PutAll_o_L0_c0 x5 x6 (word_PutAll_o_L0_end x5 x6 s) = false) (c1 : word_PutAll_o_L0_c1 x6 (word_PutAll_o_L0_end x5 x6 s) = true) : loopG (roundG (runC E0 (cl E0) L48_0) [3, 7, 8, 9] [2, 3] 2) bound (word_PutAll_o_L0_enc x0 x1 x2 x3 x4 x5 x6 x7 s) = some ((.exit 0), ([V.un, (V.so ((word_PutAll_o_L0_end x5 x6 s).c0) 1 (((word_PutAll_o_L0_end x5 x6 s).c6).length))], [(Blk.flat 5 1 [] x1), (Blk.flat 5 1 (List.map (encI .u8) ((word_PutAll_o_L0_end x5 x6 s).c6)) false)])) := by
  have e : itS (word_PutAll_o_L0_sel x5 x6) (word_PutAll_o_L0_nx x5 x6) bound s = some (word_PutAll_o_L0_end x5 x6 s) := itS_get hok
  have f := itS_false e
  exact loop_it (word_PutAll_o_L0_go x0 x1 x2 x3 x4 x5 x6 x7) bound s _ _ _ e (fun h => by cases h) (word_PutAll_o_L0_x1 x0 x1 x2 x3 x4 x5 x6 x7 (word_PutAll_o_L0_end x5 x6 s) f c0 c1)
def word_PutAll_o_e0 (x1 : List Int) : word_PutAll_o_L0_s0 := word_PutAll_o_L0_end x1 ((x1.length : Nat) : Int) (⟨true, 0, ([] : List Int)⟩ : word_PutAll_o_L0_s0)
def word_PutAll_o_c0 (x1 : List Int) : Bool := (bif tb (word_PutAll_o_L0_ok x1 ((x1.length : Nat) : Int) (⟨true, 0, ([] : List Int)⟩ : word_PutAll_o_L0_s0)) then (bif tb (word_PutAll_o_L0_c0 x1 ((x1.length : Nat) : Int) (word_PutAll_o_e0 x1)) then true else (bif tb (word_PutAll_o_L0_c1 ((x1.length : Nat) : Int) (word_PutAll_o_e0 x1)) then true else false)) else false)
def word_PutAll_o_r0_0 (x1 : List Int) : Bool := (bif tb (word_PutAll_o_L0_c0 x1 ((x1.length : Nat) : Int) (word_PutAll_o_e0 x1)) then true else ((word_PutAll_o_e0 x1).c0))
def word_PutAll_o_r0_1 (x1 : List Int) : List Int := (bif tb (word_PutAll_o_L0_c0 x1 ((x1.length : Nat) : Int) (word_PutAll_o_e0 x1)) then ([] : List Int) else ((word_PutAll_o_e0 x1).c6))
theorem word_PutAll_o_t0 (x0 : Bool) (x1 : List Int) : word_PutAll_o_c0 x1 = true → cl E0 48 [(V.d (slD (encI .i64) true 1 x0 x1))] [] = some ([(V.so (word_PutAll_o_r0_0 x1) 0 ((word_PutAll_o_r0_1 x1).length))], [(Blk.flat 5 1 (List.map (encI .u8) (word_PutAll_o_r0_1 x1)) false)]) := by
  unfold word_PutAll_o_c0 word_PutAll_o_r0_0 word_PutAll_o_r0_1
  cases h1 : tb (word_PutAll_o_L0_ok x1 ((x1.length : Nat) : Int) (⟨true, 0, ([] : List Int)⟩ : word_PutAll_o_L0_s0))
  · intro g0
    exact absurd g0 ft
  · cases h2 : tb (word_PutAll_o_L0_c0 x1 ((x1.length : Nat) : Int) (word_PutAll_o_e0 x1))
    · cases h3 : tb (word_PutAll_o_L0_c1 ((x1.length : Nat) : Int) (word_PutAll_o_e0 x1))
      · intro g0
        exact absurd g0 ft
      · intro g0
        exact w48 [.o 8 (fun _ => o_len_os (enc := (encI .i64)) (l := x1) (fl := true) (n := x0) (s := 1)), .l (word_PutAll_o_L0_f0_1 ([] : List Int) false false true x0 x1 ((x1.length : Nat) : Int) 0 (⟨true, 0, ([] : List Int)⟩ : word_PutAll_o_L0_s0) (tbE h1) (tbE h2) (tbE h3))] (by kernel_rfl)
    · intro g0
      exact w48 [.o 8 (fun _ => o_len_os (enc := (encI .i64)) (l := x1) (fl := true) (n := x0) (s := 1)), .l (word_PutAll_o_L0_f0_0 ([] : List Int) false false true x0 x1 ((x1.length : Nat) : Int) 0 (⟨true, 0, ([] : List Int)⟩ : word_PutAll_o_L0_s0) (tbE h1) (tbE h2))] (by kernel_rfl)
def word_Get2_o_c0 (x1 : List Int) : Bool := (bif tb ((((x1.length : Nat) : Int) : Int) != 2) then true else (bif tb (inb x1.length 0) then (bif tb (inb x1.length 1) then true else false) else false))
def word_Get2_o_r0_0 (x1 : List Int) : Int := (bif tb ((((x1.length : Nat) : Int) : Int) != 2) then 0 else (orI .i64 (shlI .i64 (wi (gt x1 0)) 8) (wi (gt x1 1))))
def word_Get2_o_r0_1 (x1 : List Int) : Bool := (bif tb ((((x1.length : Nat) : Int) : Int) != 2) then false else true)
theorem word_Get2_o_t0 (x0 : Bool) (x1 : List Int) : word_Get2_o_c0 x1 = true → cl E0 53 [(V.d (slD (encI .u8) true 1 x0 x1))] [] = some ([(V.d (.int .i64 (word_Get2_o_r0_0 x1))), (V.d (.bool (word_Get2_o_r0_1 x1)))], []) := by
  unfold word_Get2_o_c0 word_Get2_o_r0_0 word_Get2_o_r0_1
  cases h1 : tb ((((x1.length : Nat) : Int) : Int) != 2)
  · cases h2 : tb (inb x1.length 0)
    · intro g0
      exact absurd g0 ft
    · cases h3 : tb (inb x1.length 1)
      · intro g0
        exact absurd g0 ft
      · intro g0
        exact w53 [.o 5 (fun _ => o_len_os (enc := (encI .u8)) (l := x1) (fl := true) (n := x0) (s := 1)), .b (tbE h1), .o 8 (fun _ => o_idx_os (enc := (encI .u8)) (l := x1) (fl := true) (n := x0) (s := 1) (k := .i64) (tbE h2)), .o 11 (fun _ => o_shl (k := .i64) (k2 := .u64) (x := (wi (gt x1 0))) (y := 8) rfl), .o 13 (fun _ => o_idx_os (enc := (encI .u8)) (l := x1) (fl := true) (n := x0) (s := 1) (k := .i64) (tbE h3))] (by kernel_rfl)
  · intro g0
    exact w53 [.o 5 (fun _ => o_len_os (enc := (encI .u8)) (l := x1) (fl := true) (n := x0) (s := 1)), .b (tbE h1)] (by kernel_rfl)
theorem word_fours_o_t0 (x0 : Bool) (x1 : List Int) : cl E0 80 [(V.d (slD (encI .u8) true 1 x0 x1))] [] = some ([(V.fn (.func 92) [] [(V.ptr 0 1 0 0)])], [(Blk.gen 25 1 [[(V.d (slD (encI .u8) true 1 x0 x1))]] false)]) := by
  exact w80 [] (by kernel_rfl)
def word_Get4_l_e0 (x0 : List Int) : Int := orI .u32 (shlI .u32 (IntKind.u32.wrap (gt x0 0)) 24) (shlI .u32 (IntKind.u32.wrap (gt x0 1)) 16)
def word_Get4_l_e1 (x0 : List Int) : Int := orI .u32 (word_Get4_l_e0 x0) (shlI .u32 (IntKind.u32.wrap (gt x0 2)) 8)
def word_Get4_l_e2 (x0 : List Int) : Int := IntKind.i32.wrap (orI .u32 (word_Get4_l_e1 x0) (IntKind.u32.wrap (gt x0 3)))
def word_Get4_l_c0 (x0 : List Int) : Bool := (bif tb ((((x0.length : Nat) : Int) : Int) != 4) then true else (bif tb (inb x0.length 0) then (bif tb (inb x0.length 1) then (bif tb (inb x0.length 2) then (bif tb (inb x0.length 3) then true else false) else false) else false) else false))
def word_Get4_l_r0_0 (x0 : List Int) : Int := (bif tb ((((x0.length : Nat) : Int) : Int) != 4) then 0 else (wi ((word_Get4_l_e2 x0))))
def word_Get4_l_r0_1 (x0 : List Int) : Bool := (bif tb ((((x0.length : Nat) : Int) : Int) != 4) then false else true)
theorem word_Get4_l_t0 (x0 : List Int) : word_Get4_l_c0 x0 = true → cl E0 81 [(V.d (.rs true 1 (List.map (encI .u8) x0) true))] [] = some ([(V.d (.int .i64 (word_Get4_l_r0_0 x0))), (V.d (.bool (word_Get4_l_r0_1 x0)))], []) := by
  unfold word_Get4_l_c0 word_Get4_l_r0_0 word_Get4_l_r0_1
  cases h1 : tb ((((x0.length : Nat) : Int) : Int) != 4)
  · cases h2 : tb (inb x0.length 0)
    · intro g0
      exact absurd g0 ft
    · cases h3 : tb (inb x0.length 1)
      · intro g0
        exact absurd g0 ft
      · cases h4 : tb (inb x0.length 2)
        · intro g0
          exact absurd g0 ft
        · cases h5 : tb (inb x0.length 3)
          · intro g0
            exact absurd g0 ft
          · intro g0
            exact w81 [.o 6 (fun _ => o_len_rs (enc := (encI .u8)) (l := x0) (fl := true) (tg := true) (s := 1)), .b (tbE h1), .o 9 (fun _ => o_idx_rs (enc := (encI .u8)) (l := x0) (fl := true) (tg := true) (s := 1) (k := .i64) (tbE h2)), .o 12 (fun _ => o_shl (k := .u32) (k2 := .u64) (x := (IntKind.u32.wrap (gt x0 0))) (y := 24) rfl), .o 14 (fun _ => o_idx_rs (enc := (encI .u8)) (l := x0) (fl := true) (tg := true) (s := 1) (k := .i64) (tbE h3)), .o 17 (fun _ => o_shl (k := .u32) (k2 := .u64) (x := (IntKind.u32.wrap (gt x0 1))) (y := 16) rfl), .o 20 (fun _ => o_idx_rs (enc := (encI .u8)) (l := x0) (fl := true) (tg := true) (s := 1) (k := .i64) (tbE h4)), .o 23 (fun _ => o_shl (k := .u32) (k2 := .u64) (x := (IntKind.u32.wrap (gt x0 2))) (y := 8) rfl), .o 26 (fun _ => o_idx_rs (enc := (encI .u8)) (l := x0) (fl := true) (tg := true) (s := 1) (k := .i64) (tbE h5))] (by kernel_rfl)
  · intro g0
    exact w81 [.o 6 (fun _ => o_len_rs (enc := (encI .u8)) (l := x0) (fl := true) (tg := true) (s := 1)), .b (tbE h1)] (by kernel_rfl)
def word_GetAll_Y1_l_Y54_1pGvL_c0 (x0 : List Int) (x5 : List Int) : Bool := (bif tb (word_Get4_l_c0 x5) then (bif tb (decide ((x0.length + [(word_Get4_l_r0_0 x5)].length) * 8 ≤ 140737488355328)) then true else false) else false)
theorem word_GetAll_Y1_l_Y54_1pGvL_t0 (x0 : List Int) (x2 : Bool) (x5 : List Int) : word_GetAll_Y1_l_Y54_1pGvL_c0 x0 x5 = true → cl E0 yfn [(V.yl 0), (V.d (.rs true 1 (List.map (encI .u8) x5) true))] [(Blk.loop .ready none [V.un, V.un, V.un, V.un, (V.ptr 1 1 0 0), V.un, V.un, V.un, V.un, V.un, V.un, V.un, V.un, V.un, V.un, V.un, V.un, V.un, V.un, V.un, V.un, V.un, V.un, V.un, V.un] [14] L54_0 L54_1 false), (Blk.gen 70 1 [[(V.so x2 2 x0.length)]] false), (Blk.flat 3 1 (List.map (encI .i64) x0) false)] = some ([(V.d (.bool true))], [(Blk.loop .ready none [V.un, V.un, V.un, V.un, (V.ptr 1 1 0 0), V.un, V.un, V.un, V.un, V.un, V.un, V.un, V.un, V.un, V.un, V.un, V.un, V.un, V.un, V.un, V.un, V.un, V.un, V.un, V.un] [14] L54_0 L54_1 false), (Blk.gen 70 1 [[(V.so false 2 ((x0 ++ [(word_Get4_l_r0_0 x5)]).length))]] false), (Blk.flat 3 1 (List.map (encI .i64) (x0 ++ [(word_Get4_l_r0_0 x5)])) false)]) := by
  unfold word_GetAll_Y1_l_Y54_1pGvL_c0
  cases h1 : tb (word_Get4_l_c0 x5)
  · intro g0
    exact absurd g0 ft
  · cases h2 : tb (decide ((x0.length + [(word_Get4_l_r0_0 x5)].length) * 8 ≤ 140737488355328))
    · intro g0
      exact absurd g0 ft
    · intro g0
      exact round_yield [.c (word_Get4_l_t0 x5 (tbE h1)), .m 23 (o_app_so (nl := x2) (m := [(Blk.loop .busy none [V.un, V.un, V.un, V.un, (V.ptr 1 1 0 0), V.un, V.un, V.un, V.un, V.un, V.un, V.un, V.un, V.un, V.un, V.un, V.un, V.un, V.un, V.un, V.un, V.un, V.un, V.un, V.un] [14] L54_0 L54_1 false), (Blk.gen 70 1 [[(V.so x2 2 x0.length)]] false), (Blk.flat 3 1 (List.map (encI .i64) x0) false), (Blk.flat 3 1 [[(.int .i64 (word_Get4_l_r0_0 x5))]] false)]) (enc := (encI .i64)) (l0 := x0) (l1 := [(word_Get4_l_r0_0 x5)]) (id := 2) (e := 3) (s := 1) (bytes := 8) (x := (V.so false 3 1)) (n := x0.length) (Nat.beq_refl _) (by kernel_rfl) (by kernel_rfl) (by kernel_rfl) (tbE h2))] (by kernel_rfl)
structure word_fours_c1_yp_Y54_1pGvLGo_L0_s0 where
  c1 : Bool
  c3 : List Int
  c5 : Bool
  c6 : List Int
  deriving Inhabited
def word_fours_c1_yp_Y54_1pGvLGo_L0_enc (x0 : List Int) (x1 : Bool) (x2 : Bool) (x3 : Bool) (x4 : Bool) (x5 : Bool) (x6 : List Int) (x7 : Bool) (s0 : word_fours_c1_yp_Y54_1pGvLGo_L0_s0) : List V × Mem := ([(V.yl 0), (V.ptr 3 1 0 0)], [(Blk.loop .ready none [V.un, V.un, V.un, V.un, (V.ptr 1 1 0 0), V.un, V.un, V.un, V.un, V.un, V.un, V.un, V.un, V.un, V.un, V.un, V.un, V.un, V.un, V.un, V.un, V.un, V.un, V.un, V.un] [14] L54_0 L54_1 false), (Blk.gen 70 1 [[(V.so s0.c1 2 s0.c3.length)]] false), (Blk.flat 3 1 (List.map (encI .i64) s0.c3) false), (Blk.gen 25 1 [[(V.d (slD (encI .u8) true 1 s0.c5 s0.c6))]] false)])
def word_fours_c1_yp_Y54_1pGvLGo_L0_sel  (s0 : word_fours_c1_yp_Y54_1pGvLGo_L0_s0) : Bool := (bif tb (decide (4 ≤ ((s0.c6.length : Nat) : Int))) then (bif tb (ins s0.c6.length 0 4) then (bif tb (word_GetAll_Y1_l_Y54_1pGvL_c0 s0.c3 (sub s0.c6 0 4)) then (bif tb (ins s0.c6.length 4 ((s0.c6.length : Nat) : Int)) then true else false) else false) else false) else false)
def word_fours_c1_yp_Y54_1pGvLGo_L0_nx  (s0 : word_fours_c1_yp_Y54_1pGvLGo_L0_s0) : word_fours_c1_yp_Y54_1pGvLGo_L0_s0 := ⟨false, (s0.c3 ++ [(word_Get4_l_r0_0 (sub s0.c6 0 4))]), (s0.c5 && s0.c6.isEmpty), (sub s0.c6 4 ((s0.c6.length : Nat) : Int))⟩
def word_fours_c1_yp_Y54_1pGvLGo_L0_ok  (s0 : word_fours_c1_yp_Y54_1pGvLGo_L0_s0) : Bool := (itS (word_fours_c1_yp_Y54_1pGvLGo_L0_sel ) (word_fours_c1_yp_Y54_1pGvLGo_L0_nx ) bound s0).isSome
def word_fours_c1_yp_Y54_1pGvLGo_L0_end  (s0 : word_fours_c1_yp_Y54_1pGvLGo_L0_s0) : word_fours_c1_yp_Y54_1pGvLGo_L0_s0 := (itS (word_fours_c1_yp_Y54_1pGvLGo_L0_sel ) (word_fours_c1_yp_Y54_1pGvLGo_L0_nx ) bound s0).getD default
theorem word_fours_c1_yp_Y54_1pGvLGo_L0_go (x0 : List Int) (x1 : Bool) (x2 : Bool) (x3 : Bool) (x4 : Bool) (x5 : Bool) (x6 : List Int) (x7 : Bool) (s0 : word_fours_c1_yp_Y54_1pGvLGo_L0_s0) : word_fours_c1_yp_Y54_1pGvLGo_L0_sel  s0 = true → (roundG (runC E0 (cl E0) L92_0) [0, 1] [] 4) (word_fours_c1_yp_Y54_1pGvLGo_L0_enc x0 x1 x2 x3 x4 x5 x6 x7 s0) = some (.normal, word_fours_c1_yp_Y54_1pGvLGo_L0_enc x0 x1 x2 x3 x4 x5 x6 x7 (word_fours_c1_yp_Y54_1pGvLGo_L0_nx  s0)) := by
  unfold word_fours_c1_yp_Y54_1pGvLGo_L0_sel word_fours_c1_yp_Y54_1pGvLGo_L0_nx
  cases h1 : tb (decide (4 ≤ ((s0.c6.length : Nat) : Int)))
  · intro g0
    exact absurd g0 ft
  · cases h2 : tb (ins s0.c6.length 0 4)
    · intro g0
      exact absurd g0 ft
    · cases h3 : tb (word_GetAll_Y1_l_Y54_1pGvL_c0 s0.c3 (sub s0.c6 0 4))
      · intro g0
        exact absurd g0 ft
      · cases h4 : tb (ins s0.c6.length 4 ((s0.c6.length : Nat) : Int))
        · intro g0
          exact absurd g0 ft
        · intro _
          exact round_walk [.o 4 (fun _ => o_len_os (enc := (encI .u8)) (l := s0.c6) (fl := true) (n := s0.c5) (s := 1)), .b (tbE h1), .o 10 (fun _ => o_slice_mx (enc := (encI .u8)) (l := s0.c6) (fl := true) (n := s0.c5) (s := 1) (kl := .i64) (kh := .i64) (kx := .i64) (hi := 4) (tbE h2) rfl), .c (word_GetAll_Y1_l_Y54_1pGvL_t0 s0.c3 s0.c1 (sub s0.c6 0 4) (tbE h3)), .k false, .o 7 (fun _ => o_slice_os (enc := (encI .u8)) (l := s0.c6) (fl := true) (n := s0.c5) (s := 1) (some (.i64, 4)) none (tbE h4))] (by kernel_rfl)
def word_fours_c1_yp_Y54_1pGvLGo_L0_c0 (s0 : word_fours_c1_yp_Y54_1pGvLGo_L0_s0) : Bool := (bif tb (decide (4 ≤ ((s0.c6.length : Nat) : Int))) then false else true)
theorem word_fours_c1_yp_Y54_1pGvLGo_L0_x0 (x0 : List Int) (x1 : Bool) (x2 : Bool) (x3 : Bool) (x4 : Bool) (x5 : Bool) (x6 : List Int) (x7 : Bool) (s0 : word_fours_c1_yp_Y54_1pGvLGo_L0_s0) : word_fours_c1_yp_Y54_1pGvLGo_L0_sel  s0 = false → word_fours_c1_yp_Y54_1pGvLGo_L0_c0 s0 = true → (roundG (runC E0 (cl E0) L92_0) [0, 1] [] 4) (word_fours_c1_yp_Y54_1pGvLGo_L0_enc x0 x1 x2 x3 x4 x5 x6 x7 s0) = some ((.exit 0), ([], [(Blk.loop .ready none [V.un, V.un, V.un, V.un, (V.ptr 1 1 0 0), V.un, V.un, V.un, V.un, V.un, V.un, V.un, V.un, V.un, V.un, V.un, V.un, V.un, V.un, V.un, V.un, V.un, V.un, V.un, V.un] [14] L54_0 L54_1 false), (Blk.gen 70 1 [[(V.so s0.c1 2 s0.c3.length)]] false), (Blk.flat 3 1 (List.map (encI .i64) s0.c3) false), (Blk.gen 25 1 [[(V.d (slD (encI .u8) true 1 s0.c5 s0.c6))]] false)])) := by
  unfold word_fours_c1_yp_Y54_1pGvLGo_L0_sel word_fours_c1_yp_Y54_1pGvLGo_L0_c0
  cases h1 : tb (decide (4 ≤ ((s0.c6.length : Nat) : Int)))
  · intro g0 g1
    exact round_walk [.o 4 (fun _ => o_len_os (enc := (encI .u8)) (l := s0.c6) (fl := true) (n := s0.c5) (s := 1)), .b (tbE h1)] (by kernel_rfl)
  · cases h2 : tb (ins s0.c6.length 0 4)
    · intro g0 g1
      exact absurd g1 ft
    · cases h3 : tb (word_GetAll_Y1_l_Y54_1pGvL_c0 s0.c3 (sub s0.c6 0 4))
      · intro g0 g1
        exact absurd g1 ft
      · cases h4 : tb (ins s0.c6.length 4 ((s0.c6.length : Nat) : Int))
        · intro g0 g1
          exact absurd g1 ft
        · intro g0 g1
          exact absurd g0 tf
theorem word_fours_c1_yp_Y54_1pGvLGo_L0_f0_0 (x0 : List Int) (x1 : Bool) (x2 : Bool) (x3 : Bool) (x4 : Bool) (x5 : Bool) (x6 : List Int) (x7 : Bool) (s : word_fours_c1_yp_Y54_1pGvLGo_L0_s0) (hok : word_fours_c1_yp_Y54_1pGvLGo_L0_ok  s = true) (c0 : word_fours_c1_yp_Y54_1pGvLGo_L0_c0 (word_fours_c1_yp_Y54_1pGvLGo_L0_end  s) = true) : loopG (roundG (runC E0 (cl E0) L92_0) [0, 1] [] 4) bound (word_fours_c1_yp_Y54_1pGvLGo_L0_enc x0 x1 x2 x3 x4 x5 x6 x7 s) = some ((.exit 0), ([], [(Blk.loop .ready none [V.un, V.un, V.un, V.un, (V.ptr 1 1 0 0), V.un, V.un, V.un, V.un, V.un, V.un, V.un, V.un, V.un, V.un, V.un, V.un, V.un, V.un, V.un, V.un, V.un, V.un, V.un, V.un] [14] L54_0 L54_1 false), (Blk.gen 70 1 [[(V.so ((word_fours_c1_yp_Y54_1pGvLGo_L0_end  s).c1) 2 (((word_fours_c1_yp_Y54_1pGvLGo_L0_end  s).c3).length))]] false), (Blk.flat 3 1 (List.map (encI .i64) ((word_fours_c1_yp_Y54_1pGvLGo_L0_end  s).c3)) false), (Blk.gen 25 1 [[(V.d (slD (encI .u8) true 1 ((word_fours_c1_yp_Y54_1pGvLGo_L0_end  s).c5) ((word_fours_c1_yp_Y54_1pGvLGo_L0_end  s).c6)))]] false)])) := by
  have e : itS (word_fours_c1_yp_Y54_1pGvLGo_L0_sel ) (word_fours_c1_yp_Y54_1pGvLGo_L0_nx ) bound s = some (word_fours_c1_yp_Y54_1pGvLGo_L0_end  s) := itS_get hok
  have f := itS_false e
  exact loop_it (word_fours_c1_yp_Y54_1pGvLGo_L0_go x0 x1 x2 x3 x4 x5 x6 x7) bound s _ _ _ e (fun h => by cases h) (word_fours_c1_yp_Y54_1pGvLGo_L0_x0 x0 x1 x2 x3 x4 x5 x6 x7 (word_fours_c1_yp_Y54_1pGvLGo_L0_end  s) f c0)
def word_fours_c1_yp_Y54_1pGvLGo_e0 (x0 : List Int) (x2 : Bool) (x5 : Bool) (x6 : List Int) : word_fours_c1_yp_Y54_1pGvLGo_L0_s0 := word_fours_c1_yp_Y54_1pGvLGo_L0_end  (⟨x2, x0, x5, x6⟩ : word_fours_c1_yp_Y54_1pGvLGo_L0_s0)
def word_fours_c1_yp_Y54_1pGvLGo_c0 (x0 : List Int) (x2 : Bool) (x5 : Bool) (x6 : List Int) : Bool := (bif tb (word_fours_c1_yp_Y54_1pGvLGo_L0_ok  (⟨x2, x0, x5, x6⟩ : word_fours_c1_yp_Y54_1pGvLGo_L0_s0)) then (bif tb (word_fours_c1_yp_Y54_1pGvLGo_L0_c0 (word_fours_c1_yp_Y54_1pGvLGo_e0 x0 x2 x5 x6)) then true else false) else false)
theorem word_fours_c1_yp_Y54_1pGvLGo_t0 (x0 : List Int) (x2 : Bool) (x5 : Bool) (x6 : List Int) : word_fours_c1_yp_Y54_1pGvLGo_c0 x0 x2 x5 x6 = true → cl E0 92 [(V.yl 0), (V.ptr 3 1 0 0)] [(Blk.loop .ready none [V.un, V.un, V.un, V.un, (V.ptr 1 1 0 0), V.un, V.un, V.un, V.un, V.un, V.un, V.un, V.un, V.un, V.un, V.un, V.un, V.un, V.un, V.un, V.un, V.un, V.un, V.un, V.un] [14] L54_0 L54_1 false), (Blk.gen 70 1 [[(V.so x2 2 x0.length)]] false), (Blk.flat 3 1 (List.map (encI .i64) x0) false), (Blk.gen 25 1 [[(V.d (slD (encI .u8) true 1 x5 x6))]] false)] = some ([], [(Blk.loop .ready none [V.un, V.un, V.un, V.un, (V.ptr 1 1 0 0), V.un, V.un, V.un, V.un, V.un, V.un, V.un, V.un, V.un, V.un, V.un, V.un, V.un, V.un, V.un, V.un, V.un, V.un, V.un, V.un] [14] L54_0 L54_1 false), (Blk.gen 70 1 [[(V.so ((word_fours_c1_yp_Y54_1pGvLGo_e0 x0 x2 x5 x6).c1) 2 (((word_fours_c1_yp_Y54_1pGvLGo_e0 x0 x2 x5 x6).c3).length))]] false), (Blk.flat 3 1 (List.map (encI .i64) ((word_fours_c1_yp_Y54_1pGvLGo_e0 x0 x2 x5 x6).c3)) false), (Blk.gen 25 1 [[(V.d (slD (encI .u8) true 1 ((word_fours_c1_yp_Y54_1pGvLGo_e0 x0 x2 x5 x6).c5) ((word_fours_c1_yp_Y54_1pGvLGo_e0 x0 x2 x5 x6).c6)))]] false)]) := by
  unfold word_fours_c1_yp_Y54_1pGvLGo_c0
  cases h1 : tb (word_fours_c1_yp_Y54_1pGvLGo_L0_ok  (⟨x2, x0, x5, x6⟩ : word_fours_c1_yp_Y54_1pGvLGo_L0_s0))
  · intro g0
    exact absurd g0 ft
  · cases h2 : tb (word_fours_c1_yp_Y54_1pGvLGo_L0_c0 (word_fours_c1_yp_Y54_1pGvLGo_e0 x0 x2 x5 x6))
    · intro g0
      exact absurd g0 ft
    · intro g0
      exact w92 [.l (word_fours_c1_yp_Y54_1pGvLGo_L0_f0_0 x0 false x2 false false x5 x6 false (⟨x2, x0, x5, x6⟩ : word_fours_c1_yp_Y54_1pGvLGo_L0_s0) (tbE h1) (tbE h2))] (by kernel_rfl)
def word_GetAll_o_c0 (x0 : Bool) (x1 : List Int) : Bool := (bif tb (((remI .i64 ((x1.length : Nat) : Int) 4) : Int) != 0) then true else (bif tb (word_fours_c1_yp_Y54_1pGvLGo_c0 ([] : List Int) true x0 x1) then true else false))
def word_GetAll_o_r0_0 (x0 : Bool) (x1 : List Int) : Bool := (bif tb (((remI .i64 ((x1.length : Nat) : Int) 4) : Int) != 0) then true else ((word_fours_c1_yp_Y54_1pGvLGo_e0 ([] : List Int) true x0 x1).c1))
def word_GetAll_o_r0_1 (x1 : List Int) : Bool := (bif tb (((remI .i64 ((x1.length : Nat) : Int) 4) : Int) != 0) then false else true)
def word_GetAll_o_r0_2 (x0 : Bool) (x1 : List Int) : List Int := (bif tb (((remI .i64 ((x1.length : Nat) : Int) 4) : Int) != 0) then ([] : List Int) else ((word_fours_c1_yp_Y54_1pGvLGo_e0 ([] : List Int) true x0 x1).c3))
theorem word_GetAll_o_t0 (x0 : Bool) (x1 : List Int) : word_GetAll_o_c0 x0 x1 = true → cl E0 54 [(V.d (slD (encI .u8) true 1 x0 x1))] [] = some ([(V.so (word_GetAll_o_r0_0 x0 x1) 0 ((word_GetAll_o_r0_2 x0 x1).length)), (V.d (.bool (word_GetAll_o_r0_1 x1)))], [(Blk.flat 3 1 (List.map (encI .i64) (word_GetAll_o_r0_2 x0 x1)) false)]) := by
  unfold word_GetAll_o_c0 word_GetAll_o_r0_0 word_GetAll_o_r0_1 word_GetAll_o_r0_2
  cases h1 : tb (((remI .i64 ((x1.length : Nat) : Int) 4) : Int) != 0)
  · cases h2 : tb (word_fours_c1_yp_Y54_1pGvLGo_c0 ([] : List Int) true x0 x1)
    · intro g0
      exact absurd g0 ft
    · intro g0
      exact w54 [.o 9 (fun _ => o_len_os (enc := (encI .u8)) (l := x1) (fl := true) (n := x0) (s := 1)), .b (tbE h1), .c (word_fours_o_t0 x0 x1), .c (word_fours_c1_yp_Y54_1pGvLGo_t0 ([] : List Int) true x0 x1 (tbE h2))] (by kernel_rfl)
  · intro g0
    exact w54 [.o 9 (fun _ => o_len_os (enc := (encI .u8)) (l := x1) (fl := true) (n := x0) (s := 1)), .b (tbE h1)] (by kernel_rfl)
structure word_fours_c1_yp_Y54_1pGvLGz_L0_s0 where mk ::
  deriving Inhabited
def word_fours_c1_yp_Y54_1pGvLGz_L0_sel  (s0 : word_fours_c1_yp_Y54_1pGvLGz_L0_s0) : Bool := false
def word_fours_c1_yp_Y54_1pGvLGz_L0_nx  (s0 : word_fours_c1_yp_Y54_1pGvLGz_L0_s0) : word_fours_c1_yp_Y54_1pGvLGz_L0_s0 := default
def word_fours_c1_yp_Y54_1pGvLGz_L0_ok  (s0 : word_fours_c1_yp_Y54_1pGvLGz_L0_s0) : Bool := (itS (word_fours_c1_yp_Y54_1pGvLGz_L0_sel ) (word_fours_c1_yp_Y54_1pGvLGz_L0_nx ) bound s0).isSome
def word_fours_c1_yp_Y54_1pGvLGz_c0  : Bool := (bif tb (word_fours_c1_yp_Y54_1pGvLGz_L0_ok  (⟨⟩ : word_fours_c1_yp_Y54_1pGvLGz_L0_s0)) then true else false)
def word_GetAll_z_c0  : Bool := (bif tb (word_fours_c1_yp_Y54_1pGvLGz_c0) then true else false)
theorem word_Get2_z_t0  : cl E0 53 [(V.d (.rs false 1 [] false))] [] = some ([(V.d (.int .i64 0)), (V.d (.bool false))], []) := by
  exact w53 [.k true] (by kernel_rfl)
end Go.Proofs.YtkipngagfiaddaaDoor.Den

namespace Go.Proofs.YtkipngagfiaddaaDoor.Den
open Go Go.Proofs
set_option maxRecDepth 100000
set_option maxHeartbeats 4000000
set_option linter.unusedVariables false
set_option linter.unusedSimpArgs false
def ref04_Get2_o_c0 (x1 : List Int) : Bool := (bif tb ((((x1.length : Nat) : Int) : Int) != 2) then true else (bif tb (inb x1.length 0) then (bif tb (inb x1.length 1) then true else false) else false))
def ref04_Get2_o_r0_0 (x1 : List Int) : Int := (bif tb ((((x1.length : Nat) : Int) : Int) != 2) then 0 else (wi ((wi (256 * (wi (gt x1 0)))) + (wi (gt x1 1)))))
def ref04_Get2_o_r0_1 (x1 : List Int) : Bool := (bif tb ((((x1.length : Nat) : Int) : Int) != 2) then false else true)
structure ref04_Get4_o_L0_s0 where
  c2 : Int
  c3 : Int
  deriving Inhabited
end Go.Proofs.YtkipngagfiaddaaDoor.Den

namespace Go.Proofs.YtkipngagfiaddaaDoor.Den
open Go
set_option linter.unusedVariables false
set_option linter.unusedSimpArgs false
inductive CK where
  | b
  | i (k : IntKind)
  | s
  | l (e : TypeId)
def flatK (P : Program) : Nat → TypeId → Option (List CK)
  | 0, _ => none
  | n + 1, t => match P.underlying t with
    | some .bool => some [.b]
    | some (.int k) => some [.i k]
    | some .string => some [.s]
    | some (.slice e) => some [.l e]
    | some (.struct fs) => (fs.toList.mapM fun f => flatK P n f.type).map List.flatten
    | some (.array m e) => (flatK P n e).map fun l => (List.replicate m l).flatten
    | _ => none
def WfI (k : IntKind) (z : Int) : Prop := (Lit.int k z).wf = true
def CellK (P : Program) : CK → D → Prop
  | .b, d => ∃ b, d = .bool b
  | .i k, d => ∃ z, d = .int k z ∧ WfI k z
  | .s, d => ∃ s, d = .str s ∧ s.size ≤ 140737488351232
  | .l e, d => d = .nils ∨ ∃ rows, d = .rs (isFlat P e) (P.cellsOf e) rows false ∧ rows.length ≤ maxLen ∧ rows.length * P.bytesOf e ≤ 140737488351232 ∧ ∃ n, ∀ r, r ∈ rows → Ty P n e r
def CellsK (P : Program) : List CK → List D → Prop
  | [], ds => ds = []
  | k :: ks, ds => ∃ d r, ds = d :: r ∧ CellK P k d ∧ CellsK P ks r
theorem CellsK.append {P : Program} : ∀ {a b : List CK} {x y : List D}, CellsK P a x → CellsK P b y → CellsK P (a ++ b) (x ++ y)
  | [], _, _, _, h, h' => by simp only [CellsK] at h; subst h; simpa using h'
  | k :: a, b, x, y, h, h' => by
    simp only [CellsK] at h
    obtain ⟨d, r, rfl, h1, h2⟩ := h
    simp only [List.cons_append, CellsK]
    exact ⟨d, _, rfl, h1, CellsK.append h2 h'⟩
theorem flatK_fs {P : Program} {n : Nat} (ih : ∀ t ks ds, flatK P n t = some ks → Ty P n t ds → CellsK P ks ds) : ∀ (fs : List Field) (l : List (List CK)) (ds : List D), fs.mapM (fun f => flatK P n f.type) = some l → TyFs (Ty P n) fs ds → CellsK P l.flatten ds
  | [], l, ds, h, ht => by
    simp at h; subst h
    obtain rfl := tyfs_nil ht
    simp [CellsK]
  | f :: fs, l, ds, h, ht => by
    rw [List.mapM_cons] at h
    simp only [Option.bind_eq_bind, Option.bind_eq_some_iff, Option.pure_def, Option.some.injEq] at h
    obtain ⟨a, h1, b, h2, rfl⟩ := h
    obtain ⟨x, y, rfl, g1, g2⟩ := tyfs_cons ht
    simp only [List.flatten_cons]
    exact (ih _ _ _ h1 g1).append (flatK_fs ih fs b y h2 g2)
theorem flatK_ok {P : Program} : ∀ (n : Nat) (t : TypeId) (ks : List CK) (ds : List D), flatK P n t = some ks → Ty P n t ds → CellsK P ks ds
  | 0, _, _, _, h, _ => by simp [flatK] at h
  | n + 1, t, ks, ds, h, ht => by
    simp only [flatK] at h
    cases hu : P.underlying t with
    | none => simp [hu] at h
    | some u =>
      rw [hu] at h
      cases u with
      | bool => cases h; obtain ⟨b, rfl⟩ := ty_bool ht hu; exact ⟨_, [], rfl, ⟨b, rfl⟩, rfl⟩
      | int k => cases h; obtain ⟨z, rfl, hz⟩ := ty_int ht hu; exact ⟨_, [], rfl, ⟨z, rfl, hz⟩, rfl⟩
      | string => cases h; obtain ⟨z, rfl, hz⟩ := ty_str ht hu; exact ⟨_, [], rfl, ⟨z, rfl, hz⟩, rfl⟩
      | slice e =>
        cases h
        rcases ty_slice ht hu with rfl | ⟨rows, rfl, h1, h1b, h2⟩
        · exact ⟨_, [], rfl, .inl rfl, rfl⟩
        · exact ⟨_, [], rfl, .inr ⟨rows, rfl, h1, h1b, n, h2⟩, rfl⟩
      | struct fs =>
        obtain ⟨l, hl, rfl⟩ := Option.map_eq_some_iff.1 h
        exact flatK_fs (fun t ks ds => flatK_ok n t ks ds) fs.toList l ds hl (ty_struct ht hu)
      | array m e =>
        obtain ⟨l, hl, rfl⟩ := Option.map_eq_some_iff.1 h
        obtain ⟨rows, hr, rfl, hall⟩ := ty_arr ht hu
        have key : ∀ (rows : List (List D)), (∀ r, r ∈ rows → Ty P n e r) → CellsK P (List.replicate rows.length l).flatten rows.flatten := by
          intro rows
          induction rows with
          | nil => intro _; simp [CellsK]
          | cons r rows ih =>
            intro hall
            simp only [List.length_cons, List.replicate_succ, List.flatten_cons]
            exact (flatK_ok n e l r hl (hall r (by simp))).append (ih fun x hx => hall x (by simp [hx]))
        rw [← hr]; exact key rows hall
      | _ => simp at h
end Go.Proofs.YtkipngagfiaddaaDoor.Den

namespace Go.Proofs.YtkipngagfiaddaaDoor.Den
open Go
set_option linter.unusedVariables false
set_option linter.unusedSimpArgs false
@[simp] theorem tb_eq (b : Bool) : tb b = b := rfl
theorem wrap64 {x : Int} (h1 : -9223372036854775808 ≤ x) (h2 : x ≤ 9223372036854775807) : IntKind.i64.wrap x = x := by
  unfold IntKind.wrap
  simp [IntKind.bits, IntKind.signed]
  omega
theorem wi_eq {x : Int} (h1 : -9223372036854775808 ≤ x) (h2 : x ≤ 9223372036854775807) : wi x = x := wrap64 h1 h2
theorem wfI_u8 {z : Int} (h : WfI .u8 z) : 0 ≤ z ∧ z ≤ 255 := by
  simp [WfI, Lit.wf, IntKind.min, IntKind.max, IntKind.signed, IntKind.bits] at h
  omega
theorem inb_iff {n : Nat} {i : Int} : inb n i = true ↔ 0 ≤ i ∧ i < n := by simp [inb]
theorem inb_of {n : Nat} {i : Int} (h1 : 0 ≤ i) (h2 : i < n) : inb n i = true := inb_iff.2 ⟨h1, h2⟩
theorem loop_inv {S : Type} {sel : S → Bool} {nx : S → S} (J : S → Prop) (μ : S → Nat) {s0 : S} (h0 : J s0) (hb : μ s0 < 1152921504606846976) (hn : ∀ s, J s → sel s = true → J (nx s) ∧ μ (nx s) < μ s) :
    ∃ s1, itS sel nx bound s0 = some s1 ∧ J s1 ∧ sel s1 = false := itS_inv J μ hn bound s0 h0 hb
theorem gt_mem {α : Type} [Inhabited α] {l : List α} {i : Int} (h1 : 0 ≤ i) (h2 : i < l.length) : gt l i ∈ l := by
  have h : i.toNat < l.length := by omega
  have : gt l i = l[i.toNat] := by simp [gt, List.getD, h]
  rw [this]; exact List.getElem_mem h
theorem gt_nat {α : Type} [Inhabited α] {l : List α} {k : Nat} (h : k < l.length) : gt l (k : Int) = l[k] := by simp [gt, List.getD, h]
theorem gt_getElem {α : Type} [Inhabited α] {l : List α} {i : Int} (h1 : 0 ≤ i) (h2 : i.toNat < l.length) : gt l i = l[i.toNat] := by simp [gt, List.getD, h2]
theorem all_loop {S α : Type} [Inhabited α] {sel : S → Bool} {nx : S → S} {s0 : S} (l : List α) (ix : S → Int) (p : α → Bool) (J : S → Prop) (hl : l.length < 1152921504606846976) (h0 : ix s0 = 0) (hJ0 : J s0)
    (hnx : ∀ s, J s → 0 ≤ ix s → ix s < l.length → sel s = true → ix (nx s) = ix s + 1 ∧ J (nx s)) (hsel : ∀ s, J s → 0 ≤ ix s → ix s ≤ l.length → sel s = (decide (ix s < l.length) && p (gt l (ix s)))) :
    ∃ s1, itS sel nx bound s0 = some s1 ∧ J s1 ∧ 0 ≤ ix s1 ∧ ((ix s1 = l.length ∧ l.all p = true) ∨ (ix s1 < l.length ∧ p (gt l (ix s1)) = false ∧ l.all p = false)) := by
  obtain ⟨s1, e, ⟨hJ, a1, a2, a3⟩, hs⟩ := loop_inv (sel := sel) (nx := nx) (fun s => J s ∧ 0 ≤ ix s ∧ ix s ≤ l.length ∧ ∀ j : Nat, (j : Int) < ix s → p (gt l j) = true) (fun s => (l.length - ix s).toNat) (s0 := s0)
    ⟨hJ0, by omega, by omega, fun j hj => by omega⟩ (by omega) (fun s ⟨hJ, b1, b2, b3⟩ hs => by
      have h1 := hsel s hJ b1 b2
      rw [hs] at h1
      have h2 := (Bool.and_eq_true _ _).mp h1.symm
      have h3 : ix s < l.length := by simpa using h2.1
      obtain ⟨h4, h5⟩ := hnx s hJ b1 h3 hs
      refine ⟨⟨h5, by omega, by omega, fun j hj => ?_⟩, by omega⟩
      by_cases hjj : (j : Int) < ix s
      · exact b3 j hjj
      · have : (j : Int) = ix s := by omega
        rw [this]; exact h2.2)
  refine ⟨s1, e, hJ, a1, ?_⟩
  rcases Int.lt_or_eq_of_le a2 with h | h
  · have h1 := hsel s1 hJ a1 a2
    rw [hs] at h1
    have hp : p (gt l (ix s1)) = false := by simpa [h] using h1.symm
    refine .inr ⟨h, hp, ?_⟩
    rw [List.all_eq_false]
    exact ⟨_, gt_mem a1 h, by simp [hp]⟩
  · refine .inl ⟨h, ?_⟩
    rw [List.all_eq_true]
    intro x hx
    obtain ⟨j, hj, rfl⟩ := List.getElem_of_mem hx
    have := a3 j (by omega)
    rwa [gt_nat hj] at this
theorem idx_loop {S : Type} {sel : S → Bool} {nx : S → S} {s0 : S} (n : Int) (ix : S → Int) (J : S → Prop) (hn : n < 1152921504606846976) (h0 : J s0) (h1 : 0 ≤ ix s0) (h2 : ix s0 ≤ n)
    (hr : ∀ s, J s → 0 ≤ ix s → ix s < n → sel s = true ∧ J (nx s) ∧ ix (nx s) = ix s + 1) (he : ∀ s, J s → ix s = n → sel s = false) : ∃ s1, itS sel nx bound s0 = some s1 ∧ J s1 ∧ ix s1 = n := by
  obtain ⟨s1, e, ⟨hJ, a1, a2⟩, hs⟩ := loop_inv (sel := sel) (nx := nx) (fun s => J s ∧ 0 ≤ ix s ∧ ix s ≤ n) (fun s => (n - ix s).toNat) (s0 := s0) ⟨h0, h1, h2⟩ (by omega) (fun s ⟨hJ, b1, b2⟩ hs => by
    by_cases h : ix s = n
    · rw [he s hJ h] at hs; cases hs
    · obtain ⟨_, g1, g2⟩ := hr s hJ b1 (by omega)
      exact ⟨⟨g1, by omega, by omega⟩, by omega⟩)
  refine ⟨s1, e, hJ, ?_⟩
  by_cases h : ix s1 = n
  · exact h
  · rw [(hr s1 hJ a1 (by omega)).1] at hs; cases hs
end Go.Proofs.YtkipngagfiaddaaDoor.Den

namespace Go.Proofs.YtkipngagfiaddaaDoor.Den
open Go
set_option linter.unusedVariables false
set_option linter.unusedSimpArgs false
theorem loop_seq {S : Type} {sel : S → Bool} {nx : S → S} (st : Nat → S) (n : Nat) (hb : n < 1152921504606846976) (hn : ∀ k, k < n → sel (st k) = true ∧ nx (st k) = st (k + 1)) (he : sel (st n) = false) : itS sel nx bound (st 0) = some (st n) := by
  have key : ∀ (d N : Nat), d ≤ n → d < N → itS sel nx N (st (n - d)) = some (st n) := by
    intro d
    induction d with
    | zero =>
      intro N _ hN
      obtain ⟨N, rfl⟩ : ∃ M, N = M + 1 := ⟨N - 1, by omega⟩
      simp only [Nat.sub_zero, itS, he]
    | succ d ih =>
      intro N h1 hN
      obtain ⟨N, rfl⟩ : ∃ M, N = M + 1 := ⟨N - 1, by omega⟩
      obtain ⟨g1, g2⟩ := hn (n - (d + 1)) (by omega)
      simp only [itS, g1, g2]
      rw [show n - (d + 1) + 1 = n - d by omega]
      exact ih N (by omega) (by omega)
  have := key n bound (Nat.le_refl _) (by unfold bound; omega)
  rwa [Nat.sub_self] at this
theorem gt_zip {l k : List Int} (h : l.length = k.length) {i : Int} (h1 : 0 ≤ i) (h2 : i < l.length) : gt (l.zip k) i = (gt l i, gt k i) := by
  rw [gt_getElem h1 (by rw [List.length_zip]; omega), gt_getElem h1 (by omega), gt_getElem h1 (by omega), List.getElem_zip]
theorem zip_all : ∀ {l k : List Int}, l.length = k.length → ((l.zip k).all fun p => p.1 == p.2) = decide (l = k)
  | [], [], _ => by simp
  | x :: l, y :: k, h => by
    rw [List.zip_cons_cons, List.all_cons, zip_all (by simpa using h), Bool.eq_iff_iff]
    simp
  | [], _ :: _, h => by simp at h
  | _ :: _, [], h => by simp at h
theorem eq_loop {S : Type} {sel : S → Bool} {nx : S → S} {s0 : S} {l k : List Int} (hlk : l.length = k.length) (ix : S → Int) (hl : l.length < 1152921504606846976) (h0 : ix s0 = 0)
    (hnx : ∀ s, 0 ≤ ix s → ix s < l.length → ix (nx s) = ix s + 1) (hsel : ∀ s, 0 ≤ ix s → ix s ≤ l.length → sel s = (decide (ix s < l.length) && (gt l (ix s) == gt k (ix s)))) :
    ∃ s1, itS sel nx bound s0 = some s1 ∧ 0 ≤ ix s1 ∧ ((ix s1 = l.length ∧ l = k) ∨ (ix s1 < l.length ∧ (gt l (ix s1) == gt k (ix s1)) = false ∧ l ≠ k)) := by
  have hz : (l.zip k).length = l.length := by rw [List.length_zip]; omega
  obtain ⟨s1, e, -, g0, g⟩ := all_loop (sel := sel) (nx := nx) (s0 := s0) (l.zip k) ix (fun p => p.1 == p.2) (fun _ => True) (by omega) h0 trivial
    (fun s _ a1 a2 _ => ⟨hnx s a1 (by omega), trivial⟩)
    (fun s _ a1 a2 => by
      rw [hsel s a1 (by omega), hz]
      by_cases h : ix s < l.length
      · rw [gt_zip hlk a1 h]
      · simp [h])
  rw [zip_all hlk, hz] at g
  refine ⟨s1, e, g0, ?_⟩
  rcases g with ⟨a, b⟩ | ⟨a, b, c⟩
  · exact .inl ⟨a, by simpa using b⟩
  · rw [gt_zip hlk g0 a] at b
    exact .inr ⟨a, b, by simpa using c⟩
theorem take_succ_gt {α : Type} [Inhabited α] {l : List α} {k : Nat} (h : k < l.length) : l.take (k + 1) = l.take k ++ [gt l (k : Int)] := by
  rw [gt_nat h, List.take_succ_eq_append_getElem h]
theorem u8w (x : Int) : IntKind.u8.wrap x = x % 256 := by simp [IntKind.wrap, IntKind.bits, IntKind.signed]
theorem u32w (x : Int) : IntKind.u32.wrap x = x % 4294967296 := by simp [IntKind.wrap, IntKind.bits, IntKind.signed]
theorem i32w (x : Int) : IntKind.i32.wrap x = if 2147483648 ≤ x % 4294967296 then x % 4294967296 - 4294967296 else x % 4294967296 := by
  simp [IntKind.wrap, IntKind.bits, IntKind.signed]
theorem shr_i64 (x : Int) (k : Nat) (hk : k ≤ 64) : shrI .i64 x (k : Int) = x / (2 ^ k : Int) := by
  unfold shrI
  have : min (k : Int).toNat IntKind.i64.bits = k := by simp [IntKind.bits]; omega
  rw [this]
  exact Int.fdiv_eq_ediv_of_nonneg _ (by exact_mod_cast Nat.zero_le _)
theorem rem_i64 {x y : Int} (h1 : 0 ≤ x) : remI .i64 x y = x % y := by
  unfold remI; exact Int.tmod_eq_emod_of_nonneg h1
theorem bvOf {n : Nat} {a : Nat} (h : a < 2 ^ n) : (BitVec.ofInt n (a : Int)) = BitVec.ofNat n a := by
  simp
theorem or_nat {k : IntKind} {a b : Nat} (ha : a < 2 ^ k.bits) (hb : b < 2 ^ k.bits) : orI k (a : Int) (b : Int) = k.wrap ((a ||| b : Nat) : Int) := by
  unfold orI
  rw [bvOf ha, bvOf hb, BitVec.toNat_or, BitVec.toNat_ofNat, BitVec.toNat_ofNat, Nat.mod_eq_of_lt ha, Nat.mod_eq_of_lt hb]
theorem or_add {a b i : Nat} (hb : b < 2 ^ i) : (2 ^ i * a) ||| b = 2 ^ i * a + b := by
  exact (Nat.two_pow_add_eq_or_of_lt hb a).symm
end Go.Proofs.YtkipngagfiaddaaDoor.Den

namespace Go.Proofs.YtkipngagfiaddaaDoor.Den
open Go
set_option linter.unusedVariables false
set_option linter.unusedSimpArgs false
set_option maxRecDepth 10000
def Byts (l : List Int) : Prop := ∀ z ∈ l, 0 ≤ z ∧ z ≤ 255
theorem byts_of {l : List Int} (h : ∀ z ∈ l, WfI .u8 z) : Byts l := fun z hz => wfI_u8 (h z hz)
theorem byts_take {l : List Int} (h : Byts l) (k : Nat) : Byts (l.take k) := fun z hz => h z (List.mem_of_mem_take hz)
theorem byts_drop {l : List Int} (h : Byts l) (k : Nat) : Byts (l.drop k) := fun z hz => h z (List.mem_of_mem_drop hz)
def be4 (a b c d : Int) : Int := if 2147483648 ≤ 16777216 * a + 65536 * b + 256 * c + d then 16777216 * a + 65536 * b + 256 * c + d - 4294967296 else 16777216 * a + 65536 * b + 256 * c + d
def g4 : List Int → Int
  | [a, b, c, d] => be4 a b c d
  | _ => 0
theorem nat_of {a : Int} (h : 0 ≤ a ∧ a ≤ 255) : ∃ n : Nat, a = n ∧ n < 256 := ⟨a.toNat, by omega, by omega⟩
theorem shl_u32 {n : Nat} (k : Nat) (hn : n * 2 ^ k < 4294967296) (hk : k ≤ 32) : shlI .u32 (n : Int) (k : Int) = ((2 ^ k * n : Nat) : Int) := by
  unfold shlI
  have : min (k : Int).toNat IntKind.u32.bits = k := by simp [IntKind.bits]; omega
  rw [this, u32w]
  have : ((n : Int) * 2 ^ k) = ((n * 2 ^ k : Nat) : Int) := by push_cast; rfl
  rw [this, Int.emod_eq_of_lt (by omega) (by omega), Nat.mul_comm]
theorem u32_or {a b : Nat} (ha : a < 4294967296) (hb : b < 4294967296) (h : a ||| b < 4294967296) : orI .u32 (a : Int) (b : Int) = ((a ||| b : Nat) : Int) := by
  rw [or_nat (k := .u32) (by simpa [IntKind.bits] using ha) (by simpa [IntKind.bits] using hb), u32w]
  exact Int.emod_eq_of_lt (by omega) (by omega)
theorem u32_small {n : Nat} (h : n < 4294967296) : IntKind.u32.wrap (n : Int) = n := by
  rw [u32w]; exact Int.emod_eq_of_lt (by omega) (by omega)
theorem i64_or {a b : Nat} (ha : a < 4294967296) (hb : b < 4294967296) (h : a ||| b < 4294967296) : orI .i64 (a : Int) (b : Int) = ((a ||| b : Nat) : Int) := by
  rw [or_nat (k := .i64) (by simp [IntKind.bits]; omega) (by simp [IntKind.bits]; omega)]
  exact wrap64 (by omega) (by omega)
theorem word4 {a b c d : Int} (ha : 0 ≤ a ∧ a ≤ 255) (hb : 0 ≤ b ∧ b ≤ 255) (hc : 0 ≤ c ∧ c ≤ 255) (hd : 0 ≤ d ∧ d ≤ 255) :
    wi (IntKind.i32.wrap (orI .u32 (orI .u32 (orI .u32 (shlI .u32 (IntKind.u32.wrap a) 24) (shlI .u32 (IntKind.u32.wrap b) 16)) (shlI .u32 (IntKind.u32.wrap c) 8)) (IntKind.u32.wrap d))) = be4 a b c d := by
  obtain ⟨A, rfl, hA⟩ := nat_of ha
  obtain ⟨B, rfl, hB⟩ := nat_of hb
  obtain ⟨C, rfl, hC⟩ := nat_of hc
  obtain ⟨D, rfl, hD⟩ := nat_of hd
  rw [u32_small (by omega), u32_small (by omega), u32_small (by omega), u32_small (by omega)]
  have e1 : shlI .u32 (A : Int) 24 = ((2 ^ 24 * A : Nat) : Int) := shl_u32 (n := A) 24 (by omega) (by omega)
  have e2 : shlI .u32 (B : Int) 16 = ((2 ^ 16 * B : Nat) : Int) := shl_u32 (n := B) 16 (by omega) (by omega)
  have e3 : shlI .u32 (C : Int) 8 = ((2 ^ 8 * C : Nat) : Int) := shl_u32 (n := C) 8 (by omega) (by omega)
  rw [e1, e2, e3]
  have o1 : (2 ^ 24 * A) ||| (2 ^ 16 * B) = 2 ^ 24 * A + 2 ^ 16 * B := or_add (by omega)
  have o2 : (2 ^ 24 * A + 2 ^ 16 * B) ||| (2 ^ 8 * C) = 2 ^ 24 * A + 2 ^ 16 * B + 2 ^ 8 * C := by
    have := or_add (a := 2 ^ 8 * A + B) (b := 2 ^ 8 * C) (i := 16) (by omega)
    rw [show 2 ^ 16 * (2 ^ 8 * A + B) = 2 ^ 24 * A + 2 ^ 16 * B by omega] at this; exact this
  have o3 : (2 ^ 24 * A + 2 ^ 16 * B + 2 ^ 8 * C) ||| D = 2 ^ 24 * A + 2 ^ 16 * B + 2 ^ 8 * C + D := by
    have := or_add (a := 2 ^ 16 * A + 2 ^ 8 * B + C) (b := D) (i := 8) (by omega)
    rw [show 2 ^ 8 * (2 ^ 16 * A + 2 ^ 8 * B + C) = 2 ^ 24 * A + 2 ^ 16 * B + 2 ^ 8 * C by omega] at this; exact this
  rw [u32_or (by omega) (by omega) (by rw [o1]; omega), o1, u32_or (by omega) (by omega) (by rw [o2]; omega), o2, u32_or (by omega) (by omega) (by rw [o3]; omega), o3, i32w]
  unfold be4
  have hm : ((2 ^ 24 * A + 2 ^ 16 * B + 2 ^ 8 * C + D : Nat) : Int) % 4294967296 = 16777216 * (A : Int) + 65536 * B + 256 * C + D := by
    rw [Int.emod_eq_of_lt (by omega) (by omega)]; omega
  rw [hm]
  exact wi_eq (by split <;> omega) (by split <;> omega)
theorem len4 {l : List Int} (h : l.length = 4) : ∃ a b c d, l = [a, b, c, d] := by
  match l, h with
  | [a, b, c, d], _ => exact ⟨a, b, c, d, rfl⟩
theorem Get4_c (l : List Int) : word_Get4_l_c0 l = true := by
  simp only [word_Get4_l_c0, tb_eq]
  by_cases h : l.length = 4
  · simp [h, inb]
  · have : ((l.length : Int) != 4) = true := by simp; omega
    simp [this]
theorem Get4_r {l : List Int} (hl : Byts l) : word_Get4_l_r0_0 l = g4 l ∧ word_Get4_l_r0_1 l = decide (l.length = 4) := by
  by_cases h : l.length = 4
  · obtain ⟨a, b, c, d, rfl⟩ := len4 h
    refine ⟨?_, by simp [word_Get4_l_r0_1]⟩
    simp only [word_Get4_l_r0_0, tb_eq]
    have e : word_Get4_l_e2 [a, b, c, d] = IntKind.i32.wrap (orI .u32 (orI .u32 (orI .u32 (shlI .u32 (IntKind.u32.wrap a) 24) (shlI .u32 (IntKind.u32.wrap b) 16)) (shlI .u32 (IntKind.u32.wrap c) 8)) (IntKind.u32.wrap d)) := rfl
    rw [e, word4 (hl a (by simp)) (hl b (by simp)) (hl c (by simp)) (hl d (by simp))]
    simp [g4]
  · have : ((l.length : Int) != 4) = true := by simp; omega
    simp only [word_Get4_l_r0_0, word_Get4_l_r0_1, tb_eq, this, cond_true, h, decide_false, and_true]
    unfold g4
    split
    · simp at h
    · rfl
def n32 (n : Int) : Bool := decide (-2147483648 ≤ n) && decide (n ≤ 2147483647)
theorem n32_iff {n : Int} : n32 n = true ↔ -2147483648 ≤ n ∧ n ≤ 2147483647 := by simp [n32]
def p4 (n : Int) : List Int := [n / 16777216 % 256, n / 65536 % 256, n / 256 % 256, n % 256]
theorem Put4_l (n : Int) : [(IntKind.u8.wrap (shrI .i64 n 24)), (IntKind.u8.wrap (shrI .i64 n 16)), (IntKind.u8.wrap (shrI .i64 n 8)), (IntKind.u8.wrap (n))] = p4 n := by
  have h24 : shrI .i64 n 24 = n / 16777216 := shr_i64 n 24 (by omega)
  have h16 : shrI .i64 n 16 = n / 65536 := shr_i64 n 16 (by omega)
  have h8 : shrI .i64 n 8 = n / 256 := shr_i64 n 8 (by omega)
  rw [h24, h16, h8, u8w, u8w, u8w, u8w]; rfl
def q4 (n : Int) : List Int := if n32 n then p4 n else []
theorem Put4_r (n : Int) : word_Put4_i_r0_0 n = !n32 n ∧ word_Put4_i_r0_1 n = q4 n := by
  simp only [word_Put4_i_r0_0, word_Put4_i_r0_1, Put4_l, tb_eq, q4, n32]
  by_cases h1 : n < -2147483648
  · have : ¬ (-2147483648 ≤ n) := by omega
    simp [h1, this]
  · have h2 : -2147483648 ≤ n := by omega
    by_cases h3 : 2147483647 < n
    · have : ¬ (n ≤ 2147483647) := by omega
      simp [h1, h2, h3, this]
    · have : n ≤ 2147483647 := by omega
      simp [h1, h2, h3, this]
theorem g4_p4 {n : Int} (h : n32 n = true) : g4 (p4 n) = n := by
  obtain ⟨h1, h2⟩ := n32_iff.1 h
  simp only [p4, g4, be4]
  split <;> omega
theorem p4_byts (n : Int) : Byts (p4 n) := by
  intro z hz
  simp [p4] at hz
  omega
def n16 (n : Int) : Bool := decide (0 ≤ n) && decide (n < 65536)
theorem n16_iff {n : Int} : n16 n = true ↔ 0 ≤ n ∧ n < 65536 := by simp [n16]
def g2 : List Int → Int
  | [a, b] => 256 * a + b
  | _ => 0
def p2 (n : Int) : List Int := [n / 256 % 256, n % 256]
theorem seq_r (n : Int) : word_seq_i_r0_0 n = n16 n := by
  simp only [word_seq_i_r0_0, tb_eq, n16]; cases decide (0 ≤ n) <;> rfl
theorem Put2_l (n : Int) : [(IntKind.u8.wrap (shrI .i64 n 8)), (IntKind.u8.wrap (n))] = p2 n := by
  have h8 : shrI .i64 n 8 = n / 256 := shr_i64 n 8 (by omega)
  rw [h8, u8w, u8w]; rfl
def q2 (n : Int) : List Int := if n16 n then p2 n else []
theorem Put2_r (n : Int) : word_Put2_i_r0_1 n = q2 n := by
  simp only [word_Put2_i_r0_1, Put2_l, seq_r, tb_eq, q2]
  cases n16 n <;> rfl
theorem len2 {l : List Int} (h : l.length = 2) : ∃ a b, l = [a, b] := by
  match l, h with
  | [a, b], _ => exact ⟨a, b, rfl⟩
theorem g2_len {l : List Int} (h : l.length ≠ 2) : g2 l = 0 := by
  unfold g2
  split
  · simp at h
  · rfl
theorem Get2_eq {l : List Int} (hl : Byts l) : word_Get2_o_c0 l = true ∧ ref04_Get2_o_c0 l = true ∧ word_Get2_o_r0_0 l = g2 l ∧ ref04_Get2_o_r0_0 l = g2 l ∧ word_Get2_o_r0_1 l = decide (l.length = 2) ∧ ref04_Get2_o_r0_1 l = decide (l.length = 2) := by
  by_cases h : l.length = 2
  · obtain ⟨a, b, rfl⟩ := len2 h
    have ha := hl a (by simp)
    have hb := hl b (by simp)
    refine ⟨by simp [word_Get2_o_c0, inb], by simp [ref04_Get2_o_c0, inb], ?_, ?_, by simp [word_Get2_o_r0_1], by simp [ref04_Get2_o_r0_1]⟩
    · obtain ⟨A, rfl, hA⟩ := nat_of ha
      obtain ⟨B, rfl, hB⟩ := nat_of hb
      have e : word_Get2_o_r0_0 [(A : Int), (B : Int)] = orI .i64 (shlI .i64 (wi (A : Int)) 8) (wi (B : Int)) := by simp [word_Get2_o_r0_0, gt]
      have hs : shlI .i64 (A : Int) 8 = ((2 ^ 8 * A : Nat) : Int) := by
        unfold shlI
        rw [show min (8 : Int).toNat IntKind.i64.bits = 8 from rfl, wrap64 (by omega) (by omega)]; push_cast; omega
      rw [e, wi_eq (by omega) (by omega), wi_eq (by omega) (by omega), hs]
      have o : (2 ^ 8 * A) ||| B = 2 ^ 8 * A + B := or_add (by omega)
      rw [i64_or (by omega) (by omega) (by rw [o]; omega), o]
      simp only [g2]; push_cast; omega
    · have e : ref04_Get2_o_r0_0 [a, b] = wi (wi (256 * wi a) + wi b) := by simp [ref04_Get2_o_r0_0, gt]
      rw [e, wi_eq (x := a) (by omega) (by omega), wi_eq (x := b) (by omega) (by omega), wi_eq (x := 256 * a) (by omega) (by omega), wi_eq (by omega) (by omega)]; rfl
  · have : ((l.length : Int) != 2) = true := by simp; omega
    simp [word_Get2_o_c0, ref04_Get2_o_c0, word_Get2_o_r0_0, ref04_Get2_o_r0_0, word_Get2_o_r0_1, ref04_Get2_o_r0_1, this, h, g2_len h]
theorem g2_p2 {n : Int} (h : n16 n = true) : g2 (p2 n) = n := by
  obtain ⟨h1, h2⟩ := n16_iff.1 h
  simp only [p2, g2]; omega
theorem p2_byts (n : Int) : Byts (p2 n) := by
  intro z hz
  simp [p2] at hz
  omega
open Go
set_option linter.unusedVariables false
set_option linter.unusedSimpArgs false
set_option maxRecDepth 10000
def fours (b : List Int) (k : Nat) : List Int := (List.range k).map fun i => g4 ((b.drop (4 * i)).take 4)
theorem fours_succ (b : List Int) (k : Nat) : fours b (k + 1) = fours b k ++ [g4 ((b.drop (4 * k)).take 4)] := by
  simp [fours, List.range_succ]
theorem fours_len (b : List Int) (k : Nat) : (fours b k).length = k := by simp [fours]
theorem sub04 (l : List Int) : sub l 0 4 = l.take 4 := by unfold sub; simp
theorem sub4e (l : List Int) : sub l 4 (l.length : Int) = l.drop 4 := by
  unfold sub
  rw [List.take_of_length_le]
  · rfl
  · simp; omega
theorem Get4l_c (l : List Int) : word_Get4_l_c0 l = true := Get4_c l
theorem Get4l_r {l : List Int} (hl : Byts l) : word_Get4_l_r0_0 l = g4 l := (Get4_r hl).1
theorem fours_run {b : List Int} (hb : Byts b) (hl : b.length ≤ 1000000) (x : Bool) :
    itS word_fours_c1_yp_Y54_1pGvLGo_L0_sel word_fours_c1_yp_Y54_1pGvLGo_L0_nx bound ⟨true, [], x, b⟩ = some ⟨b.length / 4 == 0, fours b (b.length / 4), (b.length / 4 == 0) && x, b.drop (4 * (b.length / 4))⟩ := by
  have := loop_seq (sel := word_fours_c1_yp_Y54_1pGvLGo_L0_sel) (nx := word_fours_c1_yp_Y54_1pGvLGo_L0_nx) (fun k => ⟨k == 0, fours b k, (k == 0) && x, b.drop (4 * k)⟩) (b.length / 4) (by omega) (fun k hk => ?_) ?_
  · simpa [fours] using this
  · have h4 : 4 ≤ (b.drop (4 * k)).length := by simp; omega
    have h4' : (4 : Int) ≤ ((b.drop (4 * k)).length : Int) := by omega
    have i1 : ins (b.drop (4 * k)).length 0 4 = true := by simp only [ins, Bool.and_eq_true, decide_eq_true_eq]; omega
    have i2 : ins (b.drop (4 * k)).length 4 ((b.drop (4 * k)).length : Int) = true := by simp only [ins, Bool.and_eq_true, decide_eq_true_eq]; omega
    have hby : Byts ((b.drop (4 * k)).take 4) := byts_take (byts_drop hb _) _
    have hsz : (k + 1) * 8 ≤ 140737488355328 := by omega
    have hy : word_GetAll_Y1_l_Y54_1pGvL_c0 (fours b k) ((b.drop (4 * k)).take 4) = true := by
      simp [word_GetAll_Y1_l_Y54_1pGvL_c0, Get4l_c, fours_len, hsz]
    constructor
    · simp only [word_fours_c1_yp_Y54_1pGvLGo_L0_sel, sub04, i1, i2, hy, tb_eq, h4', decide_true, cond_true]
    · simp only [word_fours_c1_yp_Y54_1pGvLGo_L0_nx, sub04, sub4e, Get4l_r hby, fours_succ]
      have hne : (b.drop (4 * k)).isEmpty = false := by cases h : b.drop (4 * k) with | nil => rw [h] at h4; simp at h4 | cons a r => rfl
      rw [hne, List.drop_drop]
      simp [Nat.mul_add]
  · have : ¬ (4 : Int) ≤ ((b.drop (4 * (b.length / 4))).length : Int) := by simp; omega
    simp only [word_fours_c1_yp_Y54_1pGvLGo_L0_sel, tb_eq, this, decide_false, cond_false]
theorem rem4 (n : Nat) : remI .i64 ((n : Nat) : Int) 4 = ((n % 4 : Nat) : Int) := by
  rw [rem_i64 (by omega)]; omega
def getAll (b : List Int) : List Int := if b.length % 4 = 0 then fours b (b.length / 4) else []
theorem GetAll_r {b : List Int} (hb : Byts b) (hl : b.length ≤ 1000000) (x : Bool) : word_GetAll_o_c0 x b = true ∧ word_GetAll_o_r0_1 b = decide (b.length % 4 = 0) ∧ word_GetAll_o_r0_2 x b = getAll b := by
  have hrun := fours_run hb hl x
  have he : word_fours_c1_yp_Y54_1pGvLGo_e0 [] true x b = ⟨b.length / 4 == 0, fours b (b.length / 4), (b.length / 4 == 0) && x, b.drop (4 * (b.length / 4))⟩ := by
    simp only [word_fours_c1_yp_Y54_1pGvLGo_e0, word_fours_c1_yp_Y54_1pGvLGo_L0_end, hrun]; rfl
  have hn : ¬ (4 : Int) ≤ ((b.drop (4 * (b.length / 4))).length : Int) := by simp; omega
  have hc : word_fours_c1_yp_Y54_1pGvLGo_c0 [] true x b = true := by
    simp only [word_fours_c1_yp_Y54_1pGvLGo_c0, word_fours_c1_yp_Y54_1pGvLGo_L0_ok, hrun, he, word_fours_c1_yp_Y54_1pGvLGo_L0_c0, tb_eq, hn, decide_false, cond_false]; rfl
  simp only [word_GetAll_o_c0, word_GetAll_o_r0_1, word_GetAll_o_r0_2, rem4, hc, he, tb_eq, getAll]
  by_cases h : b.length % 4 = 0
  · simp [h]
  · have : (((b.length % 4 : Nat) : Int) != 0) = true := by simp; omega
    simp only [this, cond_true, h, decide_false, if_false, and_self]
def all32 (l : List Int) : Bool := l.all n32
def putAll (l : List Int) : List Int := if all32 l then l.flatMap p4 else []
theorem p4_len (n : Int) : (p4 n).length = 4 := rfl
theorem flat_len : ∀ (l : List Int), (l.flatMap p4).length = 4 * l.length
  | [] => rfl
  | a :: r => by rw [List.flatMap_cons, List.length_append, flat_len r, p4_len, List.length_cons]; omega
theorem put_run {l : List Int} {n : Nat} (hl : l.length ≤ 1000000) (hn : n ≤ l.length) (hall : ∀ k, k < n → n32 (gt l (k : Int)) = true) (hend : n = l.length ∨ n32 (gt l (n : Int)) = false) :
    itS (word_PutAll_o_L0_sel l (l.length : Int)) (word_PutAll_o_L0_nx l (l.length : Int)) bound ⟨true, 0, []⟩ = some ⟨n == 0, n, (l.take n).flatMap p4⟩ := by
  have := loop_seq (sel := word_PutAll_o_L0_sel l (l.length : Int)) (nx := word_PutAll_o_L0_nx l (l.length : Int)) (fun k => ⟨k == 0, (k : Int), (l.take k).flatMap p4⟩) n (by omega) (fun k hk => ?_) ?_
  · simpa using this
  · obtain ⟨a1, a2⟩ := Put4_r (gt l (k : Int))
    have h32 := hall k hk
    have hi : inb l.length (k : Int) = true := inb_of (by omega) (by omega)
    have hlt : (k : Int) < (l.length : Int) := by omega
    have hlen : ((l.take k).flatMap p4).length = 4 * k := by rw [flat_len]; simp; omega
    have hq : q4 (gt l (k : Int)) = p4 (gt l (k : Int)) := by simp [q4, h32]
    have hsz : (4 * k + 4) * 1 ≤ 140737488355328 := by omega
    constructor
    · simp only [word_PutAll_o_L0_sel, a1, a2, hq, h32, hi, hlt, hlen, p4_len, hsz, tb_eq]; rfl
    · simp only [word_PutAll_o_L0_nx, a2, hq]
      rw [wi_eq (by omega) (by omega), take_succ_gt (by omega)]
      simp [p4]
  · rcases hend with rfl | h32
    · simp [word_PutAll_o_L0_sel, tb_eq]
    · obtain ⟨a1, a2⟩ := Put4_r (gt l (n : Int))
      simp only [word_PutAll_o_L0_sel, a1, h32, tb_eq]
      cases decide ((n : Int) < (l.length : Int)) <;> cases inb l.length (n : Int) <;> rfl
theorem first_bad : ∀ (l : List Int), all32 l = true ∨ ∃ n, n < l.length ∧ (∀ k, k < n → n32 (gt l (k : Int)) = true) ∧ n32 (gt l (n : Int)) = false
  | [] => .inl rfl
  | a :: r => by
    have g0 : gt (a :: r) ((0 : Nat) : Int) = a := rfl
    have gs : ∀ k : Nat, gt (a :: r) ((k + 1 : Nat) : Int) = gt r (k : Int) := fun k => by simp [gt]
    cases h : n32 a with
    | false => exact .inr ⟨0, by simp, fun k hk => by omega, by rw [g0]; exact h⟩
    | true =>
      rcases first_bad r with h1 | ⟨n, h1, h2, h3⟩
      · left; simp only [all32, List.all_cons, h, Bool.true_and]; exact h1
      · right
        refine ⟨n + 1, by simp; omega, fun k hk => ?_, by rw [gs]; exact h3⟩
        cases k with
        | zero => rw [g0]; exact h
        | succ k => rw [gs]; exact h2 k (by omega)
theorem all32_gt {l : List Int} (h : all32 l = true) {k : Nat} (hk : k < l.length) : n32 (gt l (k : Int)) = true := by
  rw [gt_nat hk]
  exact List.all_eq_true.1 h _ (List.getElem_mem hk)
theorem PutAll_r {l : List Int} (hl : l.length ≤ 1000000) : word_PutAll_o_c0 l = true ∧ word_PutAll_o_r0_1 l = putAll l := by
  rcases first_bad l with h | ⟨n, h1, h2, h3⟩
  · have hrun := put_run (n := l.length) hl (Nat.le_refl _) (fun k hk => all32_gt h hk) (.inl rfl)
    have he : word_PutAll_o_e0 l = ⟨l.length == 0, l.length, (l.take l.length).flatMap p4⟩ := by simp only [word_PutAll_o_e0, word_PutAll_o_L0_end, hrun]; rfl
    have hok : word_PutAll_o_L0_ok l (l.length : Int) ⟨true, 0, []⟩ = true := by simp only [word_PutAll_o_L0_ok, hrun]; rfl
    simp only [word_PutAll_o_c0, word_PutAll_o_r0_1, hok, he, word_PutAll_o_L0_c0, word_PutAll_o_L0_c1, tb_eq, putAll, h]
    simp
  · have hrun := put_run (n := n) hl (by omega) h2 (.inr h3)
    have he : word_PutAll_o_e0 l = ⟨n == 0, n, (l.take n).flatMap p4⟩ := by simp only [word_PutAll_o_e0, word_PutAll_o_L0_end, hrun]; rfl
    have hok : word_PutAll_o_L0_ok l (l.length : Int) ⟨true, 0, []⟩ = true := by simp only [word_PutAll_o_L0_ok, hrun]; rfl
    have hbad : all32 l = false := by
      cases h : all32 l with
      | false => rfl
      | true => rw [all32_gt h h1] at h3; cases h3
    have hi : inb l.length (n : Int) = true := inb_of (by omega) (by omega)
    have hlt : (n : Int) < (l.length : Int) := by omega
    obtain ⟨a1, a2⟩ := Put4_r (gt l (n : Int))
    simp only [word_PutAll_o_c0, word_PutAll_o_r0_1, hok, he, word_PutAll_o_L0_c0, word_PutAll_o_L0_c1, tb_eq, putAll, hbad, hi, hlt, a1, h3]
    simp
theorem fours_flat : ∀ (l : List Int), all32 l = true → fours (l.flatMap p4) l.length = l
  | [], _ => rfl
  | a :: r, h => by
    simp only [all32, List.all_cons, Bool.and_eq_true] at h
    have ih := fours_flat r h.2
    rw [List.flatMap_cons, List.length_cons]
    simp only [fours, List.range_succ_eq_map, List.map_cons, List.map_map]
    congr 1
    · show g4 (p4 a) = a
      exact g4_p4 h.1
theorem flat_byts : ∀ (l : List Int), Byts (l.flatMap p4)
  | [], z, hz => by simp at hz
  | a :: r, z, hz => by
    rw [List.flatMap_cons] at hz
    rcases List.mem_append.1 hz with h | h
    · exact p4_byts a z h
    · exact flat_byts r z h
end Go.Proofs.YtkipngagfiaddaaDoor.Den

namespace Go.Proofs.YtkipngagfiaddaaDoor.Den
open Go Go.Proofs
set_option maxRecDepth 100000
set_option maxHeartbeats 4000000
set_option linter.unusedVariables false
set_option linter.unusedSimpArgs false
def slices_Grow_byte_ni_c0 (x0 : Int) : Bool := (decide (0 ≤ x0) && decide ((x0 : Int).toNat * 1 ≤ 140737488355328))
theorem slices_Grow_byte_ni_t0 (x0 : Int) (h : slices_Grow_byte_ni_c0 x0 = true) : cl E0 76 [(V.d .nils), (V.d (.int .i64 x0))] [] = some ([(V.so (Nat.beq (x0 : Int).toNat 0) 0 0)], [(Blk.flat 5 1 [] false)]) := x_grow (l := extT) (f := 76) (e := 5) (flat := true) (size := 1) (bytes := 1) ⟨⟨rfl, by kernel_rfl⟩, by decide⟩ (by kernel_rfl) h
end Go.Proofs.YtkipngagfiaddaaDoor.Den

namespace Go.Proofs.YtkipngagfiaddaaDoor.Den
open Go Go.Proofs
set_option maxRecDepth 100000
set_option maxHeartbeats 4000000
set_option linter.unusedVariables false
set_option linter.unusedSimpArgs false
structure slices_Concat_byte_v_GvvvLLL_L0_1_s0 where mk ::
  deriving Inhabited
structure slices_Concat_byte_v_GvvvLLL_L0_1_s1 where mk ::
  deriving Inhabited
structure slices_Concat_byte_v_GvvvLLL_L0_1_s2 where mk ::
  deriving Inhabited
structure slices_Concat_byte_v_GvvvLLL_L0_1_s3 where mk ::
  deriving Inhabited
inductive slices_Concat_byte_v_GvvvLLL_L0_1_S where
  | h0 (v : slices_Concat_byte_v_GvvvLLL_L0_1_s0)
  | h1 (v : slices_Concat_byte_v_GvvvLLL_L0_1_s1)
  | h2 (v : slices_Concat_byte_v_GvvvLLL_L0_1_s2)
  | h3 (v : slices_Concat_byte_v_GvvvLLL_L0_1_s3)
  deriving Inhabited
def slices_Concat_byte_v_GvvvLLL_L0_1_is0 : slices_Concat_byte_v_GvvvLLL_L0_1_S → Bool
  | .h0 _ => true
  | _ => false
def slices_Concat_byte_v_GvvvLLL_L0_1_is1 : slices_Concat_byte_v_GvvvLLL_L0_1_S → Bool
  | .h1 _ => true
  | _ => false
def slices_Concat_byte_v_GvvvLLL_L0_1_is2 : slices_Concat_byte_v_GvvvLLL_L0_1_S → Bool
  | .h2 _ => true
  | _ => false
def slices_Concat_byte_v_GvvvLLL_L0_1_get3 : slices_Concat_byte_v_GvvvLLL_L0_1_S → slices_Concat_byte_v_GvvvLLL_L0_1_s3
  | .h3 v => v
  | _ => default
def slices_Concat_byte_v_GvvvLLL_L0_1_h1_e0 (x0 : List Int) (x1 : List Int) : Int := wi ((wi (0 + ((x0.length : Nat) : Int))) + ((x1.length : Nat) : Int))
def slices_Concat_byte_v_GvvvLLL_L0_1_h2_e0 (x0 : List Int) (x1 : List Int) (x2 : List Int) : Int := wi ((slices_Concat_byte_v_GvvvLLL_L0_1_h1_e0 x0 x1) + ((x2.length : Nat) : Int))
def slices_Concat_byte_v_GvvvLLL_L0_1_enc (x0 : List Int) (x1 : List Int) (x2 : List Int) (x3 : Bool) (x4 : Bool) (x5 : Bool) (x6 : Bool) (x7 : Bool) (x8 : Bool) (x9 : Bool) (x10 : Bool) (x11 : Bool) (x12 : Bool) : slices_Concat_byte_v_GvvvLLL_L0_1_S → List V × Mem
  | .h0 s0 => ([(V.so x11 0 3), (V.d (.int .i64 0)), (V.so x12 0 3), (V.d (.int .i64 3)), (V.d (.int .i64 0))], [(Blk.gen 25 1 [[(V.so x3 1 x0.length)], [(V.so x4 2 x1.length)], [(V.so x5 3 x2.length)]] x6), (Blk.flat 5 1 (List.map (encI .u8) x0) x7), (Blk.flat 5 1 (List.map (encI .u8) x1) x8), (Blk.flat 5 1 (List.map (encI .u8) x2) x9), (Blk.flat 5 1 [] x10)])
  | .h1 s0 => ([(V.so x11 0 3), (V.d (.int .i64 (wi (0 + ((x0.length : Nat) : Int))))), (V.so x12 0 3), (V.d (.int .i64 3)), (V.d (.int .i64 1))], [(Blk.gen 25 1 [[(V.so x3 1 x0.length)], [(V.so x4 2 x1.length)], [(V.so x5 3 x2.length)]] x6), (Blk.flat 5 1 (List.map (encI .u8) x0) x7), (Blk.flat 5 1 (List.map (encI .u8) x1) x8), (Blk.flat 5 1 (List.map (encI .u8) x2) x9), (Blk.flat 5 1 [] x10)])
  | .h2 s0 => ([(V.so x11 0 3), (V.d (.int .i64 (slices_Concat_byte_v_GvvvLLL_L0_1_h1_e0 x0 x1))), (V.so x12 0 3), (V.d (.int .i64 3)), (V.d (.int .i64 2))], [(Blk.gen 25 1 [[(V.so x3 1 x0.length)], [(V.so x4 2 x1.length)], [(V.so x5 3 x2.length)]] x6), (Blk.flat 5 1 (List.map (encI .u8) x0) x7), (Blk.flat 5 1 (List.map (encI .u8) x1) x8), (Blk.flat 5 1 (List.map (encI .u8) x2) x9), (Blk.flat 5 1 [] x10)])
  | .h3 s0 => ([(V.so x11 0 3), (V.d (.int .i64 (slices_Concat_byte_v_GvvvLLL_L0_1_h2_e0 x0 x1 x2))), (V.so x12 0 3), (V.d (.int .i64 3)), (V.d (.int .i64 3))], [(Blk.gen 25 1 [[(V.so x3 1 x0.length)], [(V.so x4 2 x1.length)], [(V.so x5 3 x2.length)]] x6), (Blk.flat 5 1 (List.map (encI .u8) x0) x7), (Blk.flat 5 1 (List.map (encI .u8) x1) x8), (Blk.flat 5 1 (List.map (encI .u8) x2) x9), (Blk.flat 5 1 [] x10)])
def slices_Concat_byte_v_GvvvLLL_L0_1_h0_sel (x0 : List Int) (x1 : List Int) (x2 : List Int) (s0 : slices_Concat_byte_v_GvvvLLL_L0_1_s0) : Bool := (bif tb (decide ((wi (0 + ((x0.length : Nat) : Int))) < 0)) then false else true)
def slices_Concat_byte_v_GvvvLLL_L0_1_h0_nx (x0 : List Int) (x1 : List Int) (x2 : List Int) (s0 : slices_Concat_byte_v_GvvvLLL_L0_1_s0) : slices_Concat_byte_v_GvvvLLL_L0_1_S := .h1 ⟨⟩
def slices_Concat_byte_v_GvvvLLL_L0_1_h1_sel (x0 : List Int) (x1 : List Int) (x2 : List Int) (s0 : slices_Concat_byte_v_GvvvLLL_L0_1_s1) : Bool := (bif tb (decide ((slices_Concat_byte_v_GvvvLLL_L0_1_h1_e0 x0 x1) < 0)) then false else true)
def slices_Concat_byte_v_GvvvLLL_L0_1_h1_nx (x0 : List Int) (x1 : List Int) (x2 : List Int) (s0 : slices_Concat_byte_v_GvvvLLL_L0_1_s1) : slices_Concat_byte_v_GvvvLLL_L0_1_S := .h2 ⟨⟩
def slices_Concat_byte_v_GvvvLLL_L0_1_h2_sel (x0 : List Int) (x1 : List Int) (x2 : List Int) (s0 : slices_Concat_byte_v_GvvvLLL_L0_1_s2) : Bool := (bif tb (decide ((slices_Concat_byte_v_GvvvLLL_L0_1_h2_e0 x0 x1 x2) < 0)) then false else true)
def slices_Concat_byte_v_GvvvLLL_L0_1_h2_nx (x0 : List Int) (x1 : List Int) (x2 : List Int) (s0 : slices_Concat_byte_v_GvvvLLL_L0_1_s2) : slices_Concat_byte_v_GvvvLLL_L0_1_S := .h3 ⟨⟩
def slices_Concat_byte_v_GvvvLLL_L0_1_h3_sel (x0 : List Int) (x1 : List Int) (x2 : List Int) (s0 : slices_Concat_byte_v_GvvvLLL_L0_1_s3) : Bool := false
def slices_Concat_byte_v_GvvvLLL_L0_1_h3_nx (x0 : List Int) (x1 : List Int) (x2 : List Int) (s0 : slices_Concat_byte_v_GvvvLLL_L0_1_s3) : slices_Concat_byte_v_GvvvLLL_L0_1_S := default
def slices_Concat_byte_v_GvvvLLL_L0_1_sel (x0 : List Int) (x1 : List Int) (x2 : List Int) : slices_Concat_byte_v_GvvvLLL_L0_1_S → Bool
  | .h0 v => slices_Concat_byte_v_GvvvLLL_L0_1_h0_sel x0 x1 x2 v
  | .h1 v => slices_Concat_byte_v_GvvvLLL_L0_1_h1_sel x0 x1 x2 v
  | .h2 v => slices_Concat_byte_v_GvvvLLL_L0_1_h2_sel x0 x1 x2 v
  | .h3 v => slices_Concat_byte_v_GvvvLLL_L0_1_h3_sel x0 x1 x2 v
def slices_Concat_byte_v_GvvvLLL_L0_1_nx (x0 : List Int) (x1 : List Int) (x2 : List Int) : slices_Concat_byte_v_GvvvLLL_L0_1_S → slices_Concat_byte_v_GvvvLLL_L0_1_S
  | .h0 v => slices_Concat_byte_v_GvvvLLL_L0_1_h0_nx x0 x1 x2 v
  | .h1 v => slices_Concat_byte_v_GvvvLLL_L0_1_h1_nx x0 x1 x2 v
  | .h2 v => slices_Concat_byte_v_GvvvLLL_L0_1_h2_nx x0 x1 x2 v
  | .h3 v => slices_Concat_byte_v_GvvvLLL_L0_1_h3_nx x0 x1 x2 v
def slices_Concat_byte_v_GvvvLLL_L0_1_ok (x0 : List Int) (x1 : List Int) (x2 : List Int) (s0 : slices_Concat_byte_v_GvvvLLL_L0_1_S) : Bool := (itS (slices_Concat_byte_v_GvvvLLL_L0_1_sel x0 x1 x2) (slices_Concat_byte_v_GvvvLLL_L0_1_nx x0 x1 x2) bound s0).isSome
def slices_Concat_byte_v_GvvvLLL_L0_1_end (x0 : List Int) (x1 : List Int) (x2 : List Int) (s0 : slices_Concat_byte_v_GvvvLLL_L0_1_S) : slices_Concat_byte_v_GvvvLLL_L0_1_S := (itS (slices_Concat_byte_v_GvvvLLL_L0_1_sel x0 x1 x2) (slices_Concat_byte_v_GvvvLLL_L0_1_nx x0 x1 x2) bound s0).getD default
theorem slices_Concat_byte_v_GvvvLLL_L0_1_h0_go (x0 : List Int) (x1 : List Int) (x2 : List Int) (x3 : Bool) (x4 : Bool) (x5 : Bool) (x6 : Bool) (x7 : Bool) (x8 : Bool) (x9 : Bool) (x10 : Bool) (x11 : Bool) (x12 : Bool) (s0 : slices_Concat_byte_v_GvvvLLL_L0_1_s0) : slices_Concat_byte_v_GvvvLLL_L0_1_h0_sel x0 x1 x2 s0 = true → (roundG (runC E0 (cl E0) L47_0) [0, 3, 9, 10, 11] [0, 3] 5) (slices_Concat_byte_v_GvvvLLL_L0_1_enc x0 x1 x2 x3 x4 x5 x6 x7 x8 x9 x10 x11 x12 (.h0 s0)) = some (.normal, slices_Concat_byte_v_GvvvLLL_L0_1_enc x0 x1 x2 x3 x4 x5 x6 x7 x8 x9 x10 x11 x12 (slices_Concat_byte_v_GvvvLLL_L0_1_h0_nx x0 x1 x2 s0)) := by
  unfold slices_Concat_byte_v_GvvvLLL_L0_1_h0_sel slices_Concat_byte_v_GvvvLLL_L0_1_h0_nx
  cases h1 : tb (decide ((wi (0 + ((x0.length : Nat) : Int))) < 0))
  · intro _
    exact round_walk [.k true, .b (tbE h1)] (by kernel_rfl)
  · intro g0
    exact absurd g0 ft
theorem slices_Concat_byte_v_GvvvLLL_L0_1_h1_go (x0 : List Int) (x1 : List Int) (x2 : List Int) (x3 : Bool) (x4 : Bool) (x5 : Bool) (x6 : Bool) (x7 : Bool) (x8 : Bool) (x9 : Bool) (x10 : Bool) (x11 : Bool) (x12 : Bool) (s0 : slices_Concat_byte_v_GvvvLLL_L0_1_s1) : slices_Concat_byte_v_GvvvLLL_L0_1_h1_sel x0 x1 x2 s0 = true → (roundG (runC E0 (cl E0) L47_0) [0, 3, 9, 10, 11] [0, 3] 5) (slices_Concat_byte_v_GvvvLLL_L0_1_enc x0 x1 x2 x3 x4 x5 x6 x7 x8 x9 x10 x11 x12 (.h1 s0)) = some (.normal, slices_Concat_byte_v_GvvvLLL_L0_1_enc x0 x1 x2 x3 x4 x5 x6 x7 x8 x9 x10 x11 x12 (slices_Concat_byte_v_GvvvLLL_L0_1_h1_nx x0 x1 x2 s0)) := by
  unfold slices_Concat_byte_v_GvvvLLL_L0_1_h1_sel slices_Concat_byte_v_GvvvLLL_L0_1_h1_nx
  cases h1 : tb (decide ((slices_Concat_byte_v_GvvvLLL_L0_1_h1_e0 x0 x1) < 0))
  · intro _
    exact round_walk [.k true, .b (tbE h1)] (by kernel_rfl)
  · intro g0
    exact absurd g0 ft
theorem slices_Concat_byte_v_GvvvLLL_L0_1_h2_go (x0 : List Int) (x1 : List Int) (x2 : List Int) (x3 : Bool) (x4 : Bool) (x5 : Bool) (x6 : Bool) (x7 : Bool) (x8 : Bool) (x9 : Bool) (x10 : Bool) (x11 : Bool) (x12 : Bool) (s0 : slices_Concat_byte_v_GvvvLLL_L0_1_s2) : slices_Concat_byte_v_GvvvLLL_L0_1_h2_sel x0 x1 x2 s0 = true → (roundG (runC E0 (cl E0) L47_0) [0, 3, 9, 10, 11] [0, 3] 5) (slices_Concat_byte_v_GvvvLLL_L0_1_enc x0 x1 x2 x3 x4 x5 x6 x7 x8 x9 x10 x11 x12 (.h2 s0)) = some (.normal, slices_Concat_byte_v_GvvvLLL_L0_1_enc x0 x1 x2 x3 x4 x5 x6 x7 x8 x9 x10 x11 x12 (slices_Concat_byte_v_GvvvLLL_L0_1_h2_nx x0 x1 x2 s0)) := by
  unfold slices_Concat_byte_v_GvvvLLL_L0_1_h2_sel slices_Concat_byte_v_GvvvLLL_L0_1_h2_nx
  cases h1 : tb (decide ((slices_Concat_byte_v_GvvvLLL_L0_1_h2_e0 x0 x1 x2) < 0))
  · intro _
    exact round_walk [.k true, .b (tbE h1)] (by kernel_rfl)
  · intro g0
    exact absurd g0 ft
theorem slices_Concat_byte_v_GvvvLLL_L0_1_h3_go (x0 : List Int) (x1 : List Int) (x2 : List Int) (x3 : Bool) (x4 : Bool) (x5 : Bool) (x6 : Bool) (x7 : Bool) (x8 : Bool) (x9 : Bool) (x10 : Bool) (x11 : Bool) (x12 : Bool) (s0 : slices_Concat_byte_v_GvvvLLL_L0_1_s3) : slices_Concat_byte_v_GvvvLLL_L0_1_h3_sel x0 x1 x2 s0 = true → (roundG (runC E0 (cl E0) L47_0) [0, 3, 9, 10, 11] [0, 3] 5) (slices_Concat_byte_v_GvvvLLL_L0_1_enc x0 x1 x2 x3 x4 x5 x6 x7 x8 x9 x10 x11 x12 (.h3 s0)) = some (.normal, slices_Concat_byte_v_GvvvLLL_L0_1_enc x0 x1 x2 x3 x4 x5 x6 x7 x8 x9 x10 x11 x12 (slices_Concat_byte_v_GvvvLLL_L0_1_h3_nx x0 x1 x2 s0)) := by
  unfold slices_Concat_byte_v_GvvvLLL_L0_1_h3_sel slices_Concat_byte_v_GvvvLLL_L0_1_h3_nx
  intro g0
  exact absurd g0 ft
theorem slices_Concat_byte_v_GvvvLLL_L0_1_h3_x0 (x0 : List Int) (x1 : List Int) (x2 : List Int) (x3 : Bool) (x4 : Bool) (x5 : Bool) (x6 : Bool) (x7 : Bool) (x8 : Bool) (x9 : Bool) (x10 : Bool) (x11 : Bool) (x12 : Bool) (s0 : slices_Concat_byte_v_GvvvLLL_L0_1_s3) : slices_Concat_byte_v_GvvvLLL_L0_1_h3_sel x0 x1 x2 s0 = false → (roundG (runC E0 (cl E0) L47_0) [0, 3, 9, 10, 11] [0, 3] 5) (slices_Concat_byte_v_GvvvLLL_L0_1_enc x0 x1 x2 x3 x4 x5 x6 x7 x8 x9 x10 x11 x12 (.h3 s0)) = some ((.exit 0), ([(V.so x11 0 3), (V.d (.int .i64 (slices_Concat_byte_v_GvvvLLL_L0_1_h2_e0 x0 x1 x2)))], [(Blk.gen 25 1 [[(V.so x3 1 x0.length)], [(V.so x4 2 x1.length)], [(V.so x5 3 x2.length)]] x6), (Blk.flat 5 1 (List.map (encI .u8) x0) x7), (Blk.flat 5 1 (List.map (encI .u8) x1) x8), (Blk.flat 5 1 (List.map (encI .u8) x2) x9), (Blk.flat 5 1 [] x10)])) := by
  unfold slices_Concat_byte_v_GvvvLLL_L0_1_h3_sel
  intro g0
  exact round_walk [.k false] (by kernel_rfl)
theorem slices_Concat_byte_v_GvvvLLL_L0_1_go (x0 : List Int) (x1 : List Int) (x2 : List Int) (x3 : Bool) (x4 : Bool) (x5 : Bool) (x6 : Bool) (x7 : Bool) (x8 : Bool) (x9 : Bool) (x10 : Bool) (x11 : Bool) (x12 : Bool) : ∀ s, slices_Concat_byte_v_GvvvLLL_L0_1_sel x0 x1 x2 s = true → (roundG (runC E0 (cl E0) L47_0) [0, 3, 9, 10, 11] [0, 3] 5) (slices_Concat_byte_v_GvvvLLL_L0_1_enc x0 x1 x2 x3 x4 x5 x6 x7 x8 x9 x10 x11 x12 s) = some (.normal, slices_Concat_byte_v_GvvvLLL_L0_1_enc x0 x1 x2 x3 x4 x5 x6 x7 x8 x9 x10 x11 x12 (slices_Concat_byte_v_GvvvLLL_L0_1_nx x0 x1 x2 s))
  | .h0 s0, h => slices_Concat_byte_v_GvvvLLL_L0_1_h0_go x0 x1 x2 x3 x4 x5 x6 x7 x8 x9 x10 x11 x12 s0 h
  | .h1 s0, h => slices_Concat_byte_v_GvvvLLL_L0_1_h1_go x0 x1 x2 x3 x4 x5 x6 x7 x8 x9 x10 x11 x12 s0 h
  | .h2 s0, h => slices_Concat_byte_v_GvvvLLL_L0_1_h2_go x0 x1 x2 x3 x4 x5 x6 x7 x8 x9 x10 x11 x12 s0 h
  | .h3 s0, h => slices_Concat_byte_v_GvvvLLL_L0_1_h3_go x0 x1 x2 x3 x4 x5 x6 x7 x8 x9 x10 x11 x12 s0 h
theorem slices_Concat_byte_v_GvvvLLL_L0_1_f3_0 (x0 : List Int) (x1 : List Int) (x2 : List Int) (x3 : Bool) (x4 : Bool) (x5 : Bool) (x6 : Bool) (x7 : Bool) (x8 : Bool) (x9 : Bool) (x10 : Bool) (x11 : Bool) (x12 : Bool) (s : slices_Concat_byte_v_GvvvLLL_L0_1_S) (hok : slices_Concat_byte_v_GvvvLLL_L0_1_ok x0 x1 x2 s = true) (k0 : slices_Concat_byte_v_GvvvLLL_L0_1_is0 (slices_Concat_byte_v_GvvvLLL_L0_1_end x0 x1 x2 s) = false) (k1 : slices_Concat_byte_v_GvvvLLL_L0_1_is1 (slices_Concat_byte_v_GvvvLLL_L0_1_end x0 x1 x2 s) = false) (k2 : slices_Concat_byte_v_GvvvLLL_L0_1_is2 (slices_Concat_byte_v_GvvvLLL_L0_1_end x0 x1 x2 s) = false) : loopG (roundG (runC E0 (cl E0) L47_0) [0, 3, 9, 10, 11] [0, 3] 5) bound (slices_Concat_byte_v_GvvvLLL_L0_1_enc x0 x1 x2 x3 x4 x5 x6 x7 x8 x9 x10 x11 x12 s) = some ((.exit 0), ([(V.so x11 0 3), (V.d (.int .i64 (slices_Concat_byte_v_GvvvLLL_L0_1_h2_e0 x0 x1 x2)))], [(Blk.gen 25 1 [[(V.so x3 1 x0.length)], [(V.so x4 2 x1.length)], [(V.so x5 3 x2.length)]] x6), (Blk.flat 5 1 (List.map (encI .u8) x0) x7), (Blk.flat 5 1 (List.map (encI .u8) x1) x8), (Blk.flat 5 1 (List.map (encI .u8) x2) x9), (Blk.flat 5 1 [] x10)])) := by
  have e : itS (slices_Concat_byte_v_GvvvLLL_L0_1_sel x0 x1 x2) (slices_Concat_byte_v_GvvvLLL_L0_1_nx x0 x1 x2) bound s = some (slices_Concat_byte_v_GvvvLLL_L0_1_end x0 x1 x2 s) := itS_get hok
  have f := itS_false e
  have a : (slices_Concat_byte_v_GvvvLLL_L0_1_end x0 x1 x2 s) = .h3 (slices_Concat_byte_v_GvvvLLL_L0_1_get3 (slices_Concat_byte_v_GvvvLLL_L0_1_end x0 x1 x2 s)) := by
    revert k0 k1 k2
    cases (slices_Concat_byte_v_GvvvLLL_L0_1_end x0 x1 x2 s) with
    | h0 w => intros; contradiction
    | h1 w => intros; contradiction
    | h2 w => intros; contradiction
    | h3 w => intros; rfl
  have g := slices_Concat_byte_v_GvvvLLL_L0_1_h3_x0 x0 x1 x2 x3 x4 x5 x6 x7 x8 x9 x10 x11 x12 (slices_Concat_byte_v_GvvvLLL_L0_1_get3 (slices_Concat_byte_v_GvvvLLL_L0_1_end x0 x1 x2 s)) (by rw [a] at f; exact f)
  exact loop_it (slices_Concat_byte_v_GvvvLLL_L0_1_go x0 x1 x2 x3 x4 x5 x6 x7 x8 x9 x10 x11 x12) bound s _ _ _ e (fun h => by cases h) (by rw [a]; exact g)
def slices_Concat_byte_v_GvvvLLL_S1_e0 (x0 : List Int) (x1 : List Int) (x2 : List Int) : slices_Concat_byte_v_GvvvLLL_L0_1_S := slices_Concat_byte_v_GvvvLLL_L0_1_end x0 x1 x2 (.h0 ⟨⟩ : slices_Concat_byte_v_GvvvLLL_L0_1_S)
def slices_Concat_byte_v_GvvvLLL_S1_c0 (x0 : List Int) (x1 : List Int) (x2 : List Int) : Bool := (bif tb (slices_Concat_byte_v_GvvvLLL_L0_1_ok x0 x1 x2 (.h0 ⟨⟩ : slices_Concat_byte_v_GvvvLLL_L0_1_S)) then (bif tb (slices_Concat_byte_v_GvvvLLL_L0_1_is0 (slices_Concat_byte_v_GvvvLLL_S1_e0 x0 x1 x2)) then false else (bif tb (slices_Concat_byte_v_GvvvLLL_L0_1_is1 (slices_Concat_byte_v_GvvvLLL_S1_e0 x0 x1 x2)) then false else (bif tb (slices_Concat_byte_v_GvvvLLL_L0_1_is2 (slices_Concat_byte_v_GvvvLLL_S1_e0 x0 x1 x2)) then false else true))) else false)
theorem slices_Concat_byte_v_GvvvLLL_S1_t0 (x0 : List Int) (x1 : List Int) (x2 : List Int) (x3 : Bool) (x4 : Bool) (x5 : Bool) (x6 : Bool) (x7 : Bool) (x8 : Bool) (x9 : Bool) (x10 : Bool) (x11 : Bool) : slices_Concat_byte_v_GvvvLLL_S1_c0 x0 x1 x2 = true → segG (runC E0 (cl E0) S47_1) [0, 3] [] [0, 3] 5 ([(V.so x11 0 3), (V.d (.int .i64 0))], [(Blk.gen 25 1 [[(V.so x3 1 x0.length)], [(V.so x4 2 x1.length)], [(V.so x5 3 x2.length)]] x6), (Blk.flat 5 1 (List.map (encI .u8) x0) x7), (Blk.flat 5 1 (List.map (encI .u8) x1) x8), (Blk.flat 5 1 (List.map (encI .u8) x2) x9), (Blk.flat 5 1 [] x10)]) = some (.normal, ([(V.so x11 0 3), (V.d (.int .i64 (slices_Concat_byte_v_GvvvLLL_L0_1_h2_e0 x0 x1 x2)))], [(Blk.gen 25 1 [[(V.so x3 1 x0.length)], [(V.so x4 2 x1.length)], [(V.so x5 3 x2.length)]] x6), (Blk.flat 5 1 (List.map (encI .u8) x0) x7), (Blk.flat 5 1 (List.map (encI .u8) x1) x8), (Blk.flat 5 1 (List.map (encI .u8) x2) x9), (Blk.flat 5 1 [] x10)])) := by
  unfold slices_Concat_byte_v_GvvvLLL_S1_c0
  cases h1 : tb (slices_Concat_byte_v_GvvvLLL_L0_1_ok x0 x1 x2 (.h0 ⟨⟩ : slices_Concat_byte_v_GvvvLLL_L0_1_S))
  · intro g0
    exact absurd g0 ft
  · cases h2 : tb (slices_Concat_byte_v_GvvvLLL_L0_1_is0 (slices_Concat_byte_v_GvvvLLL_S1_e0 x0 x1 x2))
    · cases h3 : tb (slices_Concat_byte_v_GvvvLLL_L0_1_is1 (slices_Concat_byte_v_GvvvLLL_S1_e0 x0 x1 x2))
      · cases h4 : tb (slices_Concat_byte_v_GvvvLLL_L0_1_is2 (slices_Concat_byte_v_GvvvLLL_S1_e0 x0 x1 x2))
        · intro g0
          exact seg_walk [.l (slices_Concat_byte_v_GvvvLLL_L0_1_f3_0 x0 x1 x2 x3 x4 x5 x6 x7 x8 x9 x10 x11 x11 (.h0 ⟨⟩ : slices_Concat_byte_v_GvvvLLL_L0_1_S) (tbE h1) (tbE h2) (tbE h3) (tbE h4))] (by kernel_rfl)
        · intro g0
          exact absurd g0 ft
      · intro g0
        exact absurd g0 ft
    · intro g0
      exact absurd g0 ft
structure slices_Concat_byte_v_GvvvLLL_L2_1_s0 where mk ::
  deriving Inhabited
structure slices_Concat_byte_v_GvvvLLL_L2_1_s1 where mk ::
  deriving Inhabited
structure slices_Concat_byte_v_GvvvLLL_L2_1_s2 where mk ::
  deriving Inhabited
structure slices_Concat_byte_v_GvvvLLL_L2_1_s3 where mk ::
  deriving Inhabited
inductive slices_Concat_byte_v_GvvvLLL_L2_1_S where
  | h0 (v : slices_Concat_byte_v_GvvvLLL_L2_1_s0)
  | h1 (v : slices_Concat_byte_v_GvvvLLL_L2_1_s1)
  | h2 (v : slices_Concat_byte_v_GvvvLLL_L2_1_s2)
  | h3 (v : slices_Concat_byte_v_GvvvLLL_L2_1_s3)
  deriving Inhabited
def slices_Concat_byte_v_GvvvLLL_L2_1_is0 : slices_Concat_byte_v_GvvvLLL_L2_1_S → Bool
  | .h0 _ => true
  | _ => false
def slices_Concat_byte_v_GvvvLLL_L2_1_is1 : slices_Concat_byte_v_GvvvLLL_L2_1_S → Bool
  | .h1 _ => true
  | _ => false
def slices_Concat_byte_v_GvvvLLL_L2_1_is2 : slices_Concat_byte_v_GvvvLLL_L2_1_S → Bool
  | .h2 _ => true
  | _ => false
def slices_Concat_byte_v_GvvvLLL_L2_1_get3 : slices_Concat_byte_v_GvvvLLL_L2_1_S → slices_Concat_byte_v_GvvvLLL_L2_1_s3
  | .h3 v => v
  | _ => default
def slices_Concat_byte_v_GvvvLLL_L2_1_enc (x0 : List Int) (x1 : List Int) (x2 : List Int) (x3 : Bool) (x4 : Bool) (x5 : Bool) (x6 : Bool) (x7 : Bool) (x8 : Bool) (x9 : Bool) (x10 : Bool) (x11 : Bool) (x12 : Bool) (x13 : Bool) : slices_Concat_byte_v_GvvvLLL_L2_1_S → List V × Mem
  | .h0 s0 => ([(V.so x12 5 0), (V.so x13 0 3), (V.d (.int .i64 3)), (V.d (.int .i64 0))], [(Blk.gen 25 1 [[(V.so x3 1 x0.length)], [(V.so x4 2 x1.length)], [(V.so x5 3 x2.length)]] x6), (Blk.flat 5 1 (List.map (encI .u8) x0) x7), (Blk.flat 5 1 (List.map (encI .u8) x1) x8), (Blk.flat 5 1 (List.map (encI .u8) x2) x9), (Blk.flat 5 1 [] x10), (Blk.flat 5 1 [] false)])
  | .h1 s0 => ([(V.so (x0.isEmpty && x12) 5 x0.length), (V.so x13 0 3), (V.d (.int .i64 3)), (V.d (.int .i64 1))], [(Blk.gen 25 1 [[(V.so x3 1 x0.length)], [(V.so x4 2 x1.length)], [(V.so x5 3 x2.length)]] x6), (Blk.flat 5 1 (List.map (encI .u8) x0) x7), (Blk.flat 5 1 (List.map (encI .u8) x1) x8), (Blk.flat 5 1 (List.map (encI .u8) x2) x9), (Blk.flat 5 1 [] x10), (Blk.flat 5 1 (List.map (encI .u8) x0) false)])
  | .h2 s0 => ([(V.so (x1.isEmpty && (x0.isEmpty && x12)) 5 ((x0 ++ x1).length)), (V.so x13 0 3), (V.d (.int .i64 3)), (V.d (.int .i64 2))], [(Blk.gen 25 1 [[(V.so x3 1 x0.length)], [(V.so x4 2 x1.length)], [(V.so x5 3 x2.length)]] x6), (Blk.flat 5 1 (List.map (encI .u8) x0) x7), (Blk.flat 5 1 (List.map (encI .u8) x1) x8), (Blk.flat 5 1 (List.map (encI .u8) x2) x9), (Blk.flat 5 1 [] x10), (Blk.flat 5 1 (List.map (encI .u8) (x0 ++ x1)) false)])
  | .h3 s0 => ([(V.so (x2.isEmpty && (x1.isEmpty && (x0.isEmpty && x12))) 5 (((x0 ++ x1) ++ x2).length)), (V.so x13 0 3), (V.d (.int .i64 3)), (V.d (.int .i64 3))], [(Blk.gen 25 1 [[(V.so x3 1 x0.length)], [(V.so x4 2 x1.length)], [(V.so x5 3 x2.length)]] x6), (Blk.flat 5 1 (List.map (encI .u8) x0) x7), (Blk.flat 5 1 (List.map (encI .u8) x1) x8), (Blk.flat 5 1 (List.map (encI .u8) x2) x9), (Blk.flat 5 1 [] x10), (Blk.flat 5 1 (List.map (encI .u8) ((x0 ++ x1) ++ x2)) false)])
def slices_Concat_byte_v_GvvvLLL_L2_1_h0_sel (x0 : List Int) (x1 : List Int) (x2 : List Int) (s0 : slices_Concat_byte_v_GvvvLLL_L2_1_s0) : Bool := (bif tb (decide ((([] : List Int).length + x0.length) * 1 ≤ 140737488355328)) then true else false)
def slices_Concat_byte_v_GvvvLLL_L2_1_h0_nx (x0 : List Int) (x1 : List Int) (x2 : List Int) (s0 : slices_Concat_byte_v_GvvvLLL_L2_1_s0) : slices_Concat_byte_v_GvvvLLL_L2_1_S := .h1 ⟨⟩
def slices_Concat_byte_v_GvvvLLL_L2_1_h1_sel (x0 : List Int) (x1 : List Int) (x2 : List Int) (s0 : slices_Concat_byte_v_GvvvLLL_L2_1_s1) : Bool := (bif tb (decide ((x0.length + x1.length) * 1 ≤ 140737488355328)) then true else false)
def slices_Concat_byte_v_GvvvLLL_L2_1_h1_nx (x0 : List Int) (x1 : List Int) (x2 : List Int) (s0 : slices_Concat_byte_v_GvvvLLL_L2_1_s1) : slices_Concat_byte_v_GvvvLLL_L2_1_S := .h2 ⟨⟩
def slices_Concat_byte_v_GvvvLLL_L2_1_h2_sel (x0 : List Int) (x1 : List Int) (x2 : List Int) (s0 : slices_Concat_byte_v_GvvvLLL_L2_1_s2) : Bool := (bif tb (decide (((x0 ++ x1).length + x2.length) * 1 ≤ 140737488355328)) then true else false)
def slices_Concat_byte_v_GvvvLLL_L2_1_h2_nx (x0 : List Int) (x1 : List Int) (x2 : List Int) (s0 : slices_Concat_byte_v_GvvvLLL_L2_1_s2) : slices_Concat_byte_v_GvvvLLL_L2_1_S := .h3 ⟨⟩
def slices_Concat_byte_v_GvvvLLL_L2_1_h3_sel (x0 : List Int) (x1 : List Int) (x2 : List Int) (s0 : slices_Concat_byte_v_GvvvLLL_L2_1_s3) : Bool := false
def slices_Concat_byte_v_GvvvLLL_L2_1_h3_nx (x0 : List Int) (x1 : List Int) (x2 : List Int) (s0 : slices_Concat_byte_v_GvvvLLL_L2_1_s3) : slices_Concat_byte_v_GvvvLLL_L2_1_S := default
def slices_Concat_byte_v_GvvvLLL_L2_1_sel (x0 : List Int) (x1 : List Int) (x2 : List Int) : slices_Concat_byte_v_GvvvLLL_L2_1_S → Bool
  | .h0 v => slices_Concat_byte_v_GvvvLLL_L2_1_h0_sel x0 x1 x2 v
  | .h1 v => slices_Concat_byte_v_GvvvLLL_L2_1_h1_sel x0 x1 x2 v
  | .h2 v => slices_Concat_byte_v_GvvvLLL_L2_1_h2_sel x0 x1 x2 v
  | .h3 v => slices_Concat_byte_v_GvvvLLL_L2_1_h3_sel x0 x1 x2 v
def slices_Concat_byte_v_GvvvLLL_L2_1_nx (x0 : List Int) (x1 : List Int) (x2 : List Int) : slices_Concat_byte_v_GvvvLLL_L2_1_S → slices_Concat_byte_v_GvvvLLL_L2_1_S
  | .h0 v => slices_Concat_byte_v_GvvvLLL_L2_1_h0_nx x0 x1 x2 v
  | .h1 v => slices_Concat_byte_v_GvvvLLL_L2_1_h1_nx x0 x1 x2 v
  | .h2 v => slices_Concat_byte_v_GvvvLLL_L2_1_h2_nx x0 x1 x2 v
  | .h3 v => slices_Concat_byte_v_GvvvLLL_L2_1_h3_nx x0 x1 x2 v
def slices_Concat_byte_v_GvvvLLL_L2_1_ok (x0 : List Int) (x1 : List Int) (x2 : List Int) (s0 : slices_Concat_byte_v_GvvvLLL_L2_1_S) : Bool := (itS (slices_Concat_byte_v_GvvvLLL_L2_1_sel x0 x1 x2) (slices_Concat_byte_v_GvvvLLL_L2_1_nx x0 x1 x2) bound s0).isSome
def slices_Concat_byte_v_GvvvLLL_L2_1_end (x0 : List Int) (x1 : List Int) (x2 : List Int) (s0 : slices_Concat_byte_v_GvvvLLL_L2_1_S) : slices_Concat_byte_v_GvvvLLL_L2_1_S := (itS (slices_Concat_byte_v_GvvvLLL_L2_1_sel x0 x1 x2) (slices_Concat_byte_v_GvvvLLL_L2_1_nx x0 x1 x2) bound s0).getD default
theorem slices_Concat_byte_v_GvvvLLL_L2_1_h0_go (x0 : List Int) (x1 : List Int) (x2 : List Int) (x3 : Bool) (x4 : Bool) (x5 : Bool) (x6 : Bool) (x7 : Bool) (x8 : Bool) (x9 : Bool) (x10 : Bool) (x11 : Bool) (x12 : Bool) (x13 : Bool) (s0 : slices_Concat_byte_v_GvvvLLL_L2_1_s0) : slices_Concat_byte_v_GvvvLLL_L2_1_h0_sel x0 x1 x2 s0 = true → (roundG (runC E0 (cl E0) L47_2) [6, 25, 26, 27] [6] 6) (slices_Concat_byte_v_GvvvLLL_L2_1_enc x0 x1 x2 x3 x4 x5 x6 x7 x8 x9 x10 x11 x12 x13 (.h0 s0)) = some (.normal, slices_Concat_byte_v_GvvvLLL_L2_1_enc x0 x1 x2 x3 x4 x5 x6 x7 x8 x9 x10 x11 x12 x13 (slices_Concat_byte_v_GvvvLLL_L2_1_h0_nx x0 x1 x2 s0)) := by
  unfold slices_Concat_byte_v_GvvvLLL_L2_1_h0_sel slices_Concat_byte_v_GvvvLLL_L2_1_h0_nx
  cases h1 : tb (decide ((([] : List Int).length + x0.length) * 1 ≤ 140737488355328))
  · intro g0
    exact absurd g0 ft
  · intro _
    exact round_walk [.k true, .m 33 (o_app_so (nl := x12) (m := [(Blk.gen 25 1 [[(V.so x3 1 x0.length)], [(V.so x4 2 x1.length)], [(V.so x5 3 x2.length)]] x6), (Blk.flat 5 1 (List.map (encI .u8) x0) x7), (Blk.flat 5 1 (List.map (encI .u8) x1) x8), (Blk.flat 5 1 (List.map (encI .u8) x2) x9), (Blk.flat 5 1 [] x10), (Blk.flat 5 1 [] false)]) (enc := (encI .u8)) (l0 := ([] : List Int)) (l1 := x0) (id := 5) (e := 5) (s := 1) (bytes := 1) (x := (V.so x3 1 x0.length)) (n := 0) (by kernel_rfl) (by kernel_rfl) (flatRowsOf_so' (b := x3) (e := 5) (s := 1) (p := x7) (Nat.beq_refl _) (by kernel_rfl)) (by kernel_rfl) (tbE h1))] (by kernel_rfl)
theorem slices_Concat_byte_v_GvvvLLL_L2_1_h1_go (x0 : List Int) (x1 : List Int) (x2 : List Int) (x3 : Bool) (x4 : Bool) (x5 : Bool) (x6 : Bool) (x7 : Bool) (x8 : Bool) (x9 : Bool) (x10 : Bool) (x11 : Bool) (x12 : Bool) (x13 : Bool) (s0 : slices_Concat_byte_v_GvvvLLL_L2_1_s1) : slices_Concat_byte_v_GvvvLLL_L2_1_h1_sel x0 x1 x2 s0 = true → (roundG (runC E0 (cl E0) L47_2) [6, 25, 26, 27] [6] 6) (slices_Concat_byte_v_GvvvLLL_L2_1_enc x0 x1 x2 x3 x4 x5 x6 x7 x8 x9 x10 x11 x12 x13 (.h1 s0)) = some (.normal, slices_Concat_byte_v_GvvvLLL_L2_1_enc x0 x1 x2 x3 x4 x5 x6 x7 x8 x9 x10 x11 x12 x13 (slices_Concat_byte_v_GvvvLLL_L2_1_h1_nx x0 x1 x2 s0)) := by
  unfold slices_Concat_byte_v_GvvvLLL_L2_1_h1_sel slices_Concat_byte_v_GvvvLLL_L2_1_h1_nx
  cases h1 : tb (decide ((x0.length + x1.length) * 1 ≤ 140737488355328))
  · intro g0
    exact absurd g0 ft
  · intro _
    exact round_walk [.k true, .m 33 (o_app_so (nl := (x0.isEmpty && x12)) (m := [(Blk.gen 25 1 [[(V.so x3 1 x0.length)], [(V.so x4 2 x1.length)], [(V.so x5 3 x2.length)]] x6), (Blk.flat 5 1 (List.map (encI .u8) x0) x7), (Blk.flat 5 1 (List.map (encI .u8) x1) x8), (Blk.flat 5 1 (List.map (encI .u8) x2) x9), (Blk.flat 5 1 [] x10), (Blk.flat 5 1 (List.map (encI .u8) x0) false)]) (enc := (encI .u8)) (l0 := x0) (l1 := x1) (id := 5) (e := 5) (s := 1) (bytes := 1) (x := (V.so x4 2 x1.length)) (n := x0.length) (Nat.beq_refl _) (by kernel_rfl) (flatRowsOf_so' (b := x4) (e := 5) (s := 1) (p := x8) (Nat.beq_refl _) (by kernel_rfl)) (by kernel_rfl) (tbE h1))] (by kernel_rfl)
theorem slices_Concat_byte_v_GvvvLLL_L2_1_h2_go (x0 : List Int) (x1 : List Int) (x2 : List Int) (x3 : Bool) (x4 : Bool) (x5 : Bool) (x6 : Bool) (x7 : Bool) (x8 : Bool) (x9 : Bool) (x10 : Bool) (x11 : Bool) (x12 : Bool) (x13 : Bool) (s0 : slices_Concat_byte_v_GvvvLLL_L2_1_s2) : slices_Concat_byte_v_GvvvLLL_L2_1_h2_sel x0 x1 x2 s0 = true → (roundG (runC E0 (cl E0) L47_2) [6, 25, 26, 27] [6] 6) (slices_Concat_byte_v_GvvvLLL_L2_1_enc x0 x1 x2 x3 x4 x5 x6 x7 x8 x9 x10 x11 x12 x13 (.h2 s0)) = some (.normal, slices_Concat_byte_v_GvvvLLL_L2_1_enc x0 x1 x2 x3 x4 x5 x6 x7 x8 x9 x10 x11 x12 x13 (slices_Concat_byte_v_GvvvLLL_L2_1_h2_nx x0 x1 x2 s0)) := by
  unfold slices_Concat_byte_v_GvvvLLL_L2_1_h2_sel slices_Concat_byte_v_GvvvLLL_L2_1_h2_nx
  cases h1 : tb (decide (((x0 ++ x1).length + x2.length) * 1 ≤ 140737488355328))
  · intro g0
    exact absurd g0 ft
  · intro _
    exact round_walk [.k true, .m 33 (o_app_so (nl := (x1.isEmpty && (x0.isEmpty && x12))) (m := [(Blk.gen 25 1 [[(V.so x3 1 x0.length)], [(V.so x4 2 x1.length)], [(V.so x5 3 x2.length)]] x6), (Blk.flat 5 1 (List.map (encI .u8) x0) x7), (Blk.flat 5 1 (List.map (encI .u8) x1) x8), (Blk.flat 5 1 (List.map (encI .u8) x2) x9), (Blk.flat 5 1 [] x10), (Blk.flat 5 1 (List.map (encI .u8) (x0 ++ x1)) false)]) (enc := (encI .u8)) (l0 := (x0 ++ x1)) (l1 := x2) (id := 5) (e := 5) (s := 1) (bytes := 1) (x := (V.so x5 3 x2.length)) (n := ((x0 ++ x1).length)) (Nat.beq_refl _) (by kernel_rfl) (flatRowsOf_so' (b := x5) (e := 5) (s := 1) (p := x9) (Nat.beq_refl _) (by kernel_rfl)) (by kernel_rfl) (tbE h1))] (by kernel_rfl)
theorem slices_Concat_byte_v_GvvvLLL_L2_1_h3_go (x0 : List Int) (x1 : List Int) (x2 : List Int) (x3 : Bool) (x4 : Bool) (x5 : Bool) (x6 : Bool) (x7 : Bool) (x8 : Bool) (x9 : Bool) (x10 : Bool) (x11 : Bool) (x12 : Bool) (x13 : Bool) (s0 : slices_Concat_byte_v_GvvvLLL_L2_1_s3) : slices_Concat_byte_v_GvvvLLL_L2_1_h3_sel x0 x1 x2 s0 = true → (roundG (runC E0 (cl E0) L47_2) [6, 25, 26, 27] [6] 6) (slices_Concat_byte_v_GvvvLLL_L2_1_enc x0 x1 x2 x3 x4 x5 x6 x7 x8 x9 x10 x11 x12 x13 (.h3 s0)) = some (.normal, slices_Concat_byte_v_GvvvLLL_L2_1_enc x0 x1 x2 x3 x4 x5 x6 x7 x8 x9 x10 x11 x12 x13 (slices_Concat_byte_v_GvvvLLL_L2_1_h3_nx x0 x1 x2 s0)) := by
  unfold slices_Concat_byte_v_GvvvLLL_L2_1_h3_sel slices_Concat_byte_v_GvvvLLL_L2_1_h3_nx
  intro g0
  exact absurd g0 ft
theorem slices_Concat_byte_v_GvvvLLL_L2_1_h3_x0 (x0 : List Int) (x1 : List Int) (x2 : List Int) (x3 : Bool) (x4 : Bool) (x5 : Bool) (x6 : Bool) (x7 : Bool) (x8 : Bool) (x9 : Bool) (x10 : Bool) (x11 : Bool) (x12 : Bool) (x13 : Bool) (s0 : slices_Concat_byte_v_GvvvLLL_L2_1_s3) : slices_Concat_byte_v_GvvvLLL_L2_1_h3_sel x0 x1 x2 s0 = false → (roundG (runC E0 (cl E0) L47_2) [6, 25, 26, 27] [6] 6) (slices_Concat_byte_v_GvvvLLL_L2_1_enc x0 x1 x2 x3 x4 x5 x6 x7 x8 x9 x10 x11 x12 x13 (.h3 s0)) = some ((.exit 2), ([(V.so (x2.isEmpty && (x1.isEmpty && (x0.isEmpty && x12))) 5 (((x0 ++ x1) ++ x2).length))], [(Blk.gen 25 1 [[(V.so x3 1 x0.length)], [(V.so x4 2 x1.length)], [(V.so x5 3 x2.length)]] x6), (Blk.flat 5 1 (List.map (encI .u8) x0) x7), (Blk.flat 5 1 (List.map (encI .u8) x1) x8), (Blk.flat 5 1 (List.map (encI .u8) x2) x9), (Blk.flat 5 1 [] x10), (Blk.flat 5 1 (List.map (encI .u8) ((x0 ++ x1) ++ x2)) false)])) := by
  unfold slices_Concat_byte_v_GvvvLLL_L2_1_h3_sel
  intro g0
  exact round_walk [.k false] (by kernel_rfl)
theorem slices_Concat_byte_v_GvvvLLL_L2_1_go (x0 : List Int) (x1 : List Int) (x2 : List Int) (x3 : Bool) (x4 : Bool) (x5 : Bool) (x6 : Bool) (x7 : Bool) (x8 : Bool) (x9 : Bool) (x10 : Bool) (x11 : Bool) (x12 : Bool) (x13 : Bool) : ∀ s, slices_Concat_byte_v_GvvvLLL_L2_1_sel x0 x1 x2 s = true → (roundG (runC E0 (cl E0) L47_2) [6, 25, 26, 27] [6] 6) (slices_Concat_byte_v_GvvvLLL_L2_1_enc x0 x1 x2 x3 x4 x5 x6 x7 x8 x9 x10 x11 x12 x13 s) = some (.normal, slices_Concat_byte_v_GvvvLLL_L2_1_enc x0 x1 x2 x3 x4 x5 x6 x7 x8 x9 x10 x11 x12 x13 (slices_Concat_byte_v_GvvvLLL_L2_1_nx x0 x1 x2 s))
  | .h0 s0, h => slices_Concat_byte_v_GvvvLLL_L2_1_h0_go x0 x1 x2 x3 x4 x5 x6 x7 x8 x9 x10 x11 x12 x13 s0 h
  | .h1 s0, h => slices_Concat_byte_v_GvvvLLL_L2_1_h1_go x0 x1 x2 x3 x4 x5 x6 x7 x8 x9 x10 x11 x12 x13 s0 h
  | .h2 s0, h => slices_Concat_byte_v_GvvvLLL_L2_1_h2_go x0 x1 x2 x3 x4 x5 x6 x7 x8 x9 x10 x11 x12 x13 s0 h
  | .h3 s0, h => slices_Concat_byte_v_GvvvLLL_L2_1_h3_go x0 x1 x2 x3 x4 x5 x6 x7 x8 x9 x10 x11 x12 x13 s0 h
theorem slices_Concat_byte_v_GvvvLLL_L2_1_f3_0 (x0 : List Int) (x1 : List Int) (x2 : List Int) (x3 : Bool) (x4 : Bool) (x5 : Bool) (x6 : Bool) (x7 : Bool) (x8 : Bool) (x9 : Bool) (x10 : Bool) (x11 : Bool) (x12 : Bool) (x13 : Bool) (s : slices_Concat_byte_v_GvvvLLL_L2_1_S) (hok : slices_Concat_byte_v_GvvvLLL_L2_1_ok x0 x1 x2 s = true) (k0 : slices_Concat_byte_v_GvvvLLL_L2_1_is0 (slices_Concat_byte_v_GvvvLLL_L2_1_end x0 x1 x2 s) = false) (k1 : slices_Concat_byte_v_GvvvLLL_L2_1_is1 (slices_Concat_byte_v_GvvvLLL_L2_1_end x0 x1 x2 s) = false) (k2 : slices_Concat_byte_v_GvvvLLL_L2_1_is2 (slices_Concat_byte_v_GvvvLLL_L2_1_end x0 x1 x2 s) = false) : loopG (roundG (runC E0 (cl E0) L47_2) [6, 25, 26, 27] [6] 6) bound (slices_Concat_byte_v_GvvvLLL_L2_1_enc x0 x1 x2 x3 x4 x5 x6 x7 x8 x9 x10 x11 x12 x13 s) = some ((.exit 2), ([(V.so (x2.isEmpty && (x1.isEmpty && (x0.isEmpty && x12))) 5 (((x0 ++ x1) ++ x2).length))], [(Blk.gen 25 1 [[(V.so x3 1 x0.length)], [(V.so x4 2 x1.length)], [(V.so x5 3 x2.length)]] x6), (Blk.flat 5 1 (List.map (encI .u8) x0) x7), (Blk.flat 5 1 (List.map (encI .u8) x1) x8), (Blk.flat 5 1 (List.map (encI .u8) x2) x9), (Blk.flat 5 1 [] x10), (Blk.flat 5 1 (List.map (encI .u8) ((x0 ++ x1) ++ x2)) false)])) := by
  have e : itS (slices_Concat_byte_v_GvvvLLL_L2_1_sel x0 x1 x2) (slices_Concat_byte_v_GvvvLLL_L2_1_nx x0 x1 x2) bound s = some (slices_Concat_byte_v_GvvvLLL_L2_1_end x0 x1 x2 s) := itS_get hok
  have f := itS_false e
  have a : (slices_Concat_byte_v_GvvvLLL_L2_1_end x0 x1 x2 s) = .h3 (slices_Concat_byte_v_GvvvLLL_L2_1_get3 (slices_Concat_byte_v_GvvvLLL_L2_1_end x0 x1 x2 s)) := by
    revert k0 k1 k2
    cases (slices_Concat_byte_v_GvvvLLL_L2_1_end x0 x1 x2 s) with
    | h0 w => intros; contradiction
    | h1 w => intros; contradiction
    | h2 w => intros; contradiction
    | h3 w => intros; rfl
  have g := slices_Concat_byte_v_GvvvLLL_L2_1_h3_x0 x0 x1 x2 x3 x4 x5 x6 x7 x8 x9 x10 x11 x12 x13 (slices_Concat_byte_v_GvvvLLL_L2_1_get3 (slices_Concat_byte_v_GvvvLLL_L2_1_end x0 x1 x2 s)) (by rw [a] at f; exact f)
  exact loop_it (slices_Concat_byte_v_GvvvLLL_L2_1_go x0 x1 x2 x3 x4 x5 x6 x7 x8 x9 x10 x11 x12 x13) bound s _ _ _ e (fun h => by cases h) (by rw [a]; exact g)
def slices_Concat_byte_v_GvvvLLL_e0 (x0 : List Int) (x1 : List Int) (x2 : List Int) : Bool := (Nat.beq ((slices_Concat_byte_v_GvvvLLL_L0_1_h2_e0 x0 x1 x2) : Int).toNat 0)
def slices_Concat_byte_v_GvvvLLL_e1 (x0 : List Int) (x1 : List Int) (x2 : List Int) : slices_Concat_byte_v_GvvvLLL_L2_1_S := slices_Concat_byte_v_GvvvLLL_L2_1_end x0 x1 x2 (.h0 ⟨⟩ : slices_Concat_byte_v_GvvvLLL_L2_1_S)
def slices_Concat_byte_v_GvvvLLL_c0 (x0 : List Int) (x1 : List Int) (x2 : List Int) : Bool := (bif tb (slices_Concat_byte_v_GvvvLLL_S1_c0 x0 x1 x2) then (bif tb (slices_Grow_byte_ni_c0 (slices_Concat_byte_v_GvvvLLL_L0_1_h2_e0 x0 x1 x2)) then (bif tb (slices_Concat_byte_v_GvvvLLL_L2_1_ok x0 x1 x2 (.h0 ⟨⟩ : slices_Concat_byte_v_GvvvLLL_L2_1_S)) then (bif tb (slices_Concat_byte_v_GvvvLLL_L2_1_is0 (slices_Concat_byte_v_GvvvLLL_e1 x0 x1 x2)) then false else (bif tb (slices_Concat_byte_v_GvvvLLL_L2_1_is1 (slices_Concat_byte_v_GvvvLLL_e1 x0 x1 x2)) then false else (bif tb (slices_Concat_byte_v_GvvvLLL_L2_1_is2 (slices_Concat_byte_v_GvvvLLL_e1 x0 x1 x2)) then false else true))) else false) else false) else false)
theorem slices_Concat_byte_v_GvvvLLL_t0 (x0 : List Int) (x1 : List Int) (x2 : List Int) (x3 : Bool) (x4 : Bool) (x5 : Bool) (x6 : Bool) (x7 : Bool) (x8 : Bool) (x9 : Bool) (x10 : Bool) : slices_Concat_byte_v_GvvvLLL_c0 x0 x1 x2 = true → cl E0 47 [(V.so x10 0 3)] [(Blk.gen 25 1 [[(V.so x3 1 x0.length)], [(V.so x4 2 x1.length)], [(V.so x5 3 x2.length)]] x6), (Blk.flat 5 1 (List.map (encI .u8) x0) x7), (Blk.flat 5 1 (List.map (encI .u8) x1) x8), (Blk.flat 5 1 (List.map (encI .u8) x2) x9)] = some ([(V.so (x2.isEmpty && (x1.isEmpty && (x0.isEmpty && (slices_Concat_byte_v_GvvvLLL_e0 x0 x1 x2)))) 4 (((x0 ++ x1) ++ x2).length))], [(Blk.gen 25 1 [[(V.so x3 1 x0.length)], [(V.so x4 2 x1.length)], [(V.so x5 3 x2.length)]] x6), (Blk.flat 5 1 (List.map (encI .u8) x0) x7), (Blk.flat 5 1 (List.map (encI .u8) x1) x8), (Blk.flat 5 1 (List.map (encI .u8) x2) x9), (Blk.flat 5 1 (List.map (encI .u8) ((x0 ++ x1) ++ x2)) false)]) := by
  unfold slices_Concat_byte_v_GvvvLLL_c0
  cases h1 : tb (slices_Concat_byte_v_GvvvLLL_S1_c0 x0 x1 x2)
  · intro g0
    exact absurd g0 ft
  · cases h2 : tb (slices_Grow_byte_ni_c0 (slices_Concat_byte_v_GvvvLLL_L0_1_h2_e0 x0 x1 x2))
    · intro g0
      exact absurd g0 ft
    · cases h3 : tb (slices_Concat_byte_v_GvvvLLL_L2_1_ok x0 x1 x2 (.h0 ⟨⟩ : slices_Concat_byte_v_GvvvLLL_L2_1_S))
      · intro g0
        exact absurd g0 ft
      · cases h4 : tb (slices_Concat_byte_v_GvvvLLL_L2_1_is0 (slices_Concat_byte_v_GvvvLLL_e1 x0 x1 x2))
        · cases h5 : tb (slices_Concat_byte_v_GvvvLLL_L2_1_is1 (slices_Concat_byte_v_GvvvLLL_e1 x0 x1 x2))
          · cases h6 : tb (slices_Concat_byte_v_GvvvLLL_L2_1_is2 (slices_Concat_byte_v_GvvvLLL_e1 x0 x1 x2))
            · intro g0
              exact w47 [.s (slices_Concat_byte_v_GvvvLLL_S1_t0 x0 x1 x2 x3 x4 x5 x6 x7 x8 x9 false x10 (tbE h1)), .c (slices_Grow_byte_ni_t0 (slices_Concat_byte_v_GvvvLLL_L0_1_h2_e0 x0 x1 x2) (tbE h2)), .l (slices_Concat_byte_v_GvvvLLL_L2_1_f3_0 x0 x1 x2 x3 x4 x5 x6 x7 x8 x9 false false (slices_Concat_byte_v_GvvvLLL_e0 x0 x1 x2) x10 (.h0 ⟨⟩ : slices_Concat_byte_v_GvvvLLL_L2_1_S) (tbE h3) (tbE h4) (tbE h5) (tbE h6))] (by kernel_rfl)
            · intro g0
              exact absurd g0 ft
          · intro g0
            exact absurd g0 ft
        · intro g0
          exact absurd g0 ft
def slices_Clone_byte_o_c0 (x0 : Bool) (x1 : List Int) : Bool := (bif tb (false != (x0 && x1.isEmpty)) then true else (bif tb (decide ((([] : List Int).length + x1.length) * 1 ≤ 140737488355328)) then true else false))
def slices_Clone_byte_o_r0_0 (x0 : Bool) (x1 : List Int) : Bool := (bif tb (false != (x0 && x1.isEmpty)) then true else false)
def slices_Clone_byte_o_r0_1 (x0 : Bool) (x1 : List Int) : List Int := (bif tb (false != (x0 && x1.isEmpty)) then ([] : List Int) else x1)
theorem slices_Clone_byte_o_t0 (x0 : Bool) (x1 : List Int) : slices_Clone_byte_o_c0 x0 x1 = true → cl E0 75 [(V.d (slD (encI .u8) true 1 x0 x1))] [] = some ([(V.so (slices_Clone_byte_o_r0_0 x0 x1) 0 ((slices_Clone_byte_o_r0_1 x0 x1).length))], [(Blk.flat 5 1 (List.map (encI .u8) (slices_Clone_byte_o_r0_1 x0 x1)) false)]) := by
  unfold slices_Clone_byte_o_c0 slices_Clone_byte_o_r0_0 slices_Clone_byte_o_r0_1
  cases h1 : tb (false != (x0 && x1.isEmpty))
  · cases h2 : tb (decide ((([] : List Int).length + x1.length) * 1 ≤ 140737488355328))
    · intro g0
      exact absurd g0 ft
    · intro g0
      exact w75 [.o 4 (fun _ => o_nil_os (enc := (encI .u8)) (l := x1) (fl := true) (n := x0) (s := 1) (neg := false)), .b (tbE h1), .m 7 (o_app_sf (m := [(Blk.flat 5 1 [] false), (Blk.flat 5 1 [] false)]) (enc := (encI .u8)) (l0 := ([] : List Int)) (l1 := x1) (id := 1) (e := 5) (s := 1) (bytes := 1) (x := (V.d (slD (encI .u8) true 1 x0 x1))) (n := 0) (by kernel_rfl) (by kernel_rfl) flatRowsOf_os sizeOk_os (tbE h2))] (by kernel_rfl)
  · intro g0
    exact w75 [.o 4 (fun _ => o_nil_os (enc := (encI .u8)) (l := x1) (fl := true) (n := x0) (s := 1) (neg := false)), .b (tbE h1)] (by kernel_rfl)
structure slices_Equal_byte_oo_L0_s0 where
  c5 : Int
  deriving Inhabited
def slices_Equal_byte_oo_L0_enc (x0 : Bool) (x1 : List Int) (x2 : Bool) (x3 : List Int) (x4 : Int) (x5 : Int) (s0 : slices_Equal_byte_oo_L0_s0) : List V × Mem := ([(V.d (slD (encI .u8) true 1 x0 x1)), (V.d (slD (encI .u8) true 1 x2 x3)), (V.d (.int .i64 x4)), (V.d (.int .i64 s0.c5))], [])
def slices_Equal_byte_oo_L0_sel (x1 : List Int) (x3 : List Int) (x4 : Int) (s0 : slices_Equal_byte_oo_L0_s0) : Bool := (bif tb (decide (s0.c5 < x4)) then (bif tb (inb x1.length s0.c5) then (bif tb (inb x3.length s0.c5) then (bif tb (((gt x1 s0.c5) : Int) != (gt x3 s0.c5)) then false else true) else false) else false) else false)
def slices_Equal_byte_oo_L0_nx (x1 : List Int) (x3 : List Int) (x4 : Int) (s0 : slices_Equal_byte_oo_L0_s0) : slices_Equal_byte_oo_L0_s0 := ⟨(wi (s0.c5 + 1))⟩
def slices_Equal_byte_oo_L0_ok (x1 : List Int) (x3 : List Int) (x4 : Int) (s0 : slices_Equal_byte_oo_L0_s0) : Bool := (itS (slices_Equal_byte_oo_L0_sel x1 x3 x4) (slices_Equal_byte_oo_L0_nx x1 x3 x4) bound s0).isSome
def slices_Equal_byte_oo_L0_end (x1 : List Int) (x3 : List Int) (x4 : Int) (s0 : slices_Equal_byte_oo_L0_s0) : slices_Equal_byte_oo_L0_s0 := (itS (slices_Equal_byte_oo_L0_sel x1 x3 x4) (slices_Equal_byte_oo_L0_nx x1 x3 x4) bound s0).getD default
theorem slices_Equal_byte_oo_L0_go (x0 : Bool) (x1 : List Int) (x2 : Bool) (x3 : List Int) (x4 : Int) (x5 : Int) (s0 : slices_Equal_byte_oo_L0_s0) : slices_Equal_byte_oo_L0_sel x1 x3 x4 s0 = true → (roundG (runC E0 (cl E0) L79_0) [0, 1, 12, 13] [4] 0) (slices_Equal_byte_oo_L0_enc x0 x1 x2 x3 x4 x5 s0) = some (.normal, slices_Equal_byte_oo_L0_enc x0 x1 x2 x3 x4 x5 (slices_Equal_byte_oo_L0_nx x1 x3 x4 s0)) := by
  unfold slices_Equal_byte_oo_L0_sel slices_Equal_byte_oo_L0_nx
  cases h1 : tb (decide (s0.c5 < x4))
  · intro g0
    exact absurd g0 ft
  · cases h2 : tb (inb x1.length s0.c5)
    · intro g0
      exact absurd g0 ft
    · cases h3 : tb (inb x3.length s0.c5)
      · intro g0
        exact absurd g0 ft
      · cases h4 : tb (((gt x1 s0.c5) : Int) != (gt x3 s0.c5))
        · intro _
          exact round_walk [.b (tbE h1), .o 18 (fun _ => o_idx_os (enc := (encI .u8)) (l := x1) (fl := true) (n := x0) (s := 1) (k := .i64) (tbE h2)), .o 22 (fun _ => o_idx_os (enc := (encI .u8)) (l := x3) (fl := true) (n := x2) (s := 1) (k := .i64) (tbE h3)), .b (tbE h4)] (by kernel_rfl)
        · intro g0
          exact absurd g0 ft
def slices_Equal_byte_oo_L0_c0 (x1 : List Int) (x3 : List Int) (x4 : Int) (s0 : slices_Equal_byte_oo_L0_s0) : Bool := (bif tb (decide (s0.c5 < x4)) then (bif tb (inb x1.length s0.c5) then (bif tb (inb x3.length s0.c5) then true else false) else false) else false)
def slices_Equal_byte_oo_L0_c1 (x4 : Int) (s0 : slices_Equal_byte_oo_L0_s0) : Bool := (bif tb (decide (s0.c5 < x4)) then false else true)
theorem slices_Equal_byte_oo_L0_x0 (x0 : Bool) (x1 : List Int) (x2 : Bool) (x3 : List Int) (x4 : Int) (x5 : Int) (s0 : slices_Equal_byte_oo_L0_s0) : slices_Equal_byte_oo_L0_sel x1 x3 x4 s0 = false → slices_Equal_byte_oo_L0_c0 x1 x3 x4 s0 = true → (roundG (runC E0 (cl E0) L79_0) [0, 1, 12, 13] [4] 0) (slices_Equal_byte_oo_L0_enc x0 x1 x2 x3 x4 x5 s0) = some (.ret, ([(V.d (.bool false))], [])) := by
  unfold slices_Equal_byte_oo_L0_sel slices_Equal_byte_oo_L0_c0
  cases h1 : tb (decide (s0.c5 < x4))
  · intro g0 g1
    exact absurd g1 ft
  · cases h2 : tb (inb x1.length s0.c5)
    · intro g0 g1
      exact absurd g1 ft
    · cases h3 : tb (inb x3.length s0.c5)
      · intro g0 g1
        exact absurd g1 ft
      · cases h4 : tb (((gt x1 s0.c5) : Int) != (gt x3 s0.c5))
        · intro g0 g1
          exact absurd g0 tf
        · intro g0 g1
          exact round_walk [.b (tbE h1), .o 18 (fun _ => o_idx_os (enc := (encI .u8)) (l := x1) (fl := true) (n := x0) (s := 1) (k := .i64) (tbE h2)), .o 22 (fun _ => o_idx_os (enc := (encI .u8)) (l := x3) (fl := true) (n := x2) (s := 1) (k := .i64) (tbE h3)), .b (tbE h4)] (by kernel_rfl)
theorem slices_Equal_byte_oo_L0_x1 (x0 : Bool) (x1 : List Int) (x2 : Bool) (x3 : List Int) (x4 : Int) (x5 : Int) (s0 : slices_Equal_byte_oo_L0_s0) : slices_Equal_byte_oo_L0_sel x1 x3 x4 s0 = false → slices_Equal_byte_oo_L0_c0 x1 x3 x4 s0 = false → slices_Equal_byte_oo_L0_c1 x4 s0 = true → (roundG (runC E0 (cl E0) L79_0) [0, 1, 12, 13] [4] 0) (slices_Equal_byte_oo_L0_enc x0 x1 x2 x3 x4 x5 s0) = some ((.exit 0), ([V.un], [])) := by
  unfold slices_Equal_byte_oo_L0_sel slices_Equal_byte_oo_L0_c0 slices_Equal_byte_oo_L0_c1
  cases h1 : tb (decide (s0.c5 < x4))
  · intro g0 g1 g2
    exact round_walk [.b (tbE h1)] (by kernel_rfl)
  · cases h2 : tb (inb x1.length s0.c5)
    · intro g0 g1 g2
      exact absurd g2 ft
    · cases h3 : tb (inb x3.length s0.c5)
      · intro g0 g1 g2
        exact absurd g2 ft
      · cases h4 : tb (((gt x1 s0.c5) : Int) != (gt x3 s0.c5))
        · intro g0 g1 g2
          exact absurd g0 tf
        · intro g0 g1 g2
          exact absurd g1 tf
theorem slices_Equal_byte_oo_L0_f0_0 (x0 : Bool) (x1 : List Int) (x2 : Bool) (x3 : List Int) (x4 : Int) (x5 : Int) (s : slices_Equal_byte_oo_L0_s0) (hok : slices_Equal_byte_oo_L0_ok x1 x3 x4 s = true) (c0 : slices_Equal_byte_oo_L0_c0 x1 x3 x4 (slices_Equal_byte_oo_L0_end x1 x3 x4 s) = true) : loopG (roundG (runC E0 (cl E0) L79_0) [0, 1, 12, 13] [4] 0) bound (slices_Equal_byte_oo_L0_enc x0 x1 x2 x3 x4 x5 s) = some (.ret, ([(V.d (.bool false))], [])) := by
  have e : itS (slices_Equal_byte_oo_L0_sel x1 x3 x4) (slices_Equal_byte_oo_L0_nx x1 x3 x4) bound s = some (slices_Equal_byte_oo_L0_end x1 x3 x4 s) := itS_get hok
  have f := itS_false e
  exact loop_it (slices_Equal_byte_oo_L0_go x0 x1 x2 x3 x4 x5) bound s _ _ _ e (fun h => by cases h) (slices_Equal_byte_oo_L0_x0 x0 x1 x2 x3 x4 x5 (slices_Equal_byte_oo_L0_end x1 x3 x4 s) f c0)
theorem slices_Equal_byte_oo_L0_f0_1 (x0 : Bool) (x1 : List Int) (x2 : Bool) (x3 : List Int) (x4 : Int) (x5 : Int) (s : slices_Equal_byte_oo_L0_s0) (hok : slices_Equal_byte_oo_L0_ok x1 x3 x4 s = true) (c0 : slices_Equal_byte_oo_L0_c0 x1 x3 x4 (slices_Equal_byte_oo_L0_end x1 x3 x4 s) = false) (c1 : slices_Equal_byte_oo_L0_c1 x4 (slices_Equal_byte_oo_L0_end x1 x3 x4 s) = true) : loopG (roundG (runC E0 (cl E0) L79_0) [0, 1, 12, 13] [4] 0) bound (slices_Equal_byte_oo_L0_enc x0 x1 x2 x3 x4 x5 s) = some ((.exit 0), ([V.un], [])) := by
  have e : itS (slices_Equal_byte_oo_L0_sel x1 x3 x4) (slices_Equal_byte_oo_L0_nx x1 x3 x4) bound s = some (slices_Equal_byte_oo_L0_end x1 x3 x4 s) := itS_get hok
  have f := itS_false e
  exact loop_it (slices_Equal_byte_oo_L0_go x0 x1 x2 x3 x4 x5) bound s _ _ _ e (fun h => by cases h) (slices_Equal_byte_oo_L0_x1 x0 x1 x2 x3 x4 x5 (slices_Equal_byte_oo_L0_end x1 x3 x4 s) f c0 c1)
def slices_Equal_byte_oo_e0 (x1 : List Int) (x3 : List Int) : slices_Equal_byte_oo_L0_s0 := slices_Equal_byte_oo_L0_end x1 x3 ((x1.length : Nat) : Int) (⟨0⟩ : slices_Equal_byte_oo_L0_s0)
def slices_Equal_byte_oo_c0 (x1 : List Int) (x3 : List Int) : Bool := (bif tb ((((x1.length : Nat) : Int) : Int) != ((x3.length : Nat) : Int)) then true else (bif tb (slices_Equal_byte_oo_L0_ok x1 x3 ((x1.length : Nat) : Int) (⟨0⟩ : slices_Equal_byte_oo_L0_s0)) then (bif tb (slices_Equal_byte_oo_L0_c0 x1 x3 ((x1.length : Nat) : Int) (slices_Equal_byte_oo_e0 x1 x3)) then true else (bif tb (slices_Equal_byte_oo_L0_c1 ((x1.length : Nat) : Int) (slices_Equal_byte_oo_e0 x1 x3)) then true else false)) else false))
def slices_Equal_byte_oo_r0_0 (x1 : List Int) (x3 : List Int) : Bool := (bif tb ((((x1.length : Nat) : Int) : Int) != ((x3.length : Nat) : Int)) then false else (bif tb (slices_Equal_byte_oo_L0_c0 x1 x3 ((x1.length : Nat) : Int) (slices_Equal_byte_oo_e0 x1 x3)) then false else true))
theorem slices_Equal_byte_oo_t0 (x0 : Bool) (x1 : List Int) (x2 : Bool) (x3 : List Int) : slices_Equal_byte_oo_c0 x1 x3 = true → cl E0 79 [(V.d (slD (encI .u8) true 1 x0 x1)), (V.d (slD (encI .u8) true 1 x2 x3))] [] = some ([(V.d (.bool (slices_Equal_byte_oo_r0_0 x1 x3)))], []) := by
  unfold slices_Equal_byte_oo_c0 slices_Equal_byte_oo_r0_0
  cases h1 : tb ((((x1.length : Nat) : Int) : Int) != ((x3.length : Nat) : Int))
  · cases h2 : tb (slices_Equal_byte_oo_L0_ok x1 x3 ((x1.length : Nat) : Int) (⟨0⟩ : slices_Equal_byte_oo_L0_s0))
    · intro g0
      exact absurd g0 ft
    · cases h3 : tb (slices_Equal_byte_oo_L0_c0 x1 x3 ((x1.length : Nat) : Int) (slices_Equal_byte_oo_e0 x1 x3))
      · cases h4 : tb (slices_Equal_byte_oo_L0_c1 ((x1.length : Nat) : Int) (slices_Equal_byte_oo_e0 x1 x3))
        · intro g0
          exact absurd g0 ft
        · intro g0
          exact w79 [.o 7 (fun _ => o_len_os (enc := (encI .u8)) (l := x1) (fl := true) (n := x0) (s := 1)), .o 9 (fun _ => o_len_os (enc := (encI .u8)) (l := x3) (fl := true) (n := x2) (s := 1)), .b (tbE h1), .o 12 (fun _ => o_len_os (enc := (encI .u8)) (l := x1) (fl := true) (n := x0) (s := 1)), .l (slices_Equal_byte_oo_L0_f0_1 x0 x1 x2 x3 ((x1.length : Nat) : Int) 0 (⟨0⟩ : slices_Equal_byte_oo_L0_s0) (tbE h2) (tbE h3) (tbE h4))] (by kernel_rfl)
      · intro g0
        exact w79 [.o 7 (fun _ => o_len_os (enc := (encI .u8)) (l := x1) (fl := true) (n := x0) (s := 1)), .o 9 (fun _ => o_len_os (enc := (encI .u8)) (l := x3) (fl := true) (n := x2) (s := 1)), .b (tbE h1), .o 12 (fun _ => o_len_os (enc := (encI .u8)) (l := x1) (fl := true) (n := x0) (s := 1)), .l (slices_Equal_byte_oo_L0_f0_0 x0 x1 x2 x3 ((x1.length : Nat) : Int) 0 (⟨0⟩ : slices_Equal_byte_oo_L0_s0) (tbE h2) (tbE h3))] (by kernel_rfl)
  · intro g0
    exact w79 [.o 7 (fun _ => o_len_os (enc := (encI .u8)) (l := x1) (fl := true) (n := x0) (s := 1)), .o 9 (fun _ => o_len_os (enc := (encI .u8)) (l := x3) (fl := true) (n := x2) (s := 1)), .b (tbE h1)] (by kernel_rfl)
end Go.Proofs.YtkipngagfiaddaaDoor.Den

namespace Go.Proofs.YtkipngagfiaddaaDoor.Den
open Go Go.Proofs
set_option maxRecDepth 100000
set_option maxHeartbeats 4000000
set_option linter.unusedVariables false
set_option linter.unusedSimpArgs false
def crc_More_io_S0_c0 (x0 : Int) : Bool := (bif tb (decide (x0 < 0)) then true else (bif tb (decide (65535 < x0)) then true else false))
theorem crc_More_io_S0_t0 (x0 : Int) (x1 : Bool) (x2 : Bool) (x3 : List Int) : crc_More_io_S0_c0 x0 = true → segG (runC E0 (cl E0) S90_0) [1, 2] [4] [1, 2] 1 ([(V.d (slD (encI .u8) true 1 x2 x3)), (V.ptr 0 1 0 0)], [(Blk.flat 3 1 [[(.int .i64 x0)]] x1)]) = some (.ret, ([(V.d (.int .i64 0))], [(Blk.flat 3 1 [[(.int .i64 x0)]] x1)])) := by
  unfold crc_More_io_S0_c0
  cases h1 : tb (decide (x0 < 0))
  · cases h2 : tb (decide (65535 < x0))
    · intro g0
      exact absurd g0 ft
    · intro g0
      exact seg_walk [.b (tbE h1), .b (tbE h2)] (by kernel_rfl)
  · intro g0
    exact seg_walk [.b (tbE h1)] (by kernel_rfl)
theorem crc_More_io_S0_t1 (x0 : Int) (x1 : Bool) (x2 : Bool) (x3 : List Int) : crc_More_io_S0_c0 x0 = false → segG (runC E0 (cl E0) S90_0) [1, 2] [4] [1, 2] 1 ([(V.d (slD (encI .u8) true 1 x2 x3)), (V.ptr 0 1 0 0)], [(Blk.flat 3 1 [[(.int .i64 x0)]] x1)]) = some (.normal, ([(V.d (slD (encI .u8) true 1 x2 x3)), (V.ptr 0 1 0 0)], [(Blk.flat 3 1 [[(.int .i64 x0)]] x1)])) := by
  unfold crc_More_io_S0_c0
  cases h1 : tb (decide (x0 < 0))
  · cases h2 : tb (decide (65535 < x0))
    · intro g0
      exact seg_walk [.b (tbE h1), .b (tbE h2)] (by kernel_rfl)
    · intro g0
      exact absurd g0 tf
  · intro g0
    exact absurd g0 tf
def crc_More_c1_p_Fi_r0_0 (x0 : Int) : Int := (bif tb (((andI .i64 x0 32768) : Int) != 0) then (xorI .i64 (andI .i64 (shlI .i64 x0 1) 65535) 4129) else (andI .i64 (shlI .i64 x0 1) 65535))
theorem crc_More_c1_p_Fi_t0 (x0 : Int) : cl E0 96 [(V.ptr 0 1 0 0)] [(Blk.flat 3 1 [[(.int .i64 x0)]] false)] = some ([], [(Blk.flat 3 1 [[(.int .i64 (crc_More_c1_p_Fi_r0_0 x0))]] false)]) := by
  unfold crc_More_c1_p_Fi_r0_0
  cases h1 : tb (((andI .i64 x0 32768) : Int) != 0)
  · exact w96 [.o 6 (fun _ => o_shl (k := .i64) (k2 := .u64) (x := x0) (y := 1) rfl), .b (tbE h1)] (by kernel_rfl)
  · exact w96 [.o 6 (fun _ => o_shl (k := .i64) (k2 := .u64) (x := x0) (y := 1) rfl), .b (tbE h1)] (by kernel_rfl)
structure crc_More_io_L1_s0 where
  c4 : Int
  c5 : Int
  deriving Inhabited
def crc_More_io_L1_enc (x0 : Int) (x1 : Bool) (x2 : Bool) (x3 : List Int) (x4 : Int) (x5 : Int) (x6 : Int) (s0 : crc_More_io_L1_s0) : List V × Mem := ([(V.ptr 0 1 0 0), (V.fn (.func 96) [] [(V.ptr 0 1 0 0)]), (V.d (slD (encI .u8) true 1 x2 x3)), (V.d (.int .i64 x4)), (V.d (.int .i64 x5)), (V.d (.int .i64 s0.c4))], [(Blk.flat 3 1 [[(.int .i64 s0.c5)]] false)])
def crc_More_io_L1_sel  (s0 : crc_More_io_L1_s0) : Bool := (bif tb (decide (s0.c4 < 8)) then true else false)
def crc_More_io_L1_nx  (s0 : crc_More_io_L1_s0) : crc_More_io_L1_s0 := ⟨(wi (s0.c4 + 1)), (crc_More_c1_p_Fi_r0_0 s0.c5)⟩
def crc_More_io_L1_ok  (s0 : crc_More_io_L1_s0) : Bool := (itS (crc_More_io_L1_sel ) (crc_More_io_L1_nx ) bound s0).isSome
def crc_More_io_L1_end  (s0 : crc_More_io_L1_s0) : crc_More_io_L1_s0 := (itS (crc_More_io_L1_sel ) (crc_More_io_L1_nx ) bound s0).getD default
theorem crc_More_io_L1_go (x0 : Int) (x1 : Bool) (x2 : Bool) (x3 : List Int) (x4 : Int) (x5 : Int) (x6 : Int) (s0 : crc_More_io_L1_s0) : crc_More_io_L1_sel  s0 = true → (roundG (runC E0 (cl E0) L90_1) [2, 5, 15, 16, 17, 26] [2, 5, 15, 16, 17] 1) (crc_More_io_L1_enc x0 x1 x2 x3 x4 x5 x6 s0) = some (.normal, crc_More_io_L1_enc x0 x1 x2 x3 x4 x5 x6 (crc_More_io_L1_nx  s0)) := by
  unfold crc_More_io_L1_sel crc_More_io_L1_nx
  cases h1 : tb (decide (s0.c4 < 8))
  · intro g0
    exact absurd g0 ft
  · intro _
    exact round_walk [.b (tbE h1), .c (crc_More_c1_p_Fi_t0 s0.c5)] (by kernel_rfl)
theorem crc_More_io_L1_x0 (x0 : Int) (x1 : Bool) (x2 : Bool) (x3 : List Int) (x4 : Int) (x5 : Int) (x6 : Int) (s0 : crc_More_io_L1_s0) : crc_More_io_L1_sel  s0 = false → (roundG (runC E0 (cl E0) L90_1) [2, 5, 15, 16, 17, 26] [2, 5, 15, 16, 17] 1) (crc_More_io_L1_enc x0 x1 x2 x3 x4 x5 x6 s0) = some ((.exit 2), ([(V.ptr 0 1 0 0), (V.fn (.func 96) [] [(V.ptr 0 1 0 0)]), (V.d (slD (encI .u8) true 1 x2 x3)), (V.d (.int .i64 x4)), (V.d (.int .i64 x5))], [(Blk.flat 3 1 [[(.int .i64 s0.c5)]] false)])) := by
  unfold crc_More_io_L1_sel
  cases h1 : tb (decide (s0.c4 < 8))
  · intro g0
    exact round_walk [.b (tbE h1)] (by kernel_rfl)
  · intro g0
    exact absurd g0 tf
theorem crc_More_io_L1_f0_0 (x0 : Int) (x1 : Bool) (x2 : Bool) (x3 : List Int) (x4 : Int) (x5 : Int) (x6 : Int) (s : crc_More_io_L1_s0) (hok : crc_More_io_L1_ok  s = true) : loopG (roundG (runC E0 (cl E0) L90_1) [2, 5, 15, 16, 17, 26] [2, 5, 15, 16, 17] 1) bound (crc_More_io_L1_enc x0 x1 x2 x3 x4 x5 x6 s) = some ((.exit 2), ([(V.ptr 0 1 0 0), (V.fn (.func 96) [] [(V.ptr 0 1 0 0)]), (V.d (slD (encI .u8) true 1 x2 x3)), (V.d (.int .i64 x4)), (V.d (.int .i64 x5))], [(Blk.flat 3 1 [[(.int .i64 ((crc_More_io_L1_end  s).c5))]] false)])) := by
  have e : itS (crc_More_io_L1_sel ) (crc_More_io_L1_nx ) bound s = some (crc_More_io_L1_end  s) := itS_get hok
  have f := itS_false e
  exact loop_it (crc_More_io_L1_go x0 x1 x2 x3 x4 x5 x6) bound s _ _ _ e (fun h => by cases h) (crc_More_io_L1_x0 x0 x1 x2 x3 x4 x5 x6 (crc_More_io_L1_end  s) f )
structure crc_More_io_L2_s0 where
  c3 : Int
  c4 : Int
  deriving Inhabited
def crc_More_io_L2_h0_e0 (x3 : List Int) (s0 : crc_More_io_L2_s0) : crc_More_io_L1_s0 := crc_More_io_L1_end  (⟨0, (xorI .i64 s0.c4 (shlI .i64 (wi (gt x3 s0.c3)) 8))⟩ : crc_More_io_L1_s0)
def crc_More_io_L2_enc (x0 : Int) (x1 : Bool) (x2 : Bool) (x3 : List Int) (x4 : Int) (x5 : Int) (s0 : crc_More_io_L2_s0) : List V × Mem := ([(V.ptr 0 1 0 0), (V.fn (.func 96) [] [(V.ptr 0 1 0 0)]), (V.d (slD (encI .u8) true 1 x2 x3)), (V.d (.int .i64 x4)), (V.d (.int .i64 s0.c3))], [(Blk.flat 3 1 [[(.int .i64 s0.c4)]] false)])
def crc_More_io_L2_sel (x3 : List Int) (x4 : Int) (s0 : crc_More_io_L2_s0) : Bool := (bif tb (decide (s0.c3 < x4)) then (bif tb (inb x3.length s0.c3) then (bif tb (crc_More_io_L1_ok  (⟨0, (xorI .i64 s0.c4 (shlI .i64 (wi (gt x3 s0.c3)) 8))⟩ : crc_More_io_L1_s0)) then true else false) else false) else false)
def crc_More_io_L2_nx (x3 : List Int) (x4 : Int) (s0 : crc_More_io_L2_s0) : crc_More_io_L2_s0 := ⟨(wi (s0.c3 + 1)), ((crc_More_io_L2_h0_e0 x3 s0).c5)⟩
def crc_More_io_L2_ok (x3 : List Int) (x4 : Int) (s0 : crc_More_io_L2_s0) : Bool := (itS (crc_More_io_L2_sel x3 x4) (crc_More_io_L2_nx x3 x4) bound s0).isSome
def crc_More_io_L2_end (x3 : List Int) (x4 : Int) (s0 : crc_More_io_L2_s0) : crc_More_io_L2_s0 := (itS (crc_More_io_L2_sel x3 x4) (crc_More_io_L2_nx x3 x4) bound s0).getD default
theorem crc_More_io_L2_go (x0 : Int) (x1 : Bool) (x2 : Bool) (x3 : List Int) (x4 : Int) (x5 : Int) (s0 : crc_More_io_L2_s0) : crc_More_io_L2_sel x3 x4 s0 = true → (roundG (runC E0 (cl E0) L90_2) [2, 5, 15, 16, 17] [2] 1) (crc_More_io_L2_enc x0 x1 x2 x3 x4 x5 s0) = some (.normal, crc_More_io_L2_enc x0 x1 x2 x3 x4 x5 (crc_More_io_L2_nx x3 x4 s0)) := by
  unfold crc_More_io_L2_sel crc_More_io_L2_nx
  cases h1 : tb (decide (s0.c3 < x4))
  · intro g0
    exact absurd g0 ft
  · cases h2 : tb (inb x3.length s0.c3)
    · intro g0
      exact absurd g0 ft
    · cases h3 : tb (crc_More_io_L1_ok  (⟨0, (xorI .i64 s0.c4 (shlI .i64 (wi (gt x3 s0.c3)) 8))⟩ : crc_More_io_L1_s0))
      · intro g0
        exact absurd g0 ft
      · intro _
        exact round_walk [.b (tbE h1), .o 19 (fun _ => o_idx_os (enc := (encI .u8)) (l := x3) (fl := true) (n := x2) (s := 1) (k := .i64) (tbE h2)), .o 24 (fun _ => o_shl (k := .i64) (k2 := .u64) (x := (wi (gt x3 s0.c3))) (y := 8) rfl), .l (crc_More_io_L1_f0_0 (xorI .i64 s0.c4 (shlI .i64 (wi (gt x3 s0.c3)) 8)) false x2 x3 x4 s0.c3 0 (⟨0, (xorI .i64 s0.c4 (shlI .i64 (wi (gt x3 s0.c3)) 8))⟩ : crc_More_io_L1_s0) (tbE h3))] (by kernel_rfl)
def crc_More_io_L2_c0 (x4 : Int) (s0 : crc_More_io_L2_s0) : Bool := (bif tb (decide (s0.c3 < x4)) then false else true)
theorem crc_More_io_L2_x0 (x0 : Int) (x1 : Bool) (x2 : Bool) (x3 : List Int) (x4 : Int) (x5 : Int) (s0 : crc_More_io_L2_s0) : crc_More_io_L2_sel x3 x4 s0 = false → crc_More_io_L2_c0 x4 s0 = true → (roundG (runC E0 (cl E0) L90_2) [2, 5, 15, 16, 17] [2] 1) (crc_More_io_L2_enc x0 x1 x2 x3 x4 x5 s0) = some ((.exit 0), ([(V.ptr 0 1 0 0)], [(Blk.flat 3 1 [[(.int .i64 s0.c4)]] false)])) := by
  unfold crc_More_io_L2_sel crc_More_io_L2_c0
  cases h1 : tb (decide (s0.c3 < x4))
  · intro g0 g1
    exact round_walk [.b (tbE h1)] (by kernel_rfl)
  · cases h2 : tb (inb x3.length s0.c3)
    · intro g0 g1
      exact absurd g1 ft
    · cases h3 : tb (crc_More_io_L1_ok  (⟨0, (xorI .i64 s0.c4 (shlI .i64 (wi (gt x3 s0.c3)) 8))⟩ : crc_More_io_L1_s0))
      · intro g0 g1
        exact absurd g1 ft
      · intro g0 g1
        exact absurd g0 tf
theorem crc_More_io_L2_f0_0 (x0 : Int) (x1 : Bool) (x2 : Bool) (x3 : List Int) (x4 : Int) (x5 : Int) (s : crc_More_io_L2_s0) (hok : crc_More_io_L2_ok x3 x4 s = true) (c0 : crc_More_io_L2_c0 x4 (crc_More_io_L2_end x3 x4 s) = true) : loopG (roundG (runC E0 (cl E0) L90_2) [2, 5, 15, 16, 17] [2] 1) bound (crc_More_io_L2_enc x0 x1 x2 x3 x4 x5 s) = some ((.exit 0), ([(V.ptr 0 1 0 0)], [(Blk.flat 3 1 [[(.int .i64 ((crc_More_io_L2_end x3 x4 s).c4))]] false)])) := by
  have e : itS (crc_More_io_L2_sel x3 x4) (crc_More_io_L2_nx x3 x4) bound s = some (crc_More_io_L2_end x3 x4 s) := itS_get hok
  have f := itS_false e
  exact loop_it (crc_More_io_L2_go x0 x1 x2 x3 x4 x5) bound s _ _ _ e (fun h => by cases h) (crc_More_io_L2_x0 x0 x1 x2 x3 x4 x5 (crc_More_io_L2_end x3 x4 s) f c0)
def crc_More_io_S3_e0 (x0 : Int) (x3 : List Int) : crc_More_io_L2_s0 := crc_More_io_L2_end x3 ((x3.length : Nat) : Int) (⟨0, x0⟩ : crc_More_io_L2_s0)
def crc_More_io_S3_c0 (x0 : Int) (x3 : List Int) : Bool := (bif tb (crc_More_io_L2_ok x3 ((x3.length : Nat) : Int) (⟨0, x0⟩ : crc_More_io_L2_s0)) then (bif tb (crc_More_io_L2_c0 ((x3.length : Nat) : Int) (crc_More_io_S3_e0 x0 x3)) then true else false) else false)
theorem crc_More_io_S3_t0 (x0 : Int) (x2 : Bool) (x3 : List Int) : crc_More_io_S3_c0 x0 x3 = true → segG (runC E0 (cl E0) S90_3) [1, 2, 5] [] [2] 1 ([(V.d (slD (encI .u8) true 1 x2 x3)), (V.ptr 0 1 0 0), (V.fn (.func 96) [] [(V.ptr 0 1 0 0)])], [(Blk.flat 3 1 [[(.int .i64 x0)]] false)]) = some (.normal, ([(V.ptr 0 1 0 0)], [(Blk.flat 3 1 [[(.int .i64 ((crc_More_io_S3_e0 x0 x3).c4))]] false)])) := by
  unfold crc_More_io_S3_c0
  cases h1 : tb (crc_More_io_L2_ok x3 ((x3.length : Nat) : Int) (⟨0, x0⟩ : crc_More_io_L2_s0))
  · intro g0
    exact absurd g0 ft
  · cases h2 : tb (crc_More_io_L2_c0 ((x3.length : Nat) : Int) (crc_More_io_S3_e0 x0 x3))
    · intro g0
      exact absurd g0 ft
    · intro g0
      exact seg_walk [.o 16 (fun _ => o_len_os (enc := (encI .u8)) (l := x3) (fl := true) (n := x2) (s := 1)), .l (crc_More_io_L2_f0_0 x0 false x2 x3 ((x3.length : Nat) : Int) 0 (⟨0, x0⟩ : crc_More_io_L2_s0) (tbE h1) (tbE h2))] (by kernel_rfl)
def crc_More_io_c0 (x0 : Int) (x2 : List Int) : Bool := (bif tb (crc_More_io_S0_c0 x0) then true else (bif tb (crc_More_io_S3_c0 x0 x2) then true else false))
def crc_More_io_r0_0 (x0 : Int) (x2 : List Int) : Int := (bif tb (crc_More_io_S0_c0 x0) then 0 else ((crc_More_io_S3_e0 x0 x2).c4))
theorem crc_More_io_t0 (x0 : Int) (x1 : Bool) (x2 : List Int) : crc_More_io_c0 x0 x2 = true → cl E0 90 [(V.d (.int .i64 x0)), (V.d (slD (encI .u8) true 1 x1 x2))] [] = some ([(V.d (.int .i64 (crc_More_io_r0_0 x0 x2)))], []) := by
  unfold crc_More_io_c0 crc_More_io_r0_0
  cases h1 : tb (crc_More_io_S0_c0 x0)
  · cases h2 : tb (crc_More_io_S3_c0 x0 x2)
    · intro g0
      exact absurd g0 ft
    · intro g0
      exact w90 [.s (crc_More_io_S0_t1 x0 false x1 x2 (tbE h1)), .s (crc_More_io_S3_t0 x0 x1 x2 (tbE h2))] (by kernel_rfl)
  · intro g0
    exact w90 [.s (crc_More_io_S0_t0 x0 false x1 x2 (tbE h1))] (by kernel_rfl)
def crc_Sum_o_c0 (x1 : List Int) : Bool := (bif tb (crc_More_io_c0 65535 x1) then true else false)
theorem crc_Sum_o_t0 (x0 : Bool) (x1 : List Int) : crc_Sum_o_c0 x1 = true → cl E0 74 [(V.d (slD (encI .u8) true 1 x0 x1))] [] = some ([(V.d (.int .i64 (crc_More_io_r0_0 65535 x1)))], []) := by
  unfold crc_Sum_o_c0
  cases h1 : tb (crc_More_io_c0 65535 x1)
  · intro g0
    exact absurd g0 ft
  · intro g0
    exact w74 [.c (crc_More_io_t0 65535 x0 x1 (tbE h1))] (by kernel_rfl)
def crc_Seal_o_e0 (x0 : Bool) (x1 : List Int) : List Int := ((slices_Clone_byte_o_r0_1 x0 x1) ++ [(IntKind.u8.wrap (shrI .i64 (crc_More_io_r0_0 65535 x1) 8)), (IntKind.u8.wrap ((crc_More_io_r0_0 65535 x1)))])
def crc_Seal_o_c0 (x0 : Bool) (x1 : List Int) : Bool := (bif tb (crc_Sum_o_c0 x1) then (bif tb (slices_Clone_byte_o_c0 x0 x1) then (bif tb (decide (((slices_Clone_byte_o_r0_1 x0 x1).length + [(IntKind.u8.wrap (shrI .i64 (crc_More_io_r0_0 65535 x1) 8)), (IntKind.u8.wrap ((crc_More_io_r0_0 65535 x1)))].length) * 1 ≤ 140737488355328)) then true else false) else false) else false)
theorem crc_Seal_o_t0 (x0 : Bool) (x1 : List Int) : crc_Seal_o_c0 x0 x1 = true → cl E0 46 [(V.d (slD (encI .u8) true 1 x0 x1))] [] = some ([(V.so false 0 ((crc_Seal_o_e0 x0 x1).length))], [(Blk.flat 5 1 (List.map (encI .u8) (crc_Seal_o_e0 x0 x1)) false)]) := by
  unfold crc_Seal_o_c0
  cases h1 : tb (crc_Sum_o_c0 x1)
  · intro g0
    exact absurd g0 ft
  · cases h2 : tb (slices_Clone_byte_o_c0 x0 x1)
    · intro g0
      exact absurd g0 ft
    · cases h3 : tb (decide (((slices_Clone_byte_o_r0_1 x0 x1).length + [(IntKind.u8.wrap (shrI .i64 (crc_More_io_r0_0 65535 x1) 8)), (IntKind.u8.wrap ((crc_More_io_r0_0 65535 x1)))].length) * 1 ≤ 140737488355328))
      · intro g0
        exact absurd g0 ft
      · intro g0
        exact w46 [.c (crc_Sum_o_t0 x0 x1 (tbE h1)), .c (slices_Clone_byte_o_t0 x0 x1 (tbE h2)), .o 9 (fun _ => o_shr (k := .i64) (k2 := .u64) (x := (crc_More_io_r0_0 65535 x1)) (y := 8) rfl), .m 14 (o_app_so (nl := (slices_Clone_byte_o_r0_0 x0 x1)) (m := [(Blk.flat 5 1 [] false), (Blk.flat 5 1 (List.map (encI .u8) (slices_Clone_byte_o_r0_1 x0 x1)) false), (Blk.flat 5 1 [[(.int .u8 (IntKind.u8.wrap (shrI .i64 (crc_More_io_r0_0 65535 x1) 8)))], [(.int .u8 (IntKind.u8.wrap ((crc_More_io_r0_0 65535 x1))))]] false)]) (enc := (encI .u8)) (l0 := (slices_Clone_byte_o_r0_1 x0 x1)) (l1 := [(IntKind.u8.wrap (shrI .i64 (crc_More_io_r0_0 65535 x1) 8)), (IntKind.u8.wrap ((crc_More_io_r0_0 65535 x1)))]) (id := 1) (e := 5) (s := 1) (bytes := 1) (x := (V.so false 2 2)) (n := ((slices_Clone_byte_o_r0_1 x0 x1).length)) (Nat.beq_refl _) (by kernel_rfl) (by kernel_rfl) (by kernel_rfl) (tbE h3))] (by kernel_rfl)
def crc_Open_o_e0 (x0 : Bool) (x1 : List Int) : List Int := (crc_Seal_o_e0 (x0 && x1.isEmpty) (sub x1 0 (wi (((x1.length : Nat) : Int) - 2))))
def crc_Open_o_c0 (x0 : Bool) (x1 : List Int) : Bool := (bif tb (decide ((wi (((x1.length : Nat) : Int) - 2)) < 0)) then true else (bif tb (ins x1.length 0 (wi (((x1.length : Nat) : Int) - 2))) then (bif tb (crc_Seal_o_c0 (x0 && x1.isEmpty) (sub x1 0 (wi (((x1.length : Nat) : Int) - 2)))) then (bif tb (slices_Equal_byte_oo_c0 (crc_Open_o_e0 x0 x1) x1) then (bif tb (slices_Equal_byte_oo_r0_0 (crc_Open_o_e0 x0 x1) x1) then (bif tb (slices_Clone_byte_o_c0 (x0 && x1.isEmpty) (sub x1 0 (wi (((x1.length : Nat) : Int) - 2)))) then true else false) else true) else false) else false) else false))
def crc_Open_o_r0_0 (x0 : Bool) (x1 : List Int) : Bool := (bif tb (decide ((wi (((x1.length : Nat) : Int) - 2)) < 0)) then true else (bif tb (slices_Equal_byte_oo_r0_0 (crc_Open_o_e0 x0 x1) x1) then (slices_Clone_byte_o_r0_0 (x0 && x1.isEmpty) (sub x1 0 (wi (((x1.length : Nat) : Int) - 2)))) else true))
def crc_Open_o_r0_1 (x0 : Bool) (x1 : List Int) : Bool := (bif tb (decide ((wi (((x1.length : Nat) : Int) - 2)) < 0)) then false else (bif tb (slices_Equal_byte_oo_r0_0 (crc_Open_o_e0 x0 x1) x1) then true else false))
def crc_Open_o_r0_2 (x0 : Bool) (x1 : List Int) : List Int := (bif tb (decide ((wi (((x1.length : Nat) : Int) - 2)) < 0)) then ([] : List Int) else (bif tb (slices_Equal_byte_oo_r0_0 (crc_Open_o_e0 x0 x1) x1) then (slices_Clone_byte_o_r0_1 (x0 && x1.isEmpty) (sub x1 0 (wi (((x1.length : Nat) : Int) - 2)))) else ([] : List Int)))
theorem crc_Open_o_t0 (x0 : Bool) (x1 : List Int) : crc_Open_o_c0 x0 x1 = true → cl E0 52 [(V.d (slD (encI .u8) true 1 x0 x1))] [] = some ([(V.so (crc_Open_o_r0_0 x0 x1) 0 ((crc_Open_o_r0_2 x0 x1).length)), (V.d (.bool (crc_Open_o_r0_1 x0 x1)))], [(Blk.flat 5 1 (List.map (encI .u8) (crc_Open_o_r0_2 x0 x1)) false)]) := by
  unfold crc_Open_o_c0 crc_Open_o_r0_0 crc_Open_o_r0_1 crc_Open_o_r0_2
  cases h1 : tb (decide ((wi (((x1.length : Nat) : Int) - 2)) < 0))
  · cases h2 : tb (ins x1.length 0 (wi (((x1.length : Nat) : Int) - 2)))
    · intro g0
      exact absurd g0 ft
    · cases h3 : tb (crc_Seal_o_c0 (x0 && x1.isEmpty) (sub x1 0 (wi (((x1.length : Nat) : Int) - 2))))
      · intro g0
        exact absurd g0 ft
      · cases h4 : tb (slices_Equal_byte_oo_c0 (crc_Open_o_e0 x0 x1) x1)
        · intro g0
          exact absurd g0 ft
        · cases h5 : tb (slices_Equal_byte_oo_r0_0 (crc_Open_o_e0 x0 x1) x1)
          · intro g0
            exact w52 [.o 6 (fun _ => o_len_os (enc := (encI .u8)) (l := x1) (fl := true) (n := x0) (s := 1)), .b (tbE h1), .o 13 (fun _ => o_slice_os (enc := (encI .u8)) (l := x1) (fl := true) (n := x0) (s := 1) none (some (.i64, (wi (((x1.length : Nat) : Int) - 2)))) (tbE h2)), .c (crc_Seal_o_t0 (x0 && x1.isEmpty) (sub x1 0 (wi (((x1.length : Nat) : Int) - 2))) (tbE h3)), .y (mm := [(Blk.flat 5 1 [] false), (Blk.flat 5 1 (List.map (encI .u8) (crc_Seal_o_e0 (x0 && x1.isEmpty) (sub x1 0 (wi (((x1.length : Nat) : Int) - 2))))) false)]) (args := [(V.so false 1 ((crc_Seal_o_e0 (x0 && x1.isEmpty) (sub x1 0 (wi (((x1.length : Nat) : Int) - 2)))).length)), (V.d (slD (encI .u8) true 1 x0 x1))]) (args1 := [(V.d (.rs true 1 (List.map (encI .u8) (crc_Seal_o_e0 (x0 && x1.isEmpty) (sub x1 0 (wi (((x1.length : Nat) : Int) - 2))))) false)), (V.d (slD (encI .u8) true 1 x0 x1))]) (byvals_cons (byval_so (enc := (encI .u8)) (l := (crc_Seal_o_e0 (x0 && x1.isEmpty) (sub x1 0 (wi (((x1.length : Nat) : Int) - 2))))) (b := false) (e := 5) (s := 1) (p := false) (n := ((crc_Seal_o_e0 (x0 && x1.isEmpty) (sub x1 0 (wi (((x1.length : Nat) : Int) - 2)))).length)) (Nat.beq_refl _) (by kernel_rfl)) (by kernel_rfl)), .c (slices_Equal_byte_oo_t0 false (crc_Open_o_e0 x0 x1) x0 x1 (tbE h4)), .b (notF (tbE h5))] (by kernel_rfl)
          · cases h6 : tb (slices_Clone_byte_o_c0 (x0 && x1.isEmpty) (sub x1 0 (wi (((x1.length : Nat) : Int) - 2))))
            · intro g0
              exact absurd g0 ft
            · intro g0
              exact w52 [.o 6 (fun _ => o_len_os (enc := (encI .u8)) (l := x1) (fl := true) (n := x0) (s := 1)), .b (tbE h1), .o 13 (fun _ => o_slice_os (enc := (encI .u8)) (l := x1) (fl := true) (n := x0) (s := 1) none (some (.i64, (wi (((x1.length : Nat) : Int) - 2)))) (tbE h2)), .c (crc_Seal_o_t0 (x0 && x1.isEmpty) (sub x1 0 (wi (((x1.length : Nat) : Int) - 2))) (tbE h3)), .y (mm := [(Blk.flat 5 1 [] false), (Blk.flat 5 1 (List.map (encI .u8) (crc_Seal_o_e0 (x0 && x1.isEmpty) (sub x1 0 (wi (((x1.length : Nat) : Int) - 2))))) false)]) (args := [(V.so false 1 ((crc_Seal_o_e0 (x0 && x1.isEmpty) (sub x1 0 (wi (((x1.length : Nat) : Int) - 2)))).length)), (V.d (slD (encI .u8) true 1 x0 x1))]) (args1 := [(V.d (.rs true 1 (List.map (encI .u8) (crc_Seal_o_e0 (x0 && x1.isEmpty) (sub x1 0 (wi (((x1.length : Nat) : Int) - 2))))) false)), (V.d (slD (encI .u8) true 1 x0 x1))]) (byvals_cons (byval_so (enc := (encI .u8)) (l := (crc_Seal_o_e0 (x0 && x1.isEmpty) (sub x1 0 (wi (((x1.length : Nat) : Int) - 2))))) (b := false) (e := 5) (s := 1) (p := false) (n := ((crc_Seal_o_e0 (x0 && x1.isEmpty) (sub x1 0 (wi (((x1.length : Nat) : Int) - 2)))).length)) (Nat.beq_refl _) (by kernel_rfl)) (by kernel_rfl)), .c (slices_Equal_byte_oo_t0 false (crc_Open_o_e0 x0 x1) x0 x1 (tbE h4)), .b (notT (tbE h5)), .o 21 (fun _ => o_slice_os (enc := (encI .u8)) (l := x1) (fl := true) (n := x0) (s := 1) none (some (.i64, (wi (((x1.length : Nat) : Int) - 2)))) (tbE h2)), .c (slices_Clone_byte_o_t0 (x0 && x1.isEmpty) (sub x1 0 (wi (((x1.length : Nat) : Int) - 2))) (tbE h6))] (by kernel_rfl)
  · intro g0
    exact w52 [.o 6 (fun _ => o_len_os (enc := (encI .u8)) (l := x1) (fl := true) (n := x0) (s := 1)), .b (tbE h1)] (by kernel_rfl)
end Go.Proofs.YtkipngagfiaddaaDoor.Den

namespace Go.Proofs.YtkipngagfiaddaaDoor.Den
open Go Go.Proofs
set_option maxRecDepth 100000
set_option maxHeartbeats 4000000
set_option linter.unusedVariables false
set_option linter.unusedSimpArgs false
structure ref03_cross_ii_L0_s0 where
  c0 : Int
  c1 : Int
  c2 : Int
  c3 : Int
  c4 : Int
  deriving Inhabited
structure ref03_More_io_L1_s0 where
  c2 : Int
  c4 : Int
  deriving Inhabited
structure ref03_More_io_L2_s0 where
  c2 : Int
  c3 : Int
  deriving Inhabited
structure ref03_Same_oo_L0_s0 where
  c4 : Int
  deriving Inhabited
end Go.Proofs.YtkipngagfiaddaaDoor.Den

namespace Go.Proofs.YtkipngagfiaddaaDoor.Den
open Go
set_option linter.unusedVariables false
set_option linter.unusedSimpArgs false
theorem xor_mul_pow (a b i : Nat) : (2 ^ i * a) ^^^ (2 ^ i * b) = 2 ^ i * (a ^^^ b) := by
  have h := Nat.shiftLeft_xor_distrib (i := i) (a := a) (b := b)
  simp only [Nat.shiftLeft_eq] at h
  rw [Nat.mul_comm (2 ^ i) a, Nat.mul_comm (2 ^ i) b, Nat.mul_comm (2 ^ i) (a ^^^ b), h]
theorem xor_low {a b i : Nat} (hb : b < 2 ^ i) : (2 ^ i * a) ^^^ b = 2 ^ i * a + b := by
  apply Nat.eq_of_testBit_eq
  intro j
  rw [Nat.testBit_xor, Nat.testBit_two_pow_mul_add a hb, Nat.testBit_two_pow_mul]
  by_cases h : j < i
  · have : ¬ i ≤ j := by omega
    simp [h, this]
  · have h1 : i ≤ j := by omega
    have : b.testBit j = false := Nat.testBit_lt_two_pow (Nat.lt_of_lt_of_le hb (Nat.pow_le_pow_right (by omega) h1))
    simp [h, h1, this]
theorem eq_of_xor {a b : Nat} (h : a ^^^ b = 0) : a = b := by
  have : (a ^^^ b) ^^^ b = a := by rw [Nat.xor_assoc, Nat.xor_self, Nat.xor_zero]
  rw [h, Nat.zero_xor] at this
  exact this.symm
theorem xor16 {a b : Nat} (h1 : a < 65536) (h2 : b < 65536) : a ^^^ b < 65536 := Nat.xor_lt_two_pow (n := 16) h1 h2
def topN (n : Nat) : Nat := n / 32768 % 2
def stepN (n : Nat) : Nat := if topN n = 1 then (2 * n % 65536) ^^^ 4129 else 2 * n % 65536
theorem stepN_lt (n : Nat) : stepN n < 65536 := by
  unfold stepN
  split
  · exact xor16 (by omega) (by omega)
  · omega
theorem topN_xor (a b : Nat) : topN (a ^^^ b) = 1 ↔ ¬ (topN a = 1 ↔ topN b = 1) := by
  unfold topN
  rw [show (32768 : Nat) = 2 ^ 15 from rfl, Nat.xor_div_two_pow]
  exact Nat.xor_mod_two_eq_one
theorem dbl_xor (a b : Nat) : 2 * (a ^^^ b) % 65536 = (2 * a % 65536) ^^^ (2 * b % 65536) := by
  have h := xor_mul_pow a b 1
  rw [show (65536 : Nat) = 2 ^ 16 from rfl, ← Nat.xor_mod_two_pow]
  simp only [Nat.pow_one] at h
  rw [h]
theorem stepN_xor (a b : Nat) : stepN (a ^^^ b) = stepN a ^^^ stepN b := by
  have h := topN_xor a b
  unfold stepN
  rw [dbl_xor]
  generalize 2 * a % 65536 = x
  generalize 2 * b % 65536 = y
  by_cases h1 : topN a = 1 <;> by_cases h2 : topN b = 1
  · have : ¬ topN (a ^^^ b) = 1 := by rw [h]; simp [h1, h2]
    simp only [h1, h2, this, if_true, if_false]
    rw [Nat.xor_assoc x, Nat.xor_comm 4129, Nat.xor_assoc y, Nat.xor_self, Nat.xor_zero]
  · have : topN (a ^^^ b) = 1 := by rw [h]; simp [h1, h2]
    simp only [h1, h2, this, if_true, if_false]
    rw [Nat.xor_assoc x, Nat.xor_assoc x, Nat.xor_comm y]
  · have : topN (a ^^^ b) = 1 := by rw [h]; simp [h1, h2]
    simp only [h1, h2, this, if_true, if_false]
    rw [Nat.xor_assoc x]
  · have : ¬ topN (a ^^^ b) = 1 := by rw [h]; simp [h1, h2]
    simp only [h1, h2, this, if_true, if_false]
theorem stepN_zero : stepN 0 = 0 := by decide
theorem stepN_inj {n : Nat} (hn : n < 65536) (h : stepN n = 0) : n = 0 := by
  unfold stepN topN at h
  split at h
  · have := eq_of_xor h; omega
  · omega
theorem stepN_small {n : Nat} (hn : n < 32768) : stepN n = 2 * n := by
  unfold stepN topN
  split <;> omega
def itN : Nat → Nat → Nat
  | 0, c => c
  | k + 1, c => stepN (itN k c)
theorem itN_lt (k : Nat) {c : Nat} (h : c < 65536) : itN k c < 65536 := by
  cases k with
  | zero => exact h
  | succ k => exact stepN_lt _
theorem itN_xor (k a b : Nat) : itN k (a ^^^ b) = itN k a ^^^ itN k b := by
  induction k with
  | zero => rfl
  | succ k ih => simp only [itN, ih, stepN_xor]
theorem itN_zero (k : Nat) : itN k 0 = 0 := by
  induction k with
  | zero => rfl
  | succ k ih => simp only [itN, ih, stepN_zero]
theorem itN_inj (k : Nat) {c : Nat} (hc : c < 65536) (h : itN k c = 0) : c = 0 := by
  induction k with
  | zero => exact h
  | succ k ih => exact ih (stepN_inj (itN_lt k hc) h)
theorem itN_add (a b c : Nat) : itN a (itN b c) = itN (a + b) c := by
  induction a with
  | zero => simp [itN]
  | succ a ih => rw [show a + 1 + b = (a + b) + 1 by omega]; simp only [itN, ih]
theorem itN_small {v : Nat} (hv : v < 256) : itN 8 v = 256 * v := by
  simp only [itN]
  have d : ∀ n m : Nat, n = 2 * m → n ≤ 65535 → stepN m = n := fun n m h1 h2 => by rw [stepN_small (by omega)]; exact h1.symm
  rw [d (2 * v) v rfl (by omega), d (4 * v) (2 * v) (by omega) (by omega), d (8 * v) (4 * v) (by omega) (by omega), d (16 * v) (8 * v) (by omega) (by omega), d (32 * v) (16 * v) (by omega) (by omega), d (64 * v) (32 * v) (by omega) (by omega), d (128 * v) (64 * v) (by omega) (by omega), d (256 * v) (128 * v) (by omega) (by omega)]
def byteN (c b : Nat) : Nat := itN 8 (c ^^^ (256 * b))
theorem byteN_lt {c b : Nat} (hc : c < 65536) (hb : b < 256) : byteN c b < 65536 := itN_lt 8 (xor16 hc (by omega))
theorem byteN_xor (c d a b : Nat) : byteN (c ^^^ d) (a ^^^ b) = byteN c a ^^^ byteN d b := by
  have h := xor_mul_pow a b 8
  unfold byteN
  rw [← itN_xor, show (256 : Nat) = 2 ^ 8 from rfl, ← h]
  congr 1
  rw [Nat.xor_assoc, Nat.xor_assoc, ← Nat.xor_assoc d, Nat.xor_comm d, Nat.xor_assoc]
def crcN (c : Nat) (l : List Nat) : Nat := l.foldl byteN c
theorem crcN_lt {l : List Nat} : ∀ {c : Nat}, c < 65536 → (∀ b ∈ l, b < 256) → crcN c l < 65536 := by
  induction l with
  | nil => intro c h _; exact h
  | cons b l ih => intro c h hl; exact ih (byteN_lt h (hl b (by simp))) (fun x hx => hl x (by simp [hx]))
theorem crcN_app (c : Nat) (l k : List Nat) : crcN c (l ++ k) = crcN (crcN c l) k := by simp [crcN]
theorem two_bytes {c u v : Nat} (hc : c < 65536) (hu : u < 256) (hv : v < 256) : crcN c [u, v] = itN 16 (c ^^^ (256 * u + v)) := by
  simp only [crcN, List.foldl, byteN]
  rw [← itN_small hv, ← itN_xor, itN_add, Nat.xor_assoc]
  congr 2
  exact xor_low (i := 8) hv
theorem two_zero {c u v : Nat} (hc : c < 65536) (hu : u < 256) (hv : v < 256) : crcN c [u, v] = 0 ↔ c = 256 * u + v := by
  rw [two_bytes hc hu hv]
  constructor
  · intro h; exact eq_of_xor (itN_inj 16 (xor16 hc (by omega)) h)
  · rintro rfl; rw [Nat.xor_self, itN_zero]
theorem byteN_inj {c d b : Nat} (hc : c < 65536) (hd : d < 65536) (h : byteN c b = byteN d b) : c = d := by
  have h1 := byteN_xor c d b b
  rw [h, Nat.xor_self, Nat.xor_self] at h1
  exact eq_of_xor (itN_inj 8 (xor16 hc hd) (by simpa [byteN] using h1))
theorem crcN_inj {l : List Nat} : ∀ {c d : Nat}, c < 65536 → d < 65536 → (∀ b ∈ l, b < 256) → crcN c l = crcN d l → c = d := by
  induction l with
  | nil => intro c d _ _ _ h; exact h
  | cons b l ih =>
    intro c d hc hd hl h
    have hb := hl b (by simp)
    exact byteN_inj hc hd (ih (byteN_lt hc hb) (byteN_lt hd hb) (fun x hx => hl x (by simp [hx])) h)
theorem crcN_seen {c : Nat} {p q : List Nat} {u v u' v' : Nat} (hc : c < 65536) (hp : ∀ b ∈ p, b < 256) (hq : ∀ b ∈ q, b < 256) (hu : u < 256) (hv : v < 256) (hu' : u' < 256) (hv' : v' < 256)
    (h : crcN c (p ++ u :: v :: q) = crcN c (p ++ u' :: v' :: q)) : u = u' ∧ v = v' := by
  have hx := crcN_lt hc hp
  have e : ∀ a b : Nat, p ++ a :: b :: q = (p ++ [a, b]) ++ q := by simp
  rw [e, e, crcN_app c (p ++ [u, v]), crcN_app c (p ++ [u', v']), crcN_app c p, crcN_app c p] at h
  generalize crcN c p = x at h hx
  have b2 : ∀ {a b : Nat}, a < 256 → b < 256 → ∀ z ∈ [a, b], z < 256 := by
    intro a b ha hb z hz
    simp only [List.mem_cons, List.not_mem_nil, or_false] at hz
    omega
  have h2 := crcN_inj (crcN_lt hx (b2 hu hv)) (crcN_lt hx (b2 hu' hv')) hq h
  rw [two_bytes hx hu hv, two_bytes hx hu' hv'] at h2
  have h3 := itN_xor 16 (x ^^^ (256 * u + v)) (x ^^^ (256 * u' + v'))
  rw [h2, Nat.xor_self] at h3
  have h4 := itN_inj 16 (xor16 (xor16 hx (by omega)) (xor16 hx (by omega))) h3
  have h5 := eq_of_xor h4
  have h6 : (256 * u + v) = (256 * u' + v') := by
    have g : ∀ y, x ^^^ (x ^^^ y) = y := fun y => by rw [← Nat.xor_assoc, Nat.xor_self, Nat.zero_xor]
    rw [← g (256 * u + v), h5, g]
  omega
theorem bv_nat {a : Nat} (h : a < 9223372036854775808) : BitVec.ofInt 64 (a : Int) = BitVec.ofNat 64 a := by
  apply BitVec.eq_of_toNat_eq
  rw [BitVec.toNat_ofInt, BitVec.toNat_ofNat]
  omega
theorem andI_nat {a b : Nat} (ha : a < 9223372036854775808) (hb : b < 9223372036854775808) : andI .i64 (a : Int) (b : Int) = ((a &&& b : Nat) : Int) := by
  show IntKind.i64.wrap ((BitVec.ofInt 64 (a : Int) &&& BitVec.ofInt 64 (b : Int)).toNat : Int) = _
  rw [bv_nat ha, bv_nat hb, BitVec.toNat_and, BitVec.toNat_ofNat, BitVec.toNat_ofNat, Nat.mod_eq_of_lt (a := a) (by omega), Nat.mod_eq_of_lt (a := b) (by omega)]
  have := @Nat.and_le_left a b
  exact wrap64 (by omega) (by omega)
theorem xorI_nat {a b : Nat} (ha : a < 9223372036854775808) (hb : b < 9223372036854775808) : xorI .i64 (a : Int) (b : Int) = ((a ^^^ b : Nat) : Int) := by
  show IntKind.i64.wrap ((BitVec.ofInt 64 (a : Int) ^^^ BitVec.ofInt 64 (b : Int)).toNat : Int) = _
  rw [bv_nat ha, bv_nat hb, BitVec.toNat_xor, BitVec.toNat_ofNat, BitVec.toNat_ofNat, Nat.mod_eq_of_lt (a := a) (by omega), Nat.mod_eq_of_lt (a := b) (by omega)]
  have : a ^^^ b < 2 ^ 63 := Nat.xor_lt_two_pow (by omega) (by omega)
  exact wrap64 (by omega) (by omega)
theorem and_top (n : Nat) : n &&& 32768 = 32768 * topN n := by
  apply Nat.eq_of_testBit_eq
  intro j
  rw [Nat.testBit_and, show (32768 : Nat) = 2 ^ 15 from rfl, Nat.testBit_two_pow, Nat.testBit_two_pow_mul]
  by_cases h : 15 = j
  · subst h
    simp [topN, Nat.testBit_eq_decide_div_mod_eq]
  · simp only [h, decide_false, Bool.and_false]
    by_cases h2 : 15 ≤ j
    · have h3 : topN n < 2 ^ (j - 15) := by
        have : topN n < 2 ^ 1 := by unfold topN; omega
        exact Nat.lt_of_lt_of_le this (Nat.pow_le_pow_right (by omega) (by omega))
      rw [Nat.testBit_lt_two_pow h3]; simp
    · simp [h2]
theorem and_mask (n : Nat) : n &&& 65535 = n % 65536 := Nat.and_two_pow_sub_one_eq_mod n 16
def nats (l : List Int) : List Nat := l.map Int.toNat
theorem nats_lt {l : List Int} (h : ∀ z ∈ l, WfI .u8 z) : ∀ b ∈ nats l, b < 256 := by
  intro b hb
  obtain ⟨z, hz, rfl⟩ := List.mem_map.1 hb
  have := wfI_u8 (h z hz)
  omega
def crcI (c : Nat) (l : List Int) : Nat := crcN c (nats l)
end Go.Proofs.YtkipngagfiaddaaDoor.Den

namespace Go.Proofs.YtkipngagfiaddaaDoor.Den
open Go
set_option linter.unusedVariables false
set_option linter.unusedSimpArgs false
theorem shl8_nat {n : Nat} (h : n < 4294967296) : shlI .i64 (n : Int) 8 = ((256 * n : Nat) : Int) := by
  show IntKind.i64.wrap ((n : Int) * 2 ^ (min (8 : Int).toNat 64)) = _
  have : (2 : Int) ^ (min (8 : Int).toNat 64) = 256 := by decide
  rw [this, wrap64 (by omega) (by omega)]; omega
theorem shl1_nat {n : Nat} (h : n < 4294967296) : shlI .i64 (n : Int) 1 = ((2 * n : Nat) : Int) := by
  show IntKind.i64.wrap ((n : Int) * 2 ^ (min (1 : Int).toNat 64)) = _
  have : (2 : Int) ^ (min (1 : Int).toNat 64) = 2 := by decide
  rw [this, wrap64 (by omega) (by omega)]; omega
theorem step_eq {n : Nat} (h : n < 65536) : crc_More_c1_p_Fi_r0_0 (n : Int) = (stepN n : Int) := by
  have e1 : andI .i64 (n : Int) 32768 = ((32768 * topN n : Nat) : Int) := by rw [← and_top]; exact andI_nat (b := 32768) (by omega) (by omega)
  have e2 : andI .i64 (shlI .i64 (n : Int) 1) 65535 = ((2 * n % 65536 : Nat) : Int) := by rw [shl1_nat (by omega), ← and_mask]; exact andI_nat (b := 65535) (by omega) (by omega)
  have e3 : xorI .i64 ((2 * n % 65536 : Nat) : Int) 4129 = (((2 * n % 65536) ^^^ 4129 : Nat) : Int) := xorI_nat (b := 4129) (by omega) (by omega)
  have ht : topN n < 2 := by unfold topN; omega
  unfold crc_More_c1_p_Fi_r0_0 stepN
  rw [e1, e2, e3]
  by_cases h1 : topN n = 1
  · simp [h1]
  · have : topN n = 0 := by omega
    simp [this]
theorem crcL0 {c : Nat} (h : c < 65536) : crc_More_io_L1_ok ⟨0, (c : Int)⟩ = true ∧ (crc_More_io_L1_end ⟨0, (c : Int)⟩).c5 = (itN 8 c : Int) := by
  obtain ⟨s1, e, ⟨k, h1, h2⟩, h3⟩ := idx_loop (sel := crc_More_io_L1_sel) (nx := crc_More_io_L1_nx) (s0 := ⟨0, (c : Int)⟩) 8 (fun s => s.c4) (fun s => ∃ k : Nat, s.c4 = k ∧ s.c5 = (itN k c : Int)) (by omega) ⟨0, rfl, rfl⟩ (by simp) (by simp)
    (fun s ⟨k, h1, h2⟩ g1 g2 => by
      have e : (wi (s.c4 + 1)) = s.c4 + 1 := wi_eq (by omega) (by omega)
      refine ⟨by simp [crc_More_io_L1_sel, g2], ⟨k + 1, ?_, ?_⟩, e⟩
      · simp only [crc_More_io_L1_nx, e]; omega
      · simp only [crc_More_io_L1_nx, h2]; exact step_eq (itN_lt k h))
    (fun s _ g => by simp [crc_More_io_L1_sel, g])
  have hk : k = 8 := by omega
  subst hk
  simp [crc_More_io_L1_ok, crc_More_io_L1_end, e, h2]
theorem take_nats {l : List Int} {k : Nat} (h : k < l.length) (c : Nat) : crcI c (l.take (k + 1)) = byteN (crcI c (l.take k)) (l[k]).toNat := by
  unfold crcI nats
  rw [List.take_succ_eq_append_getElem h, List.map_append, crcN_app]
  rfl
def Byt (l : List Int) : Prop := ∀ z ∈ l, WfI .u8 z
theorem Byt.take {l : List Int} (h : Byt l) (k : Nat) : Byt (l.take k) := fun z hz => h z (List.mem_of_mem_take hz)
theorem Byt.drop {l : List Int} (h : Byt l) (k : Nat) : Byt (l.drop k) := fun z hz => h z (List.mem_of_mem_drop hz)
theorem crcI_lt {c : Nat} {l : List Int} (hc : c < 65536) (h : Byt l) : crcI c l < 65536 := crcN_lt hc (nats_lt h)
theorem crcL1 {c : Nat} {l : List Int} (h : c < 65536) (hl : Byt l) (hn : l.length < 1152921504606846976) : ∃ s1, itS (crc_More_io_L2_sel l l.length) (crc_More_io_L2_nx l l.length) bound ⟨0, (c : Int)⟩ = some s1 ∧ s1.c3 = l.length ∧ s1.c4 = (crcI c l : Int) := by
  obtain ⟨s1, e, ⟨k, h1, h2, h4⟩, h3⟩ := idx_loop (sel := crc_More_io_L2_sel l l.length) (nx := crc_More_io_L2_nx l l.length) (s0 := ⟨0, (c : Int)⟩) l.length (fun s => s.c3) (fun s => ∃ k : Nat, s.c3 = k ∧ k ≤ l.length ∧ s.c4 = (crcI c (l.take k) : Int)) (by omega) ⟨0, rfl, by omega, rfl⟩ (by simp) (by simp)
    (fun s ⟨k, h1, h2, h4⟩ g1 g2 => by
      have e : (wi (s.c3 + 1)) = s.c3 + 1 := wi_eq (by omega) (by omega)
      have hk : k < l.length := by omega
      have hg : gt l s.c3 = ((l[k]).toNat : Int) := by
        rw [h1, gt_nat hk]; have := wfI_u8 (hl _ (List.getElem_mem hk)); omega
      have hb : (l[k]).toNat < 256 := by have := wfI_u8 (hl _ (List.getElem_mem hk)); omega
      have hc := crcI_lt h (hl.take k)
      have hx : xorI .i64 s.c4 (shlI .i64 (wi (gt l s.c3)) 8) = ((crcI c (l.take k) ^^^ (256 * (l[k]).toNat) : Nat) : Int) := by
        rw [hg, wi_eq (x := ((l[k]).toNat : Int)) (by omega) (by omega), shl8_nat (by omega), h4]; exact xorI_nat (by omega) (by omega)
      obtain ⟨q1, q2⟩ := crcL0 (xor16 hc (by omega : 256 * (l[k]).toNat < 65536))
      refine ⟨by simp [crc_More_io_L2_sel, g2, inb_of g1 g2, hx, q1], ⟨k + 1, ?_, by omega, ?_⟩, e⟩
      · simp only [crc_More_io_L2_nx, e]; omega
      · simp only [crc_More_io_L2_nx, crc_More_io_L2_h0_e0, hx, q2, take_nats hk]; rfl)
    (fun s _ g => by simp [crc_More_io_L2_sel, g])
  have hk : k = l.length := by omega
  subst hk
  exact ⟨s1, e, h1, by rw [h4, List.take_length]⟩
def moreI (x : Int) (l : List Int) : Int := if 0 ≤ x ∧ x ≤ 65535 then (crcI x.toNat l : Int) else 0
theorem more_eq (x : Int) {l : List Int} (hl : Byt l) (hn : l.length < 1152921504606846976) : crc_More_io_c0 x l = true ∧ crc_More_io_r0_0 x l = moreI x l := by
  by_cases h1 : x < 0
  · simp [crc_More_io_c0, crc_More_io_r0_0, crc_More_io_S0_c0, h1, moreI]; omega
  by_cases h2 : 65535 < x
  · simp [crc_More_io_c0, crc_More_io_r0_0, crc_More_io_S0_c0, h1, h2, moreI]; omega
  obtain ⟨s1, e, g1, g2⟩ := crcL1 (c := x.toNat) (by omega) hl hn
  rw [show ((x.toNat : Nat) : Int) = x by omega] at e
  have h3 : 0 ≤ x ∧ x ≤ 65535 := by omega
  simp [crc_More_io_c0, crc_More_io_r0_0, crc_More_io_S0_c0, crc_More_io_S3_c0, crc_More_io_S3_e0, h1, h2, moreI, h3, crc_More_io_L2_ok, crc_More_io_L2_end, e, crc_More_io_L2_c0, g1, g2]
theorem equal_eq {l k : List Int} (hl : l.length < 1152921504606846976) : slices_Equal_byte_oo_c0 l k = true ∧ slices_Equal_byte_oo_r0_0 l k = decide (l = k) := by
  by_cases h : l.length = k.length
  · obtain ⟨s1, e, g0, g⟩ := eq_loop (sel := slices_Equal_byte_oo_L0_sel l k l.length) (nx := slices_Equal_byte_oo_L0_nx l k l.length) (s0 := ⟨0⟩) h (fun s => s.c5) hl rfl
      (fun s a1 a2 => by show wi _ = _; exact wi_eq (by omega) (by omega))
      (fun s a1 a2 => by
        by_cases hi : s.c5 < l.length
        · have i1 := inb_of a1 hi
          have i2 : inb k.length s.c5 = true := by rw [← h]; exact i1
          by_cases q : gt l s.c5 = gt k s.c5
          · simp [slices_Equal_byte_oo_L0_sel, hi, i1, i2, q]
          · simp [slices_Equal_byte_oo_L0_sel, hi, i1, i2, q, bne]
        · simp [slices_Equal_byte_oo_L0_sel, hi])
    have hne : ((((l.length : Nat) : Int) : Int) != ((k.length : Nat) : Int)) = false := by simp [h]
    simp only [slices_Equal_byte_oo_c0, slices_Equal_byte_oo_r0_0, slices_Equal_byte_oo_e0, slices_Equal_byte_oo_L0_ok, slices_Equal_byte_oo_L0_end, e, hne, tb_eq, cond_false, Option.isSome_some, cond_true, Option.getD_some]
    rcases g with ⟨a, b⟩ | ⟨a, b, c⟩
    · simp [slices_Equal_byte_oo_L0_c0, slices_Equal_byte_oo_L0_c1, a, b]
    · have i1 := inb_of g0 a
      have i2 : inb k.length s1.c5 = true := by rw [← h]; exact i1
      simp [slices_Equal_byte_oo_L0_c0, slices_Equal_byte_oo_L0_c1, a, c, i1, i2]
  · have hne : ((((l.length : Nat) : Int) : Int) != ((k.length : Nat) : Int)) = true := by simp; omega
    have : l ≠ k := fun e => h (by rw [e])
    simp [slices_Equal_byte_oo_c0, slices_Equal_byte_oo_r0_0, hne, this]
structure Sm (l : List Int) : Prop where
  b : Byt l
  n : l.length ≤ 1000
theorem Sm.n' {l : List Int} (h : Sm l) : l.length < 1152921504606846976 := by have := h.n; omega
def tail2 (l : List Int) : List Int := [((crcI 65535 l / 256 : Nat) : Int), ((crcI 65535 l % 256 : Nat) : Int)]
def sealed (l : List Int) : List Int := l ++ tail2 l
theorem u8_wrap {n : Nat} : IntKind.u8.wrap (n : Int) = ((n % 256 : Nat) : Int) := by
  unfold IntKind.wrap; simp [IntKind.bits, IntKind.signed]
theorem more_f {l : List Int} (h : Sm l) : crc_More_io_r0_0 65535 l = (crcI 65535 l : Int) := by
  rw [(more_eq 65535 h.b h.n').2]; simp [moreI]
theorem sumc {l : List Int} (h : Sm l) : crc_Sum_o_c0 l = true := by simp [crc_Sum_o_c0, (more_eq 65535 h.b h.n').1]
theorem Sm.crc {l : List Int} (h : Sm l) : crcI 65535 l < 65536 := crcI_lt (by omega) h.b
theorem tail_eq {l : List Int} (h : Sm l) : [(IntKind.u8.wrap (shrI .i64 (crc_More_io_r0_0 65535 l) 8)), (IntKind.u8.wrap ((crc_More_io_r0_0 65535 l)))] = tail2 l := by
  have hc := h.crc
  have e : shrI .i64 (crcI 65535 l : Int) 8 = ((crcI 65535 l / 256 : Nat) : Int) := by
    show (crcI 65535 l : Int).fdiv (2 ^ (min (8 : Int).toNat 64)) = _
    rw [show (2 : Int) ^ (min (8 : Int).toNat 64) = 256 by decide, Int.fdiv_eq_ediv_of_nonneg _ (by omega)]; omega
  rw [more_f h, e, u8_wrap, u8_wrap, Nat.mod_eq_of_lt (a := crcI 65535 l / 256) (by omega)]
  rfl
theorem clone_r (a : Bool) {l : List Int} (h : Sm l) : slices_Clone_byte_o_c0 a l = true ∧ slices_Clone_byte_o_r0_0 a l = (a && l.isEmpty) ∧ slices_Clone_byte_o_r0_1 a l = l := by
  have h1 : ((([] : List Int).length + l.length) * 1 ≤ 140737488355328) := by have := h.n; simp; omega
  cases l with
  | nil => cases a <;> simp [slices_Clone_byte_o_c0, slices_Clone_byte_o_r0_0, slices_Clone_byte_o_r0_1]
  | cons x l =>
    simp only [slices_Clone_byte_o_c0, slices_Clone_byte_o_r0_0, slices_Clone_byte_o_r0_1, h1, tb_eq]
    simp
theorem seal_r (a : Bool) {l : List Int} (h : Sm l) : crc_Seal_o_c0 a l = true ∧ crc_Seal_o_e0 a l = sealed l := by
  obtain ⟨c1, c2, c3⟩ := clone_r a h
  have h1 : (l.length + (tail2 l).length) * 1 ≤ 140737488355328 := by have := h.n; show (l.length + 2) * 1 ≤ _; omega
  constructor
  · simp only [crc_Seal_o_c0, sumc h, c1, c3, tail_eq h, h1, decide_true, tb_eq, cond_true]
  · unfold crc_Seal_o_e0; rw [c3, tail_eq h]; rfl
def okS (l : List Int) : Bool := decide (2 ≤ l.length) && decide (sealed (l.take (l.length - 2)) = l)
theorem Sm.take {l : List Int} (h : Sm l) (k : Nat) : Sm (l.take k) := ⟨h.b.take k, by have := h.n; rw [List.length_take]; omega⟩
theorem cut_eq {l : List Int} (h : Sm l) (h2 : 2 ≤ l.length) : wi (((l.length : Nat) : Int) - 2) = ((l.length - 2 : Nat) : Int) ∧ sub l 0 (wi (((l.length : Nat) : Int) - 2)) = l.take (l.length - 2) ∧ ins l.length 0 (wi (((l.length : Nat) : Int) - 2)) = true := by
  have hn := h.n
  have e : wi (((l.length : Nat) : Int) - 2) = ((l.length - 2 : Nat) : Int) := by rw [wi_eq (x := (l.length : Int) - 2) (by omega) (by omega)]; omega
  refine ⟨e, ?_, ?_⟩
  · rw [e]; simp [sub]
  · rw [e]; simp [ins]
theorem sealed_short {l : List Int} (h : (l.length : Nat) ≤ 1000) : (sealed l).length < 1152921504606846976 := by simp [sealed, tail2]; omega
theorem open_r {l : List Int} (h : Sm l) (a : Bool) : crc_Open_o_c0 a l = true ∧ crc_Open_o_r0_0 a l = !(okS l) ∧ crc_Open_o_r0_1 a l = okS l ∧ crc_Open_o_r0_2 a l = if okS l then l.take (l.length - 2) else [] := by
  by_cases h2 : l.length < 2
  · have e : wi (((l.length : Nat) : Int) - 2) < 0 := by rw [wi_eq (x := (l.length : Int) - 2) (by omega) (by omega)]; omega
    have e3 : ¬ 2 ≤ l.length := by omega
    simp [okS, crc_Open_o_c0, crc_Open_o_r0_0, crc_Open_o_r0_1, crc_Open_o_r0_2, e, e3]
  have h3 : 2 ≤ l.length := by omega
  obtain ⟨c1, c2, c3⟩ := cut_eq h h3
  have hp := h.take (l.length - 2)
  have hne : l.isEmpty = false := by cases l <;> simp_all
  have hneg : ¬ (wi (((l.length : Nat) : Int) - 2) < 0) := by rw [c1]; omega
  have hE : crc_Open_o_e0 a l = sealed (l.take (l.length - 2)) := by unfold crc_Open_o_e0; rw [c2, (seal_r _ hp).2]
  have eq := equal_eq (l := sealed (l.take (l.length - 2))) (k := l) (sealed_short hp.n)
  obtain ⟨d1, d2, d3⟩ := clone_r false hp
  simp only [crc_Open_o_c0, crc_Open_o_r0_0, crc_Open_o_r0_1, crc_Open_o_r0_2, hneg, c3, c2, hE, (seal_r _ hp).1, d1, d2, d3, hne, eq.1, eq.2, okS, h3, Bool.and_false, Bool.false_and, decide_true, decide_false, tb_eq, cond_true, cond_false, Bool.true_and]
  cases decide (sealed (l.take (l.length - 2)) = l) <;> simp
end Go.Proofs.YtkipngagfiaddaaDoor.Den
