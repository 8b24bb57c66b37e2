/- FreshOrder: part 5 of what its proof rests on: an evaluator of the program's code, proved sound; plain functions printed from the code by a program of this session, with proofs; plain laws. No condition. -/
import Derived.Test.YtkipngagfiaddaaDenfreshOrder4
import Derived.Test.YtkipngagfiaddaaProg

namespace Go.Proofs.Ytkipngagfiaddaa.Den
open Go Go.Proofs
set_option maxRecDepth 100000
def S3_0 : C := (.seq1 (.reg [] [⟨(some 54), none, (.mov (.t 9))⟩, ⟨(some 55), none, (.mov (.t 1))⟩, ⟨(some 56), none, (.len (.t 55))⟩, ⟨(some 57), none, (.bin .lss (.t 54) (.t 56))⟩]) (.cond (.t 57) .skip (.exit 0)))
def S3_1 : C := (.seq (.reg [] [⟨(some 61), none, (.mov (.t 6))⟩, ⟨(some 62), none, (.mov (.t 1))⟩, ⟨(some 63), none, (.mov (.t 9))⟩, ⟨(some 64), none, (.idxA 2 (.t 62) (.t 63))⟩, ⟨(some 65), none, (.load true 2 (.t 64))⟩, ⟨(some 66), none, (.call (.v (.fn (.func 11) [] [])) [(.t 61), (.t 65)])⟩, ⟨(some 60), none, (.mov (.t 66))⟩, ⟨(some 67), none, (.extract 0 (.t 60))⟩, ⟨(some 68), none, (.extract 1 (.t 60))⟩, ⟨(some 10), none, (.alloc 33 [(.int .i64 0), (.int .i64 0), (.int .i64 0), (.int .i64 0), (.int .i64 0), (.int .i64 0), (.int .i64 0), (.int .i64 0), (.int .i64 0)] true)⟩, ⟨none, none, (.store 9 (.t 10) (.t 67))⟩, ⟨(some 11), none, (.mov (.t 68))⟩]) (.seq (.reg [] [⟨(some 70), none, (.mov (.t 8))⟩, ⟨(some 71), none, (.mov (.t 1))⟩, ⟨(some 72), none, (.mov (.t 9))⟩, ⟨(some 73), none, (.idxA 2 (.t 71) (.t 72))⟩, ⟨(some 74), none, (.load true 2 (.t 73))⟩, ⟨(some 75), none, (.call (.v (.fn (.func 12) [] [])) [(.t 70), (.t 74)])⟩, ⟨(some 69), none, (.mov (.t 75))⟩, ⟨(some 76), none, (.extract 0 (.t 69))⟩, ⟨(some 77), none, (.extract 1 (.t 69))⟩, ⟨(some 12), none, (.alloc 33 [(.int .i64 0), (.int .i64 0), (.int .i64 0), (.int .i64 0), (.int .i64 0), (.int .i64 0), (.int .i64 0), (.int .i64 0), (.int .i64 0)] true)⟩, ⟨none, none, (.store 9 (.t 12) (.t 76))⟩, ⟨(some 13), none, (.mov (.t 77))⟩]) (.seq (.reg [] [⟨(some 79), none, (.mov (.t 6))⟩, ⟨(some 80), none, (.call (.v (.fn (.func 13) [] [])) [(.t 79)])⟩, ⟨(some 78), none, (.mov (.t 80))⟩, ⟨(some 81), none, (.extract 0 (.t 78))⟩, ⟨(some 82), none, (.extract 1 (.t 78))⟩, ⟨(some 14), none, (.mov (.t 81))⟩, ⟨(some 15), none, (.mov (.t 82))⟩]) (.mix [⟨(some 83), none, (.load true 9 (.t 10))⟩, ⟨(some 84), none, (.load true 9 (.t 12))⟩, ⟨(some 85), none, (.beq (.cells [(.i .i64), (.i .i64), (.i .i64), (.i .i64), (.i .i64), (.i .i64), (.i .i64), (.i .i64), (.i .i64)]) true (.t 83) (.t 84))⟩, ⟨(some 86), none, (.mov (.t 85))⟩, ⟨(some 87), (some (86, false)), (.mov (.t 11))⟩, ⟨(some 88), (some (86, false)), (.mov (.t 13))⟩, ⟨(some 89), (some (86, false)), (.bin .neq (.t 87) (.t 88))⟩, ⟨(some 90), none, (.pick (.t 86) (.v (.d (.bool true))) (.t 89))⟩, ⟨(some 91), none, (.mov (.t 90))⟩, ⟨(some 92), (some (91, false)), (.mov (.t 15))⟩, ⟨(some 93), (some (91, false)), (.mov (.t 8))⟩, ⟨(some 94), (some (91, false)), (.nilck (.t 93))⟩, ⟨(some 95), (some (91, false)), (.fieldA 1 (.t 94))⟩, ⟨(some 96), (some (91, false)), (.load false 1 (.t 95))⟩, ⟨(some 97), (some (91, false)), (.bin .geq (.t 96) (.v (.d (.int .i64 0))))⟩, ⟨(some 98), (some (91, false)), (.beq .bool true (.t 92) (.t 97))⟩, ⟨(some 99), none, (.pick (.t 91) (.v (.d (.bool true))) (.t 98))⟩, ⟨(some 100), none, (.mov (.t 99))⟩, ⟨(some 101), (some (100, false)), (.mov (.t 15))⟩, ⟨(some 102), (some (100, false)), (.mov (.t 101))⟩, ⟨(some 103), (some (102, true)), (.mov (.t 14))⟩, ⟨(some 104), (some (102, true)), (.mov (.t 8))⟩, ⟨(some 105), (some (102, true)), (.nilck (.t 104))⟩, ⟨(some 106), (some (102, true)), (.fieldA 1 (.t 105))⟩, ⟨(some 107), (some (102, true)), (.load false 1 (.t 106))⟩, ⟨(some 108), (some (102, true)), (.bin .neq (.t 103) (.t 107))⟩, ⟨(some 109), (some (100, false)), (.pick (.t 102) (.t 108) (.v (.d (.bool false))))⟩, ⟨(some 110), none, (.pick (.t 100) (.v (.d (.bool true))) (.t 109))⟩, ⟨(some 111), none, (.mov (.t 110))⟩, ⟨(some 112), (some (111, false)), (.mov (.t 15))⟩, ⟨(some 113), (some (111, false)), (.unop .not (.t 112))⟩, ⟨(some 114), (some (111, false)), (.mov (.t 113))⟩, ⟨(some 115), (some (114, true)), (.mov (.t 14))⟩, ⟨(some 116), (some (114, true)), (.bin .neq (.t 115) (.v (.d (.int .i64 0))))⟩, ⟨(some 117), (some (111, false)), (.pick (.t 114) (.t 116) (.v (.d (.bool false))))⟩, ⟨(some 118), none, (.pick (.t 111) (.v (.d (.bool true))) (.t 117))⟩, ⟨(some 119), none, (.mov (.t 118))⟩, ⟨(some 120), (some (119, false)), (.mov (.t 6))⟩, ⟨(some 121), (some (119, false)), (.call (.v (.fn (.func 14) [] [])) [(.t 120)])⟩, ⟨(some 122), (some (119, false)), (.mov (.t 8))⟩, ⟨(some 123), (some (119, false)), (.nilck (.t 122))⟩, ⟨(some 124), (some (119, false)), (.fieldA 2 (.t 123))⟩, ⟨(some 125), (some (119, false)), (.load true 7 (.t 124))⟩, ⟨(some 126), (some (119, false)), (.beq (.cells [(.i .i64), (.i .i64), (.i .i64), (.i .i64), (.i .i64), (.i .i64), (.i .i64)]) true (.t 121) (.t 125))⟩, ⟨(some 127), none, (.pick (.t 119) (.v (.d (.bool true))) (.t 126))⟩] [[], [], [], [], [], [], [], [], [], [], [], [], [], [], [], [], [], [], [], [], [], [], [], [], [], [], [], [], [], [], [], [], [], [], [], [], [], [], [], [], [], [], [38], [], []] [false, false, false, false, false, false, false, false, false, false, false, false, false, false, false, false, false, false, false, false, false, false, false, false, false, false, false, false, false, false, false, false, false, false, false, false, false, false, true, false, false, false, false, false, false]))))
def S3_2 : C := (.block 1 (.cut [1, 6, 8, 9] [] [1, 6, 8, 9, 127] S3_1 (.cond (.t 127) (.seq (.reg [] [⟨(some 4), none, (.mov (.v (.d (.bool false))))⟩]) .ret) .skip)))
def L3_3 : C := (.cut [1, 6, 8, 9] [] [1, 6, 8, 9] S3_0 (.cut [1, 6, 8, 9] [4] [1, 6, 8, 9] S3_2 (.reg [] [⟨(some 58), none, (.mov (.t 9))⟩, ⟨(some 59), none, (.bin .add (.t 58) (.v (.d (.int .i64 1))))⟩, ⟨(some 9), none, (.mov (.t 59))⟩])))
def S3_4 : C := (.seq (.reg [] [⟨(some 27), none, (.mov (.t 0))⟩, ⟨(some 28), none, (.call (.v (.fn (.func 9) [] [])) [(.t 27)])⟩, ⟨(some 26), none, (.mov (.t 28))⟩, ⟨(some 29), none, (.extract 0 (.t 26))⟩, ⟨(some 30), none, (.extract 1 (.t 26))⟩, ⟨(some 6), none, (.mov (.t 29))⟩, ⟨(some 7), none, (.mov (.t 30))⟩]) (.seq (.seq (.reg [] [⟨(some 31), none, (.mov (.t 0))⟩, ⟨(some 32), none, (.bin .lss (.t 31) (.v (.d (.int .i64 0))))⟩, ⟨(some 33), none, (.mov (.t 32))⟩, ⟨(some 34), (some (33, false)), (.mov (.t 0))⟩, ⟨(some 35), (some (33, false)), (.bin .gtr (.t 34) (.v (.d (.int .i64 3))))⟩, ⟨(some 36), none, (.pick (.t 33) (.v (.d (.bool true))) (.t 35))⟩]) (.cond (.t 36) (.seq (.reg [] [⟨(some 37), none, (.call (.v (.fn (.func 8) [] [])) [])⟩, ⟨(some 38), none, (.mov (.t 37))⟩, ⟨(some 39), (some (38, true)), (.mov (.t 6))⟩, ⟨(some 40), (some (38, true)), (.beq .ptr false (.t 39) (.v (.d .nilp)))⟩, ⟨(some 41), none, (.pick (.t 38) (.t 40) (.v (.d (.bool false))))⟩, ⟨(some 42), none, (.mov (.t 41))⟩, ⟨(some 43), (some (42, true)), (.mov (.t 7))⟩, ⟨(some 44), (some (42, true)), (.bin .eql (.t 43) (.v (.d (.int .i64 1))))⟩, ⟨(some 45), none, (.pick (.t 42) (.t 44) (.v (.d (.bool false))))⟩, ⟨(some 4), none, (.mov (.t 45))⟩]) .ret) .skip)) (.seq (.seq (.reg [] [⟨(some 46), none, (.mov (.t 6))⟩, ⟨(some 47), none, (.beq .ptr false (.t 46) (.v (.d .nilp)))⟩, ⟨(some 48), none, (.mov (.t 47))⟩, ⟨(some 49), (some (48, false)), (.mov (.t 7))⟩, ⟨(some 50), (some (48, false)), (.bin .neq (.t 49) (.v (.d (.int .i64 0))))⟩, ⟨(some 51), none, (.pick (.t 48) (.v (.d (.bool true))) (.t 50))⟩]) (.cond (.t 51) (.seq (.reg [] [⟨(some 4), none, (.mov (.v (.d (.bool false))))⟩]) .ret) .skip)) (.seq (.reg [] [⟨(some 52), none, (.mov (.t 0))⟩, ⟨(some 53), none, (.call (.v (.fn (.func 10) [] [])) [(.t 52)])⟩, ⟨(some 8), none, (.mov (.t 53))⟩]) (.seq1 (.reg [] [⟨(some 9), none, (.mov (.v (.d (.int .i64 0))))⟩]) (.block 0 (.loop [1, 6, 8, 9] [4] L3_3)))))))
def S3_5 : C := (.reg [] [⟨(some 129), none, (.mov (.t 16))⟩, ⟨(some 130), none, (.build [(.bool false), .nils] [])⟩, ⟨(some 131), none, (.call (.v (.fn (.func 11) [] [])) [(.t 129), (.t 130)])⟩, ⟨(some 128), none, (.mov (.t 131))⟩, ⟨(some 132), none, (.extract 0 (.t 128))⟩, ⟨(some 133), none, (.extract 1 (.t 128))⟩, ⟨(some 17), none, (.alloc 33 [(.int .i64 0), (.int .i64 0), (.int .i64 0), (.int .i64 0), (.int .i64 0), (.int .i64 0), (.int .i64 0), (.int .i64 0), (.int .i64 0)] true)⟩, ⟨none, none, (.store 9 (.t 17) (.t 132))⟩, ⟨(some 18), none, (.mov (.t 133))⟩])
def S3_6 : C := (.reg [] [⟨(some 135), none, (.mov (.t 16))⟩, ⟨(some 136), none, (.call (.v (.fn (.func 13) [] [])) [(.t 135)])⟩, ⟨(some 134), none, (.mov (.t 136))⟩, ⟨(some 137), none, (.extract 0 (.t 134))⟩, ⟨(some 138), none, (.extract 1 (.t 134))⟩, ⟨(some 19), none, (.mov (.t 137))⟩, ⟨(some 20), none, (.mov (.t 138))⟩])
def S3_7 : C := (.reg [] [⟨(some 139), none, (.call (.v (.fn (.func 8) [] [])) [])⟩, ⟨(some 140), none, (.mov (.t 139))⟩, ⟨(some 141), (some (140, true)), (.mov (.t 18))⟩, ⟨(some 142), (some (140, true)), (.bin .eql (.t 141) (.v (.d (.int .i64 1))))⟩, ⟨(some 143), none, (.pick (.t 140) (.t 142) (.v (.d (.bool false))))⟩, ⟨(some 144), none, (.mov (.t 143))⟩, ⟨(some 145), (some (144, true)), (.mov (.t 19))⟩, ⟨(some 146), (some (144, true)), (.bin .eql (.t 145) (.v (.d (.int .i64 0))))⟩, ⟨(some 147), none, (.pick (.t 144) (.t 146) (.v (.d (.bool false))))⟩, ⟨(some 148), none, (.mov (.t 147))⟩, ⟨(some 149), (some (148, true)), (.mov (.t 20))⟩, ⟨(some 150), (some (148, true)), (.unop .not (.t 149))⟩, ⟨(some 151), none, (.pick (.t 148) (.t 150) (.v (.d (.bool false))))⟩, ⟨(some 152), none, (.mov (.t 151))⟩, ⟨(some 153), (some (152, true)), (.mov (.t 16))⟩, ⟨(some 154), (some (152, true)), (.call (.v (.fn (.func 14) [] [])) [(.t 153)])⟩, ⟨(some 155), (some (152, true)), (.build [(.int .i64 0), (.int .i64 0), (.int .i64 0), (.int .i64 0), (.int .i64 0), (.int .i64 0), (.int .i64 0)] [])⟩, ⟨(some 156), (some (152, true)), (.beq (.cells [(.i .i64), (.i .i64), (.i .i64), (.i .i64), (.i .i64), (.i .i64), (.i .i64)]) false (.t 154) (.t 155))⟩, ⟨(some 157), none, (.pick (.t 152) (.t 156) (.v (.d (.bool false))))⟩, ⟨(some 4), none, (.mov (.t 157))⟩])
def F3 : CFunc := ⟨158, [(.tmp 4)], (.seq (.reg [] [⟨(some 4), none, (.mov (.v (.d (.bool false))))⟩]) (.seq (.reg [] [⟨(some 21), none, (.mov (.t 1))⟩, ⟨(some 22), none, (.call (.v (.fn (.func 7) [] [])) [(.t 21)])⟩, ⟨(some 5), none, (.mov (.t 22))⟩]) (.seq (.seq (.reg [] [⟨(some 23), none, (.mov (.t 5))⟩, ⟨(some 24), none, (.unop .not (.t 23))⟩]) (.cond (.t 24) (.seq (.reg [] [⟨(some 25), none, (.call (.v (.fn (.func 8) [] [])) [])⟩, ⟨(some 4), none, (.mov (.t 25))⟩]) .ret) .skip)) (.cut [0, 1] [4] [] S3_4 (.seq (.reg [] [⟨(some 16), none, (.mov (.v (.d .nilp)))⟩]) (.cut [16] [] [16, 18] S3_5 (.cut [16, 18] [] [16, 18, 19, 20] S3_6 (.cut [16, 18, 19, 20] [] [4] S3_7 .ret))))))))⟩
theorem c3 : cAt Try.prog 3 = some F3.er := by kernel_rfl
def L4_0 : C := (.seq (.seq (.reg [] [⟨(some 50), none, (.mov (.t 12))⟩, ⟨(some 51), none, (.mov (.t 0))⟩, ⟨(some 52), none, (.len (.t 51))⟩, ⟨(some 53), none, (.bin .lss (.t 50) (.t 52))⟩]) (.cond (.t 53) .skip (.exit 0))) (.seq (.block 1 (.reg [] [⟨(some 56), none, (.mov (.t 10))⟩, ⟨(some 57), none, (.mov (.t 0))⟩, ⟨(some 58), none, (.mov (.t 12))⟩, ⟨(some 59), none, (.idxA 2 (.t 57) (.t 58))⟩, ⟨(some 60), none, (.load true 2 (.t 59))⟩, ⟨(some 61), none, (.call (.v (.fn (.func 11) [] [])) [(.t 56), (.t 60)])⟩])) (.reg [] [⟨(some 54), none, (.mov (.t 12))⟩, ⟨(some 55), none, (.bin .add (.t 54) (.v (.d (.int .i64 1))))⟩, ⟨(some 12), none, (.mov (.t 55))⟩])))
def S4_1 : C := (.seq1 (.reg [] [⟨(some 85), none, (.mov (.t 16))⟩, ⟨(some 86), none, (.bin .rem (.t 85) (.v (.d (.int .i64 3))))⟩, ⟨(some 87), none, (.bin .eql (.t 86) (.v (.d (.int .i64 2))))⟩]) (.cond (.t 87) (.seq (.reg [] [⟨(some 88), none, (.mov (.t 10))⟩, ⟨(some 89), none, (.build [(.bool false), .nils] [])⟩, ⟨(some 90), none, (.call (.v (.fn (.func 11) [] [])) [(.t 88), (.t 89)])⟩]) (.reg [] [⟨(some 91), none, (.mov (.t 15))⟩, ⟨(some 92), none, (.bin .add (.t 91) (.v (.d (.int .i64 1))))⟩, ⟨(some 15), none, (.mov (.t 92))⟩])) .skip))
def S4_2 : C := (.seq (.reg [] [⟨(some 98), none, (.load true 9 (.t 4))⟩, ⟨(some 99), none, (.call (.v (.fn (.func 15) [] [])) [(.v (.d (.int .i64 2))), (.t 98)])⟩, ⟨(some 97), none, (.mov (.t 99))⟩, ⟨(some 100), none, (.extract 0 (.t 97))⟩, ⟨(some 101), none, (.extract 1 (.t 97))⟩, ⟨(some 17), none, (.mov (.t 100))⟩, ⟨(some 18), none, (.mov (.t 101))⟩]) (.seq (.reg [] [⟨(some 103), none, (.mov (.t 10))⟩, ⟨(some 104), none, (.mov (.t 17))⟩, ⟨(some 105), none, (.build [(.bool false), .nils] [(0, (1, (.v (.d (.bool true))))), (1, (1, (.t 104)))])⟩, ⟨(some 106), none, (.call (.v (.fn (.func 11) [] [])) [(.t 103), (.t 105)])⟩, ⟨(some 102), none, (.mov (.t 106))⟩, ⟨(some 107), none, (.extract 0 (.t 102))⟩, ⟨(some 108), none, (.extract 1 (.t 102))⟩, ⟨(some 19), none, (.alloc 33 [(.int .i64 0), (.int .i64 0), (.int .i64 0), (.int .i64 0), (.int .i64 0), (.int .i64 0), (.int .i64 0), (.int .i64 0), (.int .i64 0)] true)⟩, ⟨none, none, (.store 9 (.t 19) (.t 107))⟩, ⟨(some 20), none, (.mov (.t 108))⟩]) (.seq (.reg [] [⟨(some 109), none, (.mov (.t 15))⟩, ⟨(some 110), none, (.bin .add (.t 109) (.v (.d (.int .i64 1))))⟩, ⟨(some 15), none, (.mov (.t 110))⟩]) (.reg [] [⟨(some 111), none, (.mov (.t 18))⟩, ⟨(some 112), none, (.bin .neq (.t 111) (.v (.d (.int .i64 0))))⟩, ⟨(some 113), none, (.mov (.t 112))⟩, ⟨(some 114), (some (113, false)), (.mov (.t 20))⟩, ⟨(some 115), (some (113, false)), (.bin .neq (.t 114) (.v (.d (.int .i64 0))))⟩, ⟨(some 116), none, (.pick (.t 113) (.v (.d (.bool true))) (.t 115))⟩, ⟨(some 117), none, (.mov (.t 116))⟩, ⟨(some 118), (some (117, false)), (.load true 9 (.t 19))⟩, ⟨(some 119), (some (117, false)), (.load true 9 (.t 4))⟩, ⟨(some 120), (some (117, false)), (.beq (.cells [(.i .i64), (.i .i64), (.i .i64), (.i .i64), (.i .i64), (.i .i64), (.i .i64), (.i .i64), (.i .i64)]) true (.t 118) (.t 119))⟩, ⟨(some 121), none, (.pick (.t 117) (.v (.d (.bool true))) (.t 120))⟩]))))
def S4_3 : C := (.block 3 (.cut [2, 4, 10, 15, 16] [] [2, 4, 10, 15, 16] S4_1 (.seq (.reg [] [⟨(some 93), none, (.fieldA 0 (.t 4))⟩, ⟨(some 94), none, (.load false 1 (.t 93))⟩, ⟨(some 95), none, (.call (.v (.fn (.func 16) [] [])) [(.t 94)])⟩, ⟨(some 96), none, (.fieldA 0 (.t 4))⟩, ⟨none, none, (.store 1 (.t 96) (.t 95))⟩]) (.cut [2, 4, 10, 15, 16] [] [2, 4, 10, 15, 16, 121] S4_2 (.cond (.t 121) (.seq (.reg [] [⟨(some 6), none, (.mov (.v (.d (.bool false))))⟩]) .ret) .skip)))))
def L4_4 : C := (.seq (.seq (.reg [] [⟨(some 78), none, (.mov (.t 16))⟩, ⟨(some 79), none, (.mov (.t 2))⟩, ⟨(some 80), none, (.bin .rem (.t 79) (.v (.d (.int .u8 40))))⟩, ⟨(some 81), none, (.conv (.int .i64) (.t 80))⟩, ⟨(some 82), none, (.bin .lss (.t 78) (.t 81))⟩]) (.cond (.t 82) .skip (.exit 2))) (.cut [2, 4, 10, 15, 16] [6] [2, 4, 10, 15, 16] S4_3 (.reg [] [⟨(some 83), none, (.mov (.t 16))⟩, ⟨(some 84), none, (.bin .add (.t 83) (.v (.d (.int .i64 1))))⟩, ⟨(some 16), none, (.mov (.t 84))⟩])))
def L4_5 : C := (.seq (.seq (.reg [] [⟨(some 124), none, (.mov (.t 23))⟩, ⟨(some 125), none, (.bin .lss (.t 124) (.v (.d (.int .i64 7))))⟩]) (.cond (.t 125) .skip (.exit 4))) (.seq (.block 5 (.reg [] [⟨(some 128), none, (.mov (.t 21))⟩, ⟨(some 129), none, (.mov (.t 23))⟩, ⟨(some 130), none, (.idxAA 7 1 (.t 22) (.t 129))⟩, ⟨(some 131), none, (.load false 1 (.t 130))⟩, ⟨(some 132), none, (.bin .add (.t 128) (.t 131))⟩, ⟨(some 21), none, (.mov (.t 132))⟩])) (.reg [] [⟨(some 126), none, (.mov (.t 23))⟩, ⟨(some 127), none, (.bin .add (.t 126) (.v (.d (.int .i64 1))))⟩, ⟨(some 23), none, (.mov (.t 127))⟩])))
def S4_6 : C := (.seq (.reg [] [⟨(some 29), none, (.load true 9 (.t 4))⟩, ⟨(some 30), none, (.call (.v (.fn (.func 15) [] [])) [(.v (.d (.int .i64 2))), (.t 29)])⟩, ⟨(some 28), none, (.mov (.t 30))⟩, ⟨(some 31), none, (.extract 0 (.t 28))⟩, ⟨(some 32), none, (.extract 1 (.t 28))⟩, ⟨(some 8), none, (.mov (.t 31))⟩, ⟨(some 9), none, (.mov (.t 32))⟩]) (.seq (.seq (.reg [] [⟨(some 33), none, (.mov (.t 7))⟩, ⟨(some 34), none, (.unop .not (.t 33))⟩, ⟨(some 35), none, (.mov (.t 34))⟩, ⟨(some 36), (some (35, false)), (.mov (.t 9))⟩, ⟨(some 37), (some (35, false)), (.bin .neq (.t 36) (.v (.d (.int .i64 0))))⟩, ⟨(some 38), none, (.pick (.t 35) (.v (.d (.bool true))) (.t 37))⟩]) (.cond (.t 38) (.seq (.reg [] [⟨(some 39), none, (.call (.v (.fn (.func 8) [] [])) [])⟩, ⟨(some 6), none, (.mov (.t 39))⟩]) .ret) .skip)) (.seq (.reg [] [⟨(some 41), none, (.call (.v (.fn (.func 9) [] [])) [(.v (.d (.int .i64 2)))])⟩, ⟨(some 40), none, (.mov (.t 41))⟩, ⟨(some 42), none, (.extract 0 (.t 40))⟩, ⟨(some 43), none, (.extract 1 (.t 40))⟩, ⟨(some 10), none, (.mov (.t 42))⟩, ⟨(some 11), none, (.mov (.t 43))⟩]) (.seq (.seq (.reg [] [⟨(some 44), none, (.mov (.t 10))⟩, ⟨(some 45), none, (.beq .ptr false (.t 44) (.v (.d .nilp)))⟩, ⟨(some 46), none, (.mov (.t 45))⟩, ⟨(some 47), (some (46, false)), (.mov (.t 11))⟩, ⟨(some 48), (some (46, false)), (.bin .neq (.t 47) (.v (.d (.int .i64 0))))⟩, ⟨(some 49), none, (.pick (.t 46) (.v (.d (.bool true))) (.t 48))⟩]) (.cond (.t 49) (.seq (.reg [] [⟨(some 6), none, (.mov (.v (.d (.bool false))))⟩]) .ret) .skip)) (.seq (.seq (.reg [] [⟨(some 12), none, (.mov (.v (.d (.int .i64 0))))⟩]) (.block 0 (.loop [0, 2, 4, 8, 10, 12] [0, 2, 4, 8, 10] L4_0))) (.seq (.reg [] [⟨(some 63), none, (.mov (.t 10))⟩, ⟨(some 64), none, (.mov (.t 8))⟩, ⟨(some 65), none, (.build [(.bool false), .nils] [(0, (1, (.v (.d (.bool true))))), (1, (1, (.t 64)))])⟩, ⟨(some 66), none, (.call (.v (.fn (.func 11) [] [])) [(.t 63), (.t 65)])⟩, ⟨(some 62), none, (.mov (.t 66))⟩, ⟨(some 67), none, (.extract 0 (.t 62))⟩, ⟨(some 68), none, (.extract 1 (.t 62))⟩, ⟨(some 13), none, (.alloc 33 [(.int .i64 0), (.int .i64 0), (.int .i64 0), (.int .i64 0), (.int .i64 0), (.int .i64 0), (.int .i64 0), (.int .i64 0), (.int .i64 0)] true)⟩, ⟨none, none, (.store 9 (.t 13) (.t 67))⟩, ⟨(some 14), none, (.mov (.t 68))⟩]) (.seq (.seq (.reg [] [⟨(some 69), none, (.mov (.t 14))⟩, ⟨(some 70), none, (.bin .neq (.t 69) (.v (.d (.int .i64 0))))⟩, ⟨(some 71), none, (.mov (.t 70))⟩, ⟨(some 72), (some (71, true)), (.mov (.t 14))⟩, ⟨(some 73), (some (71, true)), (.bin .neq (.t 72) (.v (.d (.int .i64 6))))⟩, ⟨(some 74), none, (.pick (.t 71) (.t 73) (.v (.d (.bool false))))⟩]) (.cond (.t 74) (.seq (.reg [] [⟨(some 6), none, (.mov (.v (.d (.bool false))))⟩]) .ret) .skip)) (.seq (.reg [] [⟨(some 75), none, (.mov (.t 0))⟩, ⟨(some 76), none, (.len (.t 75))⟩, ⟨(some 77), none, (.bin .add (.t 76) (.v (.d (.int .i64 1))))⟩, ⟨(some 15), none, (.mov (.t 77))⟩]) (.seq (.seq (.reg [] [⟨(some 16), none, (.mov (.v (.d (.int .i64 0))))⟩]) (.block 2 (.loop [2, 4, 10, 15, 16] [4, 6, 10, 15] L4_4))) (.seq (.reg [] [⟨(some 21), none, (.mov (.v (.d (.int .i64 0))))⟩]) (.seq (.reg [] [⟨(some 122), none, (.mov (.t 10))⟩, ⟨(some 123), none, (.call (.v (.fn (.func 14) [] [])) [(.t 122)])⟩, ⟨(some 22), none, (.alloc 42 [(.int .i64 0), (.int .i64 0), (.int .i64 0), (.int .i64 0), (.int .i64 0), (.int .i64 0), (.int .i64 0)] true)⟩, ⟨none, none, (.store 7 (.t 22) (.t 123))⟩]) (.seq (.seq (.reg [] [⟨(some 23), none, (.mov (.v (.d (.int .i64 0))))⟩]) (.block 4 (.loop [4, 10, 15, 21, 22, 23] [4, 10, 15, 21] L4_5))) (.reg [] [⟨(some 134), none, (.mov (.t 10))⟩, ⟨(some 135), none, (.call (.v (.fn (.func 13) [] [])) [(.t 134)])⟩, ⟨(some 133), none, (.mov (.t 135))⟩, ⟨(some 136), none, (.extract 0 (.t 133))⟩, ⟨(some 137), none, (.extract 1 (.t 133))⟩, ⟨(some 24), none, (.mov (.t 136))⟩, ⟨(some 25), none, (.mov (.t 137))⟩])))))))))))))
def S4_7 : C := (.reg [] [⟨(some 138), none, (.call (.v (.fn (.func 8) [] [])) [])⟩, ⟨(some 139), none, (.mov (.t 138))⟩, ⟨(some 140), (some (139, true)), (.mov (.t 21))⟩, ⟨(some 141), (some (139, true)), (.mov (.t 15))⟩, ⟨(some 142), (some (139, true)), (.bin .eql (.t 140) (.t 141))⟩, ⟨(some 143), none, (.pick (.t 139) (.t 142) (.v (.d (.bool false))))⟩, ⟨(some 144), none, (.mov (.t 143))⟩, ⟨(some 145), (some (144, true)), (.mov (.t 25))⟩, ⟨(some 146), none, (.pick (.t 144) (.t 145) (.v (.d (.bool false))))⟩, ⟨(some 147), none, (.mov (.t 146))⟩, ⟨(some 148), (some (147, true)), (.mov (.t 24))⟩, ⟨(some 149), (some (147, true)), (.fieldA 0 (.t 4))⟩, ⟨(some 150), (some (147, true)), (.load false 1 (.t 149))⟩, ⟨(some 151), (some (147, true)), (.bin .eql (.t 148) (.t 150))⟩, ⟨(some 152), none, (.pick (.t 147) (.t 151) (.v (.d (.bool false))))⟩, ⟨(some 6), none, (.mov (.t 152))⟩])
def F4 : CFunc := ⟨153, [(.tmp 6)], (.seq (.reg [] [⟨(some 4), none, (.box 33 true 9 (.t 1))⟩, ⟨(some 6), none, (.mov (.v (.d (.bool false))))⟩]) (.seq (.reg [] [⟨(some 26), none, (.mov (.t 0))⟩, ⟨(some 27), none, (.call (.v (.fn (.func 7) [] [])) [(.t 26)])⟩, ⟨(some 7), none, (.mov (.t 27))⟩]) (.cut [0, 2, 4, 7] [6] [4, 15, 21, 24, 25] S4_6 (.cut [4, 15, 21, 24, 25] [] [6] S4_7 .ret))))⟩
theorem c4 : cAt Try.prog 4 = some F4.er := by kernel_rfl
def S5_0 : C := (.seq1 (.reg [] [⟨(some 14), none, (.mov (.t 1))⟩, ⟨(some 15), none, (.len (.t 14))⟩, ⟨(some 16), none, (.bin .gtr (.t 15) (.v (.d (.int .i64 300))))⟩]) (.cond (.t 16) (.seq (.reg [] [⟨(some 17), none, (.call (.v (.fn (.func 17) [] [])) [])⟩, ⟨(some 4), none, (.mov (.t 17))⟩]) .ret) .skip))
def S5_1 : C := (.seq (.reg [] [⟨(some 19), none, (.load true 41 (.t 2))⟩, ⟨(some 20), none, (.call (.v (.fn (.func 18) [] [])) [(.t 19)])⟩, ⟨(some 18), none, (.mov (.t 20))⟩, ⟨(some 21), none, (.extract 0 (.t 18))⟩, ⟨(some 22), none, (.extract 1 (.t 18))⟩, ⟨(some 5), none, (.mov (.t 21))⟩, ⟨(some 6), none, (.mov (.t 22))⟩]) (.seq (.reg [] [⟨(some 24), none, (.load true 41 (.t 2))⟩, ⟨(some 25), none, (.call (.v (.fn (.func 19) [] [])) [(.t 24)])⟩, ⟨(some 23), none, (.mov (.t 25))⟩, ⟨(some 26), none, (.extract 0 (.t 23))⟩, ⟨(some 27), none, (.extract 1 (.t 23))⟩, ⟨(some 7), none, (.mov (.t 26))⟩, ⟨(some 8), none, (.mov (.t 27))⟩]) (.reg [] [⟨(some 28), none, (.mov (.t 5))⟩, ⟨(some 29), none, (.mov (.t 7))⟩, ⟨(some 30), none, (.call (.v (.fn (.func 20) [] [])) [(.t 28), (.t 29)])⟩, ⟨(some 9), none, (.mov (.t 30))⟩])))
def S5_2 : C := (.seq (.reg [] [⟨(some 32), none, (.mov (.t 1))⟩, ⟨(some 33), none, (.call (.v (.fn (.func 21) [] [])) [(.t 32)])⟩, ⟨(some 31), none, (.mov (.t 33))⟩, ⟨(some 34), none, (.extract 0 (.t 31))⟩, ⟨(some 35), none, (.extract 1 (.t 31))⟩, ⟨(some 10), none, (.alloc 55 [(.int .i64 0), (.int .i64 0), (.int .i64 0), (.int .i64 0), (.int .i64 0), (.int .i64 0), (.int .i64 0), (.int .i64 0), (.int .i64 0), (.int .i64 0), (.int .i64 0), (.int .i64 0), (.bool false), (.int .i64 0), (.int .i64 0), (.int .i64 0), (.bool false), (.int .i64 0), (.int .i64 0), (.int .i64 0), (.bool false), (.int .i64 0), (.int .i64 0), (.int .i64 0), (.bool false), (.int .i64 0), (.int .i64 0), (.int .i64 0), (.bool false), (.int .i64 0), (.int .i64 0), (.int .i64 0), (.bool false), (.int .i64 0), (.int .i64 0), (.int .i64 0), (.bool false), (.int .i64 0), (.int .i64 0), (.int .i64 0), (.bool false)] true)⟩, ⟨none, none, (.store 41 (.t 10) (.t 34))⟩, ⟨(some 11), none, (.mov (.t 35))⟩]) (.seq (.reg [] [⟨(some 37), none, (.mov (.t 1))⟩, ⟨(some 38), none, (.call (.v (.fn (.func 22) [] [])) [(.t 37)])⟩, ⟨(some 36), none, (.mov (.t 38))⟩, ⟨(some 39), none, (.extract 0 (.t 36))⟩, ⟨(some 40), none, (.extract 1 (.t 36))⟩, ⟨(some 12), none, (.alloc 55 [(.int .i64 0), (.int .i64 0), (.int .i64 0), (.int .i64 0), (.int .i64 0), (.int .i64 0), (.int .i64 0), (.int .i64 0), (.int .i64 0), (.int .i64 0), (.int .i64 0), (.int .i64 0), (.bool false), (.int .i64 0), (.int .i64 0), (.int .i64 0), (.bool false), (.int .i64 0), (.int .i64 0), (.int .i64 0), (.bool false), (.int .i64 0), (.int .i64 0), (.int .i64 0), (.bool false), (.int .i64 0), (.int .i64 0), (.int .i64 0), (.bool false), (.int .i64 0), (.int .i64 0), (.int .i64 0), (.bool false), (.int .i64 0), (.int .i64 0), (.int .i64 0), (.bool false), (.int .i64 0), (.int .i64 0), (.int .i64 0), (.bool false)] true)⟩, ⟨none, none, (.store 41 (.t 12) (.t 39))⟩, ⟨(some 13), none, (.mov (.t 40))⟩]) (.mix [⟨(some 41), none, (.call (.v (.fn (.func 17) [] [])) [])⟩, ⟨(some 42), none, (.mov (.t 41))⟩, ⟨(some 43), (some (42, true)), (.mov (.t 9))⟩, ⟨(some 44), none, (.pick (.t 42) (.t 43) (.v (.d (.bool false))))⟩, ⟨(some 45), none, (.mov (.t 44))⟩, ⟨(some 46), (some (45, true)), (.mov (.t 6))⟩, ⟨(some 47), (some (45, true)), (.mov (.t 8))⟩, ⟨(some 48), (some (45, true)), (.bin .eql (.t 46) (.t 47))⟩, ⟨(some 49), none, (.pick (.t 45) (.t 48) (.v (.d (.bool false))))⟩, ⟨(some 50), none, (.mov (.t 49))⟩, ⟨(some 51), (some (50, true)), (.load true 41 (.t 10))⟩, ⟨(some 52), (some (50, true)), (.load true 41 (.t 12))⟩, ⟨(some 53), (some (50, true)), (.beq (.cells [(.i .i64), (.i .i64), (.i .i64), (.i .i64), (.i .i64), (.i .i64), (.i .i64), (.i .i64), (.i .i64), (.i .i64), (.i .i64), (.i .i64), .b, (.i .i64), (.i .i64), (.i .i64), .b, (.i .i64), (.i .i64), (.i .i64), .b, (.i .i64), (.i .i64), (.i .i64), .b, (.i .i64), (.i .i64), (.i .i64), .b, (.i .i64), (.i .i64), (.i .i64), .b, (.i .i64), (.i .i64), (.i .i64), .b, (.i .i64), (.i .i64), (.i .i64), .b]) false (.t 51) (.t 52))⟩, ⟨(some 54), none, (.pick (.t 50) (.t 53) (.v (.d (.bool false))))⟩, ⟨(some 55), none, (.mov (.t 54))⟩, ⟨(some 56), (some (55, true)), (.mov (.t 11))⟩, ⟨(some 57), (some (55, true)), (.mov (.t 13))⟩, ⟨(some 58), (some (55, true)), (.bin .eql (.t 56) (.t 57))⟩, ⟨(some 59), none, (.pick (.t 55) (.t 58) (.v (.d (.bool false))))⟩, ⟨(some 60), none, (.mov (.t 59))⟩, ⟨(some 61), (some (60, true)), (.load true 41 (.t 2))⟩, ⟨(some 62), (some (60, true)), (.call (.v (.fn (.func 23) [] [])) [(.t 61)])⟩, ⟨(some 63), (some (60, true)), (.load true 41 (.t 2))⟩, ⟨(some 64), (some (60, true)), (.call (.v (.fn (.func 24) [] [])) [(.t 63)])⟩, ⟨(some 65), (some (60, true)), (.beq .bool false (.t 62) (.t 64))⟩, ⟨(some 66), none, (.pick (.t 60) (.t 65) (.v (.d (.bool false))))⟩, ⟨(some 67), none, (.mov (.t 66))⟩, ⟨(some 68), (some (67, true)), (.load true 41 (.t 2))⟩, ⟨(some 69), (some (67, true)), (.call (.v (.fn (.func 25) [] [])) [(.t 68)])⟩, ⟨(some 70), (some (67, true)), (.load true 41 (.t 2))⟩, ⟨(some 71), (some (67, true)), (.call (.v (.fn (.func 26) [] [])) [(.t 70)])⟩, ⟨(some 72), (some (67, true)), (.bin .eql (.t 69) (.t 71))⟩, ⟨(some 73), none, (.pick (.t 67) (.t 72) (.v (.d (.bool false))))⟩, ⟨(some 4), none, (.mov (.t 73))⟩] [[], [], [], [], [], [], [], [], [], [], [], [], [], [], [], [], [], [], [], [], [], [], [21], [], [], [], [], [], [], [28], [], [], [], []] [false, false, false, false, false, false, false, false, false, false, false, false, false, false, false, false, false, false, false, false, false, false, false, true, false, false, false, false, true, false, true, false, false, false])))
def F5 : CFunc := ⟨74, [(.tmp 4)], (.seq (.reg [] [⟨(some 2), none, (.box 55 true 41 (.t 0))⟩, ⟨(some 4), none, (.mov (.v (.d (.bool false))))⟩]) (.cut [1, 2] [4] [1, 2] S5_0 (.cut [1, 2] [] [1, 2, 6, 8, 9] S5_1 (.cut [1, 2, 6, 8, 9] [] [4] S5_2 .ret))))⟩
theorem c5 : cAt Try.prog 5 = some F5.er := by kernel_rfl
def S6_0 : C := (.seq1 (.reg [] [⟨(some 19), none, (.mov (.t 1))⟩, ⟨(some 20), none, (.len (.t 19))⟩, ⟨(some 21), none, (.bin .gtr (.t 20) (.v (.d (.int .i64 300))))⟩]) (.cond (.t 21) (.seq (.reg [] [⟨(some 22), none, (.call (.v (.fn (.func 17) [] [])) [])⟩, ⟨(some 6), none, (.mov (.t 22))⟩]) .ret) .skip))
def S6_1 : C := (.seq (.reg [] [⟨(some 36), none, (.mov (.t 7))⟩, ⟨(some 37), none, (.call (.v (.fn (.func 21) [] [])) [(.t 36)])⟩, ⟨(some 35), none, (.mov (.t 37))⟩, ⟨(some 38), none, (.extract 0 (.t 35))⟩, ⟨(some 39), none, (.extract 1 (.t 35))⟩, ⟨(some 9), none, (.alloc 55 [(.int .i64 0), (.int .i64 0), (.int .i64 0), (.int .i64 0), (.int .i64 0), (.int .i64 0), (.int .i64 0), (.int .i64 0), (.int .i64 0), (.int .i64 0), (.int .i64 0), (.int .i64 0), (.bool false), (.int .i64 0), (.int .i64 0), (.int .i64 0), (.bool false), (.int .i64 0), (.int .i64 0), (.int .i64 0), (.bool false), (.int .i64 0), (.int .i64 0), (.int .i64 0), (.bool false), (.int .i64 0), (.int .i64 0), (.int .i64 0), (.bool false), (.int .i64 0), (.int .i64 0), (.int .i64 0), (.bool false), (.int .i64 0), (.int .i64 0), (.int .i64 0), (.bool false), (.int .i64 0), (.int .i64 0), (.int .i64 0), (.bool false)] true)⟩, ⟨none, none, (.store 41 (.t 9) (.t 38))⟩, ⟨(some 10), none, (.mov (.t 39))⟩]) (.seq1 (.reg [] [⟨(some 40), none, (.mov (.t 10))⟩, ⟨(some 41), none, (.bin .neq (.t 40) (.v (.d (.int .i64 0))))⟩, ⟨(some 42), none, (.mov (.t 41))⟩, ⟨(some 43), (some (42, false)), (.load true 41 (.t 9))⟩, ⟨(some 44), (some (42, false)), (.load true 41 (.t 3))⟩, ⟨(some 45), (some (42, false)), (.beq (.cells [(.i .i64), (.i .i64), (.i .i64), (.i .i64), (.i .i64), (.i .i64), (.i .i64), (.i .i64), (.i .i64), (.i .i64), (.i .i64), (.i .i64), .b, (.i .i64), (.i .i64), (.i .i64), .b, (.i .i64), (.i .i64), (.i .i64), .b, (.i .i64), (.i .i64), (.i .i64), .b, (.i .i64), (.i .i64), (.i .i64), .b, (.i .i64), (.i .i64), (.i .i64), .b, (.i .i64), (.i .i64), (.i .i64), .b, (.i .i64), (.i .i64), (.i .i64), .b]) true (.t 43) (.t 44))⟩, ⟨(some 46), none, (.pick (.t 42) (.v (.d (.bool true))) (.t 45))⟩, ⟨(some 47), none, (.mov (.t 46))⟩, ⟨(some 48), (some (47, false)), (.mov (.t 7))⟩, ⟨(some 49), (some (47, false)), (.len (.t 48))⟩, ⟨(some 50), (some (47, false)), (.bin .neq (.t 49) (.v (.d (.int .i64 54))))⟩, ⟨(some 51), none, (.pick (.t 47) (.v (.d (.bool true))) (.t 50))⟩]) (.cond (.t 51) (.seq (.reg [] [⟨(some 6), none, (.mov (.v (.d (.bool false))))⟩]) .ret) .skip)))
def S6_2 : C := (.seq (.reg [] [⟨(some 52), none, (.bslice 5 true 1 0 [(.int .u8 0)] [])⟩, ⟨(some 53), none, (.mov (.t 7))⟩, ⟨(some 54), none, (.append 5 true 1 1 (.t 52) (.t 53))⟩, ⟨(some 11), none, (.mov (.t 54))⟩]) (.seq (.reg [⟨(some 55), none, (.mov (.t 11))⟩, ⟨(some 56), none, (.fieldA 0 (.t 5))⟩, ⟨(some 57), none, (.load false 1 (.t 56))⟩, ⟨(some 58), none, (.conv (.int .i64) (.t 57))⟩, ⟨(some 59), none, (.bin .rem (.t 58) (.v (.d (.int .i64 54))))⟩, ⟨(some 60), none, (.mov (.t 11))⟩, ⟨(some 61), none, (.fieldA 0 (.t 5))⟩, ⟨(some 62), none, (.load false 1 (.t 61))⟩, ⟨(some 63), none, (.conv (.int .i64) (.t 62))⟩, ⟨(some 64), none, (.bin .rem (.t 63) (.v (.d (.int .i64 54))))⟩, ⟨(some 65), none, (.idxA 1 (.t 60) (.t 64))⟩, ⟨(some 66), none, (.load false 1 (.t 65))⟩, ⟨(some 67), none, (.fieldA 1 (.t 5))⟩, ⟨(some 68), none, (.load false 1 (.t 67))⟩, ⟨(some 69), none, (.bin .add (.t 66) (.t 68))⟩] [⟨(some 70), none, (.idxA 1 (.t 55) (.t 59))⟩, ⟨none, none, (.store 1 (.t 70) (.t 69))⟩]) (.reg [] [⟨(some 72), none, (.mov (.t 11))⟩, ⟨(some 73), none, (.call (.v (.fn (.func 21) [] [])) [(.t 72)])⟩, ⟨(some 71), none, (.mov (.t 73))⟩, ⟨(some 74), none, (.extract 0 (.t 71))⟩, ⟨(some 75), none, (.extract 1 (.t 71))⟩, ⟨(some 12), none, (.alloc 55 [(.int .i64 0), (.int .i64 0), (.int .i64 0), (.int .i64 0), (.int .i64 0), (.int .i64 0), (.int .i64 0), (.int .i64 0), (.int .i64 0), (.int .i64 0), (.int .i64 0), (.int .i64 0), (.bool false), (.int .i64 0), (.int .i64 0), (.int .i64 0), (.bool false), (.int .i64 0), (.int .i64 0), (.int .i64 0), (.bool false), (.int .i64 0), (.int .i64 0), (.int .i64 0), (.bool false), (.int .i64 0), (.int .i64 0), (.int .i64 0), (.bool false), (.int .i64 0), (.int .i64 0), (.int .i64 0), (.bool false), (.int .i64 0), (.int .i64 0), (.int .i64 0), (.bool false), (.int .i64 0), (.int .i64 0), (.int .i64 0), (.bool false)] true)⟩, ⟨none, none, (.store 41 (.t 12) (.t 74))⟩, ⟨(some 13), none, (.mov (.t 75))⟩])))
def S6_3 : C := (.reg [] [⟨(some 76), none, (.fieldA 1 (.t 5))⟩, ⟨(some 77), none, (.load false 1 (.t 76))⟩, ⟨(some 78), none, (.bin .neq (.t 77) (.v (.d (.int .u8 0))))⟩, ⟨(some 79), none, (.mov (.t 78))⟩, ⟨(some 80), (some (79, true)), (.mov (.t 13))⟩, ⟨(some 81), (some (79, true)), (.bin .neq (.t 80) (.v (.d (.int .i64 3))))⟩, ⟨(some 82), none, (.pick (.t 79) (.t 81) (.v (.d (.bool false))))⟩])
def S6_4 : C := (.seq (.reg [] [⟨(some 24), none, (.load true 41 (.t 3))⟩, ⟨(some 25), none, (.call (.v (.fn (.func 18) [] [])) [(.t 24)])⟩, ⟨(some 23), none, (.mov (.t 25))⟩, ⟨(some 26), none, (.extract 0 (.t 23))⟩, ⟨(some 27), none, (.extract 1 (.t 23))⟩, ⟨(some 7), none, (.mov (.t 26))⟩, ⟨(some 8), none, (.mov (.t 27))⟩]) (.seq (.seq (.reg [] [⟨(some 28), none, (.mov (.t 8))⟩, ⟨(some 29), none, (.bin .eql (.t 28) (.v (.d (.int .i64 0))))⟩, ⟨(some 30), none, (.load true 41 (.t 3))⟩, ⟨(some 31), none, (.call (.v (.fn (.func 23) [] [])) [(.t 30)])⟩, ⟨(some 32), none, (.beq .bool true (.t 29) (.t 31))⟩]) (.cond (.t 32) (.seq (.reg [] [⟨(some 6), none, (.mov (.v (.d (.bool false))))⟩]) .ret) .skip)) (.seq1 (.reg [] [⟨(some 33), none, (.mov (.t 8))⟩, ⟨(some 34), none, (.bin .eql (.t 33) (.v (.d (.int .i64 0))))⟩]) (.cond (.t 34) (.cut [1, 3, 5, 7] [6] [1, 5, 7] S6_1 (.cut [1, 5, 7] [] [1, 5, 13] S6_2 (.cut [1, 5, 13] [] [1, 82] S6_3 (.cond (.t 82) (.seq (.reg [] [⟨(some 6), none, (.mov (.v (.d (.bool false))))⟩]) .ret) .skip)))) .skip))))
def S6_5 : C := (.seq (.reg [] [⟨(some 84), none, (.mov (.t 1))⟩, ⟨(some 85), none, (.call (.v (.fn (.func 21) [] [])) [(.t 84)])⟩, ⟨(some 83), none, (.mov (.t 85))⟩, ⟨(some 86), none, (.extract 0 (.t 83))⟩, ⟨(some 87), none, (.extract 1 (.t 83))⟩, ⟨(some 14), none, (.alloc 55 [(.int .i64 0), (.int .i64 0), (.int .i64 0), (.int .i64 0), (.int .i64 0), (.int .i64 0), (.int .i64 0), (.int .i64 0), (.int .i64 0), (.int .i64 0), (.int .i64 0), (.int .i64 0), (.bool false), (.int .i64 0), (.int .i64 0), (.int .i64 0), (.bool false), (.int .i64 0), (.int .i64 0), (.int .i64 0), (.bool false), (.int .i64 0), (.int .i64 0), (.int .i64 0), (.bool false), (.int .i64 0), (.int .i64 0), (.int .i64 0), (.bool false), (.int .i64 0), (.int .i64 0), (.int .i64 0), (.bool false), (.int .i64 0), (.int .i64 0), (.int .i64 0), (.bool false), (.int .i64 0), (.int .i64 0), (.int .i64 0), (.bool false)] true)⟩, ⟨none, none, (.store 41 (.t 14) (.t 86))⟩, ⟨(some 15), none, (.mov (.t 87))⟩]) (.seq (.seq (.reg [] [⟨(some 88), none, (.mov (.t 15))⟩, ⟨(some 89), none, (.bin .neq (.t 88) (.v (.d (.int .i64 0))))⟩]) (.cond (.t 89) (.seq (.reg [] [⟨(some 90), none, (.call (.v (.fn (.func 17) [] [])) [])⟩, ⟨(some 91), none, (.mov (.t 90))⟩, ⟨(some 92), (some (91, true)), (.load true 41 (.t 14))⟩, ⟨(some 93), (some (91, true)), (.build [(.int .i64 0), (.int .i64 0), (.int .i64 0), (.int .i64 0), (.int .i64 0), (.int .i64 0), (.int .i64 0), (.int .i64 0), (.int .i64 0), (.int .i64 0), (.int .i64 0), (.int .i64 0), (.bool false), (.int .i64 0), (.int .i64 0), (.int .i64 0), (.bool false), (.int .i64 0), (.int .i64 0), (.int .i64 0), (.bool false), (.int .i64 0), (.int .i64 0), (.int .i64 0), (.bool false), (.int .i64 0), (.int .i64 0), (.int .i64 0), (.bool false), (.int .i64 0), (.int .i64 0), (.int .i64 0), (.bool false), (.int .i64 0), (.int .i64 0), (.int .i64 0), (.bool false), (.int .i64 0), (.int .i64 0), (.int .i64 0), (.bool false)] [])⟩, ⟨(some 94), (some (91, true)), (.beq (.cells [(.i .i64), (.i .i64), (.i .i64), (.i .i64), (.i .i64), (.i .i64), (.i .i64), (.i .i64), (.i .i64), (.i .i64), (.i .i64), (.i .i64), .b, (.i .i64), (.i .i64), (.i .i64), .b, (.i .i64), (.i .i64), (.i .i64), .b, (.i .i64), (.i .i64), (.i .i64), .b, (.i .i64), (.i .i64), (.i .i64), .b, (.i .i64), (.i .i64), (.i .i64), .b, (.i .i64), (.i .i64), (.i .i64), .b, (.i .i64), (.i .i64), (.i .i64), .b]) false (.t 92) (.t 93))⟩, ⟨(some 95), none, (.pick (.t 91) (.t 94) (.v (.d (.bool false))))⟩, ⟨(some 6), none, (.mov (.t 95))⟩]) .ret) .skip)) (.seq (.reg [] [⟨(some 97), none, (.load true 41 (.t 14))⟩, ⟨(some 98), none, (.call (.v (.fn (.func 18) [] [])) [(.t 97)])⟩, ⟨(some 96), none, (.mov (.t 98))⟩, ⟨(some 99), none, (.extract 0 (.t 96))⟩, ⟨(some 100), none, (.extract 1 (.t 96))⟩, ⟨(some 16), none, (.mov (.t 99))⟩, ⟨(some 17), none, (.mov (.t 100))⟩]) (.reg [] [⟨(some 101), none, (.mov (.t 16))⟩, ⟨(some 102), none, (.mov (.t 1))⟩, ⟨(some 103), none, (.call (.v (.fn (.func 20) [] [])) [(.t 101), (.t 102)])⟩, ⟨(some 18), none, (.mov (.t 103))⟩]))))
def S6_6 : C := (.reg [] [⟨(some 104), none, (.call (.v (.fn (.func 17) [] [])) [])⟩, ⟨(some 105), none, (.mov (.t 104))⟩, ⟨(some 106), (some (105, true)), (.mov (.t 17))⟩, ⟨(some 107), (some (105, true)), (.bin .eql (.t 106) (.v (.d (.int .i64 0))))⟩, ⟨(some 108), none, (.pick (.t 105) (.t 107) (.v (.d (.bool false))))⟩, ⟨(some 109), none, (.mov (.t 108))⟩, ⟨(some 110), (some (109, true)), (.mov (.t 18))⟩, ⟨(some 111), none, (.pick (.t 109) (.t 110) (.v (.d (.bool false))))⟩, ⟨(some 6), none, (.mov (.t 111))⟩])
def F6 : CFunc := ⟨112, [(.tmp 6)], (.seq (.reg [] [⟨(some 3), none, (.box 55 true 41 (.t 0))⟩, ⟨(some 5), none, (.box 64 true 2 (.t 2))⟩, ⟨(some 6), none, (.mov (.v (.d (.bool false))))⟩]) (.cut [1, 3, 5] [6] [1, 3, 5] S6_0 (.cut [1, 3, 5] [6] [1] S6_4 (.cut [1] [6] [17, 18] S6_5 (.cut [17, 18] [] [6] S6_6 .ret)))))⟩
theorem c6 : cAt Try.prog 6 = some F6.er := by kernel_rfl
def L7_0 : C := (.seq (.seq (.reg [] [⟨(some 7), none, (.mov (.t 3))⟩, ⟨(some 8), none, (.mov (.t 0))⟩, ⟨(some 9), none, (.len (.t 8))⟩, ⟨(some 10), none, (.bin .lss (.t 7) (.t 9))⟩]) (.cond (.t 10) .skip (.exit 0))) (.seq (.block 1 (.seq (.reg [] [⟨(some 13), none, (.mov (.t 0))⟩, ⟨(some 14), none, (.mov (.t 3))⟩, ⟨(some 15), none, (.idxA 2 (.t 13) (.t 14))⟩, ⟨(some 16), none, (.fieldA 1 (.t 15))⟩, ⟨(some 17), none, (.load false 1 (.t 16))⟩, ⟨(some 18), none, (.len (.t 17))⟩, ⟨(some 19), none, (.bin .gtr (.t 18) (.v (.d (.int .i64 100))))⟩]) (.cond (.t 19) (.seq (.reg [] [⟨(some 2), none, (.mov (.v (.d (.bool false))))⟩]) .ret) .skip))) (.reg [] [⟨(some 11), none, (.mov (.t 3))⟩, ⟨(some 12), none, (.bin .add (.t 11) (.v (.d (.int .i64 1))))⟩, ⟨(some 3), none, (.mov (.t 12))⟩])))
def F7 : CFunc := ⟨20, [(.tmp 2)], (.seq (.reg [] [⟨(some 2), none, (.mov (.v (.d (.bool false))))⟩]) (.seq (.seq (.reg [] [⟨(some 4), none, (.mov (.t 0))⟩, ⟨(some 5), none, (.len (.t 4))⟩, ⟨(some 6), none, (.bin .gtr (.t 5) (.v (.d (.int .i64 60))))⟩]) (.cond (.t 6) (.seq (.reg [] [⟨(some 2), none, (.mov (.v (.d (.bool false))))⟩]) .ret) .skip)) (.seq (.seq (.reg [] [⟨(some 3), none, (.mov (.v (.d (.int .i64 0))))⟩]) (.block 0 (.loop [0, 3] [2] L7_0))) (.seq (.reg [] [⟨(some 2), none, (.mov (.v (.d (.bool true))))⟩]) .ret))))⟩
theorem c7 : cAt Try.prog 7 = some F7.er := by kernel_rfl
def S8_0 : C := (.seq (.reg [] [⟨(some 20), none, (.call (.v (.fn (.func 9) [] [])) [(.v (.d (.int .i64 1)))])⟩, ⟨(some 19), none, (.mov (.t 20))⟩, ⟨(some 21), none, (.extract 0 (.t 19))⟩, ⟨(some 22), none, (.extract 1 (.t 19))⟩, ⟨(some 1), none, (.mov (.t 21))⟩, ⟨(some 2), none, (.mov (.t 22))⟩]) (.seq (.seq (.reg [] [⟨(some 23), none, (.mov (.t 1))⟩, ⟨(some 24), none, (.beq .ptr false (.t 23) (.v (.d .nilp)))⟩]) (.cond (.t 24) (.seq (.reg [] [⟨(some 0), none, (.mov (.v (.d (.bool false))))⟩]) .ret) .skip)) (.seq (.reg [] [⟨(some 26), none, (.build [(.int .i64 0), (.int .i64 0), (.int .i64 0), (.int .i64 0), (.int .i64 0), (.int .i64 0), (.int .i64 0), (.int .i64 0), (.int .i64 0)] [(0, (1, (.v (.d (.int .i64 65535)))))])⟩, ⟨(some 27), none, (.call (.v (.fn (.func 15) [] [])) [(.v (.d (.int .i64 1))), (.t 26)])⟩, ⟨(some 25), none, (.mov (.t 27))⟩, ⟨(some 28), none, (.extract 0 (.t 25))⟩, ⟨(some 29), none, (.extract 1 (.t 25))⟩, ⟨(some 3), none, (.mov (.t 28))⟩, ⟨(some 4), none, (.mov (.t 29))⟩]) (.seq (.reg [] [⟨(some 31), none, (.build [(.int .i64 0), (.int .i64 0), (.int .i64 0), (.int .i64 0), (.int .i64 0), (.int .i64 0), (.int .i64 0), (.int .i64 0)] [(3, (1, (.v (.d (.int .i64 9)))))])⟩, ⟨(some 32), none, (.build [(.int .i64 0), (.int .i64 0), (.int .i64 0), (.int .i64 0), (.int .i64 0), (.int .i64 0), (.int .i64 0), (.int .i64 0), (.int .i64 0)] [(1, (8, (.t 31)))])⟩, ⟨(some 33), none, (.call (.v (.fn (.func 15) [] [])) [(.v (.d (.int .i64 1))), (.t 32)])⟩, ⟨(some 30), none, (.mov (.t 33))⟩, ⟨(some 34), none, (.extract 0 (.t 30))⟩, ⟨(some 35), none, (.extract 1 (.t 30))⟩, ⟨(some 5), none, (.mov (.t 34))⟩, ⟨(some 6), none, (.mov (.t 35))⟩]) (.seq (.reg [] [⟨(some 37), none, (.mov (.t 1))⟩, ⟨(some 38), none, (.mov (.t 3))⟩, ⟨(some 39), none, (.build [(.bool false), .nils] [(0, (1, (.v (.d (.bool true))))), (1, (1, (.t 38)))])⟩, ⟨(some 40), none, (.call (.v (.fn (.func 11) [] [])) [(.t 37), (.t 39)])⟩, ⟨(some 36), none, (.mov (.t 40))⟩, ⟨(some 41), none, (.extract 0 (.t 36))⟩, ⟨(some 42), none, (.extract 1 (.t 36))⟩, ⟨(some 7), none, (.alloc 33 [(.int .i64 0), (.int .i64 0), (.int .i64 0), (.int .i64 0), (.int .i64 0), (.int .i64 0), (.int .i64 0), (.int .i64 0), (.int .i64 0)] true)⟩, ⟨none, none, (.store 9 (.t 7) (.t 41))⟩, ⟨(some 8), none, (.mov (.t 42))⟩]) (.seq (.reg [] [⟨(some 44), none, (.mov (.t 1))⟩, ⟨(some 45), none, (.build [(.bool false), .nils] [])⟩, ⟨(some 46), none, (.call (.v (.fn (.func 11) [] [])) [(.t 44), (.t 45)])⟩, ⟨(some 43), none, (.mov (.t 46))⟩, ⟨(some 47), none, (.extract 0 (.t 43))⟩, ⟨(some 48), none, (.extract 1 (.t 43))⟩, ⟨(some 9), none, (.alloc 33 [(.int .i64 0), (.int .i64 0), (.int .i64 0), (.int .i64 0), (.int .i64 0), (.int .i64 0), (.int .i64 0), (.int .i64 0), (.int .i64 0)] true)⟩, ⟨none, none, (.store 9 (.t 9) (.t 47))⟩, ⟨(some 10), none, (.mov (.t 48))⟩]) (.seq (.reg [] [⟨(some 50), none, (.mov (.t 1))⟩, ⟨(some 51), none, (.mov (.t 5))⟩, ⟨(some 52), none, (.build [(.bool false), .nils] [(0, (1, (.v (.d (.bool true))))), (1, (1, (.t 51)))])⟩, ⟨(some 53), none, (.call (.v (.fn (.func 11) [] [])) [(.t 50), (.t 52)])⟩, ⟨(some 49), none, (.mov (.t 53))⟩, ⟨(some 54), none, (.extract 0 (.t 49))⟩, ⟨(some 55), none, (.extract 1 (.t 49))⟩, ⟨(some 11), none, (.alloc 33 [(.int .i64 0), (.int .i64 0), (.int .i64 0), (.int .i64 0), (.int .i64 0), (.int .i64 0), (.int .i64 0), (.int .i64 0), (.int .i64 0)] true)⟩, ⟨none, none, (.store 9 (.t 11) (.t 54))⟩, ⟨(some 12), none, (.mov (.t 55))⟩]) (.seq (.reg [] [⟨(some 57), none, (.mov (.t 1))⟩, ⟨(some 58), none, (.mov (.t 5))⟩, ⟨(some 59), none, (.build [(.bool false), .nils] [(0, (1, (.v (.d (.bool true))))), (1, (1, (.t 58)))])⟩, ⟨(some 60), none, (.call (.v (.fn (.func 11) [] [])) [(.t 57), (.t 59)])⟩, ⟨(some 56), none, (.mov (.t 60))⟩, ⟨(some 61), none, (.extract 0 (.t 56))⟩, ⟨(some 62), none, (.extract 1 (.t 56))⟩, ⟨(some 13), none, (.alloc 33 [(.int .i64 0), (.int .i64 0), (.int .i64 0), (.int .i64 0), (.int .i64 0), (.int .i64 0), (.int .i64 0), (.int .i64 0), (.int .i64 0)] true)⟩, ⟨none, none, (.store 9 (.t 13) (.t 61))⟩, ⟨(some 14), none, (.mov (.t 62))⟩]) (.seq (.reg [] [⟨(some 64), none, (.mov (.t 1))⟩, ⟨(some 65), none, (.call (.v (.fn (.func 13) [] [])) [(.t 64)])⟩, ⟨(some 63), none, (.mov (.t 65))⟩, ⟨(some 66), none, (.extract 0 (.t 63))⟩, ⟨(some 67), none, (.extract 1 (.t 63))⟩, ⟨(some 15), none, (.mov (.t 66))⟩, ⟨(some 16), none, (.mov (.t 67))⟩]) (.seq (.reg [] [⟨(some 69), none, (.call (.v (.fn (.func 9) [] [])) [(.v (.d (.int .i64 4)))])⟩, ⟨(some 68), none, (.mov (.t 69))⟩, ⟨(some 70), none, (.extract 0 (.t 68))⟩, ⟨(some 71), none, (.extract 1 (.t 68))⟩, ⟨(some 17), none, (.mov (.t 70))⟩, ⟨(some 18), none, (.mov (.t 71))⟩]) (.reg [] [⟨(some 72), none, (.mov (.t 2))⟩, ⟨(some 73), none, (.bin .eql (.t 72) (.v (.d (.int .i64 0))))⟩, ⟨(some 74), none, (.mov (.t 73))⟩, ⟨(some 75), (some (74, true)), (.mov (.t 8))⟩, ⟨(some 76), (some (74, true)), (.bin .eql (.t 75) (.v (.d (.int .i64 0))))⟩, ⟨(some 77), none, (.pick (.t 74) (.t 76) (.v (.d (.bool false))))⟩, ⟨(some 78), none, (.mov (.t 77))⟩, ⟨(some 79), (some (78, true)), (.mov (.t 10))⟩, ⟨(some 80), (some (78, true)), (.bin .eql (.t 79) (.v (.d (.int .i64 1))))⟩, ⟨(some 81), none, (.pick (.t 78) (.t 80) (.v (.d (.bool false))))⟩, ⟨(some 82), none, (.mov (.t 81))⟩, ⟨(some 83), (some (82, true)), (.mov (.t 12))⟩, ⟨(some 84), (some (82, true)), (.bin .eql (.t 83) (.v (.d (.int .i64 0))))⟩, ⟨(some 85), none, (.pick (.t 82) (.t 84) (.v (.d (.bool false))))⟩, ⟨(some 86), none, (.mov (.t 85))⟩, ⟨(some 87), (some (86, true)), (.fieldA 1 (.t 11))⟩, ⟨(some 88), (some (86, true)), (.idxAA 8 1 (.t 87) (.v (.d (.int .i64 3))))⟩, ⟨(some 89), (some (86, true)), (.load false 1 (.t 88))⟩, ⟨(some 90), (some (86, true)), (.bin .eql (.t 89) (.v (.d (.int .i64 9))))⟩, ⟨(some 91), none, (.pick (.t 86) (.t 90) (.v (.d (.bool false))))⟩, ⟨(some 92), none, (.mov (.t 91))⟩, ⟨(some 93), (some (92, true)), (.mov (.t 14))⟩, ⟨(some 94), (some (92, true)), (.bin .eql (.t 93) (.v (.d (.int .i64 6))))⟩, ⟨(some 95), none, (.pick (.t 92) (.t 94) (.v (.d (.bool false))))⟩, ⟨(some 96), none, (.mov (.t 95))⟩, ⟨(some 97), (some (96, true)), (.mov (.t 15))⟩, ⟨(some 98), (some (96, true)), (.bin .eql (.t 97) (.v (.d (.int .i64 0))))⟩, ⟨(some 99), none, (.pick (.t 96) (.t 98) (.v (.d (.bool false))))⟩, ⟨(some 100), none, (.mov (.t 99))⟩, ⟨(some 101), (some (100, true)), (.mov (.t 16))⟩, ⟨(some 102), none, (.pick (.t 100) (.t 101) (.v (.d (.bool false))))⟩, ⟨(some 103), none, (.mov (.t 102))⟩, ⟨(some 104), (some (103, true)), (.mov (.t 18))⟩, ⟨(some 105), (some (103, true)), (.bin .eql (.t 104) (.v (.d (.int .i64 1))))⟩, ⟨(some 106), none, (.pick (.t 103) (.t 105) (.v (.d (.bool false))))⟩, ⟨(some 107), none, (.mov (.t 106))⟩, ⟨(some 108), (some (107, true)), (.mov (.t 1))⟩, ⟨(some 109), (some (107, true)), (.call (.v (.fn (.func 14) [] [])) [(.t 108)])⟩, ⟨(some 110), (some (107, true)), (.build [(.int .i64 0), (.int .i64 0), (.int .i64 0), (.int .i64 0), (.int .i64 0), (.int .i64 0), (.int .i64 0)] [(0, (1, (.v (.d (.int .i64 2))))), (1, (1, (.v (.d (.int .i64 1))))), (2, (1, (.v (.d (.int .i64 0))))), (3, (1, (.v (.d (.int .i64 0))))), (4, (1, (.v (.d (.int .i64 0))))), (5, (1, (.v (.d (.int .i64 0))))), (6, (1, (.v (.d (.int .i64 1)))))])⟩, ⟨(some 111), (some (107, true)), (.beq (.cells [(.i .i64), (.i .i64), (.i .i64), (.i .i64), (.i .i64), (.i .i64), (.i .i64)]) false (.t 109) (.t 110))⟩, ⟨(some 112), none, (.pick (.t 107) (.t 111) (.v (.d (.bool false))))⟩, ⟨(some 0), none, (.mov (.t 112))⟩])))))))))))
def F8 : CFunc := ⟨113, [(.tmp 0)], (.seq (.reg [] [⟨(some 0), none, (.mov (.v (.d (.bool false))))⟩]) (.cut [] [0] [0] S8_0 .ret))⟩
theorem c8 : cAt Try.prog 8 = some F8.er := by kernel_rfl
def F9 : CFunc := ⟨13, [(.tmp 2), (.tmp 3)], (.seq (.reg [] [⟨(some 2), none, (.mov (.v (.d .nilp)))⟩, ⟨(some 3), none, (.mov (.v (.d (.int .i64 0))))⟩]) (.seq (.seq (.reg [] [⟨(some 4), none, (.mov (.t 0))⟩, ⟨(some 5), none, (.bin .lss (.t 4) (.v (.d (.int .i64 0))))⟩, ⟨(some 6), none, (.mov (.t 5))⟩, ⟨(some 7), (some (6, false)), (.mov (.t 0))⟩, ⟨(some 8), (some (6, false)), (.bin .geq (.t 7) (.v (.d (.int .i64 4))))⟩, ⟨(some 9), none, (.pick (.t 6) (.v (.d (.bool true))) (.t 8))⟩]) (.cond (.t 9) (.seq (.reg [] [⟨(some 2), none, (.mov (.v (.d .nilp)))⟩, ⟨(some 3), none, (.mov (.v (.d (.int .i64 1))))⟩]) .ret) .skip)) (.seq (.reg [] [⟨(some 10), none, (.mov (.t 0))⟩, ⟨(some 11), none, (.build [(.int .i64 0), (.int .i64 0), (.bool false), (.int .i64 0), (.int .i64 0), (.int .i64 0), (.int .i64 0), (.int .i64 0), (.int .i64 0), (.int .i64 0)] [(0, (1, (.t 10)))])⟩, ⟨(some 12), none, (.box 67 true 10 (.t 11))⟩, ⟨(some 2), none, (.mov (.t 12))⟩, ⟨(some 3), none, (.mov (.v (.d (.int .i64 0))))⟩]) .ret)))⟩
theorem c9 : cAt Try.prog 9 = some F9.er := by kernel_rfl
def F11 : CFunc := ⟨29, [(.cell true 9 4), (.tmp 5)], (.seq (.reg [] [⟨(some 3), none, (.box 39 false 2 (.t 1))⟩, ⟨(some 4), none, (.alloc 33 [(.int .i64 0), (.int .i64 0), (.int .i64 0), (.int .i64 0), (.int .i64 0), (.int .i64 0), (.int .i64 0), (.int .i64 0), (.int .i64 0)] true)⟩, ⟨(some 5), none, (.mov (.v (.d (.int .i64 0))))⟩]) (.seq (.seq (.reg [] [⟨(some 8), none, (.mov (.t 0))⟩, ⟨(some 9), none, (.beq .ptr false (.t 8) (.v (.d .nilp)))⟩]) (.cond (.t 9) (.seq (.reg [] [⟨(some 10), none, (.build [(.int .i64 0), (.int .i64 0), (.int .i64 0), (.int .i64 0), (.int .i64 0), (.int .i64 0), (.int .i64 0), (.int .i64 0), (.int .i64 0)] [])⟩, ⟨none, none, (.store 9 (.t 4) (.t 10))⟩, ⟨(some 5), none, (.mov (.v (.d (.int .i64 1))))⟩]) .ret) .skip)) (.seq (.reg [] [⟨(some 12), none, (.mov (.t 0))⟩, ⟨(some 13), none, (.load true 2 (.t 3))⟩, ⟨(some 14), none, (.call (.v (.fn (.func 27) [] [])) [(.t 12), (.t 13)])⟩, ⟨(some 11), none, (.mov (.t 14))⟩, ⟨(some 15), none, (.extract 0 (.t 11))⟩, ⟨(some 16), none, (.extract 1 (.t 11))⟩, ⟨(some 6), none, (.alloc 33 [(.int .i64 0), (.int .i64 0), (.int .i64 0), (.int .i64 0), (.int .i64 0), (.int .i64 0), (.int .i64 0), (.int .i64 0), (.int .i64 0)] true)⟩, ⟨none, none, (.store 9 (.t 6) (.t 15))⟩, ⟨(some 7), none, (.mov (.t 16))⟩]) (.seq (.reg [⟨(some 17), none, (.mov (.t 0))⟩, ⟨(some 18), none, (.mov (.t 7))⟩, ⟨(some 19), none, (.nilck (.t 17))⟩, ⟨(some 20), none, (.fieldA 3 (.t 19))⟩, ⟨(some 21), none, (.idxAA 7 1 (.t 20) (.t 18))⟩, ⟨(some 22), none, (.load false 1 (.t 21))⟩, ⟨(some 23), none, (.bin .add (.t 22) (.v (.d (.int .i64 1))))⟩, ⟨(some 24), none, (.nilck (.t 17))⟩, ⟨(some 25), none, (.fieldA 3 (.t 24))⟩] [⟨(some 26), none, (.idxAA 7 1 (.t 25) (.t 18))⟩, ⟨none, none, (.store 1 (.t 26) (.t 23))⟩]) (.seq (.reg [] [⟨(some 27), none, (.load true 9 (.t 6))⟩, ⟨(some 28), none, (.mov (.t 7))⟩, ⟨none, none, (.store 9 (.t 4) (.t 27))⟩, ⟨(some 5), none, (.mov (.t 28))⟩]) .ret)))))⟩
theorem c11 : cAt Try.prog 11 = some F11.er := by kernel_rfl
def F13 : CFunc := ⟨14, [(.tmp 2), (.tmp 3)], (.seq (.reg [] [⟨(some 2), none, (.mov (.v (.d (.int .i64 0))))⟩, ⟨(some 3), none, (.mov (.v (.d (.bool false))))⟩]) (.seq (.seq (.reg [] [⟨(some 4), none, (.mov (.t 0))⟩, ⟨(some 5), none, (.beq .ptr false (.t 4) (.v (.d .nilp)))⟩]) (.cond (.t 5) (.seq (.reg [] [⟨(some 2), none, (.mov (.v (.d (.int .i64 0))))⟩, ⟨(some 3), none, (.mov (.v (.d (.bool false))))⟩]) .ret) .skip)) (.seq (.reg [⟨(some 6), none, (.mov (.t 0))⟩, ⟨(some 7), none, (.nilck (.t 6))⟩, ⟨(some 8), none, (.fieldA 1 (.t 7))⟩, ⟨(some 9), none, (.load false 1 (.t 8))⟩, ⟨(some 10), none, (.mov (.t 0))⟩, ⟨(some 11), none, (.nilck (.t 10))⟩, ⟨(some 12), none, (.fieldA 2 (.t 11))⟩, ⟨(some 13), none, (.load false 1 (.t 12))⟩, ⟨(some 2), none, (.mov (.t 9))⟩] [⟨(some 3), none, (.mov (.t 13))⟩]) .ret)))⟩
theorem c13 : cAt Try.prog 13 = some F13.er := by kernel_rfl
def F14 : CFunc := ⟨10, [(.cell true 7 2)], (.seq (.reg [] [⟨(some 2), none, (.alloc 42 [(.int .i64 0), (.int .i64 0), (.int .i64 0), (.int .i64 0), (.int .i64 0), (.int .i64 0), (.int .i64 0)] true)⟩]) (.seq (.seq (.reg [] [⟨(some 3), none, (.mov (.t 0))⟩, ⟨(some 4), none, (.beq .ptr false (.t 3) (.v (.d .nilp)))⟩]) (.cond (.t 4) (.seq (.reg [] [⟨(some 5), none, (.build [(.int .i64 0), (.int .i64 0), (.int .i64 0), (.int .i64 0), (.int .i64 0), (.int .i64 0), (.int .i64 0)] [])⟩, ⟨none, none, (.store 7 (.t 2) (.t 5))⟩]) .ret) .skip)) (.seq (.reg [] [⟨(some 6), none, (.mov (.t 0))⟩, ⟨(some 7), none, (.nilck (.t 6))⟩, ⟨(some 8), none, (.fieldA 3 (.t 7))⟩, ⟨(some 9), none, (.load true 7 (.t 8))⟩, ⟨none, none, (.store 7 (.t 2) (.t 9))⟩]) .ret)))⟩
theorem c14 : cAt Try.prog 14 = some F14.er := by kernel_rfl
def S15_0 : C := (.seq1 (.reg [] [⟨(some 6), none, (.mov (.t 0))⟩, ⟨(some 7), none, (.bin .lss (.t 6) (.v (.d (.int .i64 0))))⟩, ⟨(some 8), none, (.mov (.t 7))⟩, ⟨(some 9), (some (8, false)), (.mov (.t 0))⟩, ⟨(some 10), (some (8, false)), (.bin .geq (.t 9) (.v (.d (.int .i64 4))))⟩, ⟨(some 11), none, (.pick (.t 8) (.v (.d (.bool true))) (.t 10))⟩, ⟨(some 12), none, (.mov (.t 11))⟩, ⟨(some 13), (some (12, false)), (.load true 9 (.t 3))⟩, ⟨(some 14), (some (12, false)), (.call (.v (.fn (.func 30) [] [])) [(.t 13)])⟩, ⟨(some 15), (some (12, false)), (.unop .not (.t 14))⟩, ⟨(some 16), none, (.pick (.t 12) (.v (.d (.bool true))) (.t 15))⟩]) (.cond (.t 16) (.seq (.reg [] [⟨(some 4), none, (.nsl 5 true 1)⟩, ⟨(some 5), none, (.mov (.v (.d (.int .i64 1))))⟩]) .ret) .skip))
def F15 : CFunc := ⟨29, [(.tmp 4), (.tmp 5)], (.seq (.reg [] [⟨(some 3), none, (.box 33 true 9 (.t 1))⟩, ⟨(some 4), none, (.nsl 5 true 1)⟩, ⟨(some 5), none, (.mov (.v (.d (.int .i64 0))))⟩]) (.cut [0, 3] [4, 5] [0, 3] S15_0 (.seq (.mix [⟨(some 17), none, (.mov (.t 0))⟩, ⟨(some 18), none, (.conv (.int .u8) (.t 17))⟩, ⟨(some 19), none, (.bslice 5 true 1 2 [(.int .u8 0)] [(0, (.v (.d (.int .u8 165)))), (1, (.t 18))])⟩, ⟨(some 20), none, (.fieldA 0 (.t 3))⟩, ⟨(some 21), none, (.load false 1 (.t 20))⟩, ⟨(some 22), none, (.call (.v (.fn (.func 33) [] [])) [(.t 21)])⟩, ⟨(some 23), none, (.fieldA 1 (.t 3))⟩, ⟨(some 24), none, (.slarr 8 1 (.t 23) none none none)⟩, ⟨(some 25), none, (.call (.v (.fn (.func 34) [] [])) [(.t 24)])⟩, ⟨(some 26), none, (.bslice 37 false 1 3 [.nils] [(0, (.t 19)), (1, (.t 22)), (2, (.t 25))])⟩, ⟨(some 27), none, (.call (.v (.fn (.func 32) [] [])) [(.t 26)])⟩, ⟨(some 28), none, (.call (.v (.fn (.func 31) [] [])) [(.t 27)])⟩, ⟨(some 4), none, (.mov (.t 28))⟩, ⟨(some 5), none, (.mov (.v (.d (.int .i64 0))))⟩] [[], [], [], [], [2], [2], [], [], [2], [], [], [], [], []] [false, false, false, false, false, true, false, false, true, false, false, false, false, false]) .ret)))⟩
theorem c15 : cAt Try.prog 15 = some F15.er := by kernel_rfl
def F16 : CFunc := ⟨9, [(.tmp 2)], (.seq (.reg [] [⟨(some 2), none, (.mov (.v (.d (.int .i64 0))))⟩]) (.seq (.seq (.reg [] [⟨(some 3), none, (.mov (.t 0))⟩, ⟨(some 4), none, (.call (.v (.fn (.func 35) [] [])) [(.t 3)])⟩, ⟨(some 5), none, (.unop .not (.t 4))⟩]) (.cond (.t 5) (.seq (.reg [] [⟨(some 2), none, (.mov (.v (.d (.int .i64 0))))⟩]) .ret) .skip)) (.seq (.reg [] [⟨(some 6), none, (.mov (.t 0))⟩, ⟨(some 7), none, (.bin .add (.t 6) (.v (.d (.int .i64 1))))⟩, ⟨(some 8), none, (.bin .rem (.t 7) (.v (.d (.int .i64 65536))))⟩, ⟨(some 2), none, (.mov (.t 8))⟩]) .ret)))⟩
theorem c16 : cAt Try.prog 16 = some F16.er := by kernel_rfl
def F27 : CFunc := ⟨49, [(.cell true 9 4), (.tmp 5)], (.seq (.reg [] [⟨(some 3), none, (.box 39 false 2 (.t 1))⟩, ⟨(some 4), none, (.alloc 33 [(.int .i64 0), (.int .i64 0), (.int .i64 0), (.int .i64 0), (.int .i64 0), (.int .i64 0), (.int .i64 0), (.int .i64 0), (.int .i64 0)] true)⟩, ⟨(some 5), none, (.mov (.v (.d (.int .i64 0))))⟩]) (.seq (.mix [⟨(some 10), none, (.mov (.t 0))⟩, ⟨(some 11), none, (.nilck (.t 10))⟩, ⟨(some 12), none, (.fieldA 0 (.t 11))⟩, ⟨(some 13), none, (.load false 1 (.t 12))⟩, ⟨(some 14), none, (.load true 2 (.t 3))⟩, ⟨(some 15), none, (.call (.v (.fn (.func 56) [] [])) [(.t 13), (.t 14)])⟩, ⟨(some 9), none, (.mov (.t 15))⟩, ⟨(some 16), none, (.extract 0 (.t 9))⟩, ⟨(some 17), none, (.extract 1 (.t 9))⟩, ⟨(some 6), none, (.alloc 33 [(.int .i64 0), (.int .i64 0), (.int .i64 0), (.int .i64 0), (.int .i64 0), (.int .i64 0), (.int .i64 0), (.int .i64 0), (.int .i64 0)] true)⟩, ⟨none, none, (.store 9 (.t 6) (.t 16))⟩, ⟨(some 7), none, (.mov (.t 17))⟩] [[], [], [], [], [], [], [], [], [], [3, 4, 5], [], []] [false, false, false, false, false, false, false, false, false, false, false, false]) (.seq (.seq (.reg [] [⟨(some 18), none, (.mov (.t 7))⟩, ⟨(some 19), none, (.bin .neq (.t 18) (.v (.d (.int .i64 0))))⟩]) (.cond (.t 19) (.seq (.reg [] [⟨(some 20), none, (.build [(.int .i64 0), (.int .i64 0), (.int .i64 0), (.int .i64 0), (.int .i64 0), (.int .i64 0), (.int .i64 0), (.int .i64 0), (.int .i64 0)] [])⟩, ⟨(some 21), none, (.mov (.t 7))⟩, ⟨none, none, (.store 9 (.t 4) (.t 20))⟩, ⟨(some 5), none, (.mov (.t 21))⟩]) .ret) .skip)) (.seq (.mix [⟨(some 22), none, (.mov (.t 0))⟩, ⟨(some 23), none, (.nilck (.t 22))⟩, ⟨(some 24), none, (.fieldA 2 (.t 23))⟩, ⟨(some 25), none, (.load false 1 (.t 24))⟩, ⟨(some 26), none, (.unop .not (.t 25))⟩, ⟨(some 27), none, (.mov (.t 26))⟩, ⟨(some 28), (some (27, false)), (.fieldA 0 (.t 6))⟩, ⟨(some 29), (some (27, false)), (.load false 1 (.t 28))⟩, ⟨(some 30), (some (27, false)), (.mov (.t 0))⟩, ⟨(some 31), (some (27, false)), (.nilck (.t 30))⟩, ⟨(some 32), (some (27, false)), (.fieldA 1 (.t 31))⟩, ⟨(some 33), (some (27, false)), (.load false 1 (.t 32))⟩, ⟨(some 34), (some (27, false)), (.call (.v (.fn (.func 16) [] [])) [(.t 33)])⟩, ⟨(some 35), (some (27, false)), (.bin .eql (.t 29) (.t 34))⟩, ⟨(some 36), none, (.pick (.t 27) (.v (.d (.bool true))) (.t 35))⟩, ⟨(some 8), none, (.mov (.t 36))⟩] [[], [], [], [], [], [], [], [], [], [], [], [], [7], [], [], []] [false, false, false, false, false, false, false, false, false, false, false, false, true, false, false, false]) (.seq (.reg [] [⟨(some 37), none, (.mov (.t 0))⟩, ⟨(some 38), none, (.mov (.t 0))⟩, ⟨(some 39), none, (.fieldA 0 (.t 6))⟩, ⟨(some 40), none, (.load false 1 (.t 39))⟩, ⟨(some 41), none, (.nilck (.t 37))⟩, ⟨(some 42), none, (.fieldA 1 (.t 41))⟩, ⟨none, none, (.store 1 (.t 42) (.t 40))⟩, ⟨(some 43), none, (.nilck (.t 38))⟩, ⟨(some 44), none, (.fieldA 2 (.t 43))⟩, ⟨none, none, (.store 1 (.t 44) (.v (.d (.bool true))))⟩]) (.seq (.seq (.reg [] [⟨(some 45), none, (.mov (.t 8))⟩, ⟨(some 46), none, (.unop .not (.t 45))⟩]) (.cond (.t 46) (.seq (.reg [] [⟨(some 47), none, (.build [(.int .i64 0), (.int .i64 0), (.int .i64 0), (.int .i64 0), (.int .i64 0), (.int .i64 0), (.int .i64 0), (.int .i64 0), (.int .i64 0)] [])⟩, ⟨none, none, (.store 9 (.t 4) (.t 47))⟩, ⟨(some 5), none, (.mov (.v (.d (.int .i64 6))))⟩]) .ret) .skip)) (.seq (.reg [] [⟨(some 48), none, (.load true 9 (.t 6))⟩, ⟨none, none, (.store 9 (.t 4) (.t 48))⟩, ⟨(some 5), none, (.mov (.v (.d (.int .i64 0))))⟩]) .ret)))))))⟩
theorem c27 : cAt Try.prog 27 = some F27.er := by kernel_rfl
def F30 : CFunc := ⟨19, [(.tmp 2)], (.seq (.reg [] [⟨(some 1), none, (.box 33 true 9 (.t 0))⟩, ⟨(some 2), none, (.mov (.v (.d (.bool false))))⟩]) (.seq (.reg [] [⟨(some 3), none, (.mov (.v (.fn (.func 57) [] [])))⟩]) (.seq (.reg [] [⟨(some 4), none, (.fieldA 0 (.t 1))⟩, ⟨(some 5), none, (.load false 1 (.t 4))⟩, ⟨(some 6), none, (.bin .geq (.t 5) (.v (.d (.int .i64 0))))⟩, ⟨(some 7), none, (.mov (.t 6))⟩, ⟨(some 8), (some (7, true)), (.fieldA 0 (.t 1))⟩, ⟨(some 9), (some (7, true)), (.load false 1 (.t 8))⟩, ⟨(some 10), (some (7, true)), (.bin .lss (.t 9) (.v (.d (.int .i64 65536))))⟩, ⟨(some 11), none, (.pick (.t 7) (.t 10) (.v (.d (.bool false))))⟩, ⟨(some 12), none, (.mov (.t 11))⟩, ⟨(some 13), (some (12, true)), (.fieldA 1 (.t 1))⟩, ⟨(some 14), (some (12, true)), (.slarr 8 1 (.t 13) none none none)⟩, ⟨(some 15), (some (12, true)), (.mov (.t 3))⟩, ⟨(some 16), (some (12, true)), (.call (.v (.fn (.func 53) [] [])) [(.t 14), (.t 15)])⟩, ⟨(some 17), (some (12, true)), (.unop .not (.t 16))⟩, ⟨(some 18), none, (.pick (.t 12) (.t 17) (.v (.d (.bool false))))⟩, ⟨(some 2), none, (.mov (.t 18))⟩]) .ret)))⟩
theorem c30 : cAt Try.prog 30 = some F30.er := by kernel_rfl
def F31 : CFunc := ⟨15, [(.tmp 2)], (.seq (.reg [] [⟨(some 2), none, (.nsl 5 true 1)⟩]) (.seq (.reg [] [⟨(some 4), none, (.mov (.t 0))⟩, ⟨(some 5), none, (.call (.v (.fn (.func 58) [] [])) [(.t 4)])⟩, ⟨(some 3), none, (.mov (.t 5))⟩]) (.seq (.reg [] [⟨(some 6), none, (.mov (.t 0))⟩, ⟨(some 7), none, (.call (.v (.fn (.func 59) [] [])) [(.t 6)])⟩, ⟨(some 8), none, (.mov (.t 3))⟩, ⟨(some 9), none, (.bin .shr (.t 8) (.v (.d (.int .u64 8))))⟩, ⟨(some 10), none, (.conv (.int .u8) (.t 9))⟩, ⟨(some 11), none, (.mov (.t 3))⟩, ⟨(some 12), none, (.conv (.int .u8) (.t 11))⟩, ⟨(some 13), none, (.bslice 5 true 1 2 [(.int .u8 0)] [(0, (.t 10)), (1, (.t 12))])⟩, ⟨(some 14), none, (.append 5 true 1 1 (.t 7) (.t 13))⟩, ⟨(some 2), none, (.mov (.t 14))⟩]) .ret)))⟩
theorem c31 : cAt Try.prog 31 = some F31.er := by kernel_rfl
def L32_0 : C := (.seq (.reg [] [⟨(some 12), none, (.bin .lss (.t 11) (.t 10))⟩]) (.seq (.cond (.t 12) .skip (.exit 0)) (.seq (.block 1 (.seq (.reg [] [⟨(some 13), none, (.idxA 1 (.t 9) (.t 11))⟩, ⟨(some 14), none, (.load false 1 (.t 13))⟩, ⟨(some 5), none, (.mov (.t 14))⟩]) (.seq (.reg [] [⟨(some 15), none, (.mov (.t 3))⟩, ⟨(some 16), none, (.mov (.t 5))⟩, ⟨(some 17), none, (.len (.t 16))⟩, ⟨(some 18), none, (.bin .add (.t 15) (.t 17))⟩, ⟨(some 3), none, (.mov (.t 18))⟩]) (.seq (.reg [] [⟨(some 19), none, (.mov (.t 3))⟩, ⟨(some 20), none, (.bin .lss (.t 19) (.v (.d (.int .i64 0))))⟩]) (.cond (.t 20) (.reg [] [⟨(some 21), none, (.mkif 9 (.v (.d (.str ⟨#[108, 101, 110, 32, 111, 117, 116, 32, 111, 102, 32, 114, 97, 110, 103, 101]⟩))))⟩, ⟨none, none, (.chk 1 (.v (.ptr 0 1 0 0)) 1 (.v (.ptr 0 1 0 0)))⟩]) .skip))))) (.reg [] [⟨(some 22), none, (.bin .add (.t 11) (.v (.d (.int .i64 1))))⟩, ⟨(some 11), none, (.mov (.t 22))⟩]))))
def S32_1 : C := (.seq1 (.reg [] [⟨(some 9), none, (.mov (.t 0))⟩, ⟨(some 10), none, (.len (.t 9))⟩, ⟨(some 11), none, (.mov (.v (.d (.int .i64 0))))⟩]) (.block 0 (.loop [0, 3, 9, 10, 11] [0, 3] L32_0)))
def L32_2 : C := (.seq (.reg [] [⟨(some 28), none, (.bin .lss (.t 27) (.t 26))⟩]) (.seq (.cond (.t 28) .skip (.exit 2)) (.seq (.block 3 (.seq (.reg [] [⟨(some 29), none, (.idxA 1 (.t 25) (.t 27))⟩, ⟨(some 30), none, (.load false 1 (.t 29))⟩, ⟨(some 8), none, (.mov (.t 30))⟩]) (.reg [] [⟨(some 31), none, (.mov (.t 6))⟩, ⟨(some 32), none, (.mov (.t 8))⟩, ⟨(some 33), none, (.append 5 true 1 1 (.t 31) (.t 32))⟩, ⟨(some 6), none, (.mov (.t 33))⟩]))) (.reg [] [⟨(some 34), none, (.bin .add (.t 27) (.v (.d (.int .i64 1))))⟩, ⟨(some 27), none, (.mov (.t 34))⟩]))))
def F32 : CFunc := ⟨36, [(.tmp 2)], (.seq (.reg [] [⟨(some 2), none, (.nsl 5 true 1)⟩]) (.seq (.reg [] [⟨(some 3), none, (.mov (.v (.d (.int .i64 0))))⟩]) (.cut [0, 3] [] [0, 3] S32_1 (.seq (.reg [] [⟨(some 23), none, (.mov (.t 3))⟩, ⟨(some 24), none, (.call (.v (.fn (.func 60) [] [])) [(.v (.d .nils)), (.t 23)])⟩, ⟨(some 6), none, (.mov (.t 24))⟩]) (.seq (.seq (.reg [] [⟨(some 25), none, (.mov (.t 0))⟩, ⟨(some 26), none, (.len (.t 25))⟩, ⟨(some 27), none, (.mov (.v (.d (.int .i64 0))))⟩]) (.block 2 (.loop [6, 25, 26, 27] [6] L32_2))) (.seq (.reg [] [⟨(some 35), none, (.mov (.t 6))⟩, ⟨(some 2), none, (.mov (.t 35))⟩]) .ret))))))⟩
theorem c32 : cAt Try.prog 32 = some F32.er := by kernel_rfl
def F33 : CFunc := ⟨12, [(.tmp 2)], (.seq (.reg [] [⟨(some 2), none, (.nsl 5 true 1)⟩]) (.seq (.seq (.reg [] [⟨(some 3), none, (.mov (.t 0))⟩, ⟨(some 4), none, (.call (.v (.fn (.func 35) [] [])) [(.t 3)])⟩, ⟨(some 5), none, (.unop .not (.t 4))⟩]) (.cond (.t 5) (.seq (.reg [] [⟨(some 2), none, (.nsl 5 true 1)⟩]) .ret) .skip)) (.seq (.reg [] [⟨(some 6), none, (.mov (.t 0))⟩, ⟨(some 7), none, (.bin .shr (.t 6) (.v (.d (.int .u64 8))))⟩, ⟨(some 8), none, (.conv (.int .u8) (.t 7))⟩, ⟨(some 9), none, (.mov (.t 0))⟩, ⟨(some 10), none, (.conv (.int .u8) (.t 9))⟩, ⟨(some 11), none, (.bslice 5 true 1 2 [(.int .u8 0)] [(0, (.t 8)), (1, (.t 10))])⟩, ⟨(some 2), none, (.mov (.t 11))⟩]) .ret)))⟩
theorem c33 : cAt Try.prog 33 = some F33.er := by kernel_rfl
def L34_0 : C := (.seq (.reg [] [⟨(some 10), none, (.bin .lss (.t 9) (.t 8))⟩]) (.seq (.cond (.t 10) .skip (.exit 0)) (.seq (.block 1 (.seq (.reg [] [⟨(some 11), none, (.idxA 1 (.t 7) (.t 9))⟩, ⟨(some 12), none, (.load false 1 (.t 11))⟩, ⟨(some 5), none, (.mov (.t 12))⟩]) (.seq (.reg [] [⟨(some 13), none, (.mov (.t 5))⟩, ⟨(some 14), none, (.call (.v (.fn (.func 61) [] [])) [(.t 13)])⟩, ⟨(some 6), none, (.mov (.t 14))⟩]) (.seq (.seq (.reg [] [⟨(some 15), none, (.mov (.t 6))⟩, ⟨(some 16), none, (.beq .slc false (.t 15) (.v (.d .nils)))⟩]) (.cond (.t 16) (.seq (.reg [] [⟨(some 2), none, (.nsl 5 true 1)⟩]) .ret) .skip)) (.reg [] [⟨(some 17), none, (.mov (.t 3))⟩, ⟨(some 18), none, (.mov (.t 6))⟩, ⟨(some 19), none, (.append 5 true 1 1 (.t 17) (.t 18))⟩, ⟨(some 3), none, (.mov (.t 19))⟩]))))) (.reg [] [⟨(some 20), none, (.bin .add (.t 9) (.v (.d (.int .i64 1))))⟩, ⟨(some 9), none, (.mov (.t 20))⟩]))))
def F34 : CFunc := ⟨22, [(.tmp 2)], (.seq (.reg [] [⟨(some 2), none, (.nsl 5 true 1)⟩]) (.seq (.reg [] [⟨(some 3), none, (.nsl 5 true 1)⟩]) (.seq (.seq (.reg [] [⟨(some 7), none, (.mov (.t 0))⟩, ⟨(some 8), none, (.len (.t 7))⟩, ⟨(some 9), none, (.mov (.v (.d (.int .i64 0))))⟩]) (.block 0 (.loop [3, 7, 8, 9] [2, 3] L34_0))) (.seq (.reg [] [⟨(some 21), none, (.mov (.t 3))⟩, ⟨(some 2), none, (.mov (.t 21))⟩]) .ret))))⟩
theorem c34 : cAt Try.prog 34 = some F34.er := by kernel_rfl
def F35 : CFunc := ⟨9, [(.tmp 2)], (.seq (.reg [] [⟨(some 2), none, (.mov (.v (.d (.bool false))))⟩]) (.seq (.reg [] [⟨(some 3), none, (.mov (.t 0))⟩, ⟨(some 4), none, (.bin .geq (.t 3) (.v (.d (.int .i64 0))))⟩, ⟨(some 5), none, (.mov (.t 4))⟩, ⟨(some 6), (some (5, true)), (.mov (.t 0))⟩, ⟨(some 7), (some (5, true)), (.bin .lss (.t 6) (.v (.d (.int .i64 65536))))⟩, ⟨(some 8), none, (.pick (.t 5) (.t 7) (.v (.d (.bool false))))⟩, ⟨(some 2), none, (.mov (.t 8))⟩]) .ret))⟩
theorem c35 : cAt Try.prog 35 = some F35.er := by kernel_rfl
def F42 : CFunc := ⟨17, [(.tmp 2), (.tmp 3)], (.seq (.reg [] [⟨(some 2), none, (.mov (.v (.d (.int .i64 0))))⟩, ⟨(some 3), none, (.mov (.v (.d (.bool false))))⟩]) (.seq (.seq (.reg [] [⟨(some 4), none, (.mov (.t 0))⟩, ⟨(some 5), none, (.len (.t 4))⟩, ⟨(some 6), none, (.bin .neq (.t 5) (.v (.d (.int .i64 2))))⟩]) (.cond (.t 6) (.seq (.reg [] [⟨(some 2), none, (.mov (.v (.d (.int .i64 0))))⟩, ⟨(some 3), none, (.mov (.v (.d (.bool false))))⟩]) .ret) .skip)) (.seq (.reg [⟨(some 7), none, (.mov (.t 0))⟩, ⟨(some 8), none, (.idxA 1 (.t 7) (.v (.d (.int .i64 0))))⟩, ⟨(some 9), none, (.load false 1 (.t 8))⟩, ⟨(some 10), none, (.conv (.int .i64) (.t 9))⟩, ⟨(some 11), none, (.bin .shl (.t 10) (.v (.d (.int .u64 8))))⟩, ⟨(some 12), none, (.mov (.t 0))⟩, ⟨(some 13), none, (.idxA 1 (.t 12) (.v (.d (.int .i64 1))))⟩, ⟨(some 14), none, (.load false 1 (.t 13))⟩, ⟨(some 15), none, (.conv (.int .i64) (.t 14))⟩] [⟨(some 16), none, (.bin .or (.t 11) (.t 15))⟩, ⟨(some 2), none, (.mov (.t 16))⟩, ⟨(some 3), none, (.mov (.v (.d (.bool true))))⟩]) .ret)))⟩
theorem c42 : cAt Try.prog 42 = some F42.er := by kernel_rfl
def L43_0 : C := (.reg [] [⟨(some 5), none, (.mov (.t 14))⟩])
def L43_1 : C := (.block 1 (.seq (.reg [] [⟨(some 16), none, (.mov (.t 5))⟩, ⟨(some 17), none, (.call (.v (.fn (.func 66) [] [])) [(.t 16)])⟩, ⟨(some 15), none, (.mov (.t 17))⟩, ⟨(some 18), none, (.extract 0 (.t 15))⟩, ⟨(some 19), none, (.extract 1 (.t 15))⟩, ⟨(some 6), none, (.mov (.t 18))⟩, ⟨(some 7), none, (.mov (.t 19))⟩]) (.reg [] [⟨(some 20), none, (.load false 1 (.t 4))⟩, ⟨(some 21), none, (.mov (.t 6))⟩, ⟨(some 22), none, (.bslice 3 true 1 1 [(.int .i64 0)] [(0, (.t 21))])⟩, ⟨(some 23), none, (.append 3 true 1 8 (.t 20) (.t 22))⟩, ⟨none, none, (.store 1 (.t 4) (.t 23))⟩])))
def F43 : CFunc := ⟨25, [(.tmp 2), (.tmp 3)], (.seq (.reg [] [⟨(some 2), none, (.nsl 3 true 1)⟩, ⟨(some 3), none, (.mov (.v (.d (.bool false))))⟩]) (.seq (.seq (.reg [] [⟨(some 8), none, (.mov (.t 0))⟩, ⟨(some 9), none, (.len (.t 8))⟩, ⟨(some 10), none, (.bin .rem (.t 9) (.v (.d (.int .i64 4))))⟩, ⟨(some 11), none, (.bin .neq (.t 10) (.v (.d (.int .i64 0))))⟩]) (.cond (.t 11) (.seq (.reg [] [⟨(some 2), none, (.nsl 3 true 1)⟩, ⟨(some 3), none, (.mov (.v (.d (.bool false))))⟩]) .ret) .skip)) (.seq (.reg [] [⟨(some 4), none, (.allocn 74 3 true 1)⟩]) (.seq (.seq (.reg [] [⟨(some 12), none, (.mov (.t 0))⟩, ⟨(some 13), none, (.call (.v (.fn (.func 65) [] [])) [(.t 12)])⟩]) (.block 0 (.rfun 25 [4] (.t 13) [14] L43_0 L43_1))) (.seq (.reg [] [⟨(some 24), none, (.load false 1 (.t 4))⟩, ⟨(some 2), none, (.mov (.t 24))⟩, ⟨(some 3), none, (.mov (.v (.d (.bool true))))⟩]) .ret)))))⟩
theorem c43 : cAt Try.prog 43 = some F43.er := by kernel_rfl
def L45_0 : C := (.seq (.reg [] [⟨(some 14), none, (.bin .lss (.t 13) (.t 12))⟩]) (.seq (.cond (.t 14) .skip (.exit 0)) (.seq (.block 1 (.seq (.reg [] [⟨(some 15), none, (.mov (.t 13))⟩, ⟨(some 5), none, (.mov (.t 15))⟩]) (.seq (.reg [⟨(some 16), none, (.mov (.t 0))⟩, ⟨(some 17), none, (.mov (.t 5))⟩, ⟨(some 18), none, (.idxA 1 (.t 16) (.t 17))⟩, ⟨(some 19), none, (.load false 1 (.t 18))⟩, ⟨(some 20), none, (.mov (.t 1))⟩, ⟨(some 21), none, (.mov (.t 5))⟩, ⟨(some 22), none, (.idxA 1 (.t 20) (.t 21))⟩, ⟨(some 23), none, (.load false 1 (.t 22))⟩] [⟨(some 24), none, (.bin .neq (.t 19) (.t 23))⟩]) (.cond (.t 24) (.seq (.reg [] [⟨(some 4), none, (.mov (.v (.d (.bool false))))⟩]) .ret) .skip)))) (.reg [] [⟨(some 25), none, (.bin .add (.t 13) (.v (.d (.int .i64 1))))⟩, ⟨(some 13), none, (.mov (.t 25))⟩]))))
def F45 : CFunc := ⟨26, [(.tmp 4)], (.seq (.reg [] [⟨(some 4), none, (.mov (.v (.d (.bool false))))⟩]) (.seq (.seq (.reg [] [⟨(some 6), none, (.mov (.t 0))⟩, ⟨(some 7), none, (.len (.t 6))⟩, ⟨(some 8), none, (.mov (.t 1))⟩, ⟨(some 9), none, (.len (.t 8))⟩, ⟨(some 10), none, (.bin .neq (.t 7) (.t 9))⟩]) (.cond (.t 10) (.seq (.reg [] [⟨(some 4), none, (.mov (.v (.d (.bool false))))⟩]) .ret) .skip)) (.seq (.seq (.reg [] [⟨(some 11), none, (.mov (.t 0))⟩, ⟨(some 12), none, (.len (.t 11))⟩, ⟨(some 13), none, (.mov (.v (.d (.int .i64 0))))⟩]) (.block 0 (.loop [0, 1, 12, 13] [4] L45_0))) (.seq (.reg [] [⟨(some 4), none, (.mov (.v (.d (.bool true))))⟩]) .ret))))⟩
theorem c45 : cAt Try.prog 45 = some F45.er := by kernel_rfl
def F53 : CFunc := ⟨9, [(.tmp 4)], (.seq (.reg [] [⟨(some 4), none, (.mov (.v (.d (.bool false))))⟩]) (.seq (.reg [] [⟨(some 5), none, (.mov (.t 0))⟩, ⟨(some 6), none, (.mov (.t 1))⟩, ⟨(some 7), none, (.call (.v (.fn (.func 69) [] [])) [(.t 5), (.t 6)])⟩, ⟨(some 8), none, (.bin .geq (.t 7) (.v (.d (.int .i64 0))))⟩, ⟨(some 4), none, (.mov (.t 8))⟩]) .ret))⟩
theorem c53 : cAt Try.prog 53 = some F53.er := by kernel_rfl
def S56_0 : C := (.block 0 (.seq (.reg [] [⟨(some 12), none, (.fieldA 0 (.t 3))⟩, ⟨(some 13), none, (.load false 1 (.t 12))⟩, ⟨(some 14), none, (.unop .not (.t 13))⟩, ⟨(some 11), none, (.mov (.t 14))⟩]) (.cond (.t 11) (.seq (.reg [] [⟨(some 15), none, (.build [(.int .i64 0), (.int .i64 0), (.int .i64 0), (.int .i64 0), (.int .i64 0), (.int .i64 0), (.int .i64 0), (.int .i64 0), (.int .i64 0)] [])⟩, ⟨none, none, (.store 9 (.t 4) (.t 15))⟩, ⟨(some 5), none, (.mov (.v (.d (.int .i64 1))))⟩]) .ret) (.seq (.reg [] [⟨(some 17), none, (.fieldA 1 (.t 3))⟩, ⟨(some 18), none, (.load false 1 (.t 17))⟩, ⟨(some 19), none, (.len (.t 18))⟩, ⟨(some 20), none, (.bin .neq (.t 19) (.v (.d (.int .i64 38))))⟩, ⟨(some 16), none, (.mov (.t 20))⟩]) (.cond (.t 16) (.seq (.reg [] [⟨(some 21), none, (.build [(.int .i64 0), (.int .i64 0), (.int .i64 0), (.int .i64 0), (.int .i64 0), (.int .i64 0), (.int .i64 0), (.int .i64 0), (.int .i64 0)] [])⟩, ⟨none, none, (.store 9 (.t 4) (.t 21))⟩, ⟨(some 5), none, (.mov (.v (.d (.int .i64 2))))⟩]) .ret) (.seq (.reg [] [⟨(some 23), none, (.fieldA 1 (.t 3))⟩, ⟨(some 24), none, (.load false 1 (.t 23))⟩, ⟨(some 25), none, (.idxA 1 (.t 24) (.v (.d (.int .i64 0))))⟩, ⟨(some 26), none, (.load false 1 (.t 25))⟩, ⟨(some 27), none, (.bin .neq (.t 26) (.v (.d (.int .u8 165))))⟩, ⟨(some 22), none, (.mov (.t 27))⟩]) (.cond (.t 22) (.seq (.reg [] [⟨(some 28), none, (.build [(.int .i64 0), (.int .i64 0), (.int .i64 0), (.int .i64 0), (.int .i64 0), (.int .i64 0), (.int .i64 0), (.int .i64 0), (.int .i64 0)] [])⟩, ⟨none, none, (.store 9 (.t 4) (.t 28))⟩, ⟨(some 5), none, (.mov (.v (.d (.int .i64 3))))⟩]) .ret) (.seq (.reg [] [⟨(some 30), none, (.fieldA 1 (.t 3))⟩, ⟨(some 31), none, (.load false 1 (.t 30))⟩, ⟨(some 32), none, (.idxA 1 (.t 31) (.v (.d (.int .i64 1))))⟩, ⟨(some 33), none, (.load false 1 (.t 32))⟩, ⟨(some 34), none, (.conv (.int .i64) (.t 33))⟩, ⟨(some 35), none, (.mov (.t 0))⟩, ⟨(some 36), none, (.bin .neq (.t 34) (.t 35))⟩, ⟨(some 29), none, (.mov (.t 36))⟩]) (.cond (.t 29) (.seq (.reg [] [⟨(some 37), none, (.build [(.int .i64 0), (.int .i64 0), (.int .i64 0), (.int .i64 0), (.int .i64 0), (.int .i64 0), (.int .i64 0), (.int .i64 0), (.int .i64 0)] [])⟩, ⟨none, none, (.store 9 (.t 4) (.t 37))⟩, ⟨(some 5), none, (.mov (.v (.d (.int .i64 4))))⟩]) .ret) .skip)))))))))
def S56_1 : C := (.seq (.reg [] [⟨(some 39), none, (.fieldA 1 (.t 3))⟩, ⟨(some 40), none, (.load false 1 (.t 39))⟩, ⟨(some 41), none, (.call (.v (.fn (.func 72) [] [])) [(.t 40)])⟩, ⟨(some 38), none, (.mov (.t 41))⟩, ⟨(some 42), none, (.extract 0 (.t 38))⟩, ⟨(some 43), none, (.extract 1 (.t 38))⟩, ⟨(some 6), none, (.mov (.t 42))⟩, ⟨(some 7), none, (.mov (.t 43))⟩]) (.seq (.seq (.reg [] [⟨(some 44), none, (.mov (.t 7))⟩, ⟨(some 45), none, (.unop .not (.t 44))⟩]) (.cond (.t 45) (.seq (.reg [] [⟨(some 46), none, (.build [(.int .i64 0), (.int .i64 0), (.int .i64 0), (.int .i64 0), (.int .i64 0), (.int .i64 0), (.int .i64 0), (.int .i64 0), (.int .i64 0)] [])⟩, ⟨none, none, (.store 9 (.t 4) (.t 46))⟩, ⟨(some 5), none, (.mov (.v (.d (.int .i64 5))))⟩]) .ret) .skip)) (.seq (.reg [] [⟨(some 8), none, (.alloc 33 [(.int .i64 0), (.int .i64 0), (.int .i64 0), (.int .i64 0), (.int .i64 0), (.int .i64 0), (.int .i64 0), (.int .i64 0), (.int .i64 0)] true)⟩]) (.seq (.reg [] [⟨(some 48), none, (.mov (.t 6))⟩, ⟨(some 49), none, (.slice 1 (.t 48) (some (.v (.d (.int .i64 2)))) (some (.v (.d (.int .i64 4)))) none)⟩, ⟨(some 50), none, (.call (.v (.fn (.func 42) [] [])) [(.t 49)])⟩, ⟨(some 47), none, (.mov (.t 50))⟩, ⟨(some 51), none, (.extract 0 (.t 47))⟩, ⟨(some 52), none, (.extract 1 (.t 47))⟩, ⟨(some 53), none, (.fieldA 0 (.t 8))⟩, ⟨none, none, (.store 1 (.t 53) (.t 51))⟩]) (.seq (.reg [] [⟨(some 55), none, (.mov (.t 6))⟩, ⟨(some 56), none, (.slice 1 (.t 55) (some (.v (.d (.int .i64 4)))) none none)⟩, ⟨(some 57), none, (.call (.v (.fn (.func 43) [] [])) [(.t 56)])⟩, ⟨(some 54), none, (.mov (.t 57))⟩, ⟨(some 58), none, (.extract 0 (.t 54))⟩, ⟨(some 59), none, (.extract 1 (.t 54))⟩, ⟨(some 9), none, (.mov (.t 58))⟩, ⟨(some 10), none, (.mov (.t 59))⟩]) (.seq (.reg [] [⟨(some 60), none, (.mov (.t 9))⟩, ⟨(some 61), none, (.arrP 8 1 (.t 60))⟩, ⟨(some 62), none, (.load true 8 (.t 61))⟩, ⟨(some 63), none, (.fieldA 1 (.t 8))⟩, ⟨none, none, (.store 8 (.t 63) (.t 62))⟩]) (.reg [] [⟨(some 64), none, (.load true 9 (.t 8))⟩, ⟨none, none, (.store 9 (.t 4) (.t 64))⟩, ⟨(some 5), none, (.mov (.v (.d (.int .i64 0))))⟩])))))))
def F56 : CFunc := ⟨65, [(.cell true 9 4), (.tmp 5)], (.seq (.reg [] [⟨(some 3), none, (.box 39 false 2 (.t 1))⟩, ⟨(some 4), none, (.alloc 33 [(.int .i64 0), (.int .i64 0), (.int .i64 0), (.int .i64 0), (.int .i64 0), (.int .i64 0), (.int .i64 0), (.int .i64 0), (.int .i64 0)] true)⟩, ⟨(some 5), none, (.mov (.v (.d (.int .i64 0))))⟩]) (.cut [0, 3, 4] [4, 5] [3, 4] S56_0 (.cut [3, 4] [4, 5] [4, 5] S56_1 .ret)))⟩
theorem c56 : cAt Try.prog 56 = some F56.er := by kernel_rfl
def F57 : CFunc := ⟨9, [(.tmp 2)], (.seq (.reg [] [⟨(some 2), none, (.mov (.v (.d (.bool false))))⟩]) (.seq (.reg [] [⟨(some 3), none, (.mov (.t 0))⟩, ⟨(some 4), none, (.bin .lss (.t 3) (.v (.d (.int .i64 (-2147483648)))))⟩, ⟨(some 5), none, (.mov (.t 4))⟩, ⟨(some 6), (some (5, false)), (.mov (.t 0))⟩, ⟨(some 7), (some (5, false)), (.bin .gtr (.t 6) (.v (.d (.int .i64 2147483647))))⟩, ⟨(some 8), none, (.pick (.t 5) (.v (.d (.bool true))) (.t 7))⟩, ⟨(some 2), none, (.mov (.t 8))⟩]) .ret))⟩
theorem c57 : cAt Try.prog 57 = some F57.er := by kernel_rfl
def F58 : CFunc := ⟨5, [(.tmp 2)], (.seq (.reg [] [⟨(some 2), none, (.mov (.v (.d (.int .i64 0))))⟩]) (.seq (.reg [] [⟨(some 3), none, (.mov (.t 0))⟩, ⟨(some 4), none, (.call (.v (.fn (.func 73) [] [])) [(.v (.d (.int .i64 65535))), (.t 3)])⟩, ⟨(some 2), none, (.mov (.t 4))⟩]) .ret))⟩
theorem c58 : cAt Try.prog 58 = some F58.er := by kernel_rfl
def F59 : CFunc := ⟨8, [(.tmp 2)], (.seq (.reg [] [⟨(some 2), none, (.nsl 5 true 1)⟩]) (.seq (.seq (.reg [] [⟨(some 3), none, (.mov (.t 0))⟩, ⟨(some 4), none, (.beq .slc false (.t 3) (.v (.d .nils)))⟩]) (.cond (.t 4) (.seq (.reg [] [⟨(some 2), none, (.nsl 5 true 1)⟩]) .ret) .skip)) (.seq (.reg [] [⟨(some 5), none, (.bslice 5 true 1 0 [(.int .u8 0)] [])⟩, ⟨(some 6), none, (.mov (.t 0))⟩, ⟨(some 7), none, (.append 5 true 1 1 (.t 5) (.t 6))⟩, ⟨(some 2), none, (.mov (.t 7))⟩]) .ret)))⟩
theorem c59 : cAt Try.prog 59 = some F59.er := by kernel_rfl
def F61 : CFunc := ⟨21, [(.tmp 2)], (.seq (.reg [] [⟨(some 2), none, (.nsl 5 true 1)⟩]) (.seq (.seq (.reg [] [⟨(some 3), none, (.mov (.t 0))⟩, ⟨(some 4), none, (.bin .lss (.t 3) (.v (.d (.int .i64 (-2147483648)))))⟩, ⟨(some 5), none, (.mov (.t 4))⟩, ⟨(some 6), (some (5, false)), (.mov (.t 0))⟩, ⟨(some 7), (some (5, false)), (.bin .gtr (.t 6) (.v (.d (.int .i64 2147483647))))⟩, ⟨(some 8), none, (.pick (.t 5) (.v (.d (.bool true))) (.t 7))⟩]) (.cond (.t 8) (.seq (.reg [] [⟨(some 2), none, (.nsl 5 true 1)⟩]) .ret) .skip)) (.seq (.reg [] [⟨(some 9), none, (.mov (.t 0))⟩, ⟨(some 10), none, (.bin .shr (.t 9) (.v (.d (.int .u64 24))))⟩, ⟨(some 11), none, (.conv (.int .u8) (.t 10))⟩, ⟨(some 12), none, (.mov (.t 0))⟩, ⟨(some 13), none, (.bin .shr (.t 12) (.v (.d (.int .u64 16))))⟩, ⟨(some 14), none, (.conv (.int .u8) (.t 13))⟩, ⟨(some 15), none, (.mov (.t 0))⟩, ⟨(some 16), none, (.bin .shr (.t 15) (.v (.d (.int .u64 8))))⟩, ⟨(some 17), none, (.conv (.int .u8) (.t 16))⟩, ⟨(some 18), none, (.mov (.t 0))⟩, ⟨(some 19), none, (.conv (.int .u8) (.t 18))⟩, ⟨(some 20), none, (.bslice 5 true 1 4 [(.int .u8 0)] [(0, (.t 11)), (1, (.t 14)), (2, (.t 17)), (3, (.t 19))])⟩, ⟨(some 2), none, (.mov (.t 20))⟩]) .ret)))⟩
theorem c61 : cAt Try.prog 61 = some F61.er := by kernel_rfl
def F65 : CFunc := ⟨4, [(.tmp 2)], (.seq (.reg [] [⟨(some 1), none, (.box 37 false 1 (.t 0))⟩, ⟨(some 2), none, (.mov (.v (.d .nilf)))⟩]) (.seq (.reg [] [⟨(some 3), none, (.mkfn (.func 75) [] [(.t 1)])⟩, ⟨(some 2), none, (.mov (.t 3))⟩]) .ret))⟩
theorem c65 : cAt Try.prog 65 = some F65.er := by kernel_rfl
def F66 : CFunc := ⟨33, [(.tmp 2), (.tmp 3)], (.seq (.reg [] [⟨(some 2), none, (.mov (.v (.d (.int .i64 0))))⟩, ⟨(some 3), none, (.mov (.v (.d (.bool false))))⟩]) (.seq (.seq (.reg [] [⟨(some 5), none, (.mov (.t 0))⟩, ⟨(some 6), none, (.len (.t 5))⟩, ⟨(some 7), none, (.bin .neq (.t 6) (.v (.d (.int .i64 4))))⟩]) (.cond (.t 7) (.seq (.reg [] [⟨(some 2), none, (.mov (.v (.d (.int .i64 0))))⟩, ⟨(some 3), none, (.mov (.v (.d (.bool false))))⟩]) .ret) .skip)) (.seq (.reg [⟨(some 8), none, (.mov (.t 0))⟩, ⟨(some 9), none, (.idxA 1 (.t 8) (.v (.d (.int .i64 0))))⟩, ⟨(some 10), none, (.load false 1 (.t 9))⟩, ⟨(some 11), none, (.conv (.int .u32) (.t 10))⟩, ⟨(some 12), none, (.bin .shl (.t 11) (.v (.d (.int .u64 24))))⟩, ⟨(some 13), none, (.mov (.t 0))⟩, ⟨(some 14), none, (.idxA 1 (.t 13) (.v (.d (.int .i64 1))))⟩, ⟨(some 15), none, (.load false 1 (.t 14))⟩, ⟨(some 16), none, (.conv (.int .u32) (.t 15))⟩, ⟨(some 17), none, (.bin .shl (.t 16) (.v (.d (.int .u64 16))))⟩, ⟨(some 18), none, (.bin .or (.t 12) (.t 17))⟩, ⟨(some 19), none, (.mov (.t 0))⟩, ⟨(some 20), none, (.idxA 1 (.t 19) (.v (.d (.int .i64 2))))⟩, ⟨(some 21), none, (.load false 1 (.t 20))⟩, ⟨(some 22), none, (.conv (.int .u32) (.t 21))⟩, ⟨(some 23), none, (.bin .shl (.t 22) (.v (.d (.int .u64 8))))⟩, ⟨(some 24), none, (.bin .or (.t 18) (.t 23))⟩, ⟨(some 25), none, (.mov (.t 0))⟩, ⟨(some 26), none, (.idxA 1 (.t 25) (.v (.d (.int .i64 3))))⟩, ⟨(some 27), none, (.load false 1 (.t 26))⟩, ⟨(some 28), none, (.conv (.int .u32) (.t 27))⟩] [⟨(some 29), none, (.bin .or (.t 24) (.t 28))⟩, ⟨(some 4), none, (.mov (.t 29))⟩]) (.seq (.reg [] [⟨(some 30), none, (.mov (.t 4))⟩, ⟨(some 31), none, (.conv (.int .i32) (.t 30))⟩, ⟨(some 32), none, (.conv (.int .i64) (.t 31))⟩, ⟨(some 2), none, (.mov (.t 32))⟩, ⟨(some 3), none, (.mov (.v (.d (.bool true))))⟩]) .ret))))⟩
theorem c66 : cAt Try.prog 66 = some F66.er := by kernel_rfl
def L69_0 : C := (.seq (.reg [] [⟨(some 9), none, (.bin .lss (.t 8) (.t 7))⟩]) (.seq (.cond (.t 9) .skip (.exit 0)) (.seq (.block 1 (.seq (.reg [] [⟨(some 10), none, (.mov (.t 8))⟩, ⟨(some 5), none, (.mov (.t 10))⟩]) (.seq (.reg [] [⟨(some 11), none, (.mov (.t 1))⟩, ⟨(some 12), none, (.mov (.t 0))⟩, ⟨(some 13), none, (.mov (.t 5))⟩, ⟨(some 14), none, (.idxA 1 (.t 12) (.t 13))⟩, ⟨(some 15), none, (.load false 1 (.t 14))⟩, ⟨(some 16), none, (.call (.t 11) [(.t 15)])⟩]) (.cond (.t 16) (.seq (.reg [] [⟨(some 17), none, (.mov (.t 5))⟩, ⟨(some 4), none, (.mov (.t 17))⟩]) .ret) .skip)))) (.reg [] [⟨(some 18), none, (.bin .add (.t 8) (.v (.d (.int .i64 1))))⟩, ⟨(some 8), none, (.mov (.t 18))⟩]))))
def F69 : CFunc := ⟨19, [(.tmp 4)], (.seq (.reg [] [⟨(some 4), none, (.mov (.v (.d (.int .i64 0))))⟩]) (.seq (.seq (.reg [] [⟨(some 6), none, (.mov (.t 0))⟩, ⟨(some 7), none, (.len (.t 6))⟩, ⟨(some 8), none, (.mov (.v (.d (.int .i64 0))))⟩]) (.block 0 (.loop [0, 1, 7, 8] [4] L69_0))) (.seq (.reg [] [⟨(some 4), none, (.mov (.v (.d (.int .i64 (-1)))))⟩]) .ret)))⟩
theorem c69 : cAt Try.prog 69 = some F69.er := by kernel_rfl
def F72 : CFunc := ⟨23, [(.tmp 2), (.tmp 3)], (.seq (.reg [] [⟨(some 2), none, (.nsl 5 true 1)⟩, ⟨(some 3), none, (.mov (.v (.d (.bool false))))⟩]) (.seq (.reg [] [⟨(some 5), none, (.mov (.t 0))⟩, ⟨(some 6), none, (.len (.t 5))⟩, ⟨(some 7), none, (.bin .sub (.t 6) (.v (.d (.int .i64 2))))⟩, ⟨(some 4), none, (.mov (.t 7))⟩]) (.seq (.seq (.reg [] [⟨(some 8), none, (.mov (.t 4))⟩, ⟨(some 9), none, (.bin .lss (.t 8) (.v (.d (.int .i64 0))))⟩, ⟨(some 10), none, (.mov (.t 9))⟩, ⟨(some 11), (some (10, false)), (.mov (.t 0))⟩, ⟨(some 12), (some (10, false)), (.mov (.t 4))⟩, ⟨(some 13), (some (10, false)), (.slice 1 (.t 11) none (some (.t 12)) none)⟩, ⟨(some 14), (some (10, false)), (.call (.v (.fn (.func 31) [] [])) [(.t 13)])⟩, ⟨(some 15), (some (10, false)), (.mov (.t 0))⟩, ⟨(some 16), (some (10, false)), (.call (.v (.fn (.func 45) [] [])) [(.t 14), (.t 15)])⟩, ⟨(some 17), (some (10, false)), (.unop .not (.t 16))⟩, ⟨(some 18), none, (.pick (.t 10) (.v (.d (.bool true))) (.t 17))⟩]) (.cond (.t 18) (.seq (.reg [] [⟨(some 2), none, (.nsl 5 true 1)⟩, ⟨(some 3), none, (.mov (.v (.d (.bool false))))⟩]) .ret) .skip)) (.seq (.reg [] [⟨(some 19), none, (.mov (.t 0))⟩, ⟨(some 20), none, (.mov (.t 4))⟩, ⟨(some 21), none, (.slice 1 (.t 19) none (some (.t 20)) none)⟩, ⟨(some 22), none, (.call (.v (.fn (.func 59) [] [])) [(.t 21)])⟩, ⟨(some 2), none, (.mov (.t 22))⟩, ⟨(some 3), none, (.mov (.v (.d (.bool true))))⟩]) .ret))))⟩
theorem c72 : cAt Try.prog 72 = some F72.er := by kernel_rfl
def S73_0 : C := (.seq1 (.reg [] [⟨(some 8), none, (.load false 1 (.t 2))⟩, ⟨(some 9), none, (.bin .lss (.t 8) (.v (.d (.int .i64 0))))⟩, ⟨(some 10), none, (.mov (.t 9))⟩, ⟨(some 11), (some (10, false)), (.load false 1 (.t 2))⟩, ⟨(some 12), (some (10, false)), (.bin .gtr (.t 11) (.v (.d (.int .i64 65535))))⟩, ⟨(some 13), none, (.pick (.t 10) (.v (.d (.bool true))) (.t 12))⟩]) (.cond (.t 13) (.seq (.reg [] [⟨(some 4), none, (.mov (.v (.d (.int .i64 0))))⟩]) .ret) .skip))
def L73_1 : C := (.seq (.reg [] [⟨(some 27), none, (.bin .lss (.t 26) (.v (.d (.int .i64 8))))⟩]) (.seq (.cond (.t 27) .skip (.exit 2)) (.seq (.block 3 (.reg [] [⟨(some 28), none, (.mov (.t 5))⟩, ⟨(some 29), none, (.call (.t 28) [])⟩])) (.reg [] [⟨(some 30), none, (.bin .add (.t 26) (.v (.d (.int .i64 1))))⟩, ⟨(some 26), none, (.mov (.t 30))⟩]))))
def L73_2 : C := (.seq (.reg [] [⟨(some 18), none, (.bin .lss (.t 17) (.t 16))⟩]) (.seq (.cond (.t 18) .skip (.exit 0)) (.seq (.block 1 (.seq (.reg [] [⟨(some 19), none, (.idxA 1 (.t 15) (.t 17))⟩, ⟨(some 20), none, (.load false 1 (.t 19))⟩, ⟨(some 7), none, (.mov (.t 20))⟩]) (.seq (.reg [] [⟨(some 21), none, (.load false 1 (.t 2))⟩, ⟨(some 22), none, (.mov (.t 7))⟩, ⟨(some 23), none, (.conv (.int .i64) (.t 22))⟩, ⟨(some 24), none, (.bin .shl (.t 23) (.v (.d (.int .u64 8))))⟩, ⟨(some 25), none, (.bin .xor (.t 21) (.t 24))⟩, ⟨none, none, (.store 1 (.t 2) (.t 25))⟩]) (.seq (.reg [] [⟨(some 26), none, (.mov (.v (.d (.int .i64 0))))⟩]) (.block 2 (.loop [2, 5, 15, 16, 17, 26] [2, 5, 15, 16, 17] L73_1)))))) (.reg [] [⟨(some 31), none, (.bin .add (.t 17) (.v (.d (.int .i64 1))))⟩, ⟨(some 17), none, (.mov (.t 31))⟩]))))
def S73_3 : C := (.seq1 (.reg [] [⟨(some 15), none, (.mov (.t 1))⟩, ⟨(some 16), none, (.len (.t 15))⟩, ⟨(some 17), none, (.mov (.v (.d (.int .i64 0))))⟩]) (.block 0 (.loop [2, 5, 15, 16, 17] [2] L73_2)))
def F73 : CFunc := ⟨33, [(.tmp 4)], (.seq (.reg [] [⟨(some 2), none, (.box 3 true 1 (.t 0))⟩, ⟨(some 4), none, (.mov (.v (.d (.int .i64 0))))⟩]) (.cut [1, 2] [4] [1, 2] S73_0 (.seq (.reg [] [⟨(some 14), none, (.mkfn (.func 77) [] [(.t 2)])⟩, ⟨(some 5), none, (.mov (.t 14))⟩]) (.cut [1, 2, 5] [] [2] S73_3 (.seq (.reg [] [⟨(some 32), none, (.load false 1 (.t 2))⟩, ⟨(some 4), none, (.mov (.t 32))⟩]) .ret)))))⟩
theorem c73 : cAt Try.prog 73 = some F73.er := by kernel_rfl
def L75_0 : C := (.seq (.seq (.reg [] [⟨(some 3), none, (.load false 1 (.t 1))⟩, ⟨(some 4), none, (.len (.t 3))⟩, ⟨(some 5), none, (.bin .geq (.t 4) (.v (.d (.int .i64 4))))⟩]) (.cond (.t 5) .skip (.exit 0))) (.seq (.block 1 (.seq (.reg [] [⟨(some 8), none, (.mov (.t 0))⟩, ⟨(some 9), none, (.load false 1 (.t 1))⟩, ⟨(some 10), none, (.slice 1 (.t 9) none (some (.v (.d (.int .i64 4)))) (some (.v (.d (.int .i64 4)))))⟩, ⟨(some 11), none, (.call (.t 8) [(.t 10)])⟩, ⟨(some 12), none, (.unop .not (.t 11))⟩]) (.cond (.t 12) .ret .skip))) (.reg [] [⟨(some 6), none, (.load false 1 (.t 1))⟩, ⟨(some 7), none, (.slice 1 (.t 6) (some (.v (.d (.int .i64 4)))) none none)⟩, ⟨none, none, (.store 1 (.t 1) (.t 7))⟩])))
def F75 : CFunc := ⟨13, [], (.block 0 (.loop [0, 1] [] L75_0))⟩
theorem c75 : cAt Try.prog 75 = some F75.er := by kernel_rfl
def F77 : CFunc := ⟨11, [], (.seq (.reg [] [⟨(some 2), none, (.load false 1 (.t 0))⟩, ⟨(some 3), none, (.bin .and (.t 2) (.v (.d (.int .i64 32768))))⟩, ⟨(some 4), none, (.bin .neq (.t 3) (.v (.d (.int .i64 0))))⟩, ⟨(some 1), none, (.mov (.t 4))⟩]) (.seq (.reg [] [⟨(some 5), none, (.load false 1 (.t 0))⟩, ⟨(some 6), none, (.bin .shl (.t 5) (.v (.d (.int .u64 1))))⟩, ⟨(some 7), none, (.bin .and (.t 6) (.v (.d (.int .i64 65535))))⟩, ⟨none, none, (.store 1 (.t 0) (.t 7))⟩]) (.seq (.reg [] [⟨(some 8), none, (.mov (.t 1))⟩]) (.cond (.t 8) (.reg [] [⟨(some 9), none, (.load false 1 (.t 0))⟩, ⟨(some 10), none, (.bin .xor (.t 9) (.v (.d (.int .i64 4129))))⟩, ⟨none, none, (.store 1 (.t 0) (.t 10))⟩]) .skip))))⟩
theorem c77 : cAt Try.prog 77 = some F77.er := by kernel_rfl
def cfT : List (Nat × CFunc) := [(3, F3), (4, F4), (5, F5), (6, F6), (7, F7), (8, F8), (9, F9), (11, F11), (13, F13), (14, F14), (15, F15), (16, F16), (27, F27), (30, F30), (31, F31), (32, F32), (33, F33), (34, F34), (35, F35), (42, F42), (43, F43), (45, F45), (53, F53), (56, F56), (57, F57), (58, F58), (59, F59), (61, F61), (65, F65), (66, F66), (69, F69), (72, F72), (73, F73), (75, F75), (77, F77)]
def lookT : List (Nat × CFunc) → Nat → Option CFunc
  | [], _ => none
  | (i, F) :: r, j => match Nat.beq j i with | true => some F | false => lookT r j
def extT : List (FuncId × XK) := [(60, .grow 5 true 1 1)]
def E0 : Env := ⟨lookT cfT, extOf extT, fun _ => none, fun _ => false, fun f => Nat.beq f 32⟩
theorem lookT_ok : ∀ (l : List (Nat × CFunc)), (∀ p, p ∈ l → cAt Try.prog p.1 = some p.2.er) → ∀ f F, lookT l f = some F → cAt Try.prog f = some F.er
  | [], _, f, F, h => by simp [lookT] at h
  | (i, G) :: r, hl, f, F, h => by
    simp only [lookT] at h
    split at h
    · rename_i hb
      cases h
      rw [Nat.eq_of_beq_eq_true hb]
      exact hl (i, _) (List.mem_cons_self ..)
    · exact lookT_ok r (fun p hp => hl p (by simp [hp])) f F h
theorem cfT_ok : ∀ p, p ∈ cfT → cAt Try.prog p.1 = some p.2.er := by
  unfold cfT
  simp only [List.forall_mem_cons]
  exact ⟨c3, c4, c5, c6, c7, c8, c9, c11, c13, c14, c15, c16, c27, c30, c31, c32, c33, c34, c35, c42, c43, c45, c53, c56, c57, c58, c59, c61, c65, c66, c69, c72, c73, c75, c77, fun p h => by simp at h⟩
theorem e0_ext {f : FuncId} (h : lookX extT f = none) : ∀ a m, E0.ext f a m = none := ext_none h
theorem e0_cf : ∀ f F, E0.cf f = some F → cAt Try.prog f = some F.er := lookT_ok cfT cfT_ok
theorem w3 {args : List V} {m : Mem} (os : List (A E0)) {r : List V × Mem} (h : walkF E0 F3 args m os = some (r, want os)) : cl E0 3 args m = some r := cl_walk (e0_ext (by kernel_rfl)) (by kernel_rfl) (by decide) os h
theorem w4 {args : List V} {m : Mem} (os : List (A E0)) {r : List V × Mem} (h : walkF E0 F4 args m os = some (r, want os)) : cl E0 4 args m = some r := cl_walk (e0_ext (by kernel_rfl)) (by kernel_rfl) (by decide) os h
theorem w5 {args : List V} {m : Mem} (os : List (A E0)) {r : List V × Mem} (h : walkF E0 F5 args m os = some (r, want os)) : cl E0 5 args m = some r := cl_walk (e0_ext (by kernel_rfl)) (by kernel_rfl) (by decide) os h
theorem w6 {args : List V} {m : Mem} (os : List (A E0)) {r : List V × Mem} (h : walkF E0 F6 args m os = some (r, want os)) : cl E0 6 args m = some r := cl_walk (e0_ext (by kernel_rfl)) (by kernel_rfl) (by decide) os h
theorem w7 {args : List V} {m : Mem} (os : List (A E0)) {r : List V × Mem} (h : walkF E0 F7 args m os = some (r, want os)) : cl E0 7 args m = some r := cl_walk (e0_ext (by kernel_rfl)) (by kernel_rfl) (by decide) os h
theorem w9 {args : List V} {m : Mem} (os : List (A E0)) {r : List V × Mem} (h : walkF E0 F9 args m os = some (r, want os)) : cl E0 9 args m = some r := cl_walk (e0_ext (by kernel_rfl)) (by kernel_rfl) (by decide) os h
theorem w11 {args : List V} {m : Mem} (os : List (A E0)) {r : List V × Mem} (h : walkF E0 F11 args m os = some (r, want os)) : cl E0 11 args m = some r := cl_walk (e0_ext (by kernel_rfl)) (by kernel_rfl) (by decide) os h
theorem w13 {args : List V} {m : Mem} (os : List (A E0)) {r : List V × Mem} (h : walkF E0 F13 args m os = some (r, want os)) : cl E0 13 args m = some r := cl_walk (e0_ext (by kernel_rfl)) (by kernel_rfl) (by decide) os h
theorem w14 {args : List V} {m : Mem} (os : List (A E0)) {r : List V × Mem} (h : walkF E0 F14 args m os = some (r, want os)) : cl E0 14 args m = some r := cl_walk (e0_ext (by kernel_rfl)) (by kernel_rfl) (by decide) os h
theorem w15 {args : List V} {m : Mem} (os : List (A E0)) {r : List V × Mem} (h : walkF E0 F15 args m os = some (r, want os)) : cl E0 15 args m = some r := cl_walk (e0_ext (by kernel_rfl)) (by kernel_rfl) (by decide) os h
theorem w16 {args : List V} {m : Mem} (os : List (A E0)) {r : List V × Mem} (h : walkF E0 F16 args m os = some (r, want os)) : cl E0 16 args m = some r := cl_walk (e0_ext (by kernel_rfl)) (by kernel_rfl) (by decide) os h
theorem w27 {args : List V} {m : Mem} (os : List (A E0)) {r : List V × Mem} (h : walkF E0 F27 args m os = some (r, want os)) : cl E0 27 args m = some r := cl_walk (e0_ext (by kernel_rfl)) (by kernel_rfl) (by decide) os h
theorem w30 {args : List V} {m : Mem} (os : List (A E0)) {r : List V × Mem} (h : walkF E0 F30 args m os = some (r, want os)) : cl E0 30 args m = some r := cl_walk (e0_ext (by kernel_rfl)) (by kernel_rfl) (by decide) os h
theorem w31 {args : List V} {m : Mem} (os : List (A E0)) {r : List V × Mem} (h : walkF E0 F31 args m os = some (r, want os)) : cl E0 31 args m = some r := cl_walk (e0_ext (by kernel_rfl)) (by kernel_rfl) (by decide) os h
theorem w32 {args : List V} {m : Mem} (os : List (A E0)) {r : List V × Mem} (h : walkF E0 F32 args m os = some (r, want os)) : cl E0 32 args m = some r := cl_walk (e0_ext (by kernel_rfl)) (by kernel_rfl) (by decide) os h
theorem w33 {args : List V} {m : Mem} (os : List (A E0)) {r : List V × Mem} (h : walkF E0 F33 args m os = some (r, want os)) : cl E0 33 args m = some r := cl_walk (e0_ext (by kernel_rfl)) (by kernel_rfl) (by decide) os h
theorem w34 {args : List V} {m : Mem} (os : List (A E0)) {r : List V × Mem} (h : walkF E0 F34 args m os = some (r, want os)) : cl E0 34 args m = some r := cl_walk (e0_ext (by kernel_rfl)) (by kernel_rfl) (by decide) os h
theorem w35 {args : List V} {m : Mem} (os : List (A E0)) {r : List V × Mem} (h : walkF E0 F35 args m os = some (r, want os)) : cl E0 35 args m = some r := cl_walk (e0_ext (by kernel_rfl)) (by kernel_rfl) (by decide) os h
theorem w42 {args : List V} {m : Mem} (os : List (A E0)) {r : List V × Mem} (h : walkF E0 F42 args m os = some (r, want os)) : cl E0 42 args m = some r := cl_walk (e0_ext (by kernel_rfl)) (by kernel_rfl) (by decide) os h
theorem w43 {args : List V} {m : Mem} (os : List (A E0)) {r : List V × Mem} (h : walkF E0 F43 args m os = some (r, want os)) : cl E0 43 args m = some r := cl_walk (e0_ext (by kernel_rfl)) (by kernel_rfl) (by decide) os h
theorem w45 {args : List V} {m : Mem} (os : List (A E0)) {r : List V × Mem} (h : walkF E0 F45 args m os = some (r, want os)) : cl E0 45 args m = some r := cl_walk (e0_ext (by kernel_rfl)) (by kernel_rfl) (by decide) os h
theorem w53 {args : List V} {m : Mem} (os : List (A E0)) {r : List V × Mem} (h : walkF E0 F53 args m os = some (r, want os)) : cl E0 53 args m = some r := cl_walk (e0_ext (by kernel_rfl)) (by kernel_rfl) (by decide) os h
theorem w56 {args : List V} {m : Mem} (os : List (A E0)) {r : List V × Mem} (h : walkF E0 F56 args m os = some (r, want os)) : cl E0 56 args m = some r := cl_walk (e0_ext (by kernel_rfl)) (by kernel_rfl) (by decide) os h
theorem w57 {args : List V} {m : Mem} (os : List (A E0)) {r : List V × Mem} (h : walkF E0 F57 args m os = some (r, want os)) : cl E0 57 args m = some r := cl_walk (e0_ext (by kernel_rfl)) (by kernel_rfl) (by decide) os h
theorem w58 {args : List V} {m : Mem} (os : List (A E0)) {r : List V × Mem} (h : walkF E0 F58 args m os = some (r, want os)) : cl E0 58 args m = some r := cl_walk (e0_ext (by kernel_rfl)) (by kernel_rfl) (by decide) os h
theorem w59 {args : List V} {m : Mem} (os : List (A E0)) {r : List V × Mem} (h : walkF E0 F59 args m os = some (r, want os)) : cl E0 59 args m = some r := cl_walk (e0_ext (by kernel_rfl)) (by kernel_rfl) (by decide) os h
theorem w61 {args : List V} {m : Mem} (os : List (A E0)) {r : List V × Mem} (h : walkF E0 F61 args m os = some (r, want os)) : cl E0 61 args m = some r := cl_walk (e0_ext (by kernel_rfl)) (by kernel_rfl) (by decide) os h
theorem w65 {args : List V} {m : Mem} (os : List (A E0)) {r : List V × Mem} (h : walkF E0 F65 args m os = some (r, want os)) : cl E0 65 args m = some r := cl_walk (e0_ext (by kernel_rfl)) (by kernel_rfl) (by decide) os h
theorem w66 {args : List V} {m : Mem} (os : List (A E0)) {r : List V × Mem} (h : walkF E0 F66 args m os = some (r, want os)) : cl E0 66 args m = some r := cl_walk (e0_ext (by kernel_rfl)) (by kernel_rfl) (by decide) os h
theorem w69 {args : List V} {m : Mem} (os : List (A E0)) {r : List V × Mem} (h : walkF E0 F69 args m os = some (r, want os)) : cl E0 69 args m = some r := cl_walk (e0_ext (by kernel_rfl)) (by kernel_rfl) (by decide) os h
theorem w72 {args : List V} {m : Mem} (os : List (A E0)) {r : List V × Mem} (h : walkF E0 F72 args m os = some (r, want os)) : cl E0 72 args m = some r := cl_walk (e0_ext (by kernel_rfl)) (by kernel_rfl) (by decide) os h
theorem w73 {args : List V} {m : Mem} (os : List (A E0)) {r : List V × Mem} (h : walkF E0 F73 args m os = some (r, want os)) : cl E0 73 args m = some r := cl_walk (e0_ext (by kernel_rfl)) (by kernel_rfl) (by decide) os h
theorem w75 {args : List V} {m : Mem} (os : List (A E0)) {r : List V × Mem} (h : walkF E0 F75 args m os = some (r, want os)) : cl E0 75 args m = some r := cl_walk (e0_ext (by kernel_rfl)) (by kernel_rfl) (by decide) os h
theorem w77 {args : List V} {m : Mem} (os : List (A E0)) {r : List V × Mem} (h : walkF E0 F77 args m os = some (r, want os)) : cl E0 77 args m = some r := cl_walk (e0_ext (by kernel_rfl)) (by kernel_rfl) (by decide) os h
theorem e0_del : ∀ f, E0.del f = true → DelOK Try.prog f := fun f h => by cases h
def rhoG60 : Shelf.Ren := ⟨fun x => if x = 4 then 60 else x, fun x => match x with | 0 => 0 | 3 => 3 | 4 => 4 | 9 => 9 | 20 => 20 | 22 => 37 | 25 => 5 | x => x, fun x => x⟩
theorem laysG60 : Lays8.n4 Try.prog rhoG60 := by
  constructor
  case f4 => exact ⟨"slices.Grow[[]byte,byte]", by kernel_rfl, by kernel_rfl⟩
  all_goals first | kernel_rfl | (intro w; kernel_rfl)
theorem xok60 : XOK Try.prog 60 (.grow 5 true 1 1) := ⟨by decide, ⟨_, rfl, by kernel_rfl, by kernel_rfl⟩, growOK_of laysG60 rfl rfl (i0 := (Try.prog.info? 5).getD default) (z := (((Try.prog.info? 5).bind (·.zero)).getD default)) (by kernel_rfl) (by kernel_rfl) (by kernel_rfl) (by kernel_rfl) (by kernel_rfl) (by decide) (by decide)⟩
theorem e0_x : ∀ p, p ∈ extT → XOK Try.prog p.1 p.2 := by
  unfold extT
  simp only [List.forall_mem_cons]
  exact ⟨xok60, fun p h => by simp at h⟩
end Go.Proofs.Ytkipngagfiaddaa.Den

namespace Go.Proofs.Ytkipngagfiaddaa.Den
open Go
set_option linter.unusedVariables false
set_option linter.unusedSimpArgs false
abbrev wi (x : Int) : Int := IntKind.i64.wrap x
def encI (k : IntKind) (z : Int) : List D := [.int k z]
def gt {α : Type} [Inhabited α] (l : List α) (i : Int) : α := l.getD i.toNat default
def st {α : Type} (l : List α) (i : Int) (x : α) : List α := l.set i.toNat x
def inb (n : Nat) (i : Int) : Bool := decide (0 ≤ i) && decide (i < (n : Int))
def shrI (k : IntKind) (x y : Int) : Int := x.fdiv (2 ^ (min y.toNat k.bits))
def shlI (k : IntKind) (x y : Int) : Int := k.wrap (x * 2 ^ (min y.toNat k.bits))
def andI (k : IntKind) (x y : Int) : Int := k.wrap (BitVec.ofInt k.bits x &&& BitVec.ofInt k.bits y).toNat
def orI (k : IntKind) (x y : Int) : Int := k.wrap (BitVec.ofInt k.bits x ||| BitVec.ofInt k.bits y).toNat
def xorI (k : IntKind) (x y : Int) : Int := k.wrap (BitVec.ofInt k.bits x ^^^ BitVec.ofInt k.bits y).toNat
def remI (k : IntKind) (x y : Int) : Int := x.tmod y
def slD {α : Type} (enc : α → List D) (fl : Bool) (s : Nat) (n : Bool) (l : List α) : D := D.ofRows n fl s (l.map enc)
@[simp] theorem deSo_d (x : D) : deSo (.d x) = .d x := rfl
@[simp] theorem deSo_sl (id n o l : Nat) : deSo (.sl id n o l) = .sl id n o l := rfl
theorem slD_rs {α : Type} (enc : α → List D) (fl : Bool) (s : Nat) (l : List α) : D.rs fl s (l.map enc) false = slD enc fl s false l := by cases l <;> rfl
def tb (b : Bool) : Bool := b
theorem tbE {b c : Bool} (h : tb b = c) : b = c := h
theorem notT {b : Bool} (h : b = true) : (!b) = false := by rw [h]; rfl
theorem notF {b : Bool} (h : b = false) : (!b) = true := by rw [h]; rfl
theorem tf : ¬ (true = false) := Bool.noConfusion
theorem ft : ¬ (false = true) := Bool.noConfusion
def itS {S : Type} (sel : S → Bool) (nx : S → S) : Nat → S → Option S
  | 0, _ => none
  | n + 1, s => match sel s with | true => itS sel nx n (nx s) | false => some s
theorem loop_it {S : Type} {g : List V × Mem → Option (X × (List V × Mem))} {enc : S → List V × Mem} {sel : S → Bool} {nx : S → S} (hn : ∀ s, sel s = true → g (enc s) = some (.normal, enc (nx s))) :
    ∀ (n : Nat) (s0 s1 : S) (x : X) (h : List V × Mem), itS sel nx n s0 = some s1 → x ≠ .normal → g (enc s1) = some (x, h) → loopG g n (enc s0) = some (x, h)
  | 0, s0, s1, x, h, hi, _, _ => by simp [itS] at hi
  | n + 1, s0, s1, x, h, hi, hx, hg => by
    simp only [itS] at hi
    simp only [loopG]
    split at hi
    · rename_i hs
      rw [hn s0 hs]
      exact loop_it hn n (nx s0) s1 x h hi hx hg
    · cases hi
      rw [hg]
      cases x with
      | normal => exact absurd rfl hx
      | exit i => rfl
      | ret => rfl
theorem itS_false {S : Type} {sel : S → Bool} {nx : S → S} : ∀ {n : Nat} {s0 s1 : S}, itS sel nx n s0 = some s1 → sel s1 = false
  | 0, _, _, h => by simp [itS] at h
  | n + 1, s0, s1, h => by
    simp only [itS] at h
    split at h
    · exact itS_false h
    · rename_i hs; cases h; exact hs
theorem itS_get {S : Type} {sel : S → Bool} {nx : S → S} {n : Nat} {s0 d : S} (h : (itS sel nx n s0).isSome = true) : itS sel nx n s0 = some ((itS sel nx n s0).getD d) := by
  cases hi : itS sel nx n s0 with
  | none => rw [hi] at h; cases h
  | some s => rfl
theorem itS_inv {S : Type} {sel : S → Bool} {nx : S → S} (J : S → Prop) (μ : S → Nat) (hn : ∀ s, J s → sel s = true → J (nx s) ∧ μ (nx s) < μ s) :
    ∀ (n : Nat) (s : S), J s → μ s < n → ∃ s1, itS sel nx n s = some s1 ∧ J s1 ∧ sel s1 = false
  | 0, s, _, h => by omega
  | n + 1, s, hJ, h => by
    simp only [itS]
    cases hc : sel s with
    | true =>
      obtain ⟨h1, h2⟩ := hn s hJ hc
      exact itS_inv J μ hn n (nx s) h1 (by omega)
    | false => exact ⟨s, rfl, hJ, hc⟩
section
variable {E : Env} {c : CallT} {t : Nat → V} {m : Mem}
theorem inb_spec {n : Nat} {i : Int} (h : inb n i = true) : 0 ≤ i ∧ i.toNat < n := by
  simp only [inb, Bool.and_eq_true, decide_eq_true_eq] at h
  omega
theorem asNat_inb {k : IntKind} {i : Int} (h : 0 ≤ i) : asNat (.d (.int k i)) = some i.toNat := by simp [asNat, h]
theorem o_idx_rs {α : Type} [Inhabited α] {enc : α → List D} {l : List α} {fl tg : Bool} {s : Nat} {k : IntKind} {i : Int} (h : inb l.length i = true) :
    doI E c (.idxA s (.v (.d (.rs fl s (l.map enc) tg))) (.v (.d (.int k i)))) t m = some (.d (.rp (enc (gt l i))), m) := by
  obtain ⟨h1, h2⟩ := inb_spec h
  have hl : l[i.toNat]? = some l[i.toNat] := List.getElem?_eq_getElem h2
  simp [doI, ev, sizeOk, asNat_inb h1, idxSV, List.getElem?_map, hl, gt, List.getD]
theorem o_len_rs {α : Type} {enc : α → List D} {l : List α} {fl tg : Bool} {s : Nat} :
    doI E c (.len (.v (.d (.rs fl s (l.map enc) tg)))) t m = some (.d (.int .i64 ((l.length : Nat) : Int)), m) := by
  simp [doI, ev, lenV]
theorem o_len_os {α : Type} {enc : α → List D} {fl : Bool} {s : Nat} {n : Bool} {l : List α} :
    doI E c (.len (.v (.d (slD enc fl s n l)))) t m = some (.d (.int .i64 ((l.length : Nat) : Int)), m) := by
  cases n <;> cases l <;> simp [doI, ev, lenV, slD, D.ofRows]
theorem o_idx_os {α : Type} [Inhabited α] {enc : α → List D} {l : List α} {fl n : Bool} {s : Nat} {k : IntKind} {i : Int} (h : inb l.length i = true) :
    doI E c (.idxA s (.v (.d (slD enc fl s n l))) (.v (.d (.int k i)))) t m = some (.d (.rp (enc (gt l i))), m) := by
  have key : slD enc fl s n l = .rs fl s (l.map enc) false := by
    cases n <;> cases l <;> first | rfl | (obtain ⟨_, h2⟩ := inb_spec h; simp at h2)
  rw [key]; exact o_idx_rs h
theorem o_nil_os {α : Type} {enc : α → List D} {l : List α} {fl n neg : Bool} {s : Nat} :
    doI E c (.beq .slc neg (.v (.d (slD enc fl s n l))) (.v (.d .nils))) t m = some (.d (.bool (neg != (n && l.isEmpty))), m) := by
  cases n <;> cases l <;> simp [doI, ev, eqV, isSlc, slD, D.ofRows]
theorem o_shr {k k2 : IntKind} {x y : Int} (h : decide (0 ≤ y) = true) : doI E c (.bin .shr (.v (.d (.int k x))) (.v (.d (.int k2 y)))) t m = some (.d (.int k (shrI k x y)), m) := by
  have h1 : 0 ≤ y := of_decide_eq_true h
  have h2 : ¬ (y < 0) := by omega
  simp [doI, ev, binV, shiftInt, h2, shrI]
theorem o_shl {k k2 : IntKind} {x y : Int} (h : decide (0 ≤ y) = true) : doI E c (.bin .shl (.v (.d (.int k x))) (.v (.d (.int k2 y)))) t m = some (.d (.int k (shlI k x y)), m) := by
  have h1 : 0 ≤ y := of_decide_eq_true h
  have h2 : ¬ (y < 0) := by omega
  simp [doI, ev, binV, shiftInt, h2, shlI]
def opt (x : Option (IntKind × Int)) : Option O := x.map fun p => .v (.d (.int p.1 p.2))
def lo0 (x : Option (IntKind × Int)) : Int := match x with | some p => p.2 | none => 0
def hi0 (n : Nat) (x : Option (IntKind × Int)) : Int := match x with | some p => p.2 | none => (n : Int)
def ins (n : Nat) (lo hi : Int) : Bool := decide (0 ≤ lo) && decide (lo ≤ hi) && decide (hi ≤ (n : Int))
def sub {α : Type} (l : List α) (lo hi : Int) : List α := (l.drop lo.toNat).take (hi - lo).toNat
theorem ins_spec {n : Nat} {lo hi : Int} (h : ins n lo hi = true) : 0 ≤ lo ∧ lo ≤ hi ∧ hi ≤ n ∧ lo.toNat ≤ hi.toNat ∧ hi.toNat ≤ n ∧ hi.toNat - lo.toNat = (hi - lo).toNat := by
  simp only [ins, Bool.and_eq_true, decide_eq_true_eq] at h
  omega
theorem optNat_lo {x : Option (IntKind × Int)} (h : 0 ≤ lo0 x) : optNat E t (opt x) 0 = some (lo0 x).toNat := by
  cases x with
  | none => rfl
  | some p => simp only [lo0] at h ⊢; simp [optNat, opt, ev, asNat, h]
theorem optNat_hi {n : Nat} {x : Option (IntKind × Int)} (h : 0 ≤ hi0 n x) : optNat E t (opt x) n = some (hi0 n x).toNat := by
  cases x with
  | none => simp [optNat, opt, hi0]
  | some p => simp only [hi0] at h ⊢; simp [optNat, opt, ev, asNat, h]
theorem map_sub {α β : Type} (f : α → β) (l : List α) (lo hi : Int) : ((l.map f).drop lo.toNat).take (hi - lo).toNat = (sub l lo hi).map f := by
  unfold sub; rw [← List.map_drop, ← List.map_take]
theorem o_slice_rs {α : Type} {enc : α → List D} {l : List α} {fl tg : Bool} {s : Nat} (lo hi : Option (IntKind × Int)) (h : ins l.length (lo0 lo) (hi0 l.length hi) = true) :
    doI E c (.slice s (.v (.d (.rs fl s (l.map enc) tg))) (opt lo) (opt hi) none) t m = some (.d (.rs fl s ((sub l (lo0 lo) (hi0 l.length hi)).map enc) (tg && (hi0 l.length hi).toNat == l.length)), m) := by
  obtain ⟨h1, h2, h3, h4, h5, h6⟩ := ins_spec h
  have e1 : optNat E t (opt lo) 0 = some (lo0 lo).toNat := optNat_lo h1
  have e2 : optNat E t (opt hi) l.length = some (hi0 l.length hi).toNat := optNat_hi (by omega)
  simp [doI, ev, sizeOk, lenV, e1, e2, sliceV, h4, h5, h6, ← map_sub] <;> omega
theorem o_slice_os {α : Type} {enc : α → List D} {l : List α} {fl n : Bool} {s : Nat} (lo hi : Option (IntKind × Int)) (h : ins l.length (lo0 lo) (hi0 l.length hi) = true) :
    doI E c (.slice s (.v (.d (slD enc fl s n l))) (opt lo) (opt hi) none) t m = some (.d (slD enc fl s (n && l.isEmpty) (sub l (lo0 lo) (hi0 l.length hi))), m) := by
  have rs : ∀ (l : List α), ins l.length (lo0 lo) (hi0 l.length hi) = true → doI E c (.slice s (.v (.d (.rs fl s (l.map enc) false))) (opt lo) (opt hi) none) t m = some (.d (slD enc fl s false (sub l (lo0 lo) (hi0 l.length hi))), m) := fun l h => by
    rw [o_slice_rs lo hi h, Bool.false_and, slD_rs]
  cases n with
  | false => rw [← slD_rs]; exact rs l h
  | true =>
    cases l with
    | nil =>
      obtain ⟨h1, h2, h3, h4, h5, h6⟩ := ins_spec h
      have e1 : optNat E t (opt lo) 0 = some (lo0 lo).toNat := optNat_lo h1
      have e2 : optNat E t (opt hi) 0 = some (hi0 0 hi).toNat := optNat_hi (by simpa using (show 0 ≤ hi0 ([] : List α).length hi by omega))
      have z2 : (hi0 0 hi).toNat = 0 := by simpa using h5
      have z1 : (lo0 lo).toNat = 0 := by simp only [List.length_nil] at h4; omega
      simp [doI, ev, sizeOk, lenV, e1, e2, sliceV, z1, z2, sub, slD, D.ofRows]
    | cons a l => exact rs (a :: l) h
theorem o_slice_mx {α : Type} {enc : α → List D} {l : List α} {fl n : Bool} {s : Nat} {kl kh kx : IntKind} {hi : Int} (h : ins l.length 0 hi = true) (hp : decide (0 < hi) = true) :
    doI E c (.slice s (.v (.d (slD enc fl s n l))) none (some (.v (.d (.int kh hi)))) (some (.v (.d (.int kx hi))))) t m = some (.d (.rs fl s ((sub l 0 hi).map enc) true), m) := by
  obtain ⟨h1, h2, h3, h4, h5, h6⟩ := ins_spec h
  have hp := of_decide_eq_true hp
  have key : slD enc fl s n l = .rs fl s (l.map enc) false := by
    cases n <;> cases l <;> first | rfl | (simp at h5; omega)
  have h7 : hi.toNat = (hi - 0).toNat := by omega
  have h8 : 0 ≤ hi := by omega
  rw [key]
  simp [doI, ev, sizeOk, lenV, optNat, asNat, h8, sliceV, h5, ← map_sub] <;> omega
theorem flatRowsOf_os {α : Type} {enc : α → List D} {l : List α} {n : Bool} {s : Nat} : flatRowsOf m (.d (slD enc true s n l)) = some (l.map enc) := by
  cases n <;> cases l <;> simp [flatRowsOf, slD, D.ofRows]
theorem sizeOk_os {α : Type} {enc : α → List D} {l : List α} {n fl : Bool} {s : Nat} : sizeOk m s (.d (slD enc fl s n l)) = true := by
  cases n <;> cases l <;> simp [sizeOk, slD, D.ofRows]
theorem beq_len {n k : Nat} (h : Nat.beq n k = true) : n = k := Nat.eq_of_beq_eq_true h
theorem o_slice_sps {α : Type} {enc : α → List D} {l : List α} {id e s n : Nat} {p : Bool} (lo hi : Option (IntKind × Int)) (hm : m[id]? = some (.flat e s (l.map enc) p)) (h : ins n (lo0 lo) (hi0 n hi) = true) (hlt : decide (lo0 lo < hi0 n hi) = true) :
    doI E c (.slice s (.v (.sl id n 0 n)) (opt lo) (opt hi) none) t m = some (.sl id n (lo0 lo).toNat ((hi0 n hi).toNat - (lo0 lo).toNat), m) := by
  obtain ⟨h1, h2, h3, h4, h5, h6⟩ := ins_spec h
  have hlt := of_decide_eq_true hlt
  have e1 : optNat E t (opt lo) 0 = some (lo0 lo).toNat := optNat_lo h1
  have e2 : optNat E t (opt hi) n = some (hi0 n hi).toNat := optNat_hi (by omega)
  have h7 : (lo0 lo).toNat < (hi0 n hi).toNat := by omega
  have h8 : sizeOk m s (.sl id n 0 n) = true := by simp [sizeOk, hm, Blk.size]
  simp only [doI, ev, deSo, h8, lenV, if_true, Option.bind_some, e1, e2, sliceV, h4, h5, and_self, h7, Nat.zero_add]
theorem o_slice_spo {α : Type} {enc : α → List D} {l : List α} {nl : Bool} {id e s n : Nat} {p : Bool} (lo hi : Option (IntKind × Int)) (hm : m[id]? = some (.flat e s (l.map enc) p)) (h : ins n (lo0 lo) (hi0 n hi) = true) (hlt : decide (lo0 lo < hi0 n hi) = true) :
    doI E c (.slice s (.v (.so nl id n)) (opt lo) (opt hi) none) t m = some (.sl id n (lo0 lo).toNat ((hi0 n hi).toNat - (lo0 lo).toNat), m) := by
  cases nl with
  | false => exact o_slice_sps (E := E) (c := c) (t := t) lo hi hm h hlt
  | true =>
    obtain ⟨h1, h2, h3, h4, h5, h6⟩ := ins_spec h
    have hlt := of_decide_eq_true hlt
    have e1 : optNat E t (opt lo) 0 = some (lo0 lo).toNat := optNat_lo h1
    have e2 : optNat E t (opt hi) n = some (hi0 n hi).toNat := optNat_hi (by omega)
    have h7 : (lo0 lo).toNat < (hi0 n hi).toNat := by omega
    have h8 : sizeOk m s (.so true id n) = true := by simp [sizeOk, hm, Blk.size]
    simp [doI, ev, deSo, h8, lenV, e1, e2, sliceV, h4, h5, h7]
theorem deSo_f {nl : Bool} {id n : Nat} (h : nl = false) : deSo (.so nl id n) = .sl id n 0 n := by rw [h]; rfl
theorem o_slice_sp0 {α : Type} {enc : α → List D} {l : List α} {x : V} {id e s n : Nat} {p : Bool} (lo hi : Option (IntKind × Int)) (hx : deSo x = .sl id n 0 n) (hn : Nat.beq n l.length = true) (hm : m[id]? = some (.flat e s (l.map enc) p)) (h : ins n (lo0 lo) (hi0 n hi) = true) (hlt : decide (lo0 lo < hi0 n hi) = false) :
    doI E c (.slice s (.v x) (opt lo) (opt hi) none) t m = some (.d (.rs false s [] false), m) := by
  obtain ⟨h1, h2, h3, h4, h5, h6⟩ := ins_spec h
  have hlt := of_decide_eq_false hlt
  have e1 : optNat E t (opt lo) 0 = some (lo0 lo).toNat := optNat_lo h1
  have e2 : optNat E t (opt hi) n = some (hi0 n hi).toNat := optNat_hi (by omega)
  have h7 : ¬ (lo0 lo).toNat < (hi0 n hi).toNat := by omega
  have h8 : sizeOk m s (.sl id n 0 n) = true := by simp [sizeOk, hm, Blk.size]
  have h9 : n = (Blk.flat e s (l.map enc) p).len := by simp [Blk.len, beq_len hn]
  simp only [doI, ev, hx, h8, lenV, if_true, Option.bind_some, e1, e2, sliceV, h4, h5, and_self, h7, if_false, hm, ← h9]
  rfl
theorem byval_sp {α : Type} {enc : α → List D} {l : List α} {id e s n : Nat} {p : Bool} {lo hi : Int} (hn : Nat.beq n l.length = true) (hm : m[id]? = some (.flat e s (l.map enc) p)) (h : ins n lo hi = true) :
    V.byval m (.sl id n lo.toNat (hi.toNat - lo.toNat)) = .d (.rs true s ((sub l lo hi).map enc) false) := by
  obtain ⟨h1, h2, h3, h4, h5, h6⟩ := ins_spec h
  have h7 : lo.toNat + (hi.toNat - lo.toNat) ≤ n := by omega
  have hn' := beq_len hn
  simp only [V.byval, byvalS, hm, List.length_map, hn', true_and]
  rw [if_pos (by rw [← hn']; exact h7), h6, map_sub]
theorem byvals_cons {v v1 : V} {l l1 : List V} (h : V.byval m v = v1) (h2 : V.byvals m l = l1) : V.byvals m (v :: l) = v1 :: l1 := by
  rw [V.byvals, h, h2]
theorem byval_agg {l l1 : List V} (h : V.byvals m l = l1) : V.byval m (.agg l) = .agg l1 := by rw [V.byval, h]
theorem flatRowsOf_so' {α : Type} {enc : α → List D} {l : List α} {b p : Bool} {id e s n : Nat} (hn : Nat.beq n l.length = true) (hm : m[id]? = some (.flat e s (l.map enc) p)) : flatRowsOf m (.so b id n) = some (l.map enc) := by
  rw [beq_len hn]
  simp only [flatRowsOf, hm, Option.bind_some, List.length_map, if_true]
theorem byval_so {α : Type} {enc : α → List D} {l : List α} {b p : Bool} {id e s n : Nat} (hn : Nat.beq n l.length = true) (hm : m[id]? = some (.flat e s (l.map enc) p)) : V.byval m (.so b id n) = .d (slD enc true s b l) := by
  rw [beq_len hn]
  simp only [V.byval, byvalS, hm, List.length_map, if_true, slD]
theorem o_app_so {α : Type} {enc : α → List D} {l0 l1 : List α} {nl : Bool} {id e s bytes n : Nat} {x : V} (hn : Nat.beq n l0.length = true) (hm : m[id]? = some (.flat e s (l0.map enc) false)) (hx : flatRowsOf m x = some (l1.map enc)) (hs : sizeOk m s x = true)
    (h : decide ((l0.length + l1.length) * bytes ≤ 140737488355328) = true) :
    doI E c (.append e true s bytes (.v (.so nl id n)) (.v x)) t m = some (.so (l1.isEmpty && nl) id (l0 ++ l1).length, m.set id (.flat e s ((l0 ++ l1).map enc) false)) := by
  rw [beq_len hn]
  have h := of_decide_eq_true h
  simp only [doI, ev, appendV, hs, hm, hx, Option.bind_some, List.length_map, true_and, if_true]
  rw [if_pos h]
  cases l1 with
  | nil => simp
  | cons a l1 => simp
theorem o_app_sf {α : Type} {enc : α → List D} {l0 l1 : List α} {id e s bytes n : Nat} {x : V} (hn : Nat.beq n l0.length = true) (hm : m[id]? = some (.flat e s (l0.map enc) false)) (hx : flatRowsOf m x = some (l1.map enc)) (hs : sizeOk m s x = true)
    (h : decide ((l0.length + l1.length) * bytes ≤ 140737488355328) = true) :
    doI E c (.append e true s bytes (.v (.so false id n)) (.v x)) t m = some (.so false id (l0 ++ l1).length, m.set id (.flat e s ((l0 ++ l1).map enc) false)) := by
  have := o_app_so (E := E) (c := c) (t := t) (nl := false) hn hm hx hs h
  rwa [Bool.and_false] at this
def tab (T : List Int) (n : Nat) : List Int := (List.range n).map fun (j : Nat) => gt T (j : Int)
def sta (T : List Int) (n : Nat) (i v : Int) : List Int := st (tab T n) i v
def arrD (k : IntKind) (T : List Int) (n : Nat) : List D := (List.range n).map fun (j : Nat) => .int k (gt T (j : Int))
theorem tab_len (T : List Int) (n : Nat) : (tab T n).length = n := by simp [tab]
theorem arrD_get (k : IntKind) (T : List Int) (n j : Nat) : (arrD k T n)[j]? = if j < n then some (.int k (gt T (j : Int))) else none := by
  unfold arrD
  rw [List.getElem?_map]
  by_cases h : j < n
  · simp [h]
  · simp [h]
theorem gt_tab {T : List Int} {n : Nat} {i : Int} (h1 : 0 ≤ i) (h2 : i < n) : gt (tab T n) i = gt T i := by
  have h3 : i.toNat < n := by omega
  have h4 : ((i.toNat : Nat) : Int) = i := Int.toNat_of_nonneg h1
  simp only [gt, tab, List.getD_eq_getElem?_getD, List.getElem?_map]
  rw [List.getElem?_range h3]
  simp only [Option.map_some, Option.getD_some, h4, gt, List.getD_eq_getElem?_getD]
theorem gt_sta {T : List Int} {n : Nat} {i v j : Int} (h1 : 0 ≤ j) (h2 : j < n) (h3 : 0 ≤ i) : gt (sta T n i v) j = if j = i then v else gt T j := by
  have hj : j.toNat < (tab T n).length := by rw [tab_len]; omega
  by_cases h : j = i
  · subst h
    simp [sta, st, gt, List.getD_eq_getElem?_getD, hj]
  · rw [if_neg h]
    have e := gt_tab (T := T) (n := n) h1 h2
    have : ¬ i.toNat = j.toNat := by omega
    simp only [gt, sta, st, List.getD_eq_getElem?_getD, List.getElem?_set, this, if_false] at e ⊢
    exact e
theorem arrD_sta {k : IntKind} {T : List Int} {n : Nat} {i v : Int} (h1 : 0 ≤ i) (h2 : i < n) : arrD k (sta T n i v) n = (arrD k T n).set i.toNat (.int k v) := by
  apply List.ext_getElem?
  intro j
  rw [arrD_get, List.getElem?_set, arrD_get]
  by_cases hj : j < n
  · rw [if_pos hj, if_pos hj, gt_sta (by omega) (by omega) h1]
    have hl : (arrD k T n).length = n := by simp [arrD]
    by_cases h : (j : Int) = i
    · have h' : i.toNat = j := by omega
      simp [h, h', hl, hj]
    · have h' : ¬ i.toNat = j := by omega
      simp [h, h']
  · have hl : (arrD k T n).length = n := by simp [arrD]
    have h' : ¬ i.toNat = j := by omega
    simp [hj, h']
theorem o_idxAA {id nn row off n s : Nat} {k : IntKind} {i : Int} (h : inb n i = true) :
    doI E c (.idxAA n s (.v (.ptr id nn row off)) (.v (.d (.int k i)))) t m = some (.ptr id nn row (off + i.toNat * s), m) := by
  obtain ⟨h1, h2⟩ := inb_spec h
  simp [doI, ev, asNat_inb h1, idxAV, h2]
theorem arr_at {β : Type} {cs : List β} {ar : List β} {off n j : Nat} (h : (cs.drop off).take n = ar) (hj : j < n) : cs[off + j]? = ar[j]? := by
  subst h
  rw [List.getElem?_take, if_pos hj, List.getElem?_drop]
theorem o_load_arr {id nn row off n : Nat} {k : IntKind} {T : List Int} {i : Int} (hx : (((m[id]?).bind fun b => b.row? nn row).map fun cs => (cs.drop off).take n) = some ((arrD k T n).map V.d)) (h : inb n i = true) :
    doI E c (.load false 1 (.v (.ptr id nn row (off + i.toNat * 1)))) t m = some (.d (.int k (gt T i)), m) := by
  obtain ⟨h1, h2⟩ := inb_spec h
  obtain ⟨cs, hc, hx⟩ := Option.map_eq_some_iff.1 hx
  obtain ⟨b, hb, hc⟩ := Option.bind_eq_some_iff.1 hc
  have h4 : ((i.toNat : Nat) : Int) = i := Int.toNat_of_nonneg h1
  have e := arr_at hx h2
  rw [List.getElem?_map, arrD_get, if_pos h2] at e
  simp [doI, ev, loadV, hb, hc, part, e, h4]
theorem o_store_arr {id nn row off n s : Nat} {e : TypeId} {rows : List (List D)} {cs : List D} {k : IntKind} {T : List Int} {i v : Int} (hm : m[id]? = some (.flat e s rows false)) (hr : rows[row]? = some cs) (hn : Nat.beq nn rows.length = true)
    (hx : (cs.drop off).take n = arrD k T n) (h : inb n i = true) :
    doI E c (.store 1 (.v (.ptr id nn row (off + i.toNat * 1))) (.v (.d (.int k v)))) t m = some (.tup [], m.set id (.flat e s (rows.set row (cs.take off ++ (arrD k (sta T n i v) n ++ cs.drop (off + n)))) false)) := by
  obtain ⟨h1, h2⟩ := inb_spec h
  have hlen : off + n ≤ cs.length := by
    have := congrArg List.length hx
    simp [arrD] at this; omega
  have hset : cs.set (off + i.toNat) (.int k v) = cs.take off ++ (arrD k (sta T n i v) n ++ cs.drop (off + n)) := by
    rw [arrD_sta h1 (by omega), ← hx]
    have e1 : cs = cs.take off ++ ((cs.drop off).take n ++ cs.drop (off + n)) := by
      rw [← List.drop_drop, List.take_append_drop, List.take_append_drop]
    have hl1 : (cs.take off).length = off := by simp; omega
    have hl2 : ((cs.drop off).take n).length = n := by simp; omega
    conv => lhs; rw [e1]
    rw [List.set_append_right _ _ (by omega), hl1, show off + i.toNat - off = i.toNat by omega, List.set_append_left _ _ (by omega)]
  have hput : cs.take (off + i.toNat) ++ ([.int k v] ++ cs.drop (off + i.toNat + 1)) = cs.set (off + i.toNat) (.int k v) := by
    rw [List.set_eq_take_append_cons_drop, if_pos (by omega)]; rfl
  have hle : off + i.toNat + 1 ≤ cs.length := by omega
  simp only [doI, ev, storeV, V.cells, List.length_cons, List.length_nil, Nat.zero_add, V.cellsOk, hm, Option.bind_some, Blk.put?, beq_len hn, if_true, toSs, setRow, hr]
  simp [V.cellOk, toSs, D.scalar, hle, setRow, hr, Nat.mul_one, ← hset, ← hput]
theorem o_arrP {nl : Bool} {id n k s : Nat} (hb : nl = false) (hs : sizeOk m s (.so false id n) = true) (h : Nat.ble k n = true) :
    doI E c (.arrP k s (.v (.so nl id n))) t m = some (.pa id n 0 k, m) := by
  subst hb
  have hs' : sizeOk m s (.sl id n 0 n) = true := hs
  simp only [doI, ev, deSo, hs', if_true, arrPV, Nat.le_of_ble_eq_true h, Option.map_some]
theorem gt_take_flat (kd : IntKind) : ∀ (k : Nat) (l : List Int), k ≤ l.length → ((((l.map (encI kd)).take k).map (List.map V.d)).flatten) = (List.range k).map fun (j : Nat) => V.d (.int kd (gt l (j : Int))) := by
  intro k l hk
  apply List.ext_getElem?
  intro j
  have e1 : (((l.map (encI kd)).take k).map (List.map V.d)).flatten = (l.take k).map fun x => V.d (.int kd x) := by
    clear hk
    induction k generalizing l with
    | zero => simp
    | succ k ih =>
      cases l with
      | nil => simp
      | cons a r => simp only [List.map_cons, List.take_succ_cons, List.flatten_cons, ih]; rfl
  rw [e1, List.getElem?_map, List.getElem?_map]
  by_cases hj : j < k
  · rw [List.getElem?_take_of_lt hj, List.getElem?_range hj, List.getElem?_eq_getElem (by omega)]
    simp [gt, List.getD_eq_getElem?_getD, List.getElem?_eq_getElem (show j < l.length by omega)]
  · rw [List.getElem?_eq_none (by simp; omega), List.getElem?_eq_none (by simp; omega)]; rfl
theorem o_load_pa {kd : IntKind} {l : List Int} {id n k e : Nat} {p : Bool} (hn : Nat.beq n l.length = true) (hm : m[id]? = some (.flat e 1 (l.map (encI kd)) p)) (h : Nat.ble k n = true) :
    doI E c (.load true k (.v (.pa id n 0 k))) t m = some (.agg ((List.range k).map fun (j : Nat) => V.d (.int kd (gt l (j : Int)))), m) := by
  rw [beq_len hn] at h ⊢
  have hk := Nat.le_of_ble_eq_true h
  simp only [doI, ev, loadV, if_true, rowsOf, hm, Option.bind_some, List.length_map, Nat.zero_add, hk, and_self, List.drop_zero]
  rw [gt_take_flat kd k l hk]
  simp
theorem x_grow {E : Env} {l : List (FuncId × XK)} {f : FuncId} {e : TypeId} {flat : Bool} {size bytes : Nat} {b : Blk} {n : Int} (hE : (E.ext = extOf l ∧ lookX l f = some (.grow e flat size bytes)) ∧ f ≠ yfn) (hb : mkBlk e flat size [] = some b) (h : (decide (0 ≤ n) && decide (n.toNat * bytes ≤ 140737488355328)) = true) :
    cl E f [.d .nils, .d (.int .i64 n)] [] = some ([.so (Nat.beq n.toNat 0) 0 0], [b]) := by
  obtain ⟨⟨h1, h2⟩, h3⟩ := hE
  simp only [Bool.and_eq_true, decide_eq_true_eq] at h
  refine cl_ext h3 ?_
  rw [h1]
  simp only [extOf, h2, runX, runGrow]
  rw [if_pos h, hb]; rfl
end
end Go.Proofs.Ytkipngagfiaddaa.Den

namespace Go.Proofs.Ytkipngagfiaddaa.Den
open Go Go.Proofs
set_option maxRecDepth 100000
set_option maxHeartbeats 4000000
set_option linter.unusedVariables false
set_option linter.unusedSimpArgs false
structure R_bool_Su811 where
  c0 : Bool
  c1 : Bool
  c2 : List Int
  deriving Inhabited
def enc_R_bool_Su811 (p : R_bool_Su811) : List D := [(.bool p.c0), (slD (encI .u8) true 1 p.c1 p.c2)]
end Go.Proofs.Ytkipngagfiaddaa.Den

namespace Go.Proofs.Ytkipngagfiaddaa.Den
open Go Go.Proofs
set_option maxRecDepth 100000
set_option maxHeartbeats 4000000
set_option linter.unusedVariables false
set_option linter.unusedSimpArgs false
def word_Get2_o_c0 (x1 : List Int) : Bool := (bif tb ((((x1.length : Nat) : Int) : Int) != 2) then true else (bif tb (inb x1.length 0) then (bif tb (inb x1.length 1) then true else false) else false))
def word_Get2_o_r0_0 (x1 : List Int) : Int := (bif tb ((((x1.length : Nat) : Int) : Int) != 2) then 0 else (orI .i64 (shlI .i64 (wi (gt x1 0)) 8) (wi (gt x1 1))))
def word_Get2_o_r0_1 (x1 : List Int) : Bool := (bif tb ((((x1.length : Nat) : Int) : Int) != 2) then false else true)
theorem word_Get2_o_t0 (x0 : Bool) (x1 : List Int) : word_Get2_o_c0 x1 = true → cl E0 42 [(V.d (slD (encI .u8) true 1 x0 x1))] [] = some ([(V.d (.int .i64 (word_Get2_o_r0_0 x1))), (V.d (.bool (word_Get2_o_r0_1 x1)))], []) := by
  unfold word_Get2_o_c0 word_Get2_o_r0_0 word_Get2_o_r0_1
  cases h1 : tb ((((x1.length : Nat) : Int) : Int) != 2)
  · cases h2 : tb (inb x1.length 0)
    · intro g0
      exact absurd g0 ft
    · cases h3 : tb (inb x1.length 1)
      · intro g0
        exact absurd g0 ft
      · intro g0
        exact w42 [.o 5 (fun _ => o_len_os (enc := (encI .u8)) (l := x1) (fl := true) (n := x0) (s := 1)), .b (tbE h1), .o 8 (fun _ => o_idx_os (enc := (encI .u8)) (l := x1) (fl := true) (n := x0) (s := 1) (k := .i64) (tbE h2)), .o 11 (fun _ => o_shl (k := .i64) (k2 := .u64) (x := (wi (gt x1 0))) (y := 8) rfl), .o 13 (fun _ => o_idx_os (enc := (encI .u8)) (l := x1) (fl := true) (n := x0) (s := 1) (k := .i64) (tbE h3))] (by kernel_rfl)
  · intro g0
    exact w42 [.o 5 (fun _ => o_len_os (enc := (encI .u8)) (l := x1) (fl := true) (n := x0) (s := 1)), .b (tbE h1)] (by kernel_rfl)
theorem word_fours_o_t0 (x0 : Bool) (x1 : List Int) : cl E0 65 [(V.d (slD (encI .u8) true 1 x0 x1))] [] = some ([(V.fn (.func 75) [] [(V.ptr 0 1 0 0)])], [(Blk.gen 37 1 [[(V.d (slD (encI .u8) true 1 x0 x1))]] false)]) := by
  exact w65 [] (by kernel_rfl)
def word_Get4_l_e0 (x0 : List Int) : Int := orI .u32 (shlI .u32 (IntKind.u32.wrap (gt x0 0)) 24) (shlI .u32 (IntKind.u32.wrap (gt x0 1)) 16)
def word_Get4_l_e1 (x0 : List Int) : Int := orI .u32 (word_Get4_l_e0 x0) (shlI .u32 (IntKind.u32.wrap (gt x0 2)) 8)
def word_Get4_l_e2 (x0 : List Int) : Int := IntKind.i32.wrap (orI .u32 (word_Get4_l_e1 x0) (IntKind.u32.wrap (gt x0 3)))
def word_Get4_l_c0 (x0 : List Int) : Bool := (bif tb ((((x0.length : Nat) : Int) : Int) != 4) then true else (bif tb (inb x0.length 0) then (bif tb (inb x0.length 1) then (bif tb (inb x0.length 2) then (bif tb (inb x0.length 3) then true else false) else false) else false) else false))
def word_Get4_l_r0_0 (x0 : List Int) : Int := (bif tb ((((x0.length : Nat) : Int) : Int) != 4) then 0 else (wi ((word_Get4_l_e2 x0))))
def word_Get4_l_r0_1 (x0 : List Int) : Bool := (bif tb ((((x0.length : Nat) : Int) : Int) != 4) then false else true)
theorem word_Get4_l_t0 (x0 : List Int) : word_Get4_l_c0 x0 = true → cl E0 66 [(V.d (.rs true 1 (List.map (encI .u8) x0) true))] [] = some ([(V.d (.int .i64 (word_Get4_l_r0_0 x0))), (V.d (.bool (word_Get4_l_r0_1 x0)))], []) := by
  unfold word_Get4_l_c0 word_Get4_l_r0_0 word_Get4_l_r0_1
  cases h1 : tb ((((x0.length : Nat) : Int) : Int) != 4)
  · cases h2 : tb (inb x0.length 0)
    · intro g0
      exact absurd g0 ft
    · cases h3 : tb (inb x0.length 1)
      · intro g0
        exact absurd g0 ft
      · cases h4 : tb (inb x0.length 2)
        · intro g0
          exact absurd g0 ft
        · cases h5 : tb (inb x0.length 3)
          · intro g0
            exact absurd g0 ft
          · intro g0
            exact w66 [.o 6 (fun _ => o_len_rs (enc := (encI .u8)) (l := x0) (fl := true) (tg := true) (s := 1)), .b (tbE h1), .o 9 (fun _ => o_idx_rs (enc := (encI .u8)) (l := x0) (fl := true) (tg := true) (s := 1) (k := .i64) (tbE h2)), .o 12 (fun _ => o_shl (k := .u32) (k2 := .u64) (x := (IntKind.u32.wrap (gt x0 0))) (y := 24) rfl), .o 14 (fun _ => o_idx_rs (enc := (encI .u8)) (l := x0) (fl := true) (tg := true) (s := 1) (k := .i64) (tbE h3)), .o 17 (fun _ => o_shl (k := .u32) (k2 := .u64) (x := (IntKind.u32.wrap (gt x0 1))) (y := 16) rfl), .o 20 (fun _ => o_idx_rs (enc := (encI .u8)) (l := x0) (fl := true) (tg := true) (s := 1) (k := .i64) (tbE h4)), .o 23 (fun _ => o_shl (k := .u32) (k2 := .u64) (x := (IntKind.u32.wrap (gt x0 2))) (y := 8) rfl), .o 26 (fun _ => o_idx_rs (enc := (encI .u8)) (l := x0) (fl := true) (tg := true) (s := 1) (k := .i64) (tbE h5))] (by kernel_rfl)
  · intro g0
    exact w66 [.o 6 (fun _ => o_len_rs (enc := (encI .u8)) (l := x0) (fl := true) (tg := true) (s := 1)), .b (tbE h1)] (by kernel_rfl)
def word_GetAll_Y1_l_Y43_1pGvL_c0 (x0 : List Int) (x5 : List Int) : Bool := (bif tb (word_Get4_l_c0 x5) then (bif tb (decide ((x0.length + [(word_Get4_l_r0_0 x5)].length) * 8 ≤ 140737488355328)) then true else false) else false)
theorem word_GetAll_Y1_l_Y43_1pGvL_t0 (x0 : List Int) (x2 : Bool) (x5 : List Int) : word_GetAll_Y1_l_Y43_1pGvL_c0 x0 x5 = true → cl E0 yfn [(V.yl 0), (V.d (.rs true 1 (List.map (encI .u8) x5) true))] [(Blk.loop .ready none [V.un, V.un, V.un, V.un, (V.ptr 1 1 0 0), V.un, V.un, V.un, V.un, V.un, V.un, V.un, V.un, V.un, V.un, V.un, V.un, V.un, V.un, V.un, V.un, V.un, V.un, V.un, V.un] [14] L43_0 L43_1 false), (Blk.gen 74 1 [[(V.so x2 2 x0.length)]] false), (Blk.flat 3 1 (List.map (encI .i64) x0) false)] = some ([(V.d (.bool true))], [(Blk.loop .ready none [V.un, V.un, V.un, V.un, (V.ptr 1 1 0 0), V.un, V.un, V.un, V.un, V.un, V.un, V.un, V.un, V.un, V.un, V.un, V.un, V.un, V.un, V.un, V.un, V.un, V.un, V.un, V.un] [14] L43_0 L43_1 false), (Blk.gen 74 1 [[(V.so false 2 ((x0 ++ [(word_Get4_l_r0_0 x5)]).length))]] false), (Blk.flat 3 1 (List.map (encI .i64) (x0 ++ [(word_Get4_l_r0_0 x5)])) false)]) := by
  unfold word_GetAll_Y1_l_Y43_1pGvL_c0
  cases h1 : tb (word_Get4_l_c0 x5)
  · intro g0
    exact absurd g0 ft
  · cases h2 : tb (decide ((x0.length + [(word_Get4_l_r0_0 x5)].length) * 8 ≤ 140737488355328))
    · intro g0
      exact absurd g0 ft
    · intro g0
      exact round_yield [.c (word_Get4_l_t0 x5 (tbE h1)), .m 23 (o_app_so (nl := x2) (m := [(Blk.loop .busy none [V.un, V.un, V.un, V.un, (V.ptr 1 1 0 0), V.un, V.un, V.un, V.un, V.un, V.un, V.un, V.un, V.un, V.un, V.un, V.un, V.un, V.un, V.un, V.un, V.un, V.un, V.un, V.un] [14] L43_0 L43_1 false), (Blk.gen 74 1 [[(V.so x2 2 x0.length)]] false), (Blk.flat 3 1 (List.map (encI .i64) x0) false), (Blk.flat 3 1 [[(.int .i64 (word_Get4_l_r0_0 x5))]] false)]) (enc := (encI .i64)) (l0 := x0) (l1 := [(word_Get4_l_r0_0 x5)]) (id := 2) (e := 3) (s := 1) (bytes := 8) (x := (V.so false 3 1)) (n := x0.length) (Nat.beq_refl _) (by kernel_rfl) (by kernel_rfl) (by kernel_rfl) (tbE h2))] (by kernel_rfl)
structure word_fours_c1_yp_Y43_1pGvLGo_L0_s0 where
  c1 : Bool
  c3 : List Int
  c5 : Bool
  c6 : List Int
  deriving Inhabited
def word_fours_c1_yp_Y43_1pGvLGo_L0_enc (x0 : List Int) (x1 : Bool) (x2 : Bool) (x3 : Bool) (x4 : Bool) (x5 : Bool) (x6 : List Int) (x7 : Bool) (s0 : word_fours_c1_yp_Y43_1pGvLGo_L0_s0) : List V × Mem := ([(V.yl 0), (V.ptr 3 1 0 0)], [(Blk.loop .ready none [V.un, V.un, V.un, V.un, (V.ptr 1 1 0 0), V.un, V.un, V.un, V.un, V.un, V.un, V.un, V.un, V.un, V.un, V.un, V.un, V.un, V.un, V.un, V.un, V.un, V.un, V.un, V.un] [14] L43_0 L43_1 false), (Blk.gen 74 1 [[(V.so s0.c1 2 s0.c3.length)]] false), (Blk.flat 3 1 (List.map (encI .i64) s0.c3) false), (Blk.gen 37 1 [[(V.d (slD (encI .u8) true 1 s0.c5 s0.c6))]] false)])
def word_fours_c1_yp_Y43_1pGvLGo_L0_sel  (s0 : word_fours_c1_yp_Y43_1pGvLGo_L0_s0) : Bool := (bif tb (decide (4 ≤ ((s0.c6.length : Nat) : Int))) then (bif tb (ins s0.c6.length 0 4) then (bif tb (word_GetAll_Y1_l_Y43_1pGvL_c0 s0.c3 (sub s0.c6 0 4)) then (bif tb (ins s0.c6.length 4 ((s0.c6.length : Nat) : Int)) then true else false) else false) else false) else false)
def word_fours_c1_yp_Y43_1pGvLGo_L0_nx  (s0 : word_fours_c1_yp_Y43_1pGvLGo_L0_s0) : word_fours_c1_yp_Y43_1pGvLGo_L0_s0 := ⟨false, (s0.c3 ++ [(word_Get4_l_r0_0 (sub s0.c6 0 4))]), (s0.c5 && s0.c6.isEmpty), (sub s0.c6 4 ((s0.c6.length : Nat) : Int))⟩
def word_fours_c1_yp_Y43_1pGvLGo_L0_ok  (s0 : word_fours_c1_yp_Y43_1pGvLGo_L0_s0) : Bool := (itS (word_fours_c1_yp_Y43_1pGvLGo_L0_sel ) (word_fours_c1_yp_Y43_1pGvLGo_L0_nx ) bound s0).isSome
def word_fours_c1_yp_Y43_1pGvLGo_L0_end  (s0 : word_fours_c1_yp_Y43_1pGvLGo_L0_s0) : word_fours_c1_yp_Y43_1pGvLGo_L0_s0 := (itS (word_fours_c1_yp_Y43_1pGvLGo_L0_sel ) (word_fours_c1_yp_Y43_1pGvLGo_L0_nx ) bound s0).getD default
theorem word_fours_c1_yp_Y43_1pGvLGo_L0_go (x0 : List Int) (x1 : Bool) (x2 : Bool) (x3 : Bool) (x4 : Bool) (x5 : Bool) (x6 : List Int) (x7 : Bool) (s0 : word_fours_c1_yp_Y43_1pGvLGo_L0_s0) : word_fours_c1_yp_Y43_1pGvLGo_L0_sel  s0 = true → (roundG (runC E0 (cl E0) L75_0) [0, 1] [] 4) (word_fours_c1_yp_Y43_1pGvLGo_L0_enc x0 x1 x2 x3 x4 x5 x6 x7 s0) = some (.normal, word_fours_c1_yp_Y43_1pGvLGo_L0_enc x0 x1 x2 x3 x4 x5 x6 x7 (word_fours_c1_yp_Y43_1pGvLGo_L0_nx  s0)) := by
  unfold word_fours_c1_yp_Y43_1pGvLGo_L0_sel word_fours_c1_yp_Y43_1pGvLGo_L0_nx
  cases h1 : tb (decide (4 ≤ ((s0.c6.length : Nat) : Int)))
  · intro g0
    exact absurd g0 ft
  · cases h2 : tb (ins s0.c6.length 0 4)
    · intro g0
      exact absurd g0 ft
    · cases h3 : tb (word_GetAll_Y1_l_Y43_1pGvL_c0 s0.c3 (sub s0.c6 0 4))
      · intro g0
        exact absurd g0 ft
      · cases h4 : tb (ins s0.c6.length 4 ((s0.c6.length : Nat) : Int))
        · intro g0
          exact absurd g0 ft
        · intro _
          exact round_walk [.o 4 (fun _ => o_len_os (enc := (encI .u8)) (l := s0.c6) (fl := true) (n := s0.c5) (s := 1)), .b (tbE h1), .o 10 (fun _ => o_slice_mx (enc := (encI .u8)) (l := s0.c6) (fl := true) (n := s0.c5) (s := 1) (kl := .i64) (kh := .i64) (kx := .i64) (hi := 4) (tbE h2) rfl), .c (word_GetAll_Y1_l_Y43_1pGvL_t0 s0.c3 s0.c1 (sub s0.c6 0 4) (tbE h3)), .k false, .o 7 (fun _ => o_slice_os (enc := (encI .u8)) (l := s0.c6) (fl := true) (n := s0.c5) (s := 1) (some (.i64, 4)) none (tbE h4))] (by kernel_rfl)
def word_fours_c1_yp_Y43_1pGvLGo_L0_c0 (s0 : word_fours_c1_yp_Y43_1pGvLGo_L0_s0) : Bool := (bif tb (decide (4 ≤ ((s0.c6.length : Nat) : Int))) then false else true)
theorem word_fours_c1_yp_Y43_1pGvLGo_L0_x0 (x0 : List Int) (x1 : Bool) (x2 : Bool) (x3 : Bool) (x4 : Bool) (x5 : Bool) (x6 : List Int) (x7 : Bool) (s0 : word_fours_c1_yp_Y43_1pGvLGo_L0_s0) : word_fours_c1_yp_Y43_1pGvLGo_L0_sel  s0 = false → word_fours_c1_yp_Y43_1pGvLGo_L0_c0 s0 = true → (roundG (runC E0 (cl E0) L75_0) [0, 1] [] 4) (word_fours_c1_yp_Y43_1pGvLGo_L0_enc x0 x1 x2 x3 x4 x5 x6 x7 s0) = some ((.exit 0), ([], [(Blk.loop .ready none [V.un, V.un, V.un, V.un, (V.ptr 1 1 0 0), V.un, V.un, V.un, V.un, V.un, V.un, V.un, V.un, V.un, V.un, V.un, V.un, V.un, V.un, V.un, V.un, V.un, V.un, V.un, V.un] [14] L43_0 L43_1 false), (Blk.gen 74 1 [[(V.so s0.c1 2 s0.c3.length)]] false), (Blk.flat 3 1 (List.map (encI .i64) s0.c3) false), (Blk.gen 37 1 [[(V.d (slD (encI .u8) true 1 s0.c5 s0.c6))]] false)])) := by
  unfold word_fours_c1_yp_Y43_1pGvLGo_L0_sel word_fours_c1_yp_Y43_1pGvLGo_L0_c0
  cases h1 : tb (decide (4 ≤ ((s0.c6.length : Nat) : Int)))
  · intro g0 g1
    exact round_walk [.o 4 (fun _ => o_len_os (enc := (encI .u8)) (l := s0.c6) (fl := true) (n := s0.c5) (s := 1)), .b (tbE h1)] (by kernel_rfl)
  · cases h2 : tb (ins s0.c6.length 0 4)
    · intro g0 g1
      exact absurd g1 ft
    · cases h3 : tb (word_GetAll_Y1_l_Y43_1pGvL_c0 s0.c3 (sub s0.c6 0 4))
      · intro g0 g1
        exact absurd g1 ft
      · cases h4 : tb (ins s0.c6.length 4 ((s0.c6.length : Nat) : Int))
        · intro g0 g1
          exact absurd g1 ft
        · intro g0 g1
          exact absurd g0 tf
theorem word_fours_c1_yp_Y43_1pGvLGo_L0_f0_0 (x0 : List Int) (x1 : Bool) (x2 : Bool) (x3 : Bool) (x4 : Bool) (x5 : Bool) (x6 : List Int) (x7 : Bool) (s : word_fours_c1_yp_Y43_1pGvLGo_L0_s0) (hok : word_fours_c1_yp_Y43_1pGvLGo_L0_ok  s = true) (c0 : word_fours_c1_yp_Y43_1pGvLGo_L0_c0 (word_fours_c1_yp_Y43_1pGvLGo_L0_end  s) = true) : loopG (roundG (runC E0 (cl E0) L75_0) [0, 1] [] 4) bound (word_fours_c1_yp_Y43_1pGvLGo_L0_enc x0 x1 x2 x3 x4 x5 x6 x7 s) = some ((.exit 0), ([], [(Blk.loop .ready none [V.un, V.un, V.un, V.un, (V.ptr 1 1 0 0), V.un, V.un, V.un, V.un, V.un, V.un, V.un, V.un, V.un, V.un, V.un, V.un, V.un, V.un, V.un, V.un, V.un, V.un, V.un, V.un] [14] L43_0 L43_1 false), (Blk.gen 74 1 [[(V.so ((word_fours_c1_yp_Y43_1pGvLGo_L0_end  s).c1) 2 (((word_fours_c1_yp_Y43_1pGvLGo_L0_end  s).c3).length))]] false), (Blk.flat 3 1 (List.map (encI .i64) ((word_fours_c1_yp_Y43_1pGvLGo_L0_end  s).c3)) false), (Blk.gen 37 1 [[(V.d (slD (encI .u8) true 1 ((word_fours_c1_yp_Y43_1pGvLGo_L0_end  s).c5) ((word_fours_c1_yp_Y43_1pGvLGo_L0_end  s).c6)))]] false)])) := by
  have e : itS (word_fours_c1_yp_Y43_1pGvLGo_L0_sel ) (word_fours_c1_yp_Y43_1pGvLGo_L0_nx ) bound s = some (word_fours_c1_yp_Y43_1pGvLGo_L0_end  s) := itS_get hok
  have f := itS_false e
  exact loop_it (word_fours_c1_yp_Y43_1pGvLGo_L0_go x0 x1 x2 x3 x4 x5 x6 x7) bound s _ _ _ e (fun h => by cases h) (word_fours_c1_yp_Y43_1pGvLGo_L0_x0 x0 x1 x2 x3 x4 x5 x6 x7 (word_fours_c1_yp_Y43_1pGvLGo_L0_end  s) f c0)
def word_fours_c1_yp_Y43_1pGvLGo_e0 (x0 : List Int) (x2 : Bool) (x5 : Bool) (x6 : List Int) : word_fours_c1_yp_Y43_1pGvLGo_L0_s0 := word_fours_c1_yp_Y43_1pGvLGo_L0_end  (⟨x2, x0, x5, x6⟩ : word_fours_c1_yp_Y43_1pGvLGo_L0_s0)
def word_fours_c1_yp_Y43_1pGvLGo_c0 (x0 : List Int) (x2 : Bool) (x5 : Bool) (x6 : List Int) : Bool := (bif tb (word_fours_c1_yp_Y43_1pGvLGo_L0_ok  (⟨x2, x0, x5, x6⟩ : word_fours_c1_yp_Y43_1pGvLGo_L0_s0)) then (bif tb (word_fours_c1_yp_Y43_1pGvLGo_L0_c0 (word_fours_c1_yp_Y43_1pGvLGo_e0 x0 x2 x5 x6)) then true else false) else false)
theorem word_fours_c1_yp_Y43_1pGvLGo_t0 (x0 : List Int) (x2 : Bool) (x5 : Bool) (x6 : List Int) : word_fours_c1_yp_Y43_1pGvLGo_c0 x0 x2 x5 x6 = true → cl E0 75 [(V.yl 0), (V.ptr 3 1 0 0)] [(Blk.loop .ready none [V.un, V.un, V.un, V.un, (V.ptr 1 1 0 0), V.un, V.un, V.un, V.un, V.un, V.un, V.un, V.un, V.un, V.un, V.un, V.un, V.un, V.un, V.un, V.un, V.un, V.un, V.un, V.un] [14] L43_0 L43_1 false), (Blk.gen 74 1 [[(V.so x2 2 x0.length)]] false), (Blk.flat 3 1 (List.map (encI .i64) x0) false), (Blk.gen 37 1 [[(V.d (slD (encI .u8) true 1 x5 x6))]] false)] = some ([], [(Blk.loop .ready none [V.un, V.un, V.un, V.un, (V.ptr 1 1 0 0), V.un, V.un, V.un, V.un, V.un, V.un, V.un, V.un, V.un, V.un, V.un, V.un, V.un, V.un, V.un, V.un, V.un, V.un, V.un, V.un] [14] L43_0 L43_1 false), (Blk.gen 74 1 [[(V.so ((word_fours_c1_yp_Y43_1pGvLGo_e0 x0 x2 x5 x6).c1) 2 (((word_fours_c1_yp_Y43_1pGvLGo_e0 x0 x2 x5 x6).c3).length))]] false), (Blk.flat 3 1 (List.map (encI .i64) ((word_fours_c1_yp_Y43_1pGvLGo_e0 x0 x2 x5 x6).c3)) false), (Blk.gen 37 1 [[(V.d (slD (encI .u8) true 1 ((word_fours_c1_yp_Y43_1pGvLGo_e0 x0 x2 x5 x6).c5) ((word_fours_c1_yp_Y43_1pGvLGo_e0 x0 x2 x5 x6).c6)))]] false)]) := by
  unfold word_fours_c1_yp_Y43_1pGvLGo_c0
  cases h1 : tb (word_fours_c1_yp_Y43_1pGvLGo_L0_ok  (⟨x2, x0, x5, x6⟩ : word_fours_c1_yp_Y43_1pGvLGo_L0_s0))
  · intro g0
    exact absurd g0 ft
  · cases h2 : tb (word_fours_c1_yp_Y43_1pGvLGo_L0_c0 (word_fours_c1_yp_Y43_1pGvLGo_e0 x0 x2 x5 x6))
    · intro g0
      exact absurd g0 ft
    · intro g0
      exact w75 [.l (word_fours_c1_yp_Y43_1pGvLGo_L0_f0_0 x0 false x2 false false x5 x6 false (⟨x2, x0, x5, x6⟩ : word_fours_c1_yp_Y43_1pGvLGo_L0_s0) (tbE h1) (tbE h2))] (by kernel_rfl)
def word_GetAll_o_c0 (x0 : Bool) (x1 : List Int) : Bool := (bif tb (((remI .i64 ((x1.length : Nat) : Int) 4) : Int) != 0) then true else (bif tb (word_fours_c1_yp_Y43_1pGvLGo_c0 ([] : List Int) true x0 x1) then true else false))
def word_GetAll_o_r0_0 (x0 : Bool) (x1 : List Int) : Bool := (bif tb (((remI .i64 ((x1.length : Nat) : Int) 4) : Int) != 0) then true else ((word_fours_c1_yp_Y43_1pGvLGo_e0 ([] : List Int) true x0 x1).c1))
def word_GetAll_o_r0_1 (x1 : List Int) : Bool := (bif tb (((remI .i64 ((x1.length : Nat) : Int) 4) : Int) != 0) then false else true)
def word_GetAll_o_r0_2 (x0 : Bool) (x1 : List Int) : List Int := (bif tb (((remI .i64 ((x1.length : Nat) : Int) 4) : Int) != 0) then ([] : List Int) else ((word_fours_c1_yp_Y43_1pGvLGo_e0 ([] : List Int) true x0 x1).c3))
theorem word_GetAll_o_t0 (x0 : Bool) (x1 : List Int) : word_GetAll_o_c0 x0 x1 = true → cl E0 43 [(V.d (slD (encI .u8) true 1 x0 x1))] [] = some ([(V.so (word_GetAll_o_r0_0 x0 x1) 0 ((word_GetAll_o_r0_2 x0 x1).length)), (V.d (.bool (word_GetAll_o_r0_1 x1)))], [(Blk.flat 3 1 (List.map (encI .i64) (word_GetAll_o_r0_2 x0 x1)) false)]) := by
  unfold word_GetAll_o_c0 word_GetAll_o_r0_0 word_GetAll_o_r0_1 word_GetAll_o_r0_2
  cases h1 : tb (((remI .i64 ((x1.length : Nat) : Int) 4) : Int) != 0)
  · cases h2 : tb (word_fours_c1_yp_Y43_1pGvLGo_c0 ([] : List Int) true x0 x1)
    · intro g0
      exact absurd g0 ft
    · intro g0
      exact w43 [.o 9 (fun _ => o_len_os (enc := (encI .u8)) (l := x1) (fl := true) (n := x0) (s := 1)), .b (tbE h1), .c (word_fours_o_t0 x0 x1), .c (word_fours_c1_yp_Y43_1pGvLGo_t0 ([] : List Int) true x0 x1 (tbE h2))] (by kernel_rfl)
  · intro g0
    exact w43 [.o 9 (fun _ => o_len_os (enc := (encI .u8)) (l := x1) (fl := true) (n := x0) (s := 1)), .b (tbE h1)] (by kernel_rfl)
structure word_fours_c1_yp_Y43_1pGvLGz_L0_s0 where mk ::
  deriving Inhabited
def word_fours_c1_yp_Y43_1pGvLGz_L0_sel  (s0 : word_fours_c1_yp_Y43_1pGvLGz_L0_s0) : Bool := false
def word_fours_c1_yp_Y43_1pGvLGz_L0_nx  (s0 : word_fours_c1_yp_Y43_1pGvLGz_L0_s0) : word_fours_c1_yp_Y43_1pGvLGz_L0_s0 := default
def word_fours_c1_yp_Y43_1pGvLGz_L0_ok  (s0 : word_fours_c1_yp_Y43_1pGvLGz_L0_s0) : Bool := (itS (word_fours_c1_yp_Y43_1pGvLGz_L0_sel ) (word_fours_c1_yp_Y43_1pGvLGz_L0_nx ) bound s0).isSome
def word_fours_c1_yp_Y43_1pGvLGz_c0  : Bool := (bif tb (word_fours_c1_yp_Y43_1pGvLGz_L0_ok  (⟨⟩ : word_fours_c1_yp_Y43_1pGvLGz_L0_s0)) then true else false)
def word_GetAll_z_c0  : Bool := (bif tb (word_fours_c1_yp_Y43_1pGvLGz_c0) then true else false)
theorem word_Get2_z_t0  : cl E0 42 [(V.d (.rs false 1 [] false))] [] = some ([(V.d (.int .i64 0)), (V.d (.bool false))], []) := by
  exact w42 [.k true] (by kernel_rfl)
def word_seq_i_r0_0 (x0 : Int) : Bool := (bif tb (decide (0 ≤ x0)) then (decide (x0 < 65536)) else false)
theorem word_seq_i_t0 (x0 : Int) : cl E0 35 [(V.d (.int .i64 x0))] [] = some ([(V.d (.bool (word_seq_i_r0_0 x0)))], []) := by
  unfold word_seq_i_r0_0
  cases h1 : tb (decide (0 ≤ x0))
  · exact w35 [.b (tbE h1)] (by kernel_rfl)
  · exact w35 [.b (tbE h1)] (by kernel_rfl)
def word_Next_i_r0_0 (x0 : Int) : Int := (bif tb (word_seq_i_r0_0 x0) then (remI .i64 (wi (x0 + 1)) 65536) else 0)
theorem word_Next_i_t0 (x0 : Int) : cl E0 16 [(V.d (.int .i64 x0))] [] = some ([(V.d (.int .i64 (word_Next_i_r0_0 x0)))], []) := by
  unfold word_Next_i_r0_0
  cases h1 : tb (word_seq_i_r0_0 x0)
  · exact w16 [.c (word_seq_i_t0 x0), .b (notF (tbE h1))] (by kernel_rfl)
  · exact w16 [.c (word_seq_i_t0 x0), .b (notT (tbE h1))] (by kernel_rfl)
def word_Put2_i_r0_0 (x0 : Int) : Bool := (bif tb (word_seq_i_r0_0 x0) then false else true)
def word_Put2_i_r0_1 (x0 : Int) : List Int := (bif tb (word_seq_i_r0_0 x0) then [(IntKind.u8.wrap (shrI .i64 x0 8)), (IntKind.u8.wrap (x0))] else ([] : List Int))
theorem word_Put2_i_t0 (x0 : Int) : cl E0 33 [(V.d (.int .i64 x0))] [] = some ([(V.so (word_Put2_i_r0_0 x0) 0 ((word_Put2_i_r0_1 x0).length))], [(Blk.flat 5 1 (List.map (encI .u8) (word_Put2_i_r0_1 x0)) false)]) := by
  unfold word_Put2_i_r0_0 word_Put2_i_r0_1
  cases h1 : tb (word_seq_i_r0_0 x0)
  · exact w33 [.c (word_seq_i_t0 x0), .b (notF (tbE h1))] (by kernel_rfl)
  · exact w33 [.c (word_seq_i_t0 x0), .b (notT (tbE h1)), .o 7 (fun _ => o_shr (k := .i64) (k2 := .u64) (x := x0) (y := 8) rfl)] (by kernel_rfl)
def word_Put4_i_r0_0 (x0 : Int) : Bool := (bif tb (decide (x0 < (-2147483648))) then true else (bif tb (decide (2147483647 < x0)) then true else false))
def word_Put4_i_r0_1 (x0 : Int) : List Int := (bif tb (decide (x0 < (-2147483648))) then ([] : List Int) else (bif tb (decide (2147483647 < x0)) then ([] : List Int) else [(IntKind.u8.wrap (shrI .i64 x0 24)), (IntKind.u8.wrap (shrI .i64 x0 16)), (IntKind.u8.wrap (shrI .i64 x0 8)), (IntKind.u8.wrap (x0))]))
theorem word_Put4_i_t0 (x0 : Int) : cl E0 61 [(V.d (.int .i64 x0))] [] = some ([(V.so (word_Put4_i_r0_0 x0) 0 ((word_Put4_i_r0_1 x0).length))], [(Blk.flat 5 1 (List.map (encI .u8) (word_Put4_i_r0_1 x0)) false)]) := by
  unfold word_Put4_i_r0_0 word_Put4_i_r0_1
  cases h1 : tb (decide (x0 < (-2147483648)))
  · cases h2 : tb (decide (2147483647 < x0))
    · exact w61 [.b (tbE h1), .b (tbE h2), .o 10 (fun _ => o_shr (k := .i64) (k2 := .u64) (x := x0) (y := 24) rfl), .o 13 (fun _ => o_shr (k := .i64) (k2 := .u64) (x := x0) (y := 16) rfl), .o 16 (fun _ => o_shr (k := .i64) (k2 := .u64) (x := x0) (y := 8) rfl)] (by kernel_rfl)
    · exact w61 [.b (tbE h1), .b (tbE h2)] (by kernel_rfl)
  · exact w61 [.b (tbE h1)] (by kernel_rfl)
structure word_PutAll_o_L0_s0 where
  c0 : Bool
  c4 : Int
  c6 : List Int
  deriving Inhabited
def word_PutAll_o_L0_enc (x0 : List Int) (x1 : Bool) (x2 : Bool) (x3 : Bool) (x4 : Bool) (x5 : List Int) (x6 : Int) (x7 : Int) (s0 : word_PutAll_o_L0_s0) : List V × Mem := ([(V.so s0.c0 1 s0.c6.length), (V.d (slD (encI .i64) true 1 x4 x5)), (V.d (.int .i64 x6)), (V.d (.int .i64 s0.c4))], [(Blk.flat 5 1 [] x1), (Blk.flat 5 1 (List.map (encI .u8) s0.c6) false)])
def word_PutAll_o_L0_sel (x5 : List Int) (x6 : Int) (s0 : word_PutAll_o_L0_s0) : Bool := (bif tb (decide (s0.c4 < x6)) then (bif tb (inb x5.length s0.c4) then (bif tb (false != (word_Put4_i_r0_0 (gt x5 s0.c4))) then false else (bif tb (decide ((s0.c6.length + (word_Put4_i_r0_1 (gt x5 s0.c4)).length) * 1 ≤ 140737488355328)) then true else false)) else false) else false)
def word_PutAll_o_L0_nx (x5 : List Int) (x6 : Int) (s0 : word_PutAll_o_L0_s0) : word_PutAll_o_L0_s0 := ⟨((word_Put4_i_r0_1 (gt x5 s0.c4)).isEmpty && s0.c0), (wi (s0.c4 + 1)), (s0.c6 ++ (word_Put4_i_r0_1 (gt x5 s0.c4)))⟩
def word_PutAll_o_L0_ok (x5 : List Int) (x6 : Int) (s0 : word_PutAll_o_L0_s0) : Bool := (itS (word_PutAll_o_L0_sel x5 x6) (word_PutAll_o_L0_nx x5 x6) bound s0).isSome
def word_PutAll_o_L0_end (x5 : List Int) (x6 : Int) (s0 : word_PutAll_o_L0_s0) : word_PutAll_o_L0_s0 := (itS (word_PutAll_o_L0_sel x5 x6) (word_PutAll_o_L0_nx x5 x6) bound s0).getD default
theorem word_PutAll_o_L0_go (x0 : List Int) (x1 : Bool) (x2 : Bool) (x3 : Bool) (x4 : Bool) (x5 : List Int) (x6 : Int) (x7 : Int) (s0 : word_PutAll_o_L0_s0) : word_PutAll_o_L0_sel x5 x6 s0 = true → (roundG (runC E0 (cl E0) L34_0) [3, 7, 8, 9] [2, 3] 2) (word_PutAll_o_L0_enc x0 x1 x2 x3 x4 x5 x6 x7 s0) = some (.normal, word_PutAll_o_L0_enc x0 x1 x2 x3 x4 x5 x6 x7 (word_PutAll_o_L0_nx x5 x6 s0)) := by
  unfold word_PutAll_o_L0_sel word_PutAll_o_L0_nx
  cases h1 : tb (decide (s0.c4 < x6))
  · intro g0
    exact absurd g0 ft
  · cases h2 : tb (inb x5.length s0.c4)
    · intro g0
      exact absurd g0 ft
    · cases h3 : tb (false != (word_Put4_i_r0_0 (gt x5 s0.c4)))
      · cases h4 : tb (decide ((s0.c6.length + (word_Put4_i_r0_1 (gt x5 s0.c4)).length) * 1 ≤ 140737488355328))
        · intro g0
          exact absurd g0 ft
        · intro _
          exact round_walk [.b (tbE h1), .o 11 (fun _ => o_idx_os (enc := (encI .i64)) (l := x5) (fl := true) (n := x4) (s := 1) (k := .i64) (tbE h2)), .c (word_Put4_i_t0 (gt x5 s0.c4)), .b (tbE h3), .m 19 (o_app_so (nl := s0.c0) (m := [(Blk.flat 5 1 [] x1), (Blk.flat 5 1 (List.map (encI .u8) s0.c6) false), (Blk.flat 5 1 (List.map (encI .u8) (word_Put4_i_r0_1 (gt x5 s0.c4))) false)]) (enc := (encI .u8)) (l0 := s0.c6) (l1 := (word_Put4_i_r0_1 (gt x5 s0.c4))) (id := 1) (e := 5) (s := 1) (bytes := 1) (x := (V.so (word_Put4_i_r0_0 (gt x5 s0.c4)) 2 ((word_Put4_i_r0_1 (gt x5 s0.c4)).length))) (n := s0.c6.length) (Nat.beq_refl _) (by kernel_rfl) (flatRowsOf_so' (b := (word_Put4_i_r0_0 (gt x5 s0.c4))) (e := 5) (s := 1) (p := false) (Nat.beq_refl _) (by kernel_rfl)) (by kernel_rfl) (tbE h4))] (by kernel_rfl)
      · intro g0
        exact absurd g0 ft
def word_PutAll_o_L0_c0 (x5 : List Int) (x6 : Int) (s0 : word_PutAll_o_L0_s0) : Bool := (bif tb (decide (s0.c4 < x6)) then (bif tb (inb x5.length s0.c4) then (bif tb (false != (word_Put4_i_r0_0 (gt x5 s0.c4))) then true else false) else false) else false)
def word_PutAll_o_L0_c1 (x6 : Int) (s0 : word_PutAll_o_L0_s0) : Bool := (bif tb (decide (s0.c4 < x6)) then false else true)
theorem word_PutAll_o_L0_x0 (x0 : List Int) (x1 : Bool) (x2 : Bool) (x3 : Bool) (x4 : Bool) (x5 : List Int) (x6 : Int) (x7 : Int) (s0 : word_PutAll_o_L0_s0) : word_PutAll_o_L0_sel x5 x6 s0 = false → word_PutAll_o_L0_c0 x5 x6 s0 = true → (roundG (runC E0 (cl E0) L34_0) [3, 7, 8, 9] [2, 3] 2) (word_PutAll_o_L0_enc x0 x1 x2 x3 x4 x5 x6 x7 s0) = some (.ret, ([(V.so true 2 0), (V.so s0.c0 1 s0.c6.length)], [(Blk.flat 5 1 [] x1), (Blk.flat 5 1 (List.map (encI .u8) s0.c6) false), (Blk.flat 5 1 [] false)])) := by
  unfold word_PutAll_o_L0_sel word_PutAll_o_L0_c0
  cases h1 : tb (decide (s0.c4 < x6))
  · intro g0 g1
    exact absurd g1 ft
  · cases h2 : tb (inb x5.length s0.c4)
    · intro g0 g1
      exact absurd g1 ft
    · cases h3 : tb (false != (word_Put4_i_r0_0 (gt x5 s0.c4)))
      · cases h4 : tb (decide ((s0.c6.length + (word_Put4_i_r0_1 (gt x5 s0.c4)).length) * 1 ≤ 140737488355328))
        · intro g0 g1
          exact absurd g1 ft
        · intro g0 g1
          exact absurd g0 tf
      · intro g0 g1
        exact round_walk [.b (tbE h1), .o 11 (fun _ => o_idx_os (enc := (encI .i64)) (l := x5) (fl := true) (n := x4) (s := 1) (k := .i64) (tbE h2)), .c (word_Put4_i_t0 (gt x5 s0.c4)), .b (tbE h3)] (by kernel_rfl)
theorem word_PutAll_o_L0_x1 (x0 : List Int) (x1 : Bool) (x2 : Bool) (x3 : Bool) (x4 : Bool) (x5 : List Int) (x6 : Int) (x7 : Int) (s0 : word_PutAll_o_L0_s0) : word_PutAll_o_L0_sel x5 x6 s0 = false → word_PutAll_o_L0_c0 x5 x6 s0 = false → word_PutAll_o_L0_c1 x6 s0 = true → (roundG (runC E0 (cl E0) L34_0) [3, 7, 8, 9] [2, 3] 2) (word_PutAll_o_L0_enc x0 x1 x2 x3 x4 x5 x6 x7 s0) = some ((.exit 0), ([V.un, (V.so s0.c0 1 s0.c6.length)], [(Blk.flat 5 1 [] x1), (Blk.flat 5 1 (List.map (encI .u8) s0.c6) false)])) := by
  unfold word_PutAll_o_L0_sel word_PutAll_o_L0_c0 word_PutAll_o_L0_c1
  cases h1 : tb (decide (s0.c4 < x6))
  · intro g0 g1 g2
    exact round_walk [.b (tbE h1)] (by kernel_rfl)
  · cases h2 : tb (inb x5.length s0.c4)
    · intro g0 g1 g2
      exact absurd g2 ft
    · cases h3 : tb (false != (word_Put4_i_r0_0 (gt x5 s0.c4)))
      · cases h4 : tb (decide ((s0.c6.length + (word_Put4_i_r0_1 (gt x5 s0.c4)).length) * 1 ≤ 140737488355328))
        · intro g0 g1 g2
          exact absurd g2 ft
        · intro g0 g1 g2
          exact absurd g0 tf
      · intro g0 g1 g2
        exact absurd g1 tf
theorem word_PutAll_o_L0_f0_0 (x0 : List Int) (x1 : Bool) (x2 : Bool) (x3 : Bool) (x4 : Bool) (x5 : List Int) (x6 : Int) (x7 : Int) (s : word_PutAll_o_L0_s0) (hok : word_PutAll_o_L0_ok x5 x6 s = true) (c0 : word_PutAll_o_L0_c0 x5 x6 (word_PutAll_o_L0_end x5 x6 s) = true) : loopG (roundG (runC E0 (cl E0) L34_0) [3, 7, 8, 9] [2, 3] 2) bound (word_PutAll_o_L0_enc x0 x1 x2 x3 x4 x5 x6 x7 s) = some (.ret, ([(V.so true 2 0), (V.so ((word_PutAll_o_L0_end x5 x6 s).c0) 1 (((word_PutAll_o_L0_end x5 x6 s).c6).length))], [(Blk.flat 5 1 [] x1), (Blk.flat 5 1 (List.map (encI .u8) ((word_PutAll_o_L0_end x5 x6 s).c6)) false), (Blk.flat 5 1 [] false)])) := by
  have e : itS (word_PutAll_o_L0_sel x5 x6) (word_PutAll_o_L0_nx x5 x6) bound s = some (word_PutAll_o_L0_end x5 x6 s) := itS_get hok
  have f := itS_false e
  exact loop_it (word_PutAll_o_L0_go x0 x1 x2 x3 x4 x5 x6 x7) bound s _ _ _ e (fun h => by cases h) (word_PutAll_o_L0_x0 x0 x1 x2 x3 x4 x5 x6 x7 (word_PutAll_o_L0_end x5 x6 s) f c0)
theorem word_PutAll_o_L0_f0_1 (x0 : List Int) (x1 : Bool) (x2 : Bool) (x3 : Bool) (x4 : Bool) (x5 : List Int) (x6 : Int) (x7 : Int) (s : word_PutAll_o_L0_s0) (hok : word_PutAll_o_L0_ok x5 x6 s = true) (c0 : word_PutAll_o_L0_c0 x5 x6 (word_PutAll_o_L0_end x5 x6 s) = false) (c1 : word_PutAll_o_L0_c1 x6 (word_PutAll_o_L0_end x5 x6 s) = true) : loopG (roundG (runC E0 (cl E0) L34_0) [3, 7, 8, 9] [2, 3] 2) bound (word_PutAll_o_L0_enc x0 x1 x2 x3 x4 x5 x6 x7 s) = some ((.exit 0), ([V.un, (V.so ((word_PutAll_o_L0_end x5 x6 s).c0) 1 (((word_PutAll_o_L0_end x5 x6 s).c6).length))], [(Blk.flat 5 1 [] x1), (Blk.flat 5 1 (List.map (encI .u8) ((word_PutAll_o_L0_end x5 x6 s).c6)) false)])) := by
  have e : itS (word_PutAll_o_L0_sel x5 x6) (word_PutAll_o_L0_nx x5 x6) bound s = some (word_PutAll_o_L0_end x5 x6 s) := itS_get hok
  have f := itS_false e
  exact loop_it (word_PutAll_o_L0_go x0 x1 x2 x3 x4 x5 x6 x7) bound s _ _ _ e (fun h => by cases h) (word_PutAll_o_L0_x1 x0 x1 x2 x3 x4 x5 x6 x7 (word_PutAll_o_L0_end x5 x6 s) f c0 c1)
def word_PutAll_o_e0 (x1 : List Int) : word_PutAll_o_L0_s0 := word_PutAll_o_L0_end x1 ((x1.length : Nat) : Int) (⟨true, 0, ([] : List Int)⟩ : word_PutAll_o_L0_s0)
def word_PutAll_o_c0 (x1 : List Int) : Bool := (bif tb (word_PutAll_o_L0_ok x1 ((x1.length : Nat) : Int) (⟨true, 0, ([] : List Int)⟩ : word_PutAll_o_L0_s0)) then (bif tb (word_PutAll_o_L0_c0 x1 ((x1.length : Nat) : Int) (word_PutAll_o_e0 x1)) then true else (bif tb (word_PutAll_o_L0_c1 ((x1.length : Nat) : Int) (word_PutAll_o_e0 x1)) then true else false)) else false)
def word_PutAll_o_r0_0 (x1 : List Int) : Bool := (bif tb (word_PutAll_o_L0_c0 x1 ((x1.length : Nat) : Int) (word_PutAll_o_e0 x1)) then true else ((word_PutAll_o_e0 x1).c0))
def word_PutAll_o_r0_1 (x1 : List Int) : List Int := (bif tb (word_PutAll_o_L0_c0 x1 ((x1.length : Nat) : Int) (word_PutAll_o_e0 x1)) then ([] : List Int) else ((word_PutAll_o_e0 x1).c6))
theorem word_PutAll_o_t0 (x0 : Bool) (x1 : List Int) : word_PutAll_o_c0 x1 = true → cl E0 34 [(V.d (slD (encI .i64) true 1 x0 x1))] [] = some ([(V.so (word_PutAll_o_r0_0 x1) 0 ((word_PutAll_o_r0_1 x1).length))], [(Blk.flat 5 1 (List.map (encI .u8) (word_PutAll_o_r0_1 x1)) false)]) := by
  unfold word_PutAll_o_c0 word_PutAll_o_r0_0 word_PutAll_o_r0_1
  cases h1 : tb (word_PutAll_o_L0_ok x1 ((x1.length : Nat) : Int) (⟨true, 0, ([] : List Int)⟩ : word_PutAll_o_L0_s0))
  · intro g0
    exact absurd g0 ft
  · cases h2 : tb (word_PutAll_o_L0_c0 x1 ((x1.length : Nat) : Int) (word_PutAll_o_e0 x1))
    · cases h3 : tb (word_PutAll_o_L0_c1 ((x1.length : Nat) : Int) (word_PutAll_o_e0 x1))
      · intro g0
        exact absurd g0 ft
      · intro g0
        exact w34 [.o 8 (fun _ => o_len_os (enc := (encI .i64)) (l := x1) (fl := true) (n := x0) (s := 1)), .l (word_PutAll_o_L0_f0_1 ([] : List Int) false false true x0 x1 ((x1.length : Nat) : Int) 0 (⟨true, 0, ([] : List Int)⟩ : word_PutAll_o_L0_s0) (tbE h1) (tbE h2) (tbE h3))] (by kernel_rfl)
    · intro g0
      exact w34 [.o 8 (fun _ => o_len_os (enc := (encI .i64)) (l := x1) (fl := true) (n := x0) (s := 1)), .l (word_PutAll_o_L0_f0_0 ([] : List Int) false false true x0 x1 ((x1.length : Nat) : Int) 0 (⟨true, 0, ([] : List Int)⟩ : word_PutAll_o_L0_s0) (tbE h1) (tbE h2))] (by kernel_rfl)
end Go.Proofs.Ytkipngagfiaddaa.Den

namespace Go.Proofs.Ytkipngagfiaddaa.Den
open Go Go.Proofs
set_option maxRecDepth 100000
set_option maxHeartbeats 4000000
set_option linter.unusedVariables false
set_option linter.unusedSimpArgs false
def ref04_Get2_o_c0 (x1 : List Int) : Bool := (bif tb ((((x1.length : Nat) : Int) : Int) != 2) then true else (bif tb (inb x1.length 0) then (bif tb (inb x1.length 1) then true else false) else false))
def ref04_Get2_o_r0_0 (x1 : List Int) : Int := (bif tb ((((x1.length : Nat) : Int) : Int) != 2) then 0 else (wi ((wi (256 * (wi (gt x1 0)))) + (wi (gt x1 1)))))
def ref04_Get2_o_r0_1 (x1 : List Int) : Bool := (bif tb ((((x1.length : Nat) : Int) : Int) != 2) then false else true)
structure ref04_Get4_o_L0_s0 where
  c2 : Int
  c3 : Int
  deriving Inhabited
end Go.Proofs.Ytkipngagfiaddaa.Den

namespace Go.Proofs.Ytkipngagfiaddaa.Den
open Go
set_option linter.unusedVariables false
set_option linter.unusedSimpArgs false
inductive CK where
  | b
  | i (k : IntKind)
  | s
  | l (e : TypeId)
def flatK (P : Program) : Nat → TypeId → Option (List CK)
  | 0, _ => none
  | n + 1, t => match P.underlying t with
    | some .bool => some [.b]
    | some (.int k) => some [.i k]
    | some .string => some [.s]
    | some (.slice e) => some [.l e]
    | some (.struct fs) => (fs.toList.mapM fun f => flatK P n f.type).map List.flatten
    | some (.array m e) => (flatK P n e).map fun l => (List.replicate m l).flatten
    | _ => none
def WfI (k : IntKind) (z : Int) : Prop := (Lit.int k z).wf = true
def CellK (P : Program) : CK → D → Prop
  | .b, d => ∃ b, d = .bool b
  | .i k, d => ∃ z, d = .int k z ∧ WfI k z
  | .s, d => ∃ s, d = .str s ∧ s.size ≤ 140737488351232
  | .l e, d => d = .nils ∨ ∃ rows, d = .rs (isFlat P e) (P.cellsOf e) rows false ∧ rows.length ≤ maxLen ∧ rows.length * P.bytesOf e ≤ 140737488351232 ∧ ∃ n, ∀ r, r ∈ rows → Ty P n e r
def CellsK (P : Program) : List CK → List D → Prop
  | [], ds => ds = []
  | k :: ks, ds => ∃ d r, ds = d :: r ∧ CellK P k d ∧ CellsK P ks r
theorem CellsK.append {P : Program} : ∀ {a b : List CK} {x y : List D}, CellsK P a x → CellsK P b y → CellsK P (a ++ b) (x ++ y)
  | [], _, _, _, h, h' => by simp only [CellsK] at h; subst h; simpa using h'
  | k :: a, b, x, y, h, h' => by
    simp only [CellsK] at h
    obtain ⟨d, r, rfl, h1, h2⟩ := h
    simp only [List.cons_append, CellsK]
    exact ⟨d, _, rfl, h1, CellsK.append h2 h'⟩
theorem flatK_fs {P : Program} {n : Nat} (ih : ∀ t ks ds, flatK P n t = some ks → Ty P n t ds → CellsK P ks ds) : ∀ (fs : List Field) (l : List (List CK)) (ds : List D), fs.mapM (fun f => flatK P n f.type) = some l → TyFs (Ty P n) fs ds → CellsK P l.flatten ds
  | [], l, ds, h, ht => by
    simp at h; subst h
    obtain rfl := tyfs_nil ht
    simp [CellsK]
  | f :: fs, l, ds, h, ht => by
    rw [List.mapM_cons] at h
    simp only [Option.bind_eq_bind, Option.bind_eq_some_iff, Option.pure_def, Option.some.injEq] at h
    obtain ⟨a, h1, b, h2, rfl⟩ := h
    obtain ⟨x, y, rfl, g1, g2⟩ := tyfs_cons ht
    simp only [List.flatten_cons]
    exact (ih _ _ _ h1 g1).append (flatK_fs ih fs b y h2 g2)
theorem flatK_ok {P : Program} : ∀ (n : Nat) (t : TypeId) (ks : List CK) (ds : List D), flatK P n t = some ks → Ty P n t ds → CellsK P ks ds
  | 0, _, _, _, h, _ => by simp [flatK] at h
  | n + 1, t, ks, ds, h, ht => by
    simp only [flatK] at h
    cases hu : P.underlying t with
    | none => simp [hu] at h
    | some u =>
      rw [hu] at h
      cases u with
      | bool => cases h; obtain ⟨b, rfl⟩ := ty_bool ht hu; exact ⟨_, [], rfl, ⟨b, rfl⟩, rfl⟩
      | int k => cases h; obtain ⟨z, rfl, hz⟩ := ty_int ht hu; exact ⟨_, [], rfl, ⟨z, rfl, hz⟩, rfl⟩
      | string => cases h; obtain ⟨z, rfl, hz⟩ := ty_str ht hu; exact ⟨_, [], rfl, ⟨z, rfl, hz⟩, rfl⟩
      | slice e =>
        cases h
        rcases ty_slice ht hu with rfl | ⟨rows, rfl, h1, h1b, h2⟩
        · exact ⟨_, [], rfl, .inl rfl, rfl⟩
        · exact ⟨_, [], rfl, .inr ⟨rows, rfl, h1, h1b, n, h2⟩, rfl⟩
      | struct fs =>
        obtain ⟨l, hl, rfl⟩ := Option.map_eq_some_iff.1 h
        exact flatK_fs (fun t ks ds => flatK_ok n t ks ds) fs.toList l ds hl (ty_struct ht hu)
      | array m e =>
        obtain ⟨l, hl, rfl⟩ := Option.map_eq_some_iff.1 h
        obtain ⟨rows, hr, rfl, hall⟩ := ty_arr ht hu
        have key : ∀ (rows : List (List D)), (∀ r, r ∈ rows → Ty P n e r) → CellsK P (List.replicate rows.length l).flatten rows.flatten := by
          intro rows
          induction rows with
          | nil => intro _; simp [CellsK]
          | cons r rows ih =>
            intro hall
            simp only [List.length_cons, List.replicate_succ, List.flatten_cons]
            exact (flatK_ok n e l r hl (hall r (by simp))).append (ih fun x hx => hall x (by simp [hx]))
        rw [← hr]; exact key rows hall
      | _ => simp at h
theorem rows_of {α : Type} {enc : α → List D} {wf : α → Prop} {T : List D → Prop} (h : ∀ r, T r → ∃ x, r = enc x ∧ wf x) : ∀ rows : List (List D), (∀ r, r ∈ rows → T r) → ∃ l : List α, rows = l.map enc ∧ ∀ x, x ∈ l → wf x
  | [], _ => ⟨[], rfl, fun _ h => by simp at h⟩
  | r :: rows, hr => by
    obtain ⟨x, rfl, hx⟩ := h r (hr r (by simp))
    obtain ⟨l, rfl, hl⟩ := rows_of h rows fun y hy => hr y (by simp [hy])
    refine ⟨x :: l, rfl, fun y hy => ?_⟩
    rcases List.mem_cons.1 hy with rfl | hy
    · exact hx
    · exact hl y hy
theorem tyFs_mono {T T' : TypeId → List D → Prop} (h : ∀ t ds, T t ds → T' t ds) : ∀ (fs : List Field) (ds : List D), TyFs T fs ds → TyFs T' fs ds
  | [], ds, ht => ht
  | f :: fs, ds, ht => by
    obtain ⟨x, y, rfl, g1, g2⟩ := tyfs_cons ht
    simp only [TyFs]
    exact ⟨x, y, rfl, h _ _ g1, tyFs_mono h fs y g2⟩
theorem ty_mono {P : Program} : ∀ (n : Nat) (t : TypeId) (ds : List D), Ty P n t ds → Ty P (n + 1) t ds
  | 0, _, _, h => by simp [Ty] at h
  | n + 1, t, ds, h => by
    rw [Ty] at h ⊢
    cases hu : P.underlying t with
    | none => simp [hu] at h
    | some u =>
      rw [hu] at h
      cases u with
      | slice e =>
        rcases h with rfl | ⟨rows, rfl, h1, h1b, h2⟩
        · exact .inl rfl
        · exact .inr ⟨rows, rfl, h1, h1b, fun r hr => ty_mono n _ _ (h2 r hr)⟩
      | struct fs => exact tyFs_mono (fun t ds => ty_mono n t ds) _ _ h
      | array m e =>
        obtain ⟨rows, h1, rfl, h2⟩ := h
        exact ⟨rows, h1, rfl, fun r hr => ty_mono n _ _ (h2 r hr)⟩
      | _ => exact h
theorem mapM_mono {α β : Type} {f g : α → Option β} (h : ∀ a b, f a = some b → g a = some b) : ∀ (l : List α) (r : List β), l.mapM f = some r → l.mapM g = some r
  | [], r, hr => by simpa using hr
  | a :: l, r, hr => by
    rw [List.mapM_cons] at hr ⊢
    simp only [Option.bind_eq_bind, Option.bind_eq_some_iff, Option.pure_def, Option.some.injEq] at hr ⊢
    obtain ⟨x, h1, y, h2, rfl⟩ := hr
    exact ⟨x, h a x h1, y, mapM_mono h l y h2, rfl⟩
theorem flatK_mono {P : Program} : ∀ (n : Nat) (t : TypeId) (ks : List CK), flatK P n t = some ks → flatK P (n + 1) t = some ks
  | 0, _, _, h => by simp [flatK] at h
  | n + 1, t, ks, h => by
    rw [flatK] at h ⊢
    cases hu : P.underlying t with
    | none => simp [hu] at h
    | some u =>
      rw [hu] at h
      cases u with
      | struct fs =>
        obtain ⟨l, hl, rfl⟩ := Option.map_eq_some_iff.1 h
        simp only [mapM_mono (fun f b hb => flatK_mono n _ _ hb) _ _ hl, Option.map_some]
      | array m e =>
        obtain ⟨l, hl, rfl⟩ := Option.map_eq_some_iff.1 h
        simp only [flatK_mono n _ _ hl, Option.map_some]
      | _ => exact h
theorem flatK_any {P : Program} {k : Nat} {t : TypeId} {ks : List CK} {ds : List D} (h : flatK P k t = some ks) {n : Nat} (ht : Ty P n t ds) : CellsK P ks ds := by
  have h1 : ∀ j, flatK P (k + j) t = some ks := fun j => by
    induction j with
    | zero => exact h
    | succ j ih => exact flatK_mono _ _ _ ih
  have h2 : ∀ j, Ty P (n + j) t ds := fun j => by
    induction j with
    | zero => exact ht
    | succ j ih => exact ty_mono _ _ _ ih
  refine flatK_ok (k + n) t ks ds (h1 n) ?_
  rw [Nat.add_comm]; exact h2 k
end Go.Proofs.Ytkipngagfiaddaa.Den

namespace Go.Proofs.Ytkipngagfiaddaa.Den
open Go
set_option linter.unusedVariables false
set_option linter.unusedSimpArgs false
@[simp] theorem tb_eq (b : Bool) : tb b = b := rfl
theorem wrap64 {x : Int} (h1 : -9223372036854775808 ≤ x) (h2 : x ≤ 9223372036854775807) : IntKind.i64.wrap x = x := by
  unfold IntKind.wrap
  simp [IntKind.bits, IntKind.signed]
  omega
theorem wi_eq {x : Int} (h1 : -9223372036854775808 ≤ x) (h2 : x ≤ 9223372036854775807) : wi x = x := wrap64 h1 h2
theorem wfI_u8 {z : Int} (h : WfI .u8 z) : 0 ≤ z ∧ z ≤ 255 := by
  simp [WfI, Lit.wf, IntKind.min, IntKind.max, IntKind.signed, IntKind.bits] at h
  omega
theorem inb_iff {n : Nat} {i : Int} : inb n i = true ↔ 0 ≤ i ∧ i < n := by simp [inb]
theorem inb_of {n : Nat} {i : Int} (h1 : 0 ≤ i) (h2 : i < n) : inb n i = true := inb_iff.2 ⟨h1, h2⟩
theorem loop_inv {S : Type} {sel : S → Bool} {nx : S → S} (J : S → Prop) (μ : S → Nat) {s0 : S} (h0 : J s0) (hb : μ s0 < 1152921504606846976) (hn : ∀ s, J s → sel s = true → J (nx s) ∧ μ (nx s) < μ s) :
    ∃ s1, itS sel nx bound s0 = some s1 ∧ J s1 ∧ sel s1 = false := itS_inv J μ hn bound s0 h0 hb
theorem gt_mem {α : Type} [Inhabited α] {l : List α} {i : Int} (h1 : 0 ≤ i) (h2 : i < l.length) : gt l i ∈ l := by
  have h : i.toNat < l.length := by omega
  have : gt l i = l[i.toNat] := by simp [gt, List.getD, h]
  rw [this]; exact List.getElem_mem h
theorem gt_nat {α : Type} [Inhabited α] {l : List α} {k : Nat} (h : k < l.length) : gt l (k : Int) = l[k] := by simp [gt, List.getD, h]
theorem gt_getElem {α : Type} [Inhabited α] {l : List α} {i : Int} (h1 : 0 ≤ i) (h2 : i.toNat < l.length) : gt l i = l[i.toNat] := by simp [gt, List.getD, h2]
theorem all_loop {S α : Type} [Inhabited α] {sel : S → Bool} {nx : S → S} {s0 : S} (l : List α) (ix : S → Int) (p : α → Bool) (J : S → Prop) (hl : l.length < 1152921504606846976) (h0 : ix s0 = 0) (hJ0 : J s0)
    (hnx : ∀ s, J s → 0 ≤ ix s → ix s < l.length → sel s = true → ix (nx s) = ix s + 1 ∧ J (nx s)) (hsel : ∀ s, J s → 0 ≤ ix s → ix s ≤ l.length → sel s = (decide (ix s < l.length) && p (gt l (ix s)))) :
    ∃ s1, itS sel nx bound s0 = some s1 ∧ J s1 ∧ 0 ≤ ix s1 ∧ ((ix s1 = l.length ∧ l.all p = true) ∨ (ix s1 < l.length ∧ p (gt l (ix s1)) = false ∧ l.all p = false)) := by
  obtain ⟨s1, e, ⟨hJ, a1, a2, a3⟩, hs⟩ := loop_inv (sel := sel) (nx := nx) (fun s => J s ∧ 0 ≤ ix s ∧ ix s ≤ l.length ∧ ∀ j : Nat, (j : Int) < ix s → p (gt l j) = true) (fun s => (l.length - ix s).toNat) (s0 := s0)
    ⟨hJ0, by omega, by omega, fun j hj => by omega⟩ (by omega) (fun s ⟨hJ, b1, b2, b3⟩ hs => by
      have h1 := hsel s hJ b1 b2
      rw [hs] at h1
      have h2 := (Bool.and_eq_true _ _).mp h1.symm
      have h3 : ix s < l.length := by simpa using h2.1
      obtain ⟨h4, h5⟩ := hnx s hJ b1 h3 hs
      refine ⟨⟨h5, by omega, by omega, fun j hj => ?_⟩, by omega⟩
      by_cases hjj : (j : Int) < ix s
      · exact b3 j hjj
      · have : (j : Int) = ix s := by omega
        rw [this]; exact h2.2)
  refine ⟨s1, e, hJ, a1, ?_⟩
  rcases Int.lt_or_eq_of_le a2 with h | h
  · have h1 := hsel s1 hJ a1 a2
    rw [hs] at h1
    have hp : p (gt l (ix s1)) = false := by simpa [h] using h1.symm
    refine .inr ⟨h, hp, ?_⟩
    rw [List.all_eq_false]
    exact ⟨_, gt_mem a1 h, by simp [hp]⟩
  · refine .inl ⟨h, ?_⟩
    rw [List.all_eq_true]
    intro x hx
    obtain ⟨j, hj, rfl⟩ := List.getElem_of_mem hx
    have := a3 j (by omega)
    rwa [gt_nat hj] at this
theorem idx_loop {S : Type} {sel : S → Bool} {nx : S → S} {s0 : S} (n : Int) (ix : S → Int) (J : S → Prop) (hn : n < 1152921504606846976) (h0 : J s0) (h1 : 0 ≤ ix s0) (h2 : ix s0 ≤ n)
    (hr : ∀ s, J s → 0 ≤ ix s → ix s < n → sel s = true ∧ J (nx s) ∧ ix (nx s) = ix s + 1) (he : ∀ s, J s → ix s = n → sel s = false) : ∃ s1, itS sel nx bound s0 = some s1 ∧ J s1 ∧ ix s1 = n := by
  obtain ⟨s1, e, ⟨hJ, a1, a2⟩, hs⟩ := loop_inv (sel := sel) (nx := nx) (fun s => J s ∧ 0 ≤ ix s ∧ ix s ≤ n) (fun s => (n - ix s).toNat) (s0 := s0) ⟨h0, h1, h2⟩ (by omega) (fun s ⟨hJ, b1, b2⟩ hs => by
    by_cases h : ix s = n
    · rw [he s hJ h] at hs; cases hs
    · obtain ⟨_, g1, g2⟩ := hr s hJ b1 (by omega)
      exact ⟨⟨g1, by omega, by omega⟩, by omega⟩)
  refine ⟨s1, e, hJ, ?_⟩
  by_cases h : ix s1 = n
  · exact h
  · rw [(hr s1 hJ a1 (by omega)).1] at hs; cases hs
end Go.Proofs.Ytkipngagfiaddaa.Den

namespace Go.Proofs.Ytkipngagfiaddaa.Den
open Go
set_option linter.unusedVariables false
set_option linter.unusedSimpArgs false
theorem loop_seq {S : Type} {sel : S → Bool} {nx : S → S} (st : Nat → S) (n : Nat) (hb : n < 1152921504606846976) (hn : ∀ k, k < n → sel (st k) = true ∧ nx (st k) = st (k + 1)) (he : sel (st n) = false) : itS sel nx bound (st 0) = some (st n) := by
  have key : ∀ (d N : Nat), d ≤ n → d < N → itS sel nx N (st (n - d)) = some (st n) := by
    intro d
    induction d with
    | zero =>
      intro N _ hN
      obtain ⟨N, rfl⟩ : ∃ M, N = M + 1 := ⟨N - 1, by omega⟩
      simp only [Nat.sub_zero, itS, he]
    | succ d ih =>
      intro N h1 hN
      obtain ⟨N, rfl⟩ : ∃ M, N = M + 1 := ⟨N - 1, by omega⟩
      obtain ⟨g1, g2⟩ := hn (n - (d + 1)) (by omega)
      simp only [itS, g1, g2]
      rw [show n - (d + 1) + 1 = n - d by omega]
      exact ih N (by omega) (by omega)
  have := key n bound (Nat.le_refl _) (by unfold bound; omega)
  rwa [Nat.sub_self] at this
theorem gt_zip {l k : List Int} (h : l.length = k.length) {i : Int} (h1 : 0 ≤ i) (h2 : i < l.length) : gt (l.zip k) i = (gt l i, gt k i) := by
  rw [gt_getElem h1 (by rw [List.length_zip]; omega), gt_getElem h1 (by omega), gt_getElem h1 (by omega), List.getElem_zip]
theorem zip_all : ∀ {l k : List Int}, l.length = k.length → ((l.zip k).all fun p => p.1 == p.2) = decide (l = k)
  | [], [], _ => by simp
  | x :: l, y :: k, h => by
    rw [List.zip_cons_cons, List.all_cons, zip_all (by simpa using h), Bool.eq_iff_iff]
    simp
  | [], _ :: _, h => by simp at h
  | _ :: _, [], h => by simp at h
theorem eq_loop {S : Type} {sel : S → Bool} {nx : S → S} {s0 : S} {l k : List Int} (hlk : l.length = k.length) (ix : S → Int) (hl : l.length < 1152921504606846976) (h0 : ix s0 = 0)
    (hnx : ∀ s, 0 ≤ ix s → ix s < l.length → ix (nx s) = ix s + 1) (hsel : ∀ s, 0 ≤ ix s → ix s ≤ l.length → sel s = (decide (ix s < l.length) && (gt l (ix s) == gt k (ix s)))) :
    ∃ s1, itS sel nx bound s0 = some s1 ∧ 0 ≤ ix s1 ∧ ((ix s1 = l.length ∧ l = k) ∨ (ix s1 < l.length ∧ (gt l (ix s1) == gt k (ix s1)) = false ∧ l ≠ k)) := by
  have hz : (l.zip k).length = l.length := by rw [List.length_zip]; omega
  obtain ⟨s1, e, -, g0, g⟩ := all_loop (sel := sel) (nx := nx) (s0 := s0) (l.zip k) ix (fun p => p.1 == p.2) (fun _ => True) (by omega) h0 trivial
    (fun s _ a1 a2 _ => ⟨hnx s a1 (by omega), trivial⟩)
    (fun s _ a1 a2 => by
      rw [hsel s a1 (by omega), hz]
      by_cases h : ix s < l.length
      · rw [gt_zip hlk a1 h]
      · simp [h])
  rw [zip_all hlk, hz] at g
  refine ⟨s1, e, g0, ?_⟩
  rcases g with ⟨a, b⟩ | ⟨a, b, c⟩
  · exact .inl ⟨a, by simpa using b⟩
  · rw [gt_zip hlk g0 a] at b
    exact .inr ⟨a, b, by simpa using c⟩
theorem take_succ_gt {α : Type} [Inhabited α] {l : List α} {k : Nat} (h : k < l.length) : l.take (k + 1) = l.take k ++ [gt l (k : Int)] := by
  rw [gt_nat h, List.take_succ_eq_append_getElem h]
theorem u8w (x : Int) : IntKind.u8.wrap x = x % 256 := by simp [IntKind.wrap, IntKind.bits, IntKind.signed]
theorem u32w (x : Int) : IntKind.u32.wrap x = x % 4294967296 := by simp [IntKind.wrap, IntKind.bits, IntKind.signed]
theorem i32w (x : Int) : IntKind.i32.wrap x = if 2147483648 ≤ x % 4294967296 then x % 4294967296 - 4294967296 else x % 4294967296 := by
  simp [IntKind.wrap, IntKind.bits, IntKind.signed]
theorem shr_i64 (x : Int) (k : Nat) (hk : k ≤ 64) : shrI .i64 x (k : Int) = x / (2 ^ k : Int) := by
  unfold shrI
  have : min (k : Int).toNat IntKind.i64.bits = k := by simp [IntKind.bits]; omega
  rw [this]
  exact Int.fdiv_eq_ediv_of_nonneg _ (by exact_mod_cast Nat.zero_le _)
theorem rem_i64 {x y : Int} (h1 : 0 ≤ x) : remI .i64 x y = x % y := by
  unfold remI; exact Int.tmod_eq_emod_of_nonneg h1
theorem bvOf {n : Nat} {a : Nat} (h : a < 2 ^ n) : (BitVec.ofInt n (a : Int)) = BitVec.ofNat n a := by
  simp
theorem or_nat {k : IntKind} {a b : Nat} (ha : a < 2 ^ k.bits) (hb : b < 2 ^ k.bits) : orI k (a : Int) (b : Int) = k.wrap ((a ||| b : Nat) : Int) := by
  unfold orI
  rw [bvOf ha, bvOf hb, BitVec.toNat_or, BitVec.toNat_ofNat, BitVec.toNat_ofNat, Nat.mod_eq_of_lt ha, Nat.mod_eq_of_lt hb]
theorem or_add {a b i : Nat} (hb : b < 2 ^ i) : (2 ^ i * a) ||| b = 2 ^ i * a + b := by
  exact (Nat.two_pow_add_eq_or_of_lt hb a).symm
end Go.Proofs.Ytkipngagfiaddaa.Den

namespace Go.Proofs.Ytkipngagfiaddaa.Den
open Go
set_option linter.unusedVariables false
set_option linter.unusedSimpArgs false
set_option maxRecDepth 10000
def Byts (l : List Int) : Prop := ∀ z ∈ l, 0 ≤ z ∧ z ≤ 255
theorem byts_of {l : List Int} (h : ∀ z ∈ l, WfI .u8 z) : Byts l := fun z hz => wfI_u8 (h z hz)
theorem byts_take {l : List Int} (h : Byts l) (k : Nat) : Byts (l.take k) := fun z hz => h z (List.mem_of_mem_take hz)
theorem byts_drop {l : List Int} (h : Byts l) (k : Nat) : Byts (l.drop k) := fun z hz => h z (List.mem_of_mem_drop hz)
def be4 (a b c d : Int) : Int := if 2147483648 ≤ 16777216 * a + 65536 * b + 256 * c + d then 16777216 * a + 65536 * b + 256 * c + d - 4294967296 else 16777216 * a + 65536 * b + 256 * c + d
def g4 : List Int → Int
  | [a, b, c, d] => be4 a b c d
  | _ => 0
theorem nat_of {a : Int} (h : 0 ≤ a ∧ a ≤ 255) : ∃ n : Nat, a = n ∧ n < 256 := ⟨a.toNat, by omega, by omega⟩
theorem shl_u32 {n : Nat} (k : Nat) (hn : n * 2 ^ k < 4294967296) (hk : k ≤ 32) : shlI .u32 (n : Int) (k : Int) = ((2 ^ k * n : Nat) : Int) := by
  unfold shlI
  have : min (k : Int).toNat IntKind.u32.bits = k := by simp [IntKind.bits]; omega
  rw [this, u32w]
  have : ((n : Int) * 2 ^ k) = ((n * 2 ^ k : Nat) : Int) := by push_cast; rfl
  rw [this, Int.emod_eq_of_lt (by omega) (by omega), Nat.mul_comm]
theorem u32_or {a b : Nat} (ha : a < 4294967296) (hb : b < 4294967296) (h : a ||| b < 4294967296) : orI .u32 (a : Int) (b : Int) = ((a ||| b : Nat) : Int) := by
  rw [or_nat (k := .u32) (by simpa [IntKind.bits] using ha) (by simpa [IntKind.bits] using hb), u32w]
  exact Int.emod_eq_of_lt (by omega) (by omega)
theorem u32_small {n : Nat} (h : n < 4294967296) : IntKind.u32.wrap (n : Int) = n := by
  rw [u32w]; exact Int.emod_eq_of_lt (by omega) (by omega)
theorem i64_or {a b : Nat} (ha : a < 4294967296) (hb : b < 4294967296) (h : a ||| b < 4294967296) : orI .i64 (a : Int) (b : Int) = ((a ||| b : Nat) : Int) := by
  rw [or_nat (k := .i64) (by simp [IntKind.bits]; omega) (by simp [IntKind.bits]; omega)]
  exact wrap64 (by omega) (by omega)
theorem word4 {a b c d : Int} (ha : 0 ≤ a ∧ a ≤ 255) (hb : 0 ≤ b ∧ b ≤ 255) (hc : 0 ≤ c ∧ c ≤ 255) (hd : 0 ≤ d ∧ d ≤ 255) :
    wi (IntKind.i32.wrap (orI .u32 (orI .u32 (orI .u32 (shlI .u32 (IntKind.u32.wrap a) 24) (shlI .u32 (IntKind.u32.wrap b) 16)) (shlI .u32 (IntKind.u32.wrap c) 8)) (IntKind.u32.wrap d))) = be4 a b c d := by
  obtain ⟨A, rfl, hA⟩ := nat_of ha
  obtain ⟨B, rfl, hB⟩ := nat_of hb
  obtain ⟨C, rfl, hC⟩ := nat_of hc
  obtain ⟨D, rfl, hD⟩ := nat_of hd
  rw [u32_small (by omega), u32_small (by omega), u32_small (by omega), u32_small (by omega)]
  have e1 : shlI .u32 (A : Int) 24 = ((2 ^ 24 * A : Nat) : Int) := shl_u32 (n := A) 24 (by omega) (by omega)
  have e2 : shlI .u32 (B : Int) 16 = ((2 ^ 16 * B : Nat) : Int) := shl_u32 (n := B) 16 (by omega) (by omega)
  have e3 : shlI .u32 (C : Int) 8 = ((2 ^ 8 * C : Nat) : Int) := shl_u32 (n := C) 8 (by omega) (by omega)
  rw [e1, e2, e3]
  have o1 : (2 ^ 24 * A) ||| (2 ^ 16 * B) = 2 ^ 24 * A + 2 ^ 16 * B := or_add (by omega)
  have o2 : (2 ^ 24 * A + 2 ^ 16 * B) ||| (2 ^ 8 * C) = 2 ^ 24 * A + 2 ^ 16 * B + 2 ^ 8 * C := by
    have := or_add (a := 2 ^ 8 * A + B) (b := 2 ^ 8 * C) (i := 16) (by omega)
    rw [show 2 ^ 16 * (2 ^ 8 * A + B) = 2 ^ 24 * A + 2 ^ 16 * B by omega] at this; exact this
  have o3 : (2 ^ 24 * A + 2 ^ 16 * B + 2 ^ 8 * C) ||| D = 2 ^ 24 * A + 2 ^ 16 * B + 2 ^ 8 * C + D := by
    have := or_add (a := 2 ^ 16 * A + 2 ^ 8 * B + C) (b := D) (i := 8) (by omega)
    rw [show 2 ^ 8 * (2 ^ 16 * A + 2 ^ 8 * B + C) = 2 ^ 24 * A + 2 ^ 16 * B + 2 ^ 8 * C by omega] at this; exact this
  rw [u32_or (by omega) (by omega) (by rw [o1]; omega), o1, u32_or (by omega) (by omega) (by rw [o2]; omega), o2, u32_or (by omega) (by omega) (by rw [o3]; omega), o3, i32w]
  unfold be4
  have hm : ((2 ^ 24 * A + 2 ^ 16 * B + 2 ^ 8 * C + D : Nat) : Int) % 4294967296 = 16777216 * (A : Int) + 65536 * B + 256 * C + D := by
    rw [Int.emod_eq_of_lt (by omega) (by omega)]; omega
  rw [hm]
  exact wi_eq (by split <;> omega) (by split <;> omega)
theorem len4 {l : List Int} (h : l.length = 4) : ∃ a b c d, l = [a, b, c, d] := by
  match l, h with
  | [a, b, c, d], _ => exact ⟨a, b, c, d, rfl⟩
theorem Get4_c (l : List Int) : word_Get4_l_c0 l = true := by
  simp only [word_Get4_l_c0, tb_eq]
  by_cases h : l.length = 4
  · simp [h, inb]
  · have : ((l.length : Int) != 4) = true := by simp; omega
    simp [this]
theorem Get4_r {l : List Int} (hl : Byts l) : word_Get4_l_r0_0 l = g4 l ∧ word_Get4_l_r0_1 l = decide (l.length = 4) := by
  by_cases h : l.length = 4
  · obtain ⟨a, b, c, d, rfl⟩ := len4 h
    refine ⟨?_, by simp [word_Get4_l_r0_1]⟩
    simp only [word_Get4_l_r0_0, tb_eq]
    have e : word_Get4_l_e2 [a, b, c, d] = IntKind.i32.wrap (orI .u32 (orI .u32 (orI .u32 (shlI .u32 (IntKind.u32.wrap a) 24) (shlI .u32 (IntKind.u32.wrap b) 16)) (shlI .u32 (IntKind.u32.wrap c) 8)) (IntKind.u32.wrap d)) := rfl
    rw [e, word4 (hl a (by simp)) (hl b (by simp)) (hl c (by simp)) (hl d (by simp))]
    simp [g4]
  · have : ((l.length : Int) != 4) = true := by simp; omega
    simp only [word_Get4_l_r0_0, word_Get4_l_r0_1, tb_eq, this, cond_true, h, decide_false, and_true]
    unfold g4
    split
    · simp at h
    · rfl
def n32 (n : Int) : Bool := decide (-2147483648 ≤ n) && decide (n ≤ 2147483647)
theorem n32_iff {n : Int} : n32 n = true ↔ -2147483648 ≤ n ∧ n ≤ 2147483647 := by simp [n32]
def p4 (n : Int) : List Int := [n / 16777216 % 256, n / 65536 % 256, n / 256 % 256, n % 256]
theorem Put4_l (n : Int) : [(IntKind.u8.wrap (shrI .i64 n 24)), (IntKind.u8.wrap (shrI .i64 n 16)), (IntKind.u8.wrap (shrI .i64 n 8)), (IntKind.u8.wrap (n))] = p4 n := by
  have h24 : shrI .i64 n 24 = n / 16777216 := shr_i64 n 24 (by omega)
  have h16 : shrI .i64 n 16 = n / 65536 := shr_i64 n 16 (by omega)
  have h8 : shrI .i64 n 8 = n / 256 := shr_i64 n 8 (by omega)
  rw [h24, h16, h8, u8w, u8w, u8w, u8w]; rfl
def q4 (n : Int) : List Int := if n32 n then p4 n else []
theorem Put4_r (n : Int) : word_Put4_i_r0_0 n = !n32 n ∧ word_Put4_i_r0_1 n = q4 n := by
  simp only [word_Put4_i_r0_0, word_Put4_i_r0_1, Put4_l, tb_eq, q4, n32]
  by_cases h1 : n < -2147483648
  · have : ¬ (-2147483648 ≤ n) := by omega
    simp [h1, this]
  · have h2 : -2147483648 ≤ n := by omega
    by_cases h3 : 2147483647 < n
    · have : ¬ (n ≤ 2147483647) := by omega
      simp [h1, h2, h3, this]
    · have : n ≤ 2147483647 := by omega
      simp [h1, h2, h3, this]
theorem g4_p4 {n : Int} (h : n32 n = true) : g4 (p4 n) = n := by
  obtain ⟨h1, h2⟩ := n32_iff.1 h
  simp only [p4, g4, be4]
  split <;> omega
theorem p4_byts (n : Int) : Byts (p4 n) := by
  intro z hz
  simp [p4] at hz
  omega
def n16 (n : Int) : Bool := decide (0 ≤ n) && decide (n < 65536)
theorem n16_iff {n : Int} : n16 n = true ↔ 0 ≤ n ∧ n < 65536 := by simp [n16]
def g2 : List Int → Int
  | [a, b] => 256 * a + b
  | _ => 0
def p2 (n : Int) : List Int := [n / 256 % 256, n % 256]
theorem seq_r (n : Int) : word_seq_i_r0_0 n = n16 n := by
  simp only [word_seq_i_r0_0, tb_eq, n16]; cases decide (0 ≤ n) <;> rfl
theorem Put2_l (n : Int) : [(IntKind.u8.wrap (shrI .i64 n 8)), (IntKind.u8.wrap (n))] = p2 n := by
  have h8 : shrI .i64 n 8 = n / 256 := shr_i64 n 8 (by omega)
  rw [h8, u8w, u8w]; rfl
def q2 (n : Int) : List Int := if n16 n then p2 n else []
theorem Put2_r (n : Int) : word_Put2_i_r0_1 n = q2 n := by
  simp only [word_Put2_i_r0_1, Put2_l, seq_r, tb_eq, q2]
  cases n16 n <;> rfl
theorem len2 {l : List Int} (h : l.length = 2) : ∃ a b, l = [a, b] := by
  match l, h with
  | [a, b], _ => exact ⟨a, b, rfl⟩
theorem g2_len {l : List Int} (h : l.length ≠ 2) : g2 l = 0 := by
  unfold g2
  split
  · simp at h
  · rfl
theorem Get2_eq {l : List Int} (hl : Byts l) : word_Get2_o_c0 l = true ∧ ref04_Get2_o_c0 l = true ∧ word_Get2_o_r0_0 l = g2 l ∧ ref04_Get2_o_r0_0 l = g2 l ∧ word_Get2_o_r0_1 l = decide (l.length = 2) ∧ ref04_Get2_o_r0_1 l = decide (l.length = 2) := by
  by_cases h : l.length = 2
  · obtain ⟨a, b, rfl⟩ := len2 h
    have ha := hl a (by simp)
    have hb := hl b (by simp)
    refine ⟨by simp [word_Get2_o_c0, inb], by simp [ref04_Get2_o_c0, inb], ?_, ?_, by simp [word_Get2_o_r0_1], by simp [ref04_Get2_o_r0_1]⟩
    · obtain ⟨A, rfl, hA⟩ := nat_of ha
      obtain ⟨B, rfl, hB⟩ := nat_of hb
      have e : word_Get2_o_r0_0 [(A : Int), (B : Int)] = orI .i64 (shlI .i64 (wi (A : Int)) 8) (wi (B : Int)) := by simp [word_Get2_o_r0_0, gt]
      have hs : shlI .i64 (A : Int) 8 = ((2 ^ 8 * A : Nat) : Int) := by
        unfold shlI
        rw [show min (8 : Int).toNat IntKind.i64.bits = 8 from rfl, wrap64 (by omega) (by omega)]; push_cast; omega
      rw [e, wi_eq (by omega) (by omega), wi_eq (by omega) (by omega), hs]
      have o : (2 ^ 8 * A) ||| B = 2 ^ 8 * A + B := or_add (by omega)
      rw [i64_or (by omega) (by omega) (by rw [o]; omega), o]
      simp only [g2]; push_cast; omega
    · have e : ref04_Get2_o_r0_0 [a, b] = wi (wi (256 * wi a) + wi b) := by simp [ref04_Get2_o_r0_0, gt]
      rw [e, wi_eq (x := a) (by omega) (by omega), wi_eq (x := b) (by omega) (by omega), wi_eq (x := 256 * a) (by omega) (by omega), wi_eq (by omega) (by omega)]; rfl
  · have : ((l.length : Int) != 2) = true := by simp; omega
    simp [word_Get2_o_c0, ref04_Get2_o_c0, word_Get2_o_r0_0, ref04_Get2_o_r0_0, word_Get2_o_r0_1, ref04_Get2_o_r0_1, this, h, g2_len h]
theorem g2_p2 {n : Int} (h : n16 n = true) : g2 (p2 n) = n := by
  obtain ⟨h1, h2⟩ := n16_iff.1 h
  simp only [p2, g2]; omega
theorem p2_byts (n : Int) : Byts (p2 n) := by
  intro z hz
  simp [p2] at hz
  omega
open Go
set_option linter.unusedVariables false
set_option linter.unusedSimpArgs false
set_option maxRecDepth 10000
def fours (b : List Int) (k : Nat) : List Int := (List.range k).map fun i => g4 ((b.drop (4 * i)).take 4)
theorem fours_succ (b : List Int) (k : Nat) : fours b (k + 1) = fours b k ++ [g4 ((b.drop (4 * k)).take 4)] := by
  simp [fours, List.range_succ]
theorem fours_len (b : List Int) (k : Nat) : (fours b k).length = k := by simp [fours]
theorem sub04 (l : List Int) : sub l 0 4 = l.take 4 := by unfold sub; simp
theorem sub4e (l : List Int) : sub l 4 (l.length : Int) = l.drop 4 := by
  unfold sub
  rw [List.take_of_length_le]
  · rfl
  · simp; omega
theorem Get4l_c (l : List Int) : word_Get4_l_c0 l = true := Get4_c l
theorem Get4l_r {l : List Int} (hl : Byts l) : word_Get4_l_r0_0 l = g4 l := (Get4_r hl).1
theorem fours_run {b : List Int} (hb : Byts b) (hl : b.length ≤ 1000000) (x : Bool) :
    itS word_fours_c1_yp_Y43_1pGvLGo_L0_sel word_fours_c1_yp_Y43_1pGvLGo_L0_nx bound ⟨true, [], x, b⟩ = some ⟨b.length / 4 == 0, fours b (b.length / 4), (b.length / 4 == 0) && x, b.drop (4 * (b.length / 4))⟩ := by
  have := loop_seq (sel := word_fours_c1_yp_Y43_1pGvLGo_L0_sel) (nx := word_fours_c1_yp_Y43_1pGvLGo_L0_nx) (fun k => ⟨k == 0, fours b k, (k == 0) && x, b.drop (4 * k)⟩) (b.length / 4) (by omega) (fun k hk => ?_) ?_
  · simpa [fours] using this
  · have h4 : 4 ≤ (b.drop (4 * k)).length := by simp; omega
    have h4' : (4 : Int) ≤ ((b.drop (4 * k)).length : Int) := by omega
    have i1 : ins (b.drop (4 * k)).length 0 4 = true := by simp only [ins, Bool.and_eq_true, decide_eq_true_eq]; omega
    have i2 : ins (b.drop (4 * k)).length 4 ((b.drop (4 * k)).length : Int) = true := by simp only [ins, Bool.and_eq_true, decide_eq_true_eq]; omega
    have hby : Byts ((b.drop (4 * k)).take 4) := byts_take (byts_drop hb _) _
    have hsz : (k + 1) * 8 ≤ 140737488355328 := by omega
    have hy : word_GetAll_Y1_l_Y43_1pGvL_c0 (fours b k) ((b.drop (4 * k)).take 4) = true := by
      simp [word_GetAll_Y1_l_Y43_1pGvL_c0, Get4l_c, fours_len, hsz]
    constructor
    · simp only [word_fours_c1_yp_Y43_1pGvLGo_L0_sel, sub04, i1, i2, hy, tb_eq, h4', decide_true, cond_true]
    · simp only [word_fours_c1_yp_Y43_1pGvLGo_L0_nx, sub04, sub4e, Get4l_r hby, fours_succ]
      have hne : (b.drop (4 * k)).isEmpty = false := by cases h : b.drop (4 * k) with | nil => rw [h] at h4; simp at h4 | cons a r => rfl
      rw [hne, List.drop_drop]
      simp [Nat.mul_add]
  · have : ¬ (4 : Int) ≤ ((b.drop (4 * (b.length / 4))).length : Int) := by simp; omega
    simp only [word_fours_c1_yp_Y43_1pGvLGo_L0_sel, tb_eq, this, decide_false, cond_false]
theorem rem4 (n : Nat) : remI .i64 ((n : Nat) : Int) 4 = ((n % 4 : Nat) : Int) := by
  rw [rem_i64 (by omega)]; omega
def getAll (b : List Int) : List Int := if b.length % 4 = 0 then fours b (b.length / 4) else []
theorem GetAll_r {b : List Int} (hb : Byts b) (hl : b.length ≤ 1000000) (x : Bool) : word_GetAll_o_c0 x b = true ∧ word_GetAll_o_r0_1 b = decide (b.length % 4 = 0) ∧ word_GetAll_o_r0_2 x b = getAll b := by
  have hrun := fours_run hb hl x
  have he : word_fours_c1_yp_Y43_1pGvLGo_e0 [] true x b = ⟨b.length / 4 == 0, fours b (b.length / 4), (b.length / 4 == 0) && x, b.drop (4 * (b.length / 4))⟩ := by
    simp only [word_fours_c1_yp_Y43_1pGvLGo_e0, word_fours_c1_yp_Y43_1pGvLGo_L0_end, hrun]; rfl
  have hn : ¬ (4 : Int) ≤ ((b.drop (4 * (b.length / 4))).length : Int) := by simp; omega
  have hc : word_fours_c1_yp_Y43_1pGvLGo_c0 [] true x b = true := by
    simp only [word_fours_c1_yp_Y43_1pGvLGo_c0, word_fours_c1_yp_Y43_1pGvLGo_L0_ok, hrun, he, word_fours_c1_yp_Y43_1pGvLGo_L0_c0, tb_eq, hn, decide_false, cond_false]; rfl
  simp only [word_GetAll_o_c0, word_GetAll_o_r0_1, word_GetAll_o_r0_2, rem4, hc, he, tb_eq, getAll]
  by_cases h : b.length % 4 = 0
  · simp [h]
  · have : (((b.length % 4 : Nat) : Int) != 0) = true := by simp; omega
    simp only [this, cond_true, h, decide_false, if_false, and_self]
def all32 (l : List Int) : Bool := l.all n32
def putAll (l : List Int) : List Int := if all32 l then l.flatMap p4 else []
theorem p4_len (n : Int) : (p4 n).length = 4 := rfl
theorem flat_len : ∀ (l : List Int), (l.flatMap p4).length = 4 * l.length
  | [] => rfl
  | a :: r => by rw [List.flatMap_cons, List.length_append, flat_len r, p4_len, List.length_cons]; omega
theorem put_run {l : List Int} {n : Nat} (hl : l.length ≤ 1000000) (hn : n ≤ l.length) (hall : ∀ k, k < n → n32 (gt l (k : Int)) = true) (hend : n = l.length ∨ n32 (gt l (n : Int)) = false) :
    itS (word_PutAll_o_L0_sel l (l.length : Int)) (word_PutAll_o_L0_nx l (l.length : Int)) bound ⟨true, 0, []⟩ = some ⟨n == 0, n, (l.take n).flatMap p4⟩ := by
  have := loop_seq (sel := word_PutAll_o_L0_sel l (l.length : Int)) (nx := word_PutAll_o_L0_nx l (l.length : Int)) (fun k => ⟨k == 0, (k : Int), (l.take k).flatMap p4⟩) n (by omega) (fun k hk => ?_) ?_
  · simpa using this
  · obtain ⟨a1, a2⟩ := Put4_r (gt l (k : Int))
    have h32 := hall k hk
    have hi : inb l.length (k : Int) = true := inb_of (by omega) (by omega)
    have hlt : (k : Int) < (l.length : Int) := by omega
    have hlen : ((l.take k).flatMap p4).length = 4 * k := by rw [flat_len]; simp; omega
    have hq : q4 (gt l (k : Int)) = p4 (gt l (k : Int)) := by simp [q4, h32]
    have hsz : (4 * k + 4) * 1 ≤ 140737488355328 := by omega
    constructor
    · simp only [word_PutAll_o_L0_sel, a1, a2, hq, h32, hi, hlt, hlen, p4_len, hsz, tb_eq]; rfl
    · simp only [word_PutAll_o_L0_nx, a2, hq]
      rw [wi_eq (by omega) (by omega), take_succ_gt (by omega)]
      simp [p4]
  · rcases hend with rfl | h32
    · simp [word_PutAll_o_L0_sel, tb_eq]
    · obtain ⟨a1, a2⟩ := Put4_r (gt l (n : Int))
      simp only [word_PutAll_o_L0_sel, a1, h32, tb_eq]
      cases decide ((n : Int) < (l.length : Int)) <;> cases inb l.length (n : Int) <;> rfl
theorem first_bad : ∀ (l : List Int), all32 l = true ∨ ∃ n, n < l.length ∧ (∀ k, k < n → n32 (gt l (k : Int)) = true) ∧ n32 (gt l (n : Int)) = false
  | [] => .inl rfl
  | a :: r => by
    have g0 : gt (a :: r) ((0 : Nat) : Int) = a := rfl
    have gs : ∀ k : Nat, gt (a :: r) ((k + 1 : Nat) : Int) = gt r (k : Int) := fun k => by simp [gt]
    cases h : n32 a with
    | false => exact .inr ⟨0, by simp, fun k hk => by omega, by rw [g0]; exact h⟩
    | true =>
      rcases first_bad r with h1 | ⟨n, h1, h2, h3⟩
      · left; simp only [all32, List.all_cons, h, Bool.true_and]; exact h1
      · right
        refine ⟨n + 1, by simp; omega, fun k hk => ?_, by rw [gs]; exact h3⟩
        cases k with
        | zero => rw [g0]; exact h
        | succ k => rw [gs]; exact h2 k (by omega)
theorem all32_gt {l : List Int} (h : all32 l = true) {k : Nat} (hk : k < l.length) : n32 (gt l (k : Int)) = true := by
  rw [gt_nat hk]
  exact List.all_eq_true.1 h _ (List.getElem_mem hk)
theorem PutAll_r {l : List Int} (hl : l.length ≤ 1000000) : word_PutAll_o_c0 l = true ∧ word_PutAll_o_r0_1 l = putAll l := by
  rcases first_bad l with h | ⟨n, h1, h2, h3⟩
  · have hrun := put_run (n := l.length) hl (Nat.le_refl _) (fun k hk => all32_gt h hk) (.inl rfl)
    have he : word_PutAll_o_e0 l = ⟨l.length == 0, l.length, (l.take l.length).flatMap p4⟩ := by simp only [word_PutAll_o_e0, word_PutAll_o_L0_end, hrun]; rfl
    have hok : word_PutAll_o_L0_ok l (l.length : Int) ⟨true, 0, []⟩ = true := by simp only [word_PutAll_o_L0_ok, hrun]; rfl
    simp only [word_PutAll_o_c0, word_PutAll_o_r0_1, hok, he, word_PutAll_o_L0_c0, word_PutAll_o_L0_c1, tb_eq, putAll, h]
    simp
  · have hrun := put_run (n := n) hl (by omega) h2 (.inr h3)
    have he : word_PutAll_o_e0 l = ⟨n == 0, n, (l.take n).flatMap p4⟩ := by simp only [word_PutAll_o_e0, word_PutAll_o_L0_end, hrun]; rfl
    have hok : word_PutAll_o_L0_ok l (l.length : Int) ⟨true, 0, []⟩ = true := by simp only [word_PutAll_o_L0_ok, hrun]; rfl
    have hbad : all32 l = false := by
      cases h : all32 l with
      | false => rfl
      | true => rw [all32_gt h h1] at h3; cases h3
    have hi : inb l.length (n : Int) = true := inb_of (by omega) (by omega)
    have hlt : (n : Int) < (l.length : Int) := by omega
    obtain ⟨a1, a2⟩ := Put4_r (gt l (n : Int))
    simp only [word_PutAll_o_c0, word_PutAll_o_r0_1, hok, he, word_PutAll_o_L0_c0, word_PutAll_o_L0_c1, tb_eq, putAll, hbad, hi, hlt, a1, h3]
    simp
theorem fours_flat : ∀ (l : List Int), all32 l = true → fours (l.flatMap p4) l.length = l
  | [], _ => rfl
  | a :: r, h => by
    simp only [all32, List.all_cons, Bool.and_eq_true] at h
    have ih := fours_flat r h.2
    rw [List.flatMap_cons, List.length_cons]
    simp only [fours, List.range_succ_eq_map, List.map_cons, List.map_map]
    congr 1
    · show g4 (p4 a) = a
      exact g4_p4 h.1
theorem flat_byts : ∀ (l : List Int), Byts (l.flatMap p4)
  | [], z, hz => by simp at hz
  | a :: r, z, hz => by
    rw [List.flatMap_cons] at hz
    rcases List.mem_append.1 hz with h | h
    · exact p4_byts a z h
    · exact flat_byts r z h
end Go.Proofs.Ytkipngagfiaddaa.Den

namespace Go.Proofs.Ytkipngagfiaddaa.Den
open Go Go.Proofs
set_option maxRecDepth 100000
set_option maxHeartbeats 4000000
set_option linter.unusedVariables false
set_option linter.unusedSimpArgs false
def slices_Grow_byte_ni_c0 (x0 : Int) : Bool := (decide (0 ≤ x0) && decide ((x0 : Int).toNat * 1 ≤ 140737488355328))
theorem slices_Grow_byte_ni_t0 (x0 : Int) (h : slices_Grow_byte_ni_c0 x0 = true) : cl E0 60 [(V.d .nils), (V.d (.int .i64 x0))] [] = some ([(V.so (Nat.beq (x0 : Int).toNat 0) 0 0)], [(Blk.flat 5 1 [] false)]) := x_grow (l := extT) (f := 60) (e := 5) (flat := true) (size := 1) (bytes := 1) ⟨⟨rfl, by kernel_rfl⟩, by decide⟩ (by kernel_rfl) h
end Go.Proofs.Ytkipngagfiaddaa.Den
