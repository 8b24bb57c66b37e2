/- OutputBack: part 5 of what its proof rests on: an evaluator of the program's code, proved sound; plain functions printed from the code by a program of this session, with proofs; plain laws. No condition. -/
import Derived.Test.YtkipngagfiaddaaDenoutputBack4
import Derived.Test.YtkipngagfiaddaaProg

namespace Go.Proofs.Ytkipngagfiaddaa.Den
open Go Go.Proofs
set_option maxRecDepth 100000
def S3_0 : C := (.seq1 (.reg [] [⟨(some 54), none, (.mov (.t 9))⟩, ⟨(some 55), none, (.mov (.t 1))⟩, ⟨(some 56), none, (.len (.t 55))⟩, ⟨(some 57), none, (.bin .lss (.t 54) (.t 56))⟩]) (.cond (.t 57) .skip (.exit 0)))
def S3_1 : C := (.seq (.reg [] [⟨(some 61), none, (.mov (.t 6))⟩, ⟨(some 62), none, (.mov (.t 1))⟩, ⟨(some 63), none, (.mov (.t 9))⟩, ⟨(some 64), none, (.idxA 2 (.t 62) (.t 63))⟩, ⟨(some 65), none, (.load true 2 (.t 64))⟩, ⟨(some 66), none, (.call (.v (.fn (.func 11) [] [])) [(.t 61), (.t 65)])⟩, ⟨(some 60), none, (.mov (.t 66))⟩, ⟨(some 67), none, (.extract 0 (.t 60))⟩, ⟨(some 68), none, (.extract 1 (.t 60))⟩, ⟨(some 10), none, (.alloc 33 [(.int .i64 0), (.int .i64 0), (.int .i64 0), (.int .i64 0), (.int .i64 0), (.int .i64 0), (.int .i64 0), (.int .i64 0), (.int .i64 0)] true)⟩, ⟨none, none, (.store 9 (.t 10) (.t 67))⟩, ⟨(some 11), none, (.mov (.t 68))⟩]) (.seq (.reg [] [⟨(some 70), none, (.mov (.t 8))⟩, ⟨(some 71), none, (.mov (.t 1))⟩, ⟨(some 72), none, (.mov (.t 9))⟩, ⟨(some 73), none, (.idxA 2 (.t 71) (.t 72))⟩, ⟨(some 74), none, (.load true 2 (.t 73))⟩, ⟨(some 75), none, (.call (.v (.fn (.func 12) [] [])) [(.t 70), (.t 74)])⟩, ⟨(some 69), none, (.mov (.t 75))⟩, ⟨(some 76), none, (.extract 0 (.t 69))⟩, ⟨(some 77), none, (.extract 1 (.t 69))⟩, ⟨(some 12), none, (.alloc 33 [(.int .i64 0), (.int .i64 0), (.int .i64 0), (.int .i64 0), (.int .i64 0), (.int .i64 0), (.int .i64 0), (.int .i64 0), (.int .i64 0)] true)⟩, ⟨none, none, (.store 9 (.t 12) (.t 76))⟩, ⟨(some 13), none, (.mov (.t 77))⟩]) (.seq (.reg [] [⟨(some 79), none, (.mov (.t 6))⟩, ⟨(some 80), none, (.call (.v (.fn (.func 13) [] [])) [(.t 79)])⟩, ⟨(some 78), none, (.mov (.t 80))⟩, ⟨(some 81), none, (.extract 0 (.t 78))⟩, ⟨(some 82), none, (.extract 1 (.t 78))⟩, ⟨(some 14), none, (.mov (.t 81))⟩, ⟨(some 15), none, (.mov (.t 82))⟩]) (.mix [⟨(some 83), none, (.load true 9 (.t 10))⟩, ⟨(some 84), none, (.load true 9 (.t 12))⟩, ⟨(some 85), none, (.beq (.cells [(.i .i64), (.i .i64), (.i .i64), (.i .i64), (.i .i64), (.i .i64), (.i .i64), (.i .i64), (.i .i64)]) true (.t 83) (.t 84))⟩, ⟨(some 86), none, (.mov (.t 85))⟩, ⟨(some 87), (some (86, false)), (.mov (.t 11))⟩, ⟨(some 88), (some (86, false)), (.mov (.t 13))⟩, ⟨(some 89), (some (86, false)), (.bin .neq (.t 87) (.t 88))⟩, ⟨(some 90), none, (.pick (.t 86) (.v (.d (.bool true))) (.t 89))⟩, ⟨(some 91), none, (.mov (.t 90))⟩, ⟨(some 92), (some (91, false)), (.mov (.t 15))⟩, ⟨(some 93), (some (91, false)), (.mov (.t 8))⟩, ⟨(some 94), (some (91, false)), (.nilck (.t 93))⟩, ⟨(some 95), (some (91, false)), (.fieldA 1 (.t 94))⟩, ⟨(some 96), (some (91, false)), (.load false 1 (.t 95))⟩, ⟨(some 97), (some (91, false)), (.bin .geq (.t 96) (.v (.d (.int .i64 0))))⟩, ⟨(some 98), (some (91, false)), (.beq .bool true (.t 92) (.t 97))⟩, ⟨(some 99), none, (.pick (.t 91) (.v (.d (.bool true))) (.t 98))⟩, ⟨(some 100), none, (.mov (.t 99))⟩, ⟨(some 101), (some (100, false)), (.mov (.t 15))⟩, ⟨(some 102), (some (100, false)), (.mov (.t 101))⟩, ⟨(some 103), (some (102, true)), (.mov (.t 14))⟩, ⟨(some 104), (some (102, true)), (.mov (.t 8))⟩, ⟨(some 105), (some (102, true)), (.nilck (.t 104))⟩, ⟨(some 106), (some (102, true)), (.fieldA 1 (.t 105))⟩, ⟨(some 107), (some (102, true)), (.load false 1 (.t 106))⟩, ⟨(some 108), (some (102, true)), (.bin .neq (.t 103) (.t 107))⟩, ⟨(some 109), (some (100, false)), (.pick (.t 102) (.t 108) (.v (.d (.bool false))))⟩, ⟨(some 110), none, (.pick (.t 100) (.v (.d (.bool true))) (.t 109))⟩, ⟨(some 111), none, (.mov (.t 110))⟩, ⟨(some 112), (some (111, false)), (.mov (.t 15))⟩, ⟨(some 113), (some (111, false)), (.unop .not (.t 112))⟩, ⟨(some 114), (some (111, false)), (.mov (.t 113))⟩, ⟨(some 115), (some (114, true)), (.mov (.t 14))⟩, ⟨(some 116), (some (114, true)), (.bin .neq (.t 115) (.v (.d (.int .i64 0))))⟩, ⟨(some 117), (some (111, false)), (.pick (.t 114) (.t 116) (.v (.d (.bool false))))⟩, ⟨(some 118), none, (.pick (.t 111) (.v (.d (.bool true))) (.t 117))⟩, ⟨(some 119), none, (.mov (.t 118))⟩, ⟨(some 120), (some (119, false)), (.mov (.t 6))⟩, ⟨(some 121), (some (119, false)), (.call (.v (.fn (.func 14) [] [])) [(.t 120)])⟩, ⟨(some 122), (some (119, false)), (.mov (.t 8))⟩, ⟨(some 123), (some (119, false)), (.nilck (.t 122))⟩, ⟨(some 124), (some (119, false)), (.fieldA 2 (.t 123))⟩, ⟨(some 125), (some (119, false)), (.load true 7 (.t 124))⟩, ⟨(some 126), (some (119, false)), (.beq (.cells [(.i .i64), (.i .i64), (.i .i64), (.i .i64), (.i .i64), (.i .i64), (.i .i64)]) true (.t 121) (.t 125))⟩, ⟨(some 127), none, (.pick (.t 119) (.v (.d (.bool true))) (.t 126))⟩] [[], [], [], [], [], [], [], [], [], [], [], [], [], [], [], [], [], [], [], [], [], [], [], [], [], [], [], [], [], [], [], [], [], [], [], [], [], [], [], [], [], [], [38], [], []] [false, false, false, false, false, false, false, false, false, false, false, false, false, false, false, false, false, false, false, false, false, false, false, false, false, false, false, false, false, false, false, false, false, false, false, false, false, false, true, false, false, false, false, false, false]))))
def S3_2 : C := (.block 1 (.cut [1, 6, 8, 9] [] [1, 6, 8, 9, 127] S3_1 (.cond (.t 127) (.seq (.reg [] [⟨(some 4), none, (.mov (.v (.d (.bool false))))⟩]) .ret) .skip)))
def L3_3 : C := (.cut [1, 6, 8, 9] [] [1, 6, 8, 9] S3_0 (.cut [1, 6, 8, 9] [4] [1, 6, 8, 9] S3_2 (.reg [] [⟨(some 58), none, (.mov (.t 9))⟩, ⟨(some 59), none, (.bin .add (.t 58) (.v (.d (.int .i64 1))))⟩, ⟨(some 9), none, (.mov (.t 59))⟩])))
def S3_4 : C := (.seq (.reg [] [⟨(some 27), none, (.mov (.t 0))⟩, ⟨(some 28), none, (.call (.v (.fn (.func 9) [] [])) [(.t 27)])⟩, ⟨(some 26), none, (.mov (.t 28))⟩, ⟨(some 29), none, (.extract 0 (.t 26))⟩, ⟨(some 30), none, (.extract 1 (.t 26))⟩, ⟨(some 6), none, (.mov (.t 29))⟩, ⟨(some 7), none, (.mov (.t 30))⟩]) (.seq (.seq (.reg [] [⟨(some 31), none, (.mov (.t 0))⟩, ⟨(some 32), none, (.bin .lss (.t 31) (.v (.d (.int .i64 0))))⟩, ⟨(some 33), none, (.mov (.t 32))⟩, ⟨(some 34), (some (33, false)), (.mov (.t 0))⟩, ⟨(some 35), (some (33, false)), (.bin .gtr (.t 34) (.v (.d (.int .i64 3))))⟩, ⟨(some 36), none, (.pick (.t 33) (.v (.d (.bool true))) (.t 35))⟩]) (.cond (.t 36) (.seq (.reg [] [⟨(some 37), none, (.call (.v (.fn (.func 8) [] [])) [])⟩, ⟨(some 38), none, (.mov (.t 37))⟩, ⟨(some 39), (some (38, true)), (.mov (.t 6))⟩, ⟨(some 40), (some (38, true)), (.beq .ptr false (.t 39) (.v (.d .nilp)))⟩, ⟨(some 41), none, (.pick (.t 38) (.t 40) (.v (.d (.bool false))))⟩, ⟨(some 42), none, (.mov (.t 41))⟩, ⟨(some 43), (some (42, true)), (.mov (.t 7))⟩, ⟨(some 44), (some (42, true)), (.bin .eql (.t 43) (.v (.d (.int .i64 1))))⟩, ⟨(some 45), none, (.pick (.t 42) (.t 44) (.v (.d (.bool false))))⟩, ⟨(some 4), none, (.mov (.t 45))⟩]) .ret) .skip)) (.seq (.seq (.reg [] [⟨(some 46), none, (.mov (.t 6))⟩, ⟨(some 47), none, (.beq .ptr false (.t 46) (.v (.d .nilp)))⟩, ⟨(some 48), none, (.mov (.t 47))⟩, ⟨(some 49), (some (48, false)), (.mov (.t 7))⟩, ⟨(some 50), (some (48, false)), (.bin .neq (.t 49) (.v (.d (.int .i64 0))))⟩, ⟨(some 51), none, (.pick (.t 48) (.v (.d (.bool true))) (.t 50))⟩]) (.cond (.t 51) (.seq (.reg [] [⟨(some 4), none, (.mov (.v (.d (.bool false))))⟩]) .ret) .skip)) (.seq (.reg [] [⟨(some 52), none, (.mov (.t 0))⟩, ⟨(some 53), none, (.call (.v (.fn (.func 10) [] [])) [(.t 52)])⟩, ⟨(some 8), none, (.mov (.t 53))⟩]) (.seq1 (.reg [] [⟨(some 9), none, (.mov (.v (.d (.int .i64 0))))⟩]) (.block 0 (.loop [1, 6, 8, 9] [4] L3_3)))))))
def S3_5 : C := (.reg [] [⟨(some 129), none, (.mov (.t 16))⟩, ⟨(some 130), none, (.build [(.bool false), .nils] [])⟩, ⟨(some 131), none, (.call (.v (.fn (.func 11) [] [])) [(.t 129), (.t 130)])⟩, ⟨(some 128), none, (.mov (.t 131))⟩, ⟨(some 132), none, (.extract 0 (.t 128))⟩, ⟨(some 133), none, (.extract 1 (.t 128))⟩, ⟨(some 17), none, (.alloc 33 [(.int .i64 0), (.int .i64 0), (.int .i64 0), (.int .i64 0), (.int .i64 0), (.int .i64 0), (.int .i64 0), (.int .i64 0), (.int .i64 0)] true)⟩, ⟨none, none, (.store 9 (.t 17) (.t 132))⟩, ⟨(some 18), none, (.mov (.t 133))⟩])
def S3_6 : C := (.reg [] [⟨(some 135), none, (.mov (.t 16))⟩, ⟨(some 136), none, (.call (.v (.fn (.func 13) [] [])) [(.t 135)])⟩, ⟨(some 134), none, (.mov (.t 136))⟩, ⟨(some 137), none, (.extract 0 (.t 134))⟩, ⟨(some 138), none, (.extract 1 (.t 134))⟩, ⟨(some 19), none, (.mov (.t 137))⟩, ⟨(some 20), none, (.mov (.t 138))⟩])
def S3_7 : C := (.reg [] [⟨(some 139), none, (.call (.v (.fn (.func 8) [] [])) [])⟩, ⟨(some 140), none, (.mov (.t 139))⟩, ⟨(some 141), (some (140, true)), (.mov (.t 18))⟩, ⟨(some 142), (some (140, true)), (.bin .eql (.t 141) (.v (.d (.int .i64 1))))⟩, ⟨(some 143), none, (.pick (.t 140) (.t 142) (.v (.d (.bool false))))⟩, ⟨(some 144), none, (.mov (.t 143))⟩, ⟨(some 145), (some (144, true)), (.mov (.t 19))⟩, ⟨(some 146), (some (144, true)), (.bin .eql (.t 145) (.v (.d (.int .i64 0))))⟩, ⟨(some 147), none, (.pick (.t 144) (.t 146) (.v (.d (.bool false))))⟩, ⟨(some 148), none, (.mov (.t 147))⟩, ⟨(some 149), (some (148, true)), (.mov (.t 20))⟩, ⟨(some 150), (some (148, true)), (.unop .not (.t 149))⟩, ⟨(some 151), none, (.pick (.t 148) (.t 150) (.v (.d (.bool false))))⟩, ⟨(some 152), none, (.mov (.t 151))⟩, ⟨(some 153), (some (152, true)), (.mov (.t 16))⟩, ⟨(some 154), (some (152, true)), (.call (.v (.fn (.func 14) [] [])) [(.t 153)])⟩, ⟨(some 155), (some (152, true)), (.build [(.int .i64 0), (.int .i64 0), (.int .i64 0), (.int .i64 0), (.int .i64 0), (.int .i64 0), (.int .i64 0)] [])⟩, ⟨(some 156), (some (152, true)), (.beq (.cells [(.i .i64), (.i .i64), (.i .i64), (.i .i64), (.i .i64), (.i .i64), (.i .i64)]) false (.t 154) (.t 155))⟩, ⟨(some 157), none, (.pick (.t 152) (.t 156) (.v (.d (.bool false))))⟩, ⟨(some 4), none, (.mov (.t 157))⟩])
def F3 : CFunc := ⟨158, [(.tmp 4)], (.seq (.reg [] [⟨(some 4), none, (.mov (.v (.d (.bool false))))⟩]) (.seq (.reg [] [⟨(some 21), none, (.mov (.t 1))⟩, ⟨(some 22), none, (.call (.v (.fn (.func 7) [] [])) [(.t 21)])⟩, ⟨(some 5), none, (.mov (.t 22))⟩]) (.seq (.seq (.reg [] [⟨(some 23), none, (.mov (.t 5))⟩, ⟨(some 24), none, (.unop .not (.t 23))⟩]) (.cond (.t 24) (.seq (.reg [] [⟨(some 25), none, (.call (.v (.fn (.func 8) [] [])) [])⟩, ⟨(some 4), none, (.mov (.t 25))⟩]) .ret) .skip)) (.cut [0, 1] [4] [] S3_4 (.seq (.reg [] [⟨(some 16), none, (.mov (.v (.d .nilp)))⟩]) (.cut [16] [] [16, 18] S3_5 (.cut [16, 18] [] [16, 18, 19, 20] S3_6 (.cut [16, 18, 19, 20] [] [4] S3_7 .ret))))))))⟩
theorem c3 : cAt Try.prog 3 = some F3.er := by kernel_rfl
def S6_0 : C := (.seq1 (.reg [] [⟨(some 19), none, (.mov (.t 1))⟩, ⟨(some 20), none, (.len (.t 19))⟩, ⟨(some 21), none, (.bin .gtr (.t 20) (.v (.d (.int .i64 300))))⟩]) (.cond (.t 21) (.seq (.reg [] [⟨(some 22), none, (.call (.v (.fn (.func 17) [] [])) [])⟩, ⟨(some 6), none, (.mov (.t 22))⟩]) .ret) .skip))
def S6_1 : C := (.seq (.reg [] [⟨(some 36), none, (.mov (.t 7))⟩, ⟨(some 37), none, (.call (.v (.fn (.func 21) [] [])) [(.t 36)])⟩, ⟨(some 35), none, (.mov (.t 37))⟩, ⟨(some 38), none, (.extract 0 (.t 35))⟩, ⟨(some 39), none, (.extract 1 (.t 35))⟩, ⟨(some 9), none, (.alloc 55 [(.int .i64 0), (.int .i64 0), (.int .i64 0), (.int .i64 0), (.int .i64 0), (.int .i64 0), (.int .i64 0), (.int .i64 0), (.int .i64 0), (.int .i64 0), (.int .i64 0), (.int .i64 0), (.bool false), (.int .i64 0), (.int .i64 0), (.int .i64 0), (.bool false), (.int .i64 0), (.int .i64 0), (.int .i64 0), (.bool false), (.int .i64 0), (.int .i64 0), (.int .i64 0), (.bool false), (.int .i64 0), (.int .i64 0), (.int .i64 0), (.bool false), (.int .i64 0), (.int .i64 0), (.int .i64 0), (.bool false), (.int .i64 0), (.int .i64 0), (.int .i64 0), (.bool false), (.int .i64 0), (.int .i64 0), (.int .i64 0), (.bool false)] true)⟩, ⟨none, none, (.store 41 (.t 9) (.t 38))⟩, ⟨(some 10), none, (.mov (.t 39))⟩]) (.seq1 (.reg [] [⟨(some 40), none, (.mov (.t 10))⟩, ⟨(some 41), none, (.bin .neq (.t 40) (.v (.d (.int .i64 0))))⟩, ⟨(some 42), none, (.mov (.t 41))⟩, ⟨(some 43), (some (42, false)), (.load true 41 (.t 9))⟩, ⟨(some 44), (some (42, false)), (.load true 41 (.t 3))⟩, ⟨(some 45), (some (42, false)), (.beq (.cells [(.i .i64), (.i .i64), (.i .i64), (.i .i64), (.i .i64), (.i .i64), (.i .i64), (.i .i64), (.i .i64), (.i .i64), (.i .i64), (.i .i64), .b, (.i .i64), (.i .i64), (.i .i64), .b, (.i .i64), (.i .i64), (.i .i64), .b, (.i .i64), (.i .i64), (.i .i64), .b, (.i .i64), (.i .i64), (.i .i64), .b, (.i .i64), (.i .i64), (.i .i64), .b, (.i .i64), (.i .i64), (.i .i64), .b, (.i .i64), (.i .i64), (.i .i64), .b]) true (.t 43) (.t 44))⟩, ⟨(some 46), none, (.pick (.t 42) (.v (.d (.bool true))) (.t 45))⟩, ⟨(some 47), none, (.mov (.t 46))⟩, ⟨(some 48), (some (47, false)), (.mov (.t 7))⟩, ⟨(some 49), (some (47, false)), (.len (.t 48))⟩, ⟨(some 50), (some (47, false)), (.bin .neq (.t 49) (.v (.d (.int .i64 54))))⟩, ⟨(some 51), none, (.pick (.t 47) (.v (.d (.bool true))) (.t 50))⟩]) (.cond (.t 51) (.seq (.reg [] [⟨(some 6), none, (.mov (.v (.d (.bool false))))⟩]) .ret) .skip)))
def S6_2 : C := (.seq (.reg [] [⟨(some 52), none, (.bslice 5 true 1 0 [(.int .u8 0)] [])⟩, ⟨(some 53), none, (.mov (.t 7))⟩, ⟨(some 54), none, (.append 5 true 1 1 (.t 52) (.t 53))⟩, ⟨(some 11), none, (.mov (.t 54))⟩]) (.seq (.reg [⟨(some 55), none, (.mov (.t 11))⟩, ⟨(some 56), none, (.fieldA 0 (.t 5))⟩, ⟨(some 57), none, (.load false 1 (.t 56))⟩, ⟨(some 58), none, (.conv (.int .i64) (.t 57))⟩, ⟨(some 59), none, (.bin .rem (.t 58) (.v (.d (.int .i64 54))))⟩, ⟨(some 60), none, (.mov (.t 11))⟩, ⟨(some 61), none, (.fieldA 0 (.t 5))⟩, ⟨(some 62), none, (.load false 1 (.t 61))⟩, ⟨(some 63), none, (.conv (.int .i64) (.t 62))⟩, ⟨(some 64), none, (.bin .rem (.t 63) (.v (.d (.int .i64 54))))⟩, ⟨(some 65), none, (.idxA 1 (.t 60) (.t 64))⟩, ⟨(some 66), none, (.load false 1 (.t 65))⟩, ⟨(some 67), none, (.fieldA 1 (.t 5))⟩, ⟨(some 68), none, (.load false 1 (.t 67))⟩, ⟨(some 69), none, (.bin .add (.t 66) (.t 68))⟩] [⟨(some 70), none, (.idxA 1 (.t 55) (.t 59))⟩, ⟨none, none, (.store 1 (.t 70) (.t 69))⟩]) (.reg [] [⟨(some 72), none, (.mov (.t 11))⟩, ⟨(some 73), none, (.call (.v (.fn (.func 21) [] [])) [(.t 72)])⟩, ⟨(some 71), none, (.mov (.t 73))⟩, ⟨(some 74), none, (.extract 0 (.t 71))⟩, ⟨(some 75), none, (.extract 1 (.t 71))⟩, ⟨(some 12), none, (.alloc 55 [(.int .i64 0), (.int .i64 0), (.int .i64 0), (.int .i64 0), (.int .i64 0), (.int .i64 0), (.int .i64 0), (.int .i64 0), (.int .i64 0), (.int .i64 0), (.int .i64 0), (.int .i64 0), (.bool false), (.int .i64 0), (.int .i64 0), (.int .i64 0), (.bool false), (.int .i64 0), (.int .i64 0), (.int .i64 0), (.bool false), (.int .i64 0), (.int .i64 0), (.int .i64 0), (.bool false), (.int .i64 0), (.int .i64 0), (.int .i64 0), (.bool false), (.int .i64 0), (.int .i64 0), (.int .i64 0), (.bool false), (.int .i64 0), (.int .i64 0), (.int .i64 0), (.bool false), (.int .i64 0), (.int .i64 0), (.int .i64 0), (.bool false)] true)⟩, ⟨none, none, (.store 41 (.t 12) (.t 74))⟩, ⟨(some 13), none, (.mov (.t 75))⟩])))
def S6_3 : C := (.reg [] [⟨(some 76), none, (.fieldA 1 (.t 5))⟩, ⟨(some 77), none, (.load false 1 (.t 76))⟩, ⟨(some 78), none, (.bin .neq (.t 77) (.v (.d (.int .u8 0))))⟩, ⟨(some 79), none, (.mov (.t 78))⟩, ⟨(some 80), (some (79, true)), (.mov (.t 13))⟩, ⟨(some 81), (some (79, true)), (.bin .neq (.t 80) (.v (.d (.int .i64 3))))⟩, ⟨(some 82), none, (.pick (.t 79) (.t 81) (.v (.d (.bool false))))⟩])
def S6_4 : C := (.seq (.reg [] [⟨(some 24), none, (.load true 41 (.t 3))⟩, ⟨(some 25), none, (.call (.v (.fn (.func 18) [] [])) [(.t 24)])⟩, ⟨(some 23), none, (.mov (.t 25))⟩, ⟨(some 26), none, (.extract 0 (.t 23))⟩, ⟨(some 27), none, (.extract 1 (.t 23))⟩, ⟨(some 7), none, (.mov (.t 26))⟩, ⟨(some 8), none, (.mov (.t 27))⟩]) (.seq (.seq (.reg [] [⟨(some 28), none, (.mov (.t 8))⟩, ⟨(some 29), none, (.bin .eql (.t 28) (.v (.d (.int .i64 0))))⟩, ⟨(some 30), none, (.load true 41 (.t 3))⟩, ⟨(some 31), none, (.call (.v (.fn (.func 23) [] [])) [(.t 30)])⟩, ⟨(some 32), none, (.beq .bool true (.t 29) (.t 31))⟩]) (.cond (.t 32) (.seq (.reg [] [⟨(some 6), none, (.mov (.v (.d (.bool false))))⟩]) .ret) .skip)) (.seq1 (.reg [] [⟨(some 33), none, (.mov (.t 8))⟩, ⟨(some 34), none, (.bin .eql (.t 33) (.v (.d (.int .i64 0))))⟩]) (.cond (.t 34) (.cut [1, 3, 5, 7] [6] [1, 5, 7] S6_1 (.cut [1, 5, 7] [] [1, 5, 13] S6_2 (.cut [1, 5, 13] [] [1, 82] S6_3 (.cond (.t 82) (.seq (.reg [] [⟨(some 6), none, (.mov (.v (.d (.bool false))))⟩]) .ret) .skip)))) .skip))))
def S6_5 : C := (.seq (.reg [] [⟨(some 84), none, (.mov (.t 1))⟩, ⟨(some 85), none, (.call (.v (.fn (.func 21) [] [])) [(.t 84)])⟩, ⟨(some 83), none, (.mov (.t 85))⟩, ⟨(some 86), none, (.extract 0 (.t 83))⟩, ⟨(some 87), none, (.extract 1 (.t 83))⟩, ⟨(some 14), none, (.alloc 55 [(.int .i64 0), (.int .i64 0), (.int .i64 0), (.int .i64 0), (.int .i64 0), (.int .i64 0), (.int .i64 0), (.int .i64 0), (.int .i64 0), (.int .i64 0), (.int .i64 0), (.int .i64 0), (.bool false), (.int .i64 0), (.int .i64 0), (.int .i64 0), (.bool false), (.int .i64 0), (.int .i64 0), (.int .i64 0), (.bool false), (.int .i64 0), (.int .i64 0), (.int .i64 0), (.bool false), (.int .i64 0), (.int .i64 0), (.int .i64 0), (.bool false), (.int .i64 0), (.int .i64 0), (.int .i64 0), (.bool false), (.int .i64 0), (.int .i64 0), (.int .i64 0), (.bool false), (.int .i64 0), (.int .i64 0), (.int .i64 0), (.bool false)] true)⟩, ⟨none, none, (.store 41 (.t 14) (.t 86))⟩, ⟨(some 15), none, (.mov (.t 87))⟩]) (.seq (.seq (.reg [] [⟨(some 88), none, (.mov (.t 15))⟩, ⟨(some 89), none, (.bin .neq (.t 88) (.v (.d (.int .i64 0))))⟩]) (.cond (.t 89) (.seq (.reg [] [⟨(some 90), none, (.call (.v (.fn (.func 17) [] [])) [])⟩, ⟨(some 91), none, (.mov (.t 90))⟩, ⟨(some 92), (some (91, true)), (.load true 41 (.t 14))⟩, ⟨(some 93), (some (91, true)), (.build [(.int .i64 0), (.int .i64 0), (.int .i64 0), (.int .i64 0), (.int .i64 0), (.int .i64 0), (.int .i64 0), (.int .i64 0), (.int .i64 0), (.int .i64 0), (.int .i64 0), (.int .i64 0), (.bool false), (.int .i64 0), (.int .i64 0), (.int .i64 0), (.bool false), (.int .i64 0), (.int .i64 0), (.int .i64 0), (.bool false), (.int .i64 0), (.int .i64 0), (.int .i64 0), (.bool false), (.int .i64 0), (.int .i64 0), (.int .i64 0), (.bool false), (.int .i64 0), (.int .i64 0), (.int .i64 0), (.bool false), (.int .i64 0), (.int .i64 0), (.int .i64 0), (.bool false), (.int .i64 0), (.int .i64 0), (.int .i64 0), (.bool false)] [])⟩, ⟨(some 94), (some (91, true)), (.beq (.cells [(.i .i64), (.i .i64), (.i .i64), (.i .i64), (.i .i64), (.i .i64), (.i .i64), (.i .i64), (.i .i64), (.i .i64), (.i .i64), (.i .i64), .b, (.i .i64), (.i .i64), (.i .i64), .b, (.i .i64), (.i .i64), (.i .i64), .b, (.i .i64), (.i .i64), (.i .i64), .b, (.i .i64), (.i .i64), (.i .i64), .b, (.i .i64), (.i .i64), (.i .i64), .b, (.i .i64), (.i .i64), (.i .i64), .b, (.i .i64), (.i .i64), (.i .i64), .b]) false (.t 92) (.t 93))⟩, ⟨(some 95), none, (.pick (.t 91) (.t 94) (.v (.d (.bool false))))⟩, ⟨(some 6), none, (.mov (.t 95))⟩]) .ret) .skip)) (.seq (.reg [] [⟨(some 97), none, (.load true 41 (.t 14))⟩, ⟨(some 98), none, (.call (.v (.fn (.func 18) [] [])) [(.t 97)])⟩, ⟨(some 96), none, (.mov (.t 98))⟩, ⟨(some 99), none, (.extract 0 (.t 96))⟩, ⟨(some 100), none, (.extract 1 (.t 96))⟩, ⟨(some 16), none, (.mov (.t 99))⟩, ⟨(some 17), none, (.mov (.t 100))⟩]) (.reg [] [⟨(some 101), none, (.mov (.t 16))⟩, ⟨(some 102), none, (.mov (.t 1))⟩, ⟨(some 103), none, (.call (.v (.fn (.func 20) [] [])) [(.t 101), (.t 102)])⟩, ⟨(some 18), none, (.mov (.t 103))⟩]))))
def S6_6 : C := (.reg [] [⟨(some 104), none, (.call (.v (.fn (.func 17) [] [])) [])⟩, ⟨(some 105), none, (.mov (.t 104))⟩, ⟨(some 106), (some (105, true)), (.mov (.t 17))⟩, ⟨(some 107), (some (105, true)), (.bin .eql (.t 106) (.v (.d (.int .i64 0))))⟩, ⟨(some 108), none, (.pick (.t 105) (.t 107) (.v (.d (.bool false))))⟩, ⟨(some 109), none, (.mov (.t 108))⟩, ⟨(some 110), (some (109, true)), (.mov (.t 18))⟩, ⟨(some 111), none, (.pick (.t 109) (.t 110) (.v (.d (.bool false))))⟩, ⟨(some 6), none, (.mov (.t 111))⟩])
def F6 : CFunc := ⟨112, [(.tmp 6)], (.seq (.reg [] [⟨(some 3), none, (.box 55 true 41 (.t 0))⟩, ⟨(some 5), none, (.box 64 true 2 (.t 2))⟩, ⟨(some 6), none, (.mov (.v (.d (.bool false))))⟩]) (.cut [1, 3, 5] [6] [1, 3, 5] S6_0 (.cut [1, 3, 5] [6] [1] S6_4 (.cut [1] [6] [17, 18] S6_5 (.cut [17, 18] [] [6] S6_6 .ret)))))⟩
theorem c6 : cAt Try.prog 6 = some F6.er := by kernel_rfl
def S17_0 : C := (.seq (.reg [] [⟨(some 10), none, (.call (.v (.fn (.func 36) [] [])) [])⟩, ⟨(some 11), none, (.call (.v (.fn (.func 18) [] [])) [(.t 10)])⟩, ⟨(some 9), none, (.mov (.t 11))⟩, ⟨(some 12), none, (.extract 0 (.t 9))⟩, ⟨(some 13), none, (.extract 1 (.t 9))⟩, ⟨(some 1), none, (.mov (.t 12))⟩, ⟨(some 2), none, (.mov (.t 13))⟩]) (.seq (.reg [] [⟨(some 15), none, (.mov (.t 1))⟩, ⟨(some 16), none, (.call (.v (.fn (.func 21) [] [])) [(.t 15)])⟩, ⟨(some 14), none, (.mov (.t 16))⟩, ⟨(some 17), none, (.extract 0 (.t 14))⟩, ⟨(some 18), none, (.extract 1 (.t 14))⟩, ⟨(some 3), none, (.alloc 55 [(.int .i64 0), (.int .i64 0), (.int .i64 0), (.int .i64 0), (.int .i64 0), (.int .i64 0), (.int .i64 0), (.int .i64 0), (.int .i64 0), (.int .i64 0), (.int .i64 0), (.int .i64 0), (.bool false), (.int .i64 0), (.int .i64 0), (.int .i64 0), (.bool false), (.int .i64 0), (.int .i64 0), (.int .i64 0), (.bool false), (.int .i64 0), (.int .i64 0), (.int .i64 0), (.bool false), (.int .i64 0), (.int .i64 0), (.int .i64 0), (.bool false), (.int .i64 0), (.int .i64 0), (.int .i64 0), (.bool false), (.int .i64 0), (.int .i64 0), (.int .i64 0), (.bool false), (.int .i64 0), (.int .i64 0), (.int .i64 0), (.bool false)] true)⟩, ⟨none, none, (.store 41 (.t 3) (.t 17))⟩, ⟨(some 4), none, (.mov (.t 18))⟩]) (.seq (.reg [] [⟨(some 20), none, (.build [(.int .i64 0), (.int .i64 0), (.int .i64 0), (.int .i64 0), (.int .i64 0), (.int .i64 0), (.int .i64 0), (.int .i64 0), (.int .i64 0), (.int .i64 0), (.int .i64 0), (.int .i64 0), (.bool false), (.int .i64 0), (.int .i64 0), (.int .i64 0), (.bool false), (.int .i64 0), (.int .i64 0), (.int .i64 0), (.bool false), (.int .i64 0), (.int .i64 0), (.int .i64 0), (.bool false), (.int .i64 0), (.int .i64 0), (.int .i64 0), (.bool false), (.int .i64 0), (.int .i64 0), (.int .i64 0), (.bool false), (.int .i64 0), (.int .i64 0), (.int .i64 0), (.bool false), (.int .i64 0), (.int .i64 0), (.int .i64 0), (.bool false)] [])⟩, ⟨(some 21), none, (.call (.v (.fn (.func 18) [] [])) [(.t 20)])⟩, ⟨(some 19), none, (.mov (.t 21))⟩, ⟨(some 22), none, (.extract 0 (.t 19))⟩, ⟨(some 23), none, (.extract 1 (.t 19))⟩, ⟨(some 5), none, (.mov (.t 22))⟩, ⟨(some 6), none, (.mov (.t 23))⟩]) (.seq (.reg [] [⟨(some 25), none, (.mov (.t 1))⟩, ⟨(some 26), none, (.mov (.t 1))⟩, ⟨(some 27), none, (.len (.t 26))⟩, ⟨(some 28), none, (.mn [(.t 27), (.v (.d (.int .i64 53)))])⟩, ⟨(some 29), none, (.slice 1 (.t 25) none (some (.t 28)) none)⟩, ⟨(some 30), none, (.call (.v (.fn (.func 21) [] [])) [(.t 29)])⟩, ⟨(some 24), none, (.mov (.t 30))⟩, ⟨(some 31), none, (.extract 0 (.t 24))⟩, ⟨(some 32), none, (.extract 1 (.t 24))⟩, ⟨(some 7), none, (.alloc 55 [(.int .i64 0), (.int .i64 0), (.int .i64 0), (.int .i64 0), (.int .i64 0), (.int .i64 0), (.int .i64 0), (.int .i64 0), (.int .i64 0), (.int .i64 0), (.int .i64 0), (.int .i64 0), (.bool false), (.int .i64 0), (.int .i64 0), (.int .i64 0), (.bool false), (.int .i64 0), (.int .i64 0), (.int .i64 0), (.bool false), (.int .i64 0), (.int .i64 0), (.int .i64 0), (.bool false), (.int .i64 0), (.int .i64 0), (.int .i64 0), (.bool false), (.int .i64 0), (.int .i64 0), (.int .i64 0), (.bool false), (.int .i64 0), (.int .i64 0), (.int .i64 0), (.bool false), (.int .i64 0), (.int .i64 0), (.int .i64 0), (.bool false)] true)⟩, ⟨none, none, (.store 41 (.t 7) (.t 31))⟩, ⟨(some 8), none, (.mov (.t 32))⟩]) (.seq (.seq (.reg [] [⟨(some 33), none, (.mov (.t 1))⟩, ⟨(some 34), none, (.len (.t 33))⟩, ⟨(some 35), none, (.bin .neq (.t 34) (.v (.d (.int .i64 54))))⟩]) (.cond (.t 35) (.seq (.reg [] [⟨(some 0), none, (.mov (.v (.d (.bool false))))⟩]) .ret) .skip)) (.mix [⟨(some 36), none, (.mov (.t 2))⟩, ⟨(some 37), none, (.bin .eql (.t 36) (.v (.d (.int .i64 0))))⟩, ⟨(some 38), none, (.mov (.t 37))⟩, ⟨(some 39), (some (38, true)), (.mov (.t 1))⟩, ⟨(some 40), (some (38, true)), (.idxA 1 (.t 39) (.v (.d (.int .i64 0))))⟩, ⟨(some 41), (some (38, true)), (.load false 1 (.t 40))⟩, ⟨(some 42), (some (38, true)), (.bin .eql (.t 41) (.v (.d (.int .u8 90))))⟩, ⟨(some 43), none, (.pick (.t 38) (.t 42) (.v (.d (.bool false))))⟩, ⟨(some 44), none, (.mov (.t 43))⟩, ⟨(some 45), (some (44, true)), (.mov (.t 1))⟩, ⟨(some 46), (some (44, true)), (.idxA 1 (.t 45) (.v (.d (.int .i64 1))))⟩, ⟨(some 47), (some (44, true)), (.load false 1 (.t 46))⟩, ⟨(some 48), (some (44, true)), (.bin .eql (.t 47) (.v (.d (.int .u8 1))))⟩, ⟨(some 49), none, (.pick (.t 44) (.t 48) (.v (.d (.bool false))))⟩, ⟨(some 50), none, (.mov (.t 49))⟩, ⟨(some 51), (some (50, true)), (.mov (.t 1))⟩, ⟨(some 52), (some (50, true)), (.idxA 1 (.t 51) (.v (.d (.int .i64 2))))⟩, ⟨(some 53), (some (50, true)), (.load false 1 (.t 52))⟩, ⟨(some 54), (some (50, true)), (.bin .eql (.t 53) (.v (.d (.int .u8 2))))⟩, ⟨(some 55), none, (.pick (.t 50) (.t 54) (.v (.d (.bool false))))⟩, ⟨(some 56), none, (.mov (.t 55))⟩, ⟨(some 57), (some (56, true)), (.mov (.t 1))⟩, ⟨(some 58), (some (56, true)), (.idxA 1 (.t 57) (.v (.d (.int .i64 3))))⟩, ⟨(some 59), (some (56, true)), (.load false 1 (.t 58))⟩, ⟨(some 60), (some (56, true)), (.bin .eql (.t 59) (.v (.d (.int .u8 3))))⟩, ⟨(some 61), none, (.pick (.t 56) (.t 60) (.v (.d (.bool false))))⟩, ⟨(some 62), none, (.mov (.t 61))⟩, ⟨(some 63), (some (62, true)), (.mov (.t 1))⟩, ⟨(some 64), (some (62, true)), (.idxA 1 (.t 63) (.v (.d (.int .i64 7))))⟩, ⟨(some 65), (some (62, true)), (.load false 1 (.t 64))⟩, ⟨(some 66), (some (62, true)), (.bin .eql (.t 65) (.v (.d (.int .u8 252))))⟩, ⟨(some 67), none, (.pick (.t 62) (.t 66) (.v (.d (.bool false))))⟩, ⟨(some 68), none, (.mov (.t 67))⟩, ⟨(some 69), (some (68, true)), (.mov (.t 1))⟩, ⟨(some 70), (some (68, true)), (.idxA 1 (.t 69) (.v (.d (.int .i64 36))))⟩, ⟨(some 71), (some (68, true)), (.load false 1 (.t 70))⟩, ⟨(some 72), (some (68, true)), (.bin .eql (.t 71) (.v (.d (.int .u8 7))))⟩, ⟨(some 73), none, (.pick (.t 68) (.t 72) (.v (.d (.bool false))))⟩, ⟨(some 74), none, (.mov (.t 73))⟩, ⟨(some 75), (some (74, true)), (.mov (.t 1))⟩, ⟨(some 76), (some (74, true)), (.idxA 1 (.t 75) (.v (.d (.int .i64 37))))⟩, ⟨(some 77), (some (74, true)), (.load false 1 (.t 76))⟩, ⟨(some 78), (some (74, true)), (.bin .eql (.t 77) (.v (.d (.int .u8 7))))⟩, ⟨(some 79), none, (.pick (.t 74) (.t 78) (.v (.d (.bool false))))⟩, ⟨(some 80), none, (.mov (.t 79))⟩, ⟨(some 81), (some (80, true)), (.mov (.t 1))⟩, ⟨(some 82), (some (80, true)), (.idxA 1 (.t 81) (.v (.d (.int .i64 50))))⟩, ⟨(some 83), (some (80, true)), (.load false 1 (.t 82))⟩, ⟨(some 84), (some (80, true)), (.bin .eql (.t 83) (.v (.d (.int .u8 15))))⟩, ⟨(some 85), none, (.pick (.t 80) (.t 84) (.v (.d (.bool false))))⟩, ⟨(some 86), none, (.mov (.t 85))⟩, ⟨(some 87), (some (86, true)), (.mov (.t 1))⟩, ⟨(some 88), (some (86, true)), (.idxA 1 (.t 87) (.v (.d (.int .i64 51))))⟩, ⟨(some 89), (some (86, true)), (.load false 1 (.t 88))⟩, ⟨(some 90), (some (86, true)), (.bin .eql (.t 89) (.v (.d (.int .u8 0))))⟩, ⟨(some 91), none, (.pick (.t 86) (.t 90) (.v (.d (.bool false))))⟩, ⟨(some 92), none, (.mov (.t 91))⟩, ⟨(some 93), (some (92, true)), (.load true 41 (.t 3))⟩, ⟨(some 94), (some (92, true)), (.call (.v (.fn (.func 36) [] [])) [])⟩, ⟨(some 95), (some (92, true)), (.beq (.cells [(.i .i64), (.i .i64), (.i .i64), (.i .i64), (.i .i64), (.i .i64), (.i .i64), (.i .i64), (.i .i64), (.i .i64), (.i .i64), (.i .i64), .b, (.i .i64), (.i .i64), (.i .i64), .b, (.i .i64), (.i .i64), (.i .i64), .b, (.i .i64), (.i .i64), (.i .i64), .b, (.i .i64), (.i .i64), (.i .i64), .b, (.i .i64), (.i .i64), (.i .i64), .b, (.i .i64), (.i .i64), (.i .i64), .b, (.i .i64), (.i .i64), (.i .i64), .b]) false (.t 93) (.t 94))⟩, ⟨(some 96), none, (.pick (.t 92) (.t 95) (.v (.d (.bool false))))⟩, ⟨(some 97), none, (.mov (.t 96))⟩, ⟨(some 98), (some (97, true)), (.mov (.t 4))⟩, ⟨(some 99), (some (97, true)), (.bin .eql (.t 98) (.v (.d (.int .i64 0))))⟩, ⟨(some 100), none, (.pick (.t 97) (.t 99) (.v (.d (.bool false))))⟩, ⟨(some 101), none, (.mov (.t 100))⟩, ⟨(some 102), (some (101, true)), (.mov (.t 6))⟩, ⟨(some 103), (some (101, true)), (.bin .eql (.t 102) (.v (.d (.int .i64 1))))⟩, ⟨(some 104), none, (.pick (.t 101) (.t 103) (.v (.d (.bool false))))⟩, ⟨(some 105), none, (.mov (.t 104))⟩, ⟨(some 106), (some (105, true)), (.mov (.t 8))⟩, ⟨(some 107), (some (105, true)), (.bin .eql (.t 106) (.v (.d (.int .i64 3))))⟩, ⟨(some 108), none, (.pick (.t 105) (.t 107) (.v (.d (.bool false))))⟩, ⟨(some 109), none, (.mov (.t 108))⟩, ⟨(some 110), (some (109, true)), (.load true 41 (.t 3))⟩, ⟨(some 111), (some (109, true)), (.call (.v (.fn (.func 25) [] [])) [(.t 110)])⟩, ⟨(some 112), (some (109, true)), (.bin .eql (.t 111) (.v (.d (.int .i64 1))))⟩, ⟨(some 113), none, (.pick (.t 109) (.t 112) (.v (.d (.bool false))))⟩, ⟨(some 114), none, (.mov (.t 113))⟩, ⟨(some 115), (some (114, true)), (.load true 41 (.t 3))⟩, ⟨(some 116), (some (114, true)), (.call (.v (.fn (.func 23) [] [])) [(.t 115)])⟩, ⟨(some 117), none, (.pick (.t 114) (.t 116) (.v (.d (.bool false))))⟩, ⟨(some 0), none, (.mov (.t 117))⟩] [[], [], [], [], [], [], [], [], [], [], [], [], [], [], [], [], [], [], [], [], [], [], [], [], [], [], [], [], [], [], [], [], [], [], [], [], [], [], [], [], [], [], [], [], [], [], [], [], [], [], [], [], [], [], [], [], [], [], [57], [], [], [], [], [], [], [], [], [], [], [], [], [], [], [], [], [], [], [], [], [], [], [], []] [false, false, false, false, false, false, false, false, false, false, false, false, false, false, false, false, false, false, false, false, false, false, false, false, false, false, false, false, false, false, false, false, false, false, false, false, false, false, false, false, false, false, false, false, false, false, false, false, false, false, false, false, false, false, false, false, false, false, true, false, false, false, false, false, false, false, false, false, false, false, false, false, false, false, false, true, false, false, false, false, false, false, false]))))))
def F17 : CFunc := ⟨118, [(.tmp 0)], (.seq (.reg [] [⟨(some 0), none, (.mov (.v (.d (.bool false))))⟩]) (.cut [] [0] [0] S17_0 .ret))⟩
theorem c17 : cAt Try.prog 17 = some F17.er := by kernel_rfl
def L18_0 : C := (.reg [] [⟨(some 5), none, (.mov (.t 23))⟩])
def L18_1 : C := (.block 1 (.reg [] [⟨(some 24), none, (.load false 1 (.t 4))⟩, ⟨(some 25), none, (.mov (.t 5))⟩, ⟨(some 26), none, (.append 5 true 1 1 (.t 24) (.t 25))⟩, ⟨none, none, (.store 1 (.t 4) (.t 26))⟩]))
def S18_2 : C := (.seq1 (.reg [] [⟨(some 21), none, (.load true 41 (.t 1))⟩, ⟨(some 22), none, (.call (.v (.fn (.func 37) [] [])) [(.t 21)])⟩]) (.block 0 (.rfun 29 [4] (.t 22) [23] L18_0 L18_1)))
def F18 : CFunc := ⟨29, [(.tmp 2), (.tmp 3)], (.seq (.reg [] [⟨(some 1), none, (.box 55 true 41 (.t 0))⟩, ⟨(some 2), none, (.nsl 5 true 1)⟩, ⟨(some 3), none, (.mov (.v (.d (.int .i64 0))))⟩]) (.seq (.seq (.reg [] [⟨(some 6), none, (.load true 41 (.t 1))⟩, ⟨(some 7), none, (.call (.v (.fn (.func 23) [] [])) [(.t 6)])⟩, ⟨(some 8), none, (.unop .not (.t 7))⟩]) (.cond (.t 8) (.seq (.reg [] [⟨(some 2), none, (.nsl 5 true 1)⟩, ⟨(some 3), none, (.mov (.v (.d (.int .i64 1))))⟩]) .ret) .skip)) (.seq (.mix [⟨(some 9), none, (.load true 41 (.t 1))⟩, ⟨(some 10), none, (.call (.v (.fn (.func 25) [] [])) [(.t 9)])⟩, ⟨(some 11), none, (.conv (.int .u8) (.t 10))⟩, ⟨(some 12), none, (.bslice 5 true 1 2 [(.int .u8 0)] [(0, (.v (.d (.int .u8 90)))), (1, (.t 11))])⟩, ⟨(some 13), none, (.fieldA 0 (.t 1))⟩, ⟨(some 14), none, (.load false 1 (.t 13))⟩, ⟨(some 15), none, (.call (.v (.fn (.func 33) [] [])) [(.t 14)])⟩, ⟨(some 16), none, (.fieldA 1 (.t 1))⟩, ⟨(some 17), none, (.slarr 8 1 (.t 16) none none none)⟩, ⟨(some 18), none, (.call (.v (.fn (.func 34) [] [])) [(.t 17)])⟩, ⟨(some 19), none, (.bslice 37 false 1 3 [.nils] [(0, (.t 12)), (1, (.t 15)), (2, (.t 18))])⟩, ⟨(some 20), none, (.call (.v (.fn (.func 32) [] [])) [(.t 19)])⟩, ⟨(some 4), none, (.allocn 37 5 true 1)⟩, ⟨none, none, (.store 1 (.t 4) (.t 20))⟩] [[], [], [], [], [], [1, 3], [3], [], [], [3], [], [], [0, 1, 3, 5, 6, 9, 10, 11], []] [false, true, false, false, false, false, true, false, false, true, false, false, false, false]) (.cut [1, 2, 3, 4] [] [4] S18_2 (.seq (.reg [] [⟨(some 27), none, (.load false 1 (.t 4))⟩, ⟨(some 28), none, (.call (.v (.fn (.func 31) [] [])) [(.t 27)])⟩, ⟨(some 2), none, (.mov (.t 28))⟩, ⟨(some 3), none, (.mov (.v (.d (.int .i64 0))))⟩]) .ret)))))⟩
theorem c18 : cAt Try.prog 18 = some F18.er := by kernel_rfl
def L20_0 : C := (.seq (.seq (.reg [] [⟨(some 11), none, (.mov (.t 5))⟩, ⟨(some 12), none, (.mov (.t 0))⟩, ⟨(some 13), none, (.len (.t 12))⟩, ⟨(some 14), none, (.bin .lss (.t 11) (.t 13))⟩]) (.cond (.t 14) .skip (.exit 0))) (.seq (.block 1 (.seq (.reg [⟨(some 17), none, (.mov (.t 0))⟩, ⟨(some 18), none, (.mov (.t 5))⟩, ⟨(some 19), none, (.idxA 1 (.t 17) (.t 18))⟩, ⟨(some 20), none, (.load false 1 (.t 19))⟩, ⟨(some 21), none, (.mov (.t 1))⟩, ⟨(some 22), none, (.mov (.t 5))⟩, ⟨(some 23), none, (.idxA 1 (.t 21) (.t 22))⟩, ⟨(some 24), none, (.load false 1 (.t 23))⟩] [⟨(some 25), none, (.bin .neq (.t 20) (.t 24))⟩]) (.cond (.t 25) (.seq (.reg [] [⟨(some 4), none, (.mov (.v (.d (.bool false))))⟩]) .ret) .skip))) (.reg [] [⟨(some 15), none, (.mov (.t 5))⟩, ⟨(some 16), none, (.bin .add (.t 15) (.v (.d (.int .i64 1))))⟩, ⟨(some 5), none, (.mov (.t 16))⟩])))
def F20 : CFunc := ⟨26, [(.tmp 4)], (.seq (.reg [] [⟨(some 4), none, (.mov (.v (.d (.bool false))))⟩]) (.seq (.seq (.reg [] [⟨(some 6), none, (.mov (.t 0))⟩, ⟨(some 7), none, (.len (.t 6))⟩, ⟨(some 8), none, (.mov (.t 1))⟩, ⟨(some 9), none, (.len (.t 8))⟩, ⟨(some 10), none, (.bin .neq (.t 7) (.t 9))⟩]) (.cond (.t 10) (.seq (.reg [] [⟨(some 4), none, (.mov (.v (.d (.bool false))))⟩]) .ret) .skip)) (.seq (.seq (.reg [] [⟨(some 5), none, (.mov (.v (.d (.int .i64 0))))⟩]) (.block 0 (.loop [0, 1, 5] [4] L20_0))) (.seq (.reg [] [⟨(some 4), none, (.mov (.v (.d (.bool true))))⟩]) .ret))))⟩
theorem c20 : cAt Try.prog 20 = some F20.er := by kernel_rfl
def S21_0 : C := (.seq1 (.reg [] [⟨(some 12), none, (.mov (.t 0))⟩, ⟨(some 13), none, (.len (.t 12))⟩, ⟨(some 14), none, (.bin .neq (.t 13) (.v (.d (.int .i64 54))))⟩]) (.cond (.t 14) (.seq (.reg [] [⟨(some 15), none, (.build [(.int .i64 0), (.int .i64 0), (.int .i64 0), (.int .i64 0), (.int .i64 0), (.int .i64 0), (.int .i64 0), (.int .i64 0), (.int .i64 0), (.int .i64 0), (.int .i64 0), (.int .i64 0), (.bool false), (.int .i64 0), (.int .i64 0), (.int .i64 0), (.bool false), (.int .i64 0), (.int .i64 0), (.int .i64 0), (.bool false), (.int .i64 0), (.int .i64 0), (.int .i64 0), (.bool false), (.int .i64 0), (.int .i64 0), (.int .i64 0), (.bool false), (.int .i64 0), (.int .i64 0), (.int .i64 0), (.bool false), (.int .i64 0), (.int .i64 0), (.int .i64 0), (.bool false), (.int .i64 0), (.int .i64 0), (.int .i64 0), (.bool false)] [])⟩, ⟨none, none, (.store 41 (.t 2) (.t 15))⟩, ⟨(some 3), none, (.mov (.v (.d (.int .i64 3))))⟩]) .ret) .skip))
def S21_1 : C := (.reg [] [⟨(some 17), none, (.mov (.t 0))⟩, ⟨(some 18), none, (.slice 1 (.t 17) (some (.v (.d (.int .i64 2)))) (some (.v (.d (.int .i64 4)))) none)⟩, ⟨(some 19), none, (.call (.v (.fn (.func 42) [] [])) [(.t 18)])⟩, ⟨(some 16), none, (.mov (.t 19))⟩, ⟨(some 20), none, (.extract 0 (.t 16))⟩, ⟨(some 21), none, (.extract 1 (.t 16))⟩, ⟨(some 22), none, (.fieldA 0 (.t 4))⟩, ⟨none, none, (.store 1 (.t 22) (.t 20))⟩])
def S21_2 : C := (.seq (.reg [] [⟨(some 24), none, (.mov (.t 0))⟩, ⟨(some 25), none, (.slice 1 (.t 24) (some (.v (.d (.int .i64 4)))) (some (.v (.d (.int .i64 36)))) none)⟩, ⟨(some 26), none, (.call (.v (.fn (.func 43) [] [])) [(.t 25)])⟩, ⟨(some 23), none, (.mov (.t 26))⟩, ⟨(some 27), none, (.extract 0 (.t 23))⟩, ⟨(some 28), none, (.extract 1 (.t 23))⟩, ⟨(some 5), none, (.mov (.t 27))⟩, ⟨(some 6), none, (.mov (.t 28))⟩]) (.reg [] [⟨(some 29), none, (.mov (.t 5))⟩, ⟨(some 30), none, (.arrP 8 1 (.t 29))⟩, ⟨(some 31), none, (.load true 8 (.t 30))⟩, ⟨(some 32), none, (.fieldA 1 (.t 4))⟩, ⟨none, none, (.store 8 (.t 32) (.t 31))⟩]))
def L21_3 : C := (.seq (.reg [] [⟨(some 34), none, (.bin .lss (.t 33) (.v (.d (.int .i64 8))))⟩]) (.seq (.cond (.t 34) .skip (.exit 0)) (.seq (.block 1 (.seq (.reg [] [⟨(some 35), none, (.mov (.t 33))⟩, ⟨(some 7), none, (.mov (.t 35))⟩]) (.seq (.reg [] [⟨(some 37), none, (.mov (.t 0))⟩, ⟨(some 38), none, (.mov (.t 7))⟩, ⟨(some 39), none, (.bin .mul (.v (.d (.int .i64 2))) (.t 38))⟩, ⟨(some 40), none, (.bin .add (.v (.d (.int .i64 36))) (.t 39))⟩, ⟨(some 41), none, (.mov (.t 7))⟩, ⟨(some 42), none, (.bin .mul (.v (.d (.int .i64 2))) (.t 41))⟩, ⟨(some 43), none, (.bin .add (.v (.d (.int .i64 36))) (.t 42))⟩, ⟨(some 44), none, (.bin .add (.t 43) (.v (.d (.int .i64 2))))⟩, ⟨(some 45), none, (.slice 1 (.t 37) (some (.t 40)) (some (.t 44)) none)⟩, ⟨(some 46), none, (.call (.v (.fn (.func 42) [] [])) [(.t 45)])⟩, ⟨(some 36), none, (.mov (.t 46))⟩, ⟨(some 47), none, (.extract 0 (.t 36))⟩, ⟨(some 48), none, (.extract 1 (.t 36))⟩, ⟨(some 8), none, (.mov (.t 47))⟩, ⟨(some 9), none, (.mov (.t 48))⟩]) (.reg [] [⟨(some 50), none, (.mov (.t 7))⟩, ⟨(some 51), none, (.mov (.t 8))⟩, ⟨(some 52), none, (.call (.v (.fn (.func 44) [] [])) [(.t 51)])⟩, ⟨(some 49), none, (.mov (.t 52))⟩, ⟨(some 53), none, (.extract 0 (.t 49))⟩, ⟨(some 54), none, (.extract 1 (.t 49))⟩, ⟨(some 55), none, (.fieldA 9 (.t 4))⟩, ⟨(some 56), none, (.idxAA 8 4 (.t 55) (.t 50))⟩, ⟨none, none, (.store 4 (.t 56) (.t 53))⟩])))) (.reg [] [⟨(some 57), none, (.bin .add (.t 33) (.v (.d (.int .i64 1))))⟩, ⟨(some 33), none, (.mov (.t 57))⟩]))))
def S21_4 : C := (.seq1 (.reg [] [⟨(some 33), none, (.mov (.v (.d (.int .i64 0))))⟩]) (.block 0 (.loop [0, 2, 4, 33] [0, 2, 4] L21_3)))
def S21_5 : C := (.seq1 (.reg [] [⟨(some 59), none, (.load true 41 (.t 4))⟩, ⟨(some 60), none, (.call (.v (.fn (.func 18) [] [])) [(.t 59)])⟩, ⟨(some 58), none, (.mov (.t 60))⟩, ⟨(some 61), none, (.extract 0 (.t 58))⟩, ⟨(some 62), none, (.extract 1 (.t 58))⟩, ⟨(some 10), none, (.mov (.t 61))⟩, ⟨(some 11), none, (.mov (.t 62))⟩]) (.seq (.reg [] [⟨(some 63), none, (.mov (.t 11))⟩, ⟨(some 64), none, (.bin .neq (.t 63) (.v (.d (.int .i64 0))))⟩, ⟨(some 65), none, (.mov (.t 64))⟩, ⟨(some 66), (some (65, false)), (.mov (.t 10))⟩, ⟨(some 67), (some (65, false)), (.mov (.t 0))⟩, ⟨(some 68), (some (65, false)), (.call (.v (.fn (.func 45) [] [])) [(.t 66), (.t 67)])⟩, ⟨(some 69), (some (65, false)), (.unop .not (.t 68))⟩, ⟨(some 70), none, (.pick (.t 65) (.v (.d (.bool true))) (.t 69))⟩]) (.cond (.t 70) (.seq (.reg [] [⟨(some 71), none, (.build [(.int .i64 0), (.int .i64 0), (.int .i64 0), (.int .i64 0), (.int .i64 0), (.int .i64 0), (.int .i64 0), (.int .i64 0), (.int .i64 0), (.int .i64 0), (.int .i64 0), (.int .i64 0), (.bool false), (.int .i64 0), (.int .i64 0), (.int .i64 0), (.bool false), (.int .i64 0), (.int .i64 0), (.int .i64 0), (.bool false), (.int .i64 0), (.int .i64 0), (.int .i64 0), (.bool false), (.int .i64 0), (.int .i64 0), (.int .i64 0), (.bool false), (.int .i64 0), (.int .i64 0), (.int .i64 0), (.bool false), (.int .i64 0), (.int .i64 0), (.int .i64 0), (.bool false), (.int .i64 0), (.int .i64 0), (.int .i64 0), (.bool false)] [])⟩, ⟨none, none, (.store 41 (.t 2) (.t 71))⟩, ⟨(some 3), none, (.mov (.v (.d (.int .i64 3))))⟩]) .ret) .skip)))
def F21 : CFunc := ⟨73, [(.cell true 41 2), (.tmp 3)], (.seq (.reg [] [⟨(some 2), none, (.alloc 55 [(.int .i64 0), (.int .i64 0), (.int .i64 0), (.int .i64 0), (.int .i64 0), (.int .i64 0), (.int .i64 0), (.int .i64 0), (.int .i64 0), (.int .i64 0), (.int .i64 0), (.int .i64 0), (.bool false), (.int .i64 0), (.int .i64 0), (.int .i64 0), (.bool false), (.int .i64 0), (.int .i64 0), (.int .i64 0), (.bool false), (.int .i64 0), (.int .i64 0), (.int .i64 0), (.bool false), (.int .i64 0), (.int .i64 0), (.int .i64 0), (.bool false), (.int .i64 0), (.int .i64 0), (.int .i64 0), (.bool false), (.int .i64 0), (.int .i64 0), (.int .i64 0), (.bool false), (.int .i64 0), (.int .i64 0), (.int .i64 0), (.bool false)] true)⟩, ⟨(some 3), none, (.mov (.v (.d (.int .i64 0))))⟩]) (.cut [0, 2] [2, 3] [0, 2] S21_0 (.seq (.reg [] [⟨(some 4), none, (.alloc 55 [(.int .i64 0), (.int .i64 0), (.int .i64 0), (.int .i64 0), (.int .i64 0), (.int .i64 0), (.int .i64 0), (.int .i64 0), (.int .i64 0), (.int .i64 0), (.int .i64 0), (.int .i64 0), (.bool false), (.int .i64 0), (.int .i64 0), (.int .i64 0), (.bool false), (.int .i64 0), (.int .i64 0), (.int .i64 0), (.bool false), (.int .i64 0), (.int .i64 0), (.int .i64 0), (.bool false), (.int .i64 0), (.int .i64 0), (.int .i64 0), (.bool false), (.int .i64 0), (.int .i64 0), (.int .i64 0), (.bool false), (.int .i64 0), (.int .i64 0), (.int .i64 0), (.bool false), (.int .i64 0), (.int .i64 0), (.int .i64 0), (.bool false)] true)⟩]) (.cut [0, 2, 4] [] [0, 2, 4] S21_1 (.cut [0, 2, 4] [] [0, 2, 4] S21_2 (.cut [0, 2, 4] [] [0, 2, 4] S21_4 (.cut [0, 2, 4] [2, 3] [2, 4] S21_5 (.seq (.reg [] [⟨(some 72), none, (.load true 41 (.t 4))⟩, ⟨none, none, (.store 41 (.t 2) (.t 72))⟩, ⟨(some 3), none, (.mov (.v (.d (.int .i64 0))))⟩]) .ret))))))))⟩
theorem c21 : cAt Try.prog 21 = some F21.er := by kernel_rfl
def F23 : CFunc := ⟨27, [(.tmp 2)], (.seq (.reg [] [⟨(some 1), none, (.box 55 true 41 (.t 0))⟩, ⟨(some 2), none, (.mov (.v (.d (.bool false))))⟩]) (.seq (.reg [] [⟨(some 3), none, (.mov (.v (.fn (.func 50) [] [])))⟩]) (.seq (.reg [] [⟨(some 4), none, (.mov (.v (.fn (.func 51) [] [])))⟩]) (.seq (.reg [] [⟨(some 5), none, (.fieldA 0 (.t 1))⟩, ⟨(some 6), none, (.load false 1 (.t 5))⟩, ⟨(some 7), none, (.bin .geq (.t 6) (.v (.d (.int .i64 0))))⟩, ⟨(some 8), none, (.mov (.t 7))⟩, ⟨(some 9), (some (8, true)), (.fieldA 0 (.t 1))⟩, ⟨(some 10), (some (8, true)), (.load false 1 (.t 9))⟩, ⟨(some 11), (some (8, true)), (.bin .lss (.t 10) (.v (.d (.int .i64 65536))))⟩, ⟨(some 12), none, (.pick (.t 8) (.t 11) (.v (.d (.bool false))))⟩, ⟨(some 13), none, (.mov (.t 12))⟩, ⟨(some 14), (some (13, true)), (.fieldA 1 (.t 1))⟩, ⟨(some 15), (some (13, true)), (.slarr 8 1 (.t 14) none none none)⟩, ⟨(some 16), (some (13, true)), (.mov (.t 3))⟩, ⟨(some 17), (some (13, true)), (.call (.v (.fn (.func 53) [] [])) [(.t 15), (.t 16)])⟩, ⟨(some 18), (some (13, true)), (.unop .not (.t 17))⟩, ⟨(some 19), none, (.pick (.t 13) (.t 18) (.v (.d (.bool false))))⟩, ⟨(some 20), none, (.mov (.t 19))⟩, ⟨(some 21), (some (20, true)), (.fieldA 9 (.t 1))⟩, ⟨(some 22), (some (20, true)), (.slarr 8 4 (.t 21) none none none)⟩, ⟨(some 23), (some (20, true)), (.mov (.t 4))⟩, ⟨(some 24), (some (20, true)), (.call (.v (.fn (.func 54) [] [])) [(.t 22), (.t 23)])⟩, ⟨(some 25), (some (20, true)), (.unop .not (.t 24))⟩, ⟨(some 26), none, (.pick (.t 20) (.t 25) (.v (.d (.bool false))))⟩, ⟨(some 2), none, (.mov (.t 26))⟩]) .ret))))⟩
theorem c23 : cAt Try.prog 23 = some F23.er := by kernel_rfl
def L25_0 : C := (.seq (.reg [] [⟨(some 9), none, (.bin .lss (.t 8) (.v (.d (.int .i64 8))))⟩]) (.seq (.cond (.t 9) .skip (.exit 0)) (.seq (.block 1 (.seq (.reg [] [⟨(some 10), none, (.idx true 8 4 (.t 7) (.t 8))⟩, ⟨(some 5), none, (.alloc 52 [(.int .i64 0), (.int .i64 0), (.int .i64 0), (.bool false)] true)⟩, ⟨none, none, (.store 4 (.t 5) (.t 10))⟩]) (.seq (.reg [] [⟨(some 11), none, (.fieldA 3 (.t 5))⟩, ⟨(some 12), none, (.load false 1 (.t 11))⟩]) (.cond (.t 12) (.reg [] [⟨(some 13), none, (.mov (.t 3))⟩, ⟨(some 14), none, (.bin .add (.t 13) (.v (.d (.int .i64 1))))⟩, ⟨(some 3), none, (.mov (.t 14))⟩]) .skip)))) (.reg [] [⟨(some 15), none, (.bin .add (.t 8) (.v (.d (.int .i64 1))))⟩, ⟨(some 8), none, (.mov (.t 15))⟩]))))
def F25 : CFunc := ⟨17, [(.tmp 2)], (.seq (.reg [] [⟨(some 1), none, (.box 55 true 41 (.t 0))⟩, ⟨(some 2), none, (.mov (.v (.d (.int .i64 0))))⟩]) (.seq (.reg [] [⟨(some 3), none, (.mov (.v (.d (.int .i64 0))))⟩]) (.seq (.seq (.reg [] [⟨(some 6), none, (.fieldA 9 (.t 1))⟩, ⟨(some 7), none, (.load true 32 (.t 6))⟩, ⟨(some 8), none, (.mov (.v (.d (.int .i64 0))))⟩]) (.block 0 (.loop [3, 7, 8] [3] L25_0))) (.seq (.reg [] [⟨(some 16), none, (.mov (.t 3))⟩, ⟨(some 2), none, (.mov (.t 16))⟩]) .ret))))⟩
theorem c25 : cAt Try.prog 25 = some F25.er := by kernel_rfl
def F31 : CFunc := ⟨15, [(.tmp 2)], (.seq (.reg [] [⟨(some 2), none, (.nsl 5 true 1)⟩]) (.seq (.reg [] [⟨(some 4), none, (.mov (.t 0))⟩, ⟨(some 5), none, (.call (.v (.fn (.func 58) [] [])) [(.t 4)])⟩, ⟨(some 3), none, (.mov (.t 5))⟩]) (.seq (.reg [] [⟨(some 6), none, (.mov (.t 0))⟩, ⟨(some 7), none, (.call (.v (.fn (.func 59) [] [])) [(.t 6)])⟩, ⟨(some 8), none, (.mov (.t 3))⟩, ⟨(some 9), none, (.bin .shr (.t 8) (.v (.d (.int .u64 8))))⟩, ⟨(some 10), none, (.conv (.int .u8) (.t 9))⟩, ⟨(some 11), none, (.mov (.t 3))⟩, ⟨(some 12), none, (.conv (.int .u8) (.t 11))⟩, ⟨(some 13), none, (.bslice 5 true 1 2 [(.int .u8 0)] [(0, (.t 10)), (1, (.t 12))])⟩, ⟨(some 14), none, (.append 5 true 1 1 (.t 7) (.t 13))⟩, ⟨(some 2), none, (.mov (.t 14))⟩]) .ret)))⟩
theorem c31 : cAt Try.prog 31 = some F31.er := by kernel_rfl
def L32_0 : C := (.seq (.reg [] [⟨(some 12), none, (.bin .lss (.t 11) (.t 10))⟩]) (.seq (.cond (.t 12) .skip (.exit 0)) (.seq (.block 1 (.seq (.reg [] [⟨(some 13), none, (.idxA 1 (.t 9) (.t 11))⟩, ⟨(some 14), none, (.load false 1 (.t 13))⟩, ⟨(some 5), none, (.mov (.t 14))⟩]) (.seq (.reg [] [⟨(some 15), none, (.mov (.t 3))⟩, ⟨(some 16), none, (.mov (.t 5))⟩, ⟨(some 17), none, (.len (.t 16))⟩, ⟨(some 18), none, (.bin .add (.t 15) (.t 17))⟩, ⟨(some 3), none, (.mov (.t 18))⟩]) (.seq (.reg [] [⟨(some 19), none, (.mov (.t 3))⟩, ⟨(some 20), none, (.bin .lss (.t 19) (.v (.d (.int .i64 0))))⟩]) (.cond (.t 20) (.reg [] [⟨(some 21), none, (.mkif 9 (.v (.d (.str ⟨#[108, 101, 110, 32, 111, 117, 116, 32, 111, 102, 32, 114, 97, 110, 103, 101]⟩))))⟩, ⟨none, none, (.chk 1 (.v (.ptr 0 1 0 0)) 1 (.v (.ptr 0 1 0 0)))⟩]) .skip))))) (.reg [] [⟨(some 22), none, (.bin .add (.t 11) (.v (.d (.int .i64 1))))⟩, ⟨(some 11), none, (.mov (.t 22))⟩]))))
def S32_1 : C := (.seq1 (.reg [] [⟨(some 9), none, (.mov (.t 0))⟩, ⟨(some 10), none, (.len (.t 9))⟩, ⟨(some 11), none, (.mov (.v (.d (.int .i64 0))))⟩]) (.block 0 (.loop [0, 3, 9, 10, 11] [0, 3] L32_0)))
def L32_2 : C := (.seq (.reg [] [⟨(some 28), none, (.bin .lss (.t 27) (.t 26))⟩]) (.seq (.cond (.t 28) .skip (.exit 2)) (.seq (.block 3 (.seq (.reg [] [⟨(some 29), none, (.idxA 1 (.t 25) (.t 27))⟩, ⟨(some 30), none, (.load false 1 (.t 29))⟩, ⟨(some 8), none, (.mov (.t 30))⟩]) (.reg [] [⟨(some 31), none, (.mov (.t 6))⟩, ⟨(some 32), none, (.mov (.t 8))⟩, ⟨(some 33), none, (.append 5 true 1 1 (.t 31) (.t 32))⟩, ⟨(some 6), none, (.mov (.t 33))⟩]))) (.reg [] [⟨(some 34), none, (.bin .add (.t 27) (.v (.d (.int .i64 1))))⟩, ⟨(some 27), none, (.mov (.t 34))⟩]))))
def F32 : CFunc := ⟨36, [(.tmp 2)], (.seq (.reg [] [⟨(some 2), none, (.nsl 5 true 1)⟩]) (.seq (.reg [] [⟨(some 3), none, (.mov (.v (.d (.int .i64 0))))⟩]) (.cut [0, 3] [] [0, 3] S32_1 (.seq (.reg [] [⟨(some 23), none, (.mov (.t 3))⟩, ⟨(some 24), none, (.call (.v (.fn (.func 60) [] [])) [(.v (.d .nils)), (.t 23)])⟩, ⟨(some 6), none, (.mov (.t 24))⟩]) (.seq (.seq (.reg [] [⟨(some 25), none, (.mov (.t 0))⟩, ⟨(some 26), none, (.len (.t 25))⟩, ⟨(some 27), none, (.mov (.v (.d (.int .i64 0))))⟩]) (.block 2 (.loop [6, 25, 26, 27] [6] L32_2))) (.seq (.reg [] [⟨(some 35), none, (.mov (.t 6))⟩, ⟨(some 2), none, (.mov (.t 35))⟩]) .ret))))))⟩
theorem c32 : cAt Try.prog 32 = some F32.er := by kernel_rfl
def F33 : CFunc := ⟨12, [(.tmp 2)], (.seq (.reg [] [⟨(some 2), none, (.nsl 5 true 1)⟩]) (.seq (.seq (.reg [] [⟨(some 3), none, (.mov (.t 0))⟩, ⟨(some 4), none, (.call (.v (.fn (.func 35) [] [])) [(.t 3)])⟩, ⟨(some 5), none, (.unop .not (.t 4))⟩]) (.cond (.t 5) (.seq (.reg [] [⟨(some 2), none, (.nsl 5 true 1)⟩]) .ret) .skip)) (.seq (.reg [] [⟨(some 6), none, (.mov (.t 0))⟩, ⟨(some 7), none, (.bin .shr (.t 6) (.v (.d (.int .u64 8))))⟩, ⟨(some 8), none, (.conv (.int .u8) (.t 7))⟩, ⟨(some 9), none, (.mov (.t 0))⟩, ⟨(some 10), none, (.conv (.int .u8) (.t 9))⟩, ⟨(some 11), none, (.bslice 5 true 1 2 [(.int .u8 0)] [(0, (.t 8)), (1, (.t 10))])⟩, ⟨(some 2), none, (.mov (.t 11))⟩]) .ret)))⟩
theorem c33 : cAt Try.prog 33 = some F33.er := by kernel_rfl
def L34_0 : C := (.seq (.reg [] [⟨(some 10), none, (.bin .lss (.t 9) (.t 8))⟩]) (.seq (.cond (.t 10) .skip (.exit 0)) (.seq (.block 1 (.seq (.reg [] [⟨(some 11), none, (.idxA 1 (.t 7) (.t 9))⟩, ⟨(some 12), none, (.load false 1 (.t 11))⟩, ⟨(some 5), none, (.mov (.t 12))⟩]) (.seq (.reg [] [⟨(some 13), none, (.mov (.t 5))⟩, ⟨(some 14), none, (.call (.v (.fn (.func 61) [] [])) [(.t 13)])⟩, ⟨(some 6), none, (.mov (.t 14))⟩]) (.seq (.seq (.reg [] [⟨(some 15), none, (.mov (.t 6))⟩, ⟨(some 16), none, (.beq .slc false (.t 15) (.v (.d .nils)))⟩]) (.cond (.t 16) (.seq (.reg [] [⟨(some 2), none, (.nsl 5 true 1)⟩]) .ret) .skip)) (.reg [] [⟨(some 17), none, (.mov (.t 3))⟩, ⟨(some 18), none, (.mov (.t 6))⟩, ⟨(some 19), none, (.append 5 true 1 1 (.t 17) (.t 18))⟩, ⟨(some 3), none, (.mov (.t 19))⟩]))))) (.reg [] [⟨(some 20), none, (.bin .add (.t 9) (.v (.d (.int .i64 1))))⟩, ⟨(some 9), none, (.mov (.t 20))⟩]))))
def F34 : CFunc := ⟨22, [(.tmp 2)], (.seq (.reg [] [⟨(some 2), none, (.nsl 5 true 1)⟩]) (.seq (.reg [] [⟨(some 3), none, (.nsl 5 true 1)⟩]) (.seq (.seq (.reg [] [⟨(some 7), none, (.mov (.t 0))⟩, ⟨(some 8), none, (.len (.t 7))⟩, ⟨(some 9), none, (.mov (.v (.d (.int .i64 0))))⟩]) (.block 0 (.loop [3, 7, 8, 9] [2, 3] L34_0))) (.seq (.reg [] [⟨(some 21), none, (.mov (.t 3))⟩, ⟨(some 2), none, (.mov (.t 21))⟩]) .ret))))⟩
theorem c34 : cAt Try.prog 34 = some F34.er := by kernel_rfl
def F35 : CFunc := ⟨9, [(.tmp 2)], (.seq (.reg [] [⟨(some 2), none, (.mov (.v (.d (.bool false))))⟩]) (.seq (.reg [] [⟨(some 3), none, (.mov (.t 0))⟩, ⟨(some 4), none, (.bin .geq (.t 3) (.v (.d (.int .i64 0))))⟩, ⟨(some 5), none, (.mov (.t 4))⟩, ⟨(some 6), (some (5, true)), (.mov (.t 0))⟩, ⟨(some 7), (some (5, true)), (.bin .lss (.t 6) (.v (.d (.int .i64 65536))))⟩, ⟨(some 8), none, (.pick (.t 5) (.t 7) (.v (.d (.bool false))))⟩, ⟨(some 2), none, (.mov (.t 8))⟩]) .ret))⟩
theorem c35 : cAt Try.prog 35 = some F35.er := by kernel_rfl
def L36_0 : C := (.seq (.seq (.reg [] [⟨(some 4), none, (.mov (.t 2))⟩, ⟨(some 5), none, (.bin .lss (.t 4) (.v (.d (.int .i64 8))))⟩]) (.cond (.t 5) .skip (.exit 0))) (.seq (.block 1 (.seq (.reg [] [⟨(some 8), none, (.mov (.t 2))⟩, ⟨(some 9), none, (.mov (.t 2))⟩, ⟨(some 10), none, (.bin .sub (.t 9) (.v (.d (.int .i64 4))))⟩, ⟨(some 11), none, (.fieldA 1 (.t 1))⟩, ⟨(some 12), none, (.idxAA 8 1 (.t 11) (.t 8))⟩, ⟨none, none, (.store 1 (.t 12) (.t 10))⟩]) (.reg [] [⟨(some 13), none, (.mov (.t 2))⟩, ⟨(some 14), none, (.mov (.t 2))⟩, ⟨(some 15), none, (.bin .sub (.v (.d (.int .i64 7))) (.t 14))⟩, ⟨(some 16), none, (.mov (.t 2))⟩, ⟨(some 17), none, (.bin .eql (.t 16) (.v (.d (.int .i64 7))))⟩, ⟨(some 18), none, (.build [(.int .i64 0), (.int .i64 0), (.int .i64 0), (.bool false)] [(0, (1, (.t 15))), (2, (1, (.v (.d (.int .i64 (-1)))))), (3, (1, (.t 17)))])⟩, ⟨(some 19), none, (.fieldA 9 (.t 1))⟩, ⟨(some 20), none, (.idxAA 8 4 (.t 19) (.t 13))⟩, ⟨none, none, (.store 4 (.t 20) (.t 18))⟩]))) (.reg [] [⟨(some 6), none, (.mov (.t 2))⟩, ⟨(some 7), none, (.bin .add (.t 6) (.v (.d (.int .i64 1))))⟩, ⟨(some 2), none, (.mov (.t 7))⟩])))
def F36 : CFunc := ⟨22, [(.cell true 41 0)], (.seq (.reg [] [⟨(some 0), none, (.alloc 55 [(.int .i64 0), (.int .i64 0), (.int .i64 0), (.int .i64 0), (.int .i64 0), (.int .i64 0), (.int .i64 0), (.int .i64 0), (.int .i64 0), (.int .i64 0), (.int .i64 0), (.int .i64 0), (.bool false), (.int .i64 0), (.int .i64 0), (.int .i64 0), (.bool false), (.int .i64 0), (.int .i64 0), (.int .i64 0), (.bool false), (.int .i64 0), (.int .i64 0), (.int .i64 0), (.bool false), (.int .i64 0), (.int .i64 0), (.int .i64 0), (.bool false), (.int .i64 0), (.int .i64 0), (.int .i64 0), (.bool false), (.int .i64 0), (.int .i64 0), (.int .i64 0), (.bool false), (.int .i64 0), (.int .i64 0), (.int .i64 0), (.bool false)] true)⟩]) (.seq (.reg [] [⟨(some 3), none, (.build [(.int .i64 0), (.int .i64 0), (.int .i64 0), (.int .i64 0), (.int .i64 0), (.int .i64 0), (.int .i64 0), (.int .i64 0), (.int .i64 0), (.int .i64 0), (.int .i64 0), (.int .i64 0), (.bool false), (.int .i64 0), (.int .i64 0), (.int .i64 0), (.bool false), (.int .i64 0), (.int .i64 0), (.int .i64 0), (.bool false), (.int .i64 0), (.int .i64 0), (.int .i64 0), (.bool false), (.int .i64 0), (.int .i64 0), (.int .i64 0), (.bool false), (.int .i64 0), (.int .i64 0), (.int .i64 0), (.bool false), (.int .i64 0), (.int .i64 0), (.int .i64 0), (.bool false), (.int .i64 0), (.int .i64 0), (.int .i64 0), (.bool false)] [(0, (1, (.v (.d (.int .i64 515)))))])⟩, ⟨(some 1), none, (.alloc 55 [(.int .i64 0), (.int .i64 0), (.int .i64 0), (.int .i64 0), (.int .i64 0), (.int .i64 0), (.int .i64 0), (.int .i64 0), (.int .i64 0), (.int .i64 0), (.int .i64 0), (.int .i64 0), (.bool false), (.int .i64 0), (.int .i64 0), (.int .i64 0), (.bool false), (.int .i64 0), (.int .i64 0), (.int .i64 0), (.bool false), (.int .i64 0), (.int .i64 0), (.int .i64 0), (.bool false), (.int .i64 0), (.int .i64 0), (.int .i64 0), (.bool false), (.int .i64 0), (.int .i64 0), (.int .i64 0), (.bool false), (.int .i64 0), (.int .i64 0), (.int .i64 0), (.bool false), (.int .i64 0), (.int .i64 0), (.int .i64 0), (.bool false)] true)⟩, ⟨none, none, (.store 41 (.t 1) (.t 3))⟩]) (.seq (.seq (.reg [] [⟨(some 2), none, (.mov (.v (.d (.int .i64 0))))⟩]) (.block 0 (.loop [0, 1, 2] [0, 1] L36_0))) (.seq (.reg [] [⟨(some 21), none, (.load true 41 (.t 1))⟩, ⟨none, none, (.store 41 (.t 0) (.t 21))⟩]) .ret))))⟩
theorem c36 : cAt Try.prog 36 = some F36.er := by kernel_rfl
def F37 : CFunc := ⟨4, [(.tmp 2)], (.seq (.reg [] [⟨(some 1), none, (.box 55 true 41 (.t 0))⟩, ⟨(some 2), none, (.mov (.v (.d .nilf)))⟩]) (.seq (.reg [] [⟨(some 3), none, (.mkfn (.func 62) [] [(.t 1)])⟩, ⟨(some 2), none, (.mov (.t 3))⟩]) .ret))⟩
theorem c37 : cAt Try.prog 37 = some F37.er := by kernel_rfl
def F42 : CFunc := ⟨17, [(.tmp 2), (.tmp 3)], (.seq (.reg [] [⟨(some 2), none, (.mov (.v (.d (.int .i64 0))))⟩, ⟨(some 3), none, (.mov (.v (.d (.bool false))))⟩]) (.seq (.seq (.reg [] [⟨(some 4), none, (.mov (.t 0))⟩, ⟨(some 5), none, (.len (.t 4))⟩, ⟨(some 6), none, (.bin .neq (.t 5) (.v (.d (.int .i64 2))))⟩]) (.cond (.t 6) (.seq (.reg [] [⟨(some 2), none, (.mov (.v (.d (.int .i64 0))))⟩, ⟨(some 3), none, (.mov (.v (.d (.bool false))))⟩]) .ret) .skip)) (.seq (.reg [⟨(some 7), none, (.mov (.t 0))⟩, ⟨(some 8), none, (.idxA 1 (.t 7) (.v (.d (.int .i64 0))))⟩, ⟨(some 9), none, (.load false 1 (.t 8))⟩, ⟨(some 10), none, (.conv (.int .i64) (.t 9))⟩, ⟨(some 11), none, (.bin .shl (.t 10) (.v (.d (.int .u64 8))))⟩, ⟨(some 12), none, (.mov (.t 0))⟩, ⟨(some 13), none, (.idxA 1 (.t 12) (.v (.d (.int .i64 1))))⟩, ⟨(some 14), none, (.load false 1 (.t 13))⟩, ⟨(some 15), none, (.conv (.int .i64) (.t 14))⟩] [⟨(some 16), none, (.bin .or (.t 11) (.t 15))⟩, ⟨(some 2), none, (.mov (.t 16))⟩, ⟨(some 3), none, (.mov (.v (.d (.bool true))))⟩]) .ret)))⟩
theorem c42 : cAt Try.prog 42 = some F42.er := by kernel_rfl
def L43_0 : C := (.reg [] [⟨(some 5), none, (.mov (.t 14))⟩])
def L43_1 : C := (.block 1 (.seq (.reg [] [⟨(some 16), none, (.mov (.t 5))⟩, ⟨(some 17), none, (.call (.v (.fn (.func 66) [] [])) [(.t 16)])⟩, ⟨(some 15), none, (.mov (.t 17))⟩, ⟨(some 18), none, (.extract 0 (.t 15))⟩, ⟨(some 19), none, (.extract 1 (.t 15))⟩, ⟨(some 6), none, (.mov (.t 18))⟩, ⟨(some 7), none, (.mov (.t 19))⟩]) (.reg [] [⟨(some 20), none, (.load false 1 (.t 4))⟩, ⟨(some 21), none, (.mov (.t 6))⟩, ⟨(some 22), none, (.bslice 3 true 1 1 [(.int .i64 0)] [(0, (.t 21))])⟩, ⟨(some 23), none, (.append 3 true 1 8 (.t 20) (.t 22))⟩, ⟨none, none, (.store 1 (.t 4) (.t 23))⟩])))
def F43 : CFunc := ⟨25, [(.tmp 2), (.tmp 3)], (.seq (.reg [] [⟨(some 2), none, (.nsl 3 true 1)⟩, ⟨(some 3), none, (.mov (.v (.d (.bool false))))⟩]) (.seq (.seq (.reg [] [⟨(some 8), none, (.mov (.t 0))⟩, ⟨(some 9), none, (.len (.t 8))⟩, ⟨(some 10), none, (.bin .rem (.t 9) (.v (.d (.int .i64 4))))⟩, ⟨(some 11), none, (.bin .neq (.t 10) (.v (.d (.int .i64 0))))⟩]) (.cond (.t 11) (.seq (.reg [] [⟨(some 2), none, (.nsl 3 true 1)⟩, ⟨(some 3), none, (.mov (.v (.d (.bool false))))⟩]) .ret) .skip)) (.seq (.reg [] [⟨(some 4), none, (.allocn 74 3 true 1)⟩]) (.seq (.seq (.reg [] [⟨(some 12), none, (.mov (.t 0))⟩, ⟨(some 13), none, (.call (.v (.fn (.func 65) [] [])) [(.t 12)])⟩]) (.block 0 (.rfun 25 [4] (.t 13) [14] L43_0 L43_1))) (.seq (.reg [] [⟨(some 24), none, (.load false 1 (.t 4))⟩, ⟨(some 2), none, (.mov (.t 24))⟩, ⟨(some 3), none, (.mov (.v (.d (.bool true))))⟩]) .ret)))))⟩
theorem c43 : cAt Try.prog 43 = some F43.er := by kernel_rfl
def F44 : CFunc := ⟨32, [(.cell true 4 2), (.tmp 3)], (.seq (.reg [] [⟨(some 2), none, (.alloc 52 [(.int .i64 0), (.int .i64 0), (.int .i64 0), (.bool false)] true)⟩, ⟨(some 3), none, (.mov (.v (.d (.int .i64 0))))⟩]) (.seq (.seq (.reg [] [⟨(some 5), none, (.mov (.t 0))⟩, ⟨(some 6), none, (.bin .lss (.t 5) (.v (.d (.int .i64 0))))⟩, ⟨(some 7), none, (.mov (.t 6))⟩, ⟨(some 8), (some (7, false)), (.mov (.t 0))⟩, ⟨(some 9), (some (7, false)), (.bin .geq (.t 8) (.v (.d (.int .i64 4096))))⟩, ⟨(some 10), none, (.pick (.t 7) (.v (.d (.bool true))) (.t 9))⟩]) (.cond (.t 10) (.seq (.reg [] [⟨(some 11), none, (.build [(.int .i64 0), (.int .i64 0), (.int .i64 0), (.bool false)] [])⟩, ⟨none, none, (.store 4 (.t 2) (.t 11))⟩, ⟨(some 3), none, (.mov (.v (.d (.int .i64 3))))⟩]) .ret) .skip)) (.seq (.reg [] [⟨(some 12), none, (.mov (.t 0))⟩, ⟨(some 13), none, (.bin .and (.t 12) (.v (.d (.int .i64 15))))⟩, ⟨(some 14), none, (.mov (.t 0))⟩, ⟨(some 15), none, (.bin .shr (.t 14) (.v (.d (.int .u64 4))))⟩, ⟨(some 16), none, (.bin .and (.t 15) (.v (.d (.int .i64 15))))⟩, ⟨(some 17), none, (.mov (.t 0))⟩, ⟨(some 18), none, (.bin .shr (.t 17) (.v (.d (.int .u64 8))))⟩, ⟨(some 19), none, (.bin .and (.t 18) (.v (.d (.int .i64 7))))⟩, ⟨(some 20), none, (.mov (.t 0))⟩, ⟨(some 21), none, (.call (.v (.fn (.func 67) [] [])) [(.t 20), (.v (.d (.int .i64 11)))])⟩, ⟨(some 22), none, (.build [(.int .i64 0), (.int .i64 0), (.int .i64 0), (.bool false)] [(0, (1, (.t 13))), (1, (1, (.t 16))), (2, (1, (.t 19))), (3, (1, (.t 21)))])⟩, ⟨(some 4), none, (.alloc 52 [(.int .i64 0), (.int .i64 0), (.int .i64 0), (.bool false)] true)⟩, ⟨none, none, (.store 4 (.t 4) (.t 22))⟩]) (.seq (.seq (.reg [] [⟨(some 23), none, (.fieldA 2 (.t 4))⟩, ⟨(some 24), none, (.load false 1 (.t 23))⟩, ⟨(some 25), none, (.bin .eql (.t 24) (.v (.d (.int .i64 7))))⟩]) (.cond (.t 25) (.reg [] [⟨(some 26), none, (.fieldA 2 (.t 4))⟩, ⟨none, none, (.store 1 (.t 26) (.v (.d (.int .i64 (-1)))))⟩]) .skip)) (.seq (.seq (.reg [] [⟨(some 27), none, (.load true 4 (.t 4))⟩, ⟨(some 28), none, (.call (.v (.fn (.func 52) [] [])) [(.t 27)])⟩, ⟨(some 29), none, (.unop .not (.t 28))⟩]) (.cond (.t 29) (.seq (.reg [] [⟨(some 30), none, (.build [(.int .i64 0), (.int .i64 0), (.int .i64 0), (.bool false)] [])⟩, ⟨none, none, (.store 4 (.t 2) (.t 30))⟩, ⟨(some 3), none, (.mov (.v (.d (.int .i64 3))))⟩]) .ret) .skip)) (.seq (.reg [] [⟨(some 31), none, (.load true 4 (.t 4))⟩, ⟨none, none, (.store 4 (.t 2) (.t 31))⟩, ⟨(some 3), none, (.mov (.v (.d (.int .i64 0))))⟩]) .ret))))))⟩
theorem c44 : cAt Try.prog 44 = some F44.er := by kernel_rfl
def L45_0 : C := (.seq (.reg [] [⟨(some 14), none, (.bin .lss (.t 13) (.t 12))⟩]) (.seq (.cond (.t 14) .skip (.exit 0)) (.seq (.block 1 (.seq (.reg [] [⟨(some 15), none, (.mov (.t 13))⟩, ⟨(some 5), none, (.mov (.t 15))⟩]) (.seq (.reg [⟨(some 16), none, (.mov (.t 0))⟩, ⟨(some 17), none, (.mov (.t 5))⟩, ⟨(some 18), none, (.idxA 1 (.t 16) (.t 17))⟩, ⟨(some 19), none, (.load false 1 (.t 18))⟩, ⟨(some 20), none, (.mov (.t 1))⟩, ⟨(some 21), none, (.mov (.t 5))⟩, ⟨(some 22), none, (.idxA 1 (.t 20) (.t 21))⟩, ⟨(some 23), none, (.load false 1 (.t 22))⟩] [⟨(some 24), none, (.bin .neq (.t 19) (.t 23))⟩]) (.cond (.t 24) (.seq (.reg [] [⟨(some 4), none, (.mov (.v (.d (.bool false))))⟩]) .ret) .skip)))) (.reg [] [⟨(some 25), none, (.bin .add (.t 13) (.v (.d (.int .i64 1))))⟩, ⟨(some 13), none, (.mov (.t 25))⟩]))))
def F45 : CFunc := ⟨26, [(.tmp 4)], (.seq (.reg [] [⟨(some 4), none, (.mov (.v (.d (.bool false))))⟩]) (.seq (.seq (.reg [] [⟨(some 6), none, (.mov (.t 0))⟩, ⟨(some 7), none, (.len (.t 6))⟩, ⟨(some 8), none, (.mov (.t 1))⟩, ⟨(some 9), none, (.len (.t 8))⟩, ⟨(some 10), none, (.bin .neq (.t 7) (.t 9))⟩]) (.cond (.t 10) (.seq (.reg [] [⟨(some 4), none, (.mov (.v (.d (.bool false))))⟩]) .ret) .skip)) (.seq (.seq (.reg [] [⟨(some 11), none, (.mov (.t 0))⟩, ⟨(some 12), none, (.len (.t 11))⟩, ⟨(some 13), none, (.mov (.v (.d (.int .i64 0))))⟩]) (.block 0 (.loop [0, 1, 12, 13] [4] L45_0))) (.seq (.reg [] [⟨(some 4), none, (.mov (.v (.d (.bool true))))⟩]) .ret))))⟩
theorem c45 : cAt Try.prog 45 = some F45.er := by kernel_rfl
def F50 : CFunc := ⟨9, [(.tmp 2)], (.seq (.reg [] [⟨(some 2), none, (.mov (.v (.d (.bool false))))⟩]) (.seq (.reg [] [⟨(some 3), none, (.mov (.t 0))⟩, ⟨(some 4), none, (.bin .lss (.t 3) (.v (.d (.int .i64 (-2147483648)))))⟩, ⟨(some 5), none, (.mov (.t 4))⟩, ⟨(some 6), (some (5, false)), (.mov (.t 0))⟩, ⟨(some 7), (some (5, false)), (.bin .gtr (.t 6) (.v (.d (.int .i64 2147483647))))⟩, ⟨(some 8), none, (.pick (.t 5) (.v (.d (.bool true))) (.t 7))⟩, ⟨(some 2), none, (.mov (.t 8))⟩]) .ret))⟩
theorem c50 : cAt Try.prog 50 = some F50.er := by kernel_rfl
def F51 : CFunc := ⟨6, [(.tmp 2)], (.seq (.reg [] [⟨(some 1), none, (.box 52 true 4 (.t 0))⟩, ⟨(some 2), none, (.mov (.v (.d (.bool false))))⟩]) (.seq (.reg [] [⟨(some 3), none, (.load true 4 (.t 1))⟩, ⟨(some 4), none, (.call (.v (.fn (.func 52) [] [])) [(.t 3)])⟩, ⟨(some 5), none, (.unop .not (.t 4))⟩, ⟨(some 2), none, (.mov (.t 5))⟩]) .ret))⟩
theorem c51 : cAt Try.prog 51 = some F51.er := by kernel_rfl
def S52_0 : C := (.reg [] [⟨(some 4), none, (.fieldA 2 (.t 1))⟩, ⟨(some 5), none, (.load false 1 (.t 4))⟩, ⟨(some 6), none, (.bin .eql (.t 5) (.v (.d (.int .i64 (-1)))))⟩, ⟨(some 7), none, (.mov (.t 6))⟩, ⟨(some 8), (some (7, false)), (.fieldA 2 (.t 1))⟩, ⟨(some 9), (some (7, false)), (.load false 1 (.t 8))⟩, ⟨(some 10), (some (7, false)), (.bin .geq (.t 9) (.v (.d (.int .i64 0))))⟩, ⟨(some 11), (some (7, false)), (.mov (.t 10))⟩, ⟨(some 12), (some (11, true)), (.fieldA 2 (.t 1))⟩, ⟨(some 13), (some (11, true)), (.load false 1 (.t 12))⟩, ⟨(some 14), (some (11, true)), (.bin .lss (.t 13) (.v (.d (.int .i64 4))))⟩, ⟨(some 15), (some (7, false)), (.pick (.t 11) (.t 14) (.v (.d (.bool false))))⟩, ⟨(some 16), (some (7, false)), (.mov (.t 15))⟩, ⟨(some 17), (some (16, true)), (.fieldA 0 (.t 1))⟩, ⟨(some 18), (some (16, true)), (.load false 1 (.t 17))⟩, ⟨(some 19), (some (16, true)), (.fieldA 2 (.t 1))⟩, ⟨(some 20), (some (16, true)), (.load false 1 (.t 19))⟩, ⟨(some 21), (some (16, true)), (.call (.v (.fn (.func 67) [] [])) [(.t 18), (.t 20)])⟩, ⟨(some 22), (some (7, false)), (.pick (.t 16) (.t 21) (.v (.d (.bool false))))⟩, ⟨(some 23), none, (.pick (.t 7) (.v (.d (.bool true))) (.t 22))⟩, ⟨(some 3), none, (.mov (.t 23))⟩])
def S52_1 : C := (.reg [] [⟨(some 24), none, (.fieldA 0 (.t 1))⟩, ⟨(some 25), none, (.load false 1 (.t 24))⟩, ⟨(some 26), none, (.call (.v (.fn (.func 68) [] [])) [(.t 25)])⟩, ⟨(some 27), none, (.mov (.t 26))⟩, ⟨(some 28), (some (27, true)), (.fieldA 1 (.t 1))⟩, ⟨(some 29), (some (27, true)), (.load false 1 (.t 28))⟩, ⟨(some 30), (some (27, true)), (.call (.v (.fn (.func 68) [] [])) [(.t 29)])⟩, ⟨(some 31), none, (.pick (.t 27) (.t 30) (.v (.d (.bool false))))⟩, ⟨(some 32), none, (.mov (.t 31))⟩, ⟨(some 33), (some (32, true)), (.fieldA 3 (.t 1))⟩, ⟨(some 34), (some (32, true)), (.load false 1 (.t 33))⟩, ⟨(some 35), (some (32, true)), (.fieldA 0 (.t 1))⟩, ⟨(some 36), (some (32, true)), (.load false 1 (.t 35))⟩, ⟨(some 37), (some (32, true)), (.bin .eql (.t 36) (.v (.d (.int .i64 0))))⟩, ⟨(some 38), (some (32, true)), (.beq .bool false (.t 34) (.t 37))⟩, ⟨(some 39), none, (.pick (.t 32) (.t 38) (.v (.d (.bool false))))⟩, ⟨(some 40), none, (.mov (.t 39))⟩, ⟨(some 41), (some (40, true)), (.mov (.t 3))⟩, ⟨(some 42), none, (.pick (.t 40) (.t 41) (.v (.d (.bool false))))⟩, ⟨(some 2), none, (.mov (.t 42))⟩])
def F52 : CFunc := ⟨43, [(.tmp 2)], (.seq (.reg [] [⟨(some 1), none, (.box 52 true 4 (.t 0))⟩, ⟨(some 2), none, (.mov (.v (.d (.bool false))))⟩]) (.cut [1] [] [1, 3] S52_0 (.cut [1, 3] [] [2] S52_1 .ret)))⟩
theorem c52 : cAt Try.prog 52 = some F52.er := by kernel_rfl
def F53 : CFunc := ⟨9, [(.tmp 4)], (.seq (.reg [] [⟨(some 4), none, (.mov (.v (.d (.bool false))))⟩]) (.seq (.reg [] [⟨(some 5), none, (.mov (.t 0))⟩, ⟨(some 6), none, (.mov (.t 1))⟩, ⟨(some 7), none, (.call (.v (.fn (.func 69) [] [])) [(.t 5), (.t 6)])⟩, ⟨(some 8), none, (.bin .geq (.t 7) (.v (.d (.int .i64 0))))⟩, ⟨(some 4), none, (.mov (.t 8))⟩]) .ret))⟩
theorem c53 : cAt Try.prog 53 = some F53.er := by kernel_rfl
def F54 : CFunc := ⟨9, [(.tmp 4)], (.seq (.reg [] [⟨(some 4), none, (.mov (.v (.d (.bool false))))⟩]) (.seq (.reg [] [⟨(some 5), none, (.mov (.t 0))⟩, ⟨(some 6), none, (.mov (.t 1))⟩, ⟨(some 7), none, (.call (.v (.fn (.func 70) [] [])) [(.t 5), (.t 6)])⟩, ⟨(some 8), none, (.bin .geq (.t 7) (.v (.d (.int .i64 0))))⟩, ⟨(some 4), none, (.mov (.t 8))⟩]) .ret))⟩
theorem c54 : cAt Try.prog 54 = some F54.er := by kernel_rfl
def F58 : CFunc := ⟨5, [(.tmp 2)], (.seq (.reg [] [⟨(some 2), none, (.mov (.v (.d (.int .i64 0))))⟩]) (.seq (.reg [] [⟨(some 3), none, (.mov (.t 0))⟩, ⟨(some 4), none, (.call (.v (.fn (.func 73) [] [])) [(.v (.d (.int .i64 65535))), (.t 3)])⟩, ⟨(some 2), none, (.mov (.t 4))⟩]) .ret))⟩
theorem c58 : cAt Try.prog 58 = some F58.er := by kernel_rfl
def F59 : CFunc := ⟨8, [(.tmp 2)], (.seq (.reg [] [⟨(some 2), none, (.nsl 5 true 1)⟩]) (.seq (.seq (.reg [] [⟨(some 3), none, (.mov (.t 0))⟩, ⟨(some 4), none, (.beq .slc false (.t 3) (.v (.d .nils)))⟩]) (.cond (.t 4) (.seq (.reg [] [⟨(some 2), none, (.nsl 5 true 1)⟩]) .ret) .skip)) (.seq (.reg [] [⟨(some 5), none, (.bslice 5 true 1 0 [(.int .u8 0)] [])⟩, ⟨(some 6), none, (.mov (.t 0))⟩, ⟨(some 7), none, (.append 5 true 1 1 (.t 5) (.t 6))⟩, ⟨(some 2), none, (.mov (.t 7))⟩]) .ret)))⟩
theorem c59 : cAt Try.prog 59 = some F59.er := by kernel_rfl
def F61 : CFunc := ⟨21, [(.tmp 2)], (.seq (.reg [] [⟨(some 2), none, (.nsl 5 true 1)⟩]) (.seq (.seq (.reg [] [⟨(some 3), none, (.mov (.t 0))⟩, ⟨(some 4), none, (.bin .lss (.t 3) (.v (.d (.int .i64 (-2147483648)))))⟩, ⟨(some 5), none, (.mov (.t 4))⟩, ⟨(some 6), (some (5, false)), (.mov (.t 0))⟩, ⟨(some 7), (some (5, false)), (.bin .gtr (.t 6) (.v (.d (.int .i64 2147483647))))⟩, ⟨(some 8), none, (.pick (.t 5) (.v (.d (.bool true))) (.t 7))⟩]) (.cond (.t 8) (.seq (.reg [] [⟨(some 2), none, (.nsl 5 true 1)⟩]) .ret) .skip)) (.seq (.reg [] [⟨(some 9), none, (.mov (.t 0))⟩, ⟨(some 10), none, (.bin .shr (.t 9) (.v (.d (.int .u64 24))))⟩, ⟨(some 11), none, (.conv (.int .u8) (.t 10))⟩, ⟨(some 12), none, (.mov (.t 0))⟩, ⟨(some 13), none, (.bin .shr (.t 12) (.v (.d (.int .u64 16))))⟩, ⟨(some 14), none, (.conv (.int .u8) (.t 13))⟩, ⟨(some 15), none, (.mov (.t 0))⟩, ⟨(some 16), none, (.bin .shr (.t 15) (.v (.d (.int .u64 8))))⟩, ⟨(some 17), none, (.conv (.int .u8) (.t 16))⟩, ⟨(some 18), none, (.mov (.t 0))⟩, ⟨(some 19), none, (.conv (.int .u8) (.t 18))⟩, ⟨(some 20), none, (.bslice 5 true 1 4 [(.int .u8 0)] [(0, (.t 11)), (1, (.t 14)), (2, (.t 17)), (3, (.t 19))])⟩, ⟨(some 2), none, (.mov (.t 20))⟩]) .ret)))⟩
theorem c61 : cAt Try.prog 61 = some F61.er := by kernel_rfl
def L62_0 : C := (.seq (.reg [] [⟨(some 10), none, (.bin .lss (.t 9) (.v (.d (.int .i64 8))))⟩]) (.seq (.cond (.t 10) .skip (.exit 0)) (.seq (.block 1 (.seq (.reg [] [⟨(some 11), none, (.idx true 8 4 (.t 8) (.t 9))⟩, ⟨(some 4), none, (.alloc 52 [(.int .i64 0), (.int .i64 0), (.int .i64 0), (.bool false)] true)⟩, ⟨none, none, (.store 4 (.t 4) (.t 11))⟩]) (.seq (.reg [] [⟨(some 13), none, (.load true 4 (.t 4))⟩, ⟨(some 14), none, (.call (.v (.fn (.func 63) [] [])) [(.t 13)])⟩, ⟨(some 12), none, (.mov (.t 14))⟩, ⟨(some 15), none, (.extract 0 (.t 12))⟩, ⟨(some 16), none, (.extract 1 (.t 12))⟩, ⟨(some 5), none, (.mov (.t 15))⟩, ⟨(some 6), none, (.mov (.t 16))⟩]) (.seq (.reg [] [⟨(some 17), none, (.mov (.t 0))⟩, ⟨(some 18), none, (.mov (.t 5))⟩, ⟨(some 19), none, (.call (.v (.fn (.func 33) [] [])) [(.t 18)])⟩, ⟨(some 20), none, (.call (.t 17) [(.t 19)])⟩, ⟨(some 21), none, (.unop .not (.t 20))⟩]) (.cond (.t 21) .ret .skip))))) (.reg [] [⟨(some 22), none, (.bin .add (.t 9) (.v (.d (.int .i64 1))))⟩, ⟨(some 9), none, (.mov (.t 22))⟩]))))
def F62 : CFunc := ⟨23, [], (.seq (.reg [] [⟨(some 7), none, (.fieldA 9 (.t 1))⟩, ⟨(some 8), none, (.load true 32 (.t 7))⟩, ⟨(some 9), none, (.mov (.v (.d (.int .i64 0))))⟩]) (.block 0 (.loop [0, 8, 9] [] L62_0)))⟩
theorem c62 : cAt Try.prog 62 = some F62.er := by kernel_rfl
def F63 : CFunc := ⟨26, [(.tmp 2), (.tmp 3)], (.seq (.reg [] [⟨(some 1), none, (.box 52 true 4 (.t 0))⟩, ⟨(some 2), none, (.mov (.v (.d (.int .i64 0))))⟩, ⟨(some 3), none, (.mov (.v (.d (.int .i64 0))))⟩]) (.seq (.seq (.reg [] [⟨(some 5), none, (.load true 4 (.t 1))⟩, ⟨(some 6), none, (.call (.v (.fn (.func 52) [] [])) [(.t 5)])⟩, ⟨(some 7), none, (.unop .not (.t 6))⟩]) (.cond (.t 7) (.seq (.reg [] [⟨(some 2), none, (.mov (.v (.d (.int .i64 0))))⟩, ⟨(some 3), none, (.mov (.v (.d (.int .i64 1))))⟩]) .ret) .skip)) (.seq (.reg [] [⟨(some 8), none, (.fieldA 2 (.t 1))⟩, ⟨(some 9), none, (.load false 1 (.t 8))⟩, ⟨(some 4), none, (.mov (.t 9))⟩]) (.seq (.seq (.reg [] [⟨(some 10), none, (.mov (.t 4))⟩, ⟨(some 11), none, (.bin .lss (.t 10) (.v (.d (.int .i64 0))))⟩]) (.cond (.t 11) (.reg [] [⟨(some 4), none, (.mov (.v (.d (.int .i64 7))))⟩]) .skip)) (.seq (.reg [] [⟨(some 12), none, (.fieldA 0 (.t 1))⟩, ⟨(some 13), none, (.load false 1 (.t 12))⟩, ⟨(some 14), none, (.fieldA 1 (.t 1))⟩, ⟨(some 15), none, (.load false 1 (.t 14))⟩, ⟨(some 16), none, (.bin .shl (.t 15) (.v (.d (.int .u64 4))))⟩, ⟨(some 17), none, (.bin .or (.t 13) (.t 16))⟩, ⟨(some 18), none, (.mov (.t 4))⟩, ⟨(some 19), none, (.bin .shl (.t 18) (.v (.d (.int .u64 8))))⟩, ⟨(some 20), none, (.bin .or (.t 17) (.t 19))⟩, ⟨(some 4), none, (.mov (.t 20))⟩]) (.seq (.seq (.reg [] [⟨(some 21), none, (.fieldA 3 (.t 1))⟩, ⟨(some 22), none, (.load false 1 (.t 21))⟩]) (.cond (.t 22) (.reg [] [⟨(some 23), none, (.mov (.t 4))⟩, ⟨(some 24), none, (.bin .or (.t 23) (.v (.d (.int .i64 2048))))⟩, ⟨(some 4), none, (.mov (.t 24))⟩]) .skip)) (.seq (.reg [] [⟨(some 25), none, (.mov (.t 4))⟩, ⟨(some 2), none, (.mov (.t 25))⟩, ⟨(some 3), none, (.mov (.v (.d (.int .i64 0))))⟩]) .ret)))))))⟩
theorem c63 : cAt Try.prog 63 = some F63.er := by kernel_rfl
def F65 : CFunc := ⟨4, [(.tmp 2)], (.seq (.reg [] [⟨(some 1), none, (.box 37 false 1 (.t 0))⟩, ⟨(some 2), none, (.mov (.v (.d .nilf)))⟩]) (.seq (.reg [] [⟨(some 3), none, (.mkfn (.func 75) [] [(.t 1)])⟩, ⟨(some 2), none, (.mov (.t 3))⟩]) .ret))⟩
theorem c65 : cAt Try.prog 65 = some F65.er := by kernel_rfl
def F66 : CFunc := ⟨33, [(.tmp 2), (.tmp 3)], (.seq (.reg [] [⟨(some 2), none, (.mov (.v (.d (.int .i64 0))))⟩, ⟨(some 3), none, (.mov (.v (.d (.bool false))))⟩]) (.seq (.seq (.reg [] [⟨(some 5), none, (.mov (.t 0))⟩, ⟨(some 6), none, (.len (.t 5))⟩, ⟨(some 7), none, (.bin .neq (.t 6) (.v (.d (.int .i64 4))))⟩]) (.cond (.t 7) (.seq (.reg [] [⟨(some 2), none, (.mov (.v (.d (.int .i64 0))))⟩, ⟨(some 3), none, (.mov (.v (.d (.bool false))))⟩]) .ret) .skip)) (.seq (.reg [⟨(some 8), none, (.mov (.t 0))⟩, ⟨(some 9), none, (.idxA 1 (.t 8) (.v (.d (.int .i64 0))))⟩, ⟨(some 10), none, (.load false 1 (.t 9))⟩, ⟨(some 11), none, (.conv (.int .u32) (.t 10))⟩, ⟨(some 12), none, (.bin .shl (.t 11) (.v (.d (.int .u64 24))))⟩, ⟨(some 13), none, (.mov (.t 0))⟩, ⟨(some 14), none, (.idxA 1 (.t 13) (.v (.d (.int .i64 1))))⟩, ⟨(some 15), none, (.load false 1 (.t 14))⟩, ⟨(some 16), none, (.conv (.int .u32) (.t 15))⟩, ⟨(some 17), none, (.bin .shl (.t 16) (.v (.d (.int .u64 16))))⟩, ⟨(some 18), none, (.bin .or (.t 12) (.t 17))⟩, ⟨(some 19), none, (.mov (.t 0))⟩, ⟨(some 20), none, (.idxA 1 (.t 19) (.v (.d (.int .i64 2))))⟩, ⟨(some 21), none, (.load false 1 (.t 20))⟩, ⟨(some 22), none, (.conv (.int .u32) (.t 21))⟩, ⟨(some 23), none, (.bin .shl (.t 22) (.v (.d (.int .u64 8))))⟩, ⟨(some 24), none, (.bin .or (.t 18) (.t 23))⟩, ⟨(some 25), none, (.mov (.t 0))⟩, ⟨(some 26), none, (.idxA 1 (.t 25) (.v (.d (.int .i64 3))))⟩, ⟨(some 27), none, (.load false 1 (.t 26))⟩, ⟨(some 28), none, (.conv (.int .u32) (.t 27))⟩] [⟨(some 29), none, (.bin .or (.t 24) (.t 28))⟩, ⟨(some 4), none, (.mov (.t 29))⟩]) (.seq (.reg [] [⟨(some 30), none, (.mov (.t 4))⟩, ⟨(some 31), none, (.conv (.int .i32) (.t 30))⟩, ⟨(some 32), none, (.conv (.int .i64) (.t 31))⟩, ⟨(some 2), none, (.mov (.t 32))⟩, ⟨(some 3), none, (.mov (.v (.d (.bool true))))⟩]) .ret))))⟩
theorem c66 : cAt Try.prog 66 = some F66.er := by kernel_rfl
def F67 : CFunc := ⟨22, [(.tmp 4)], (.seq (.reg [] [⟨(some 4), none, (.mov (.v (.d (.bool false))))⟩]) (.seq (.reg [] [⟨(some 5), none, (.mov (.t 0))⟩, ⟨(some 6), none, (.call (.v (.fn (.func 76) [] [])) [(.t 5)])⟩, ⟨(some 7), none, (.mov (.t 6))⟩, ⟨(some 8), (some (7, true)), (.mov (.t 1))⟩, ⟨(some 9), (some (7, true)), (.bin .geq (.t 8) (.v (.d (.int .i64 0))))⟩, ⟨(some 10), none, (.pick (.t 7) (.t 9) (.v (.d (.bool false))))⟩, ⟨(some 11), none, (.mov (.t 10))⟩, ⟨(some 12), (some (11, true)), (.mov (.t 1))⟩, ⟨(some 13), (some (11, true)), (.bin .lss (.t 12) (.v (.d (.int .i64 16))))⟩, ⟨(some 14), none, (.pick (.t 11) (.t 13) (.v (.d (.bool false))))⟩, ⟨(some 15), none, (.mov (.t 14))⟩, ⟨(some 16), (some (15, true)), (.mov (.t 0))⟩, ⟨(some 17), (some (15, true)), (.mov (.t 1))⟩, ⟨(some 18), (some (15, true)), (.bin .shr (.t 16) (.t 17))⟩, ⟨(some 19), (some (15, true)), (.bin .and (.t 18) (.v (.d (.int .i64 1))))⟩, ⟨(some 20), (some (15, true)), (.bin .eql (.t 19) (.v (.d (.int .i64 1))))⟩, ⟨(some 21), none, (.pick (.t 15) (.t 20) (.v (.d (.bool false))))⟩, ⟨(some 4), none, (.mov (.t 21))⟩]) .ret))⟩
theorem c67 : cAt Try.prog 67 = some F67.er := by kernel_rfl
def F68 : CFunc := ⟨9, [(.tmp 2)], (.seq (.reg [] [⟨(some 2), none, (.mov (.v (.d (.bool false))))⟩]) (.seq (.reg [] [⟨(some 3), none, (.mov (.t 0))⟩, ⟨(some 4), none, (.bin .geq (.t 3) (.v (.d (.int .i64 0))))⟩, ⟨(some 5), none, (.mov (.t 4))⟩, ⟨(some 6), (some (5, true)), (.mov (.t 0))⟩, ⟨(some 7), (some (5, true)), (.bin .leq (.t 6) (.v (.d (.int .i64 15))))⟩, ⟨(some 8), none, (.pick (.t 5) (.t 7) (.v (.d (.bool false))))⟩, ⟨(some 2), none, (.mov (.t 8))⟩]) .ret))⟩
theorem c68 : cAt Try.prog 68 = some F68.er := by kernel_rfl
def L69_0 : C := (.seq (.reg [] [⟨(some 9), none, (.bin .lss (.t 8) (.t 7))⟩]) (.seq (.cond (.t 9) .skip (.exit 0)) (.seq (.block 1 (.seq (.reg [] [⟨(some 10), none, (.mov (.t 8))⟩, ⟨(some 5), none, (.mov (.t 10))⟩]) (.seq (.reg [] [⟨(some 11), none, (.mov (.t 1))⟩, ⟨(some 12), none, (.mov (.t 0))⟩, ⟨(some 13), none, (.mov (.t 5))⟩, ⟨(some 14), none, (.idxA 1 (.t 12) (.t 13))⟩, ⟨(some 15), none, (.load false 1 (.t 14))⟩, ⟨(some 16), none, (.call (.t 11) [(.t 15)])⟩]) (.cond (.t 16) (.seq (.reg [] [⟨(some 17), none, (.mov (.t 5))⟩, ⟨(some 4), none, (.mov (.t 17))⟩]) .ret) .skip)))) (.reg [] [⟨(some 18), none, (.bin .add (.t 8) (.v (.d (.int .i64 1))))⟩, ⟨(some 8), none, (.mov (.t 18))⟩]))))
def F69 : CFunc := ⟨19, [(.tmp 4)], (.seq (.reg [] [⟨(some 4), none, (.mov (.v (.d (.int .i64 0))))⟩]) (.seq (.seq (.reg [] [⟨(some 6), none, (.mov (.t 0))⟩, ⟨(some 7), none, (.len (.t 6))⟩, ⟨(some 8), none, (.mov (.v (.d (.int .i64 0))))⟩]) (.block 0 (.loop [0, 1, 7, 8] [4] L69_0))) (.seq (.reg [] [⟨(some 4), none, (.mov (.v (.d (.int .i64 (-1)))))⟩]) .ret)))⟩
theorem c69 : cAt Try.prog 69 = some F69.er := by kernel_rfl
def L70_0 : C := (.seq (.reg [] [⟨(some 9), none, (.bin .lss (.t 8) (.t 7))⟩]) (.seq (.cond (.t 9) .skip (.exit 0)) (.seq (.block 1 (.seq (.reg [] [⟨(some 10), none, (.mov (.t 8))⟩, ⟨(some 5), none, (.mov (.t 10))⟩]) (.seq (.reg [] [⟨(some 11), none, (.mov (.t 1))⟩, ⟨(some 12), none, (.mov (.t 0))⟩, ⟨(some 13), none, (.mov (.t 5))⟩, ⟨(some 14), none, (.idxA 4 (.t 12) (.t 13))⟩, ⟨(some 15), none, (.load true 4 (.t 14))⟩, ⟨(some 16), none, (.call (.t 11) [(.t 15)])⟩]) (.cond (.t 16) (.seq (.reg [] [⟨(some 17), none, (.mov (.t 5))⟩, ⟨(some 4), none, (.mov (.t 17))⟩]) .ret) .skip)))) (.reg [] [⟨(some 18), none, (.bin .add (.t 8) (.v (.d (.int .i64 1))))⟩, ⟨(some 8), none, (.mov (.t 18))⟩]))))
def F70 : CFunc := ⟨19, [(.tmp 4)], (.seq (.reg [] [⟨(some 4), none, (.mov (.v (.d (.int .i64 0))))⟩]) (.seq (.seq (.reg [] [⟨(some 6), none, (.mov (.t 0))⟩, ⟨(some 7), none, (.len (.t 6))⟩, ⟨(some 8), none, (.mov (.v (.d (.int .i64 0))))⟩]) (.block 0 (.loop [0, 1, 7, 8] [4] L70_0))) (.seq (.reg [] [⟨(some 4), none, (.mov (.v (.d (.int .i64 (-1)))))⟩]) .ret)))⟩
theorem c70 : cAt Try.prog 70 = some F70.er := by kernel_rfl
def S73_0 : C := (.seq1 (.reg [] [⟨(some 8), none, (.load false 1 (.t 2))⟩, ⟨(some 9), none, (.bin .lss (.t 8) (.v (.d (.int .i64 0))))⟩, ⟨(some 10), none, (.mov (.t 9))⟩, ⟨(some 11), (some (10, false)), (.load false 1 (.t 2))⟩, ⟨(some 12), (some (10, false)), (.bin .gtr (.t 11) (.v (.d (.int .i64 65535))))⟩, ⟨(some 13), none, (.pick (.t 10) (.v (.d (.bool true))) (.t 12))⟩]) (.cond (.t 13) (.seq (.reg [] [⟨(some 4), none, (.mov (.v (.d (.int .i64 0))))⟩]) .ret) .skip))
def L73_1 : C := (.seq (.reg [] [⟨(some 27), none, (.bin .lss (.t 26) (.v (.d (.int .i64 8))))⟩]) (.seq (.cond (.t 27) .skip (.exit 2)) (.seq (.block 3 (.reg [] [⟨(some 28), none, (.mov (.t 5))⟩, ⟨(some 29), none, (.call (.t 28) [])⟩])) (.reg [] [⟨(some 30), none, (.bin .add (.t 26) (.v (.d (.int .i64 1))))⟩, ⟨(some 26), none, (.mov (.t 30))⟩]))))
def L73_2 : C := (.seq (.reg [] [⟨(some 18), none, (.bin .lss (.t 17) (.t 16))⟩]) (.seq (.cond (.t 18) .skip (.exit 0)) (.seq (.block 1 (.seq (.reg [] [⟨(some 19), none, (.idxA 1 (.t 15) (.t 17))⟩, ⟨(some 20), none, (.load false 1 (.t 19))⟩, ⟨(some 7), none, (.mov (.t 20))⟩]) (.seq (.reg [] [⟨(some 21), none, (.load false 1 (.t 2))⟩, ⟨(some 22), none, (.mov (.t 7))⟩, ⟨(some 23), none, (.conv (.int .i64) (.t 22))⟩, ⟨(some 24), none, (.bin .shl (.t 23) (.v (.d (.int .u64 8))))⟩, ⟨(some 25), none, (.bin .xor (.t 21) (.t 24))⟩, ⟨none, none, (.store 1 (.t 2) (.t 25))⟩]) (.seq (.reg [] [⟨(some 26), none, (.mov (.v (.d (.int .i64 0))))⟩]) (.block 2 (.loop [2, 5, 15, 16, 17, 26] [2, 5, 15, 16, 17] L73_1)))))) (.reg [] [⟨(some 31), none, (.bin .add (.t 17) (.v (.d (.int .i64 1))))⟩, ⟨(some 17), none, (.mov (.t 31))⟩]))))
def S73_3 : C := (.seq1 (.reg [] [⟨(some 15), none, (.mov (.t 1))⟩, ⟨(some 16), none, (.len (.t 15))⟩, ⟨(some 17), none, (.mov (.v (.d (.int .i64 0))))⟩]) (.block 0 (.loop [2, 5, 15, 16, 17] [2] L73_2)))
def F73 : CFunc := ⟨33, [(.tmp 4)], (.seq (.reg [] [⟨(some 2), none, (.box 3 true 1 (.t 0))⟩, ⟨(some 4), none, (.mov (.v (.d (.int .i64 0))))⟩]) (.cut [1, 2] [4] [1, 2] S73_0 (.seq (.reg [] [⟨(some 14), none, (.mkfn (.func 77) [] [(.t 2)])⟩, ⟨(some 5), none, (.mov (.t 14))⟩]) (.cut [1, 2, 5] [] [2] S73_3 (.seq (.reg [] [⟨(some 32), none, (.load false 1 (.t 2))⟩, ⟨(some 4), none, (.mov (.t 32))⟩]) .ret)))))⟩
theorem c73 : cAt Try.prog 73 = some F73.er := by kernel_rfl
def L75_0 : C := (.seq (.seq (.reg [] [⟨(some 3), none, (.load false 1 (.t 1))⟩, ⟨(some 4), none, (.len (.t 3))⟩, ⟨(some 5), none, (.bin .geq (.t 4) (.v (.d (.int .i64 4))))⟩]) (.cond (.t 5) .skip (.exit 0))) (.seq (.block 1 (.seq (.reg [] [⟨(some 8), none, (.mov (.t 0))⟩, ⟨(some 9), none, (.load false 1 (.t 1))⟩, ⟨(some 10), none, (.slice 1 (.t 9) none (some (.v (.d (.int .i64 4)))) (some (.v (.d (.int .i64 4)))))⟩, ⟨(some 11), none, (.call (.t 8) [(.t 10)])⟩, ⟨(some 12), none, (.unop .not (.t 11))⟩]) (.cond (.t 12) .ret .skip))) (.reg [] [⟨(some 6), none, (.load false 1 (.t 1))⟩, ⟨(some 7), none, (.slice 1 (.t 6) (some (.v (.d (.int .i64 4)))) none none)⟩, ⟨none, none, (.store 1 (.t 1) (.t 7))⟩])))
def F75 : CFunc := ⟨13, [], (.block 0 (.loop [0, 1] [] L75_0))⟩
theorem c75 : cAt Try.prog 75 = some F75.er := by kernel_rfl
def F76 : CFunc := ⟨9, [(.tmp 2)], (.seq (.reg [] [⟨(some 2), none, (.mov (.v (.d (.bool false))))⟩]) (.seq (.reg [] [⟨(some 3), none, (.mov (.t 0))⟩, ⟨(some 4), none, (.bin .geq (.t 3) (.v (.d (.int .i64 0))))⟩, ⟨(some 5), none, (.mov (.t 4))⟩, ⟨(some 6), (some (5, true)), (.mov (.t 0))⟩, ⟨(some 7), (some (5, true)), (.bin .lss (.t 6) (.v (.d (.int .i64 65536))))⟩, ⟨(some 8), none, (.pick (.t 5) (.t 7) (.v (.d (.bool false))))⟩, ⟨(some 2), none, (.mov (.t 8))⟩]) .ret))⟩
theorem c76 : cAt Try.prog 76 = some F76.er := by kernel_rfl
def F77 : CFunc := ⟨11, [], (.seq (.reg [] [⟨(some 2), none, (.load false 1 (.t 0))⟩, ⟨(some 3), none, (.bin .and (.t 2) (.v (.d (.int .i64 32768))))⟩, ⟨(some 4), none, (.bin .neq (.t 3) (.v (.d (.int .i64 0))))⟩, ⟨(some 1), none, (.mov (.t 4))⟩]) (.seq (.reg [] [⟨(some 5), none, (.load false 1 (.t 0))⟩, ⟨(some 6), none, (.bin .shl (.t 5) (.v (.d (.int .u64 1))))⟩, ⟨(some 7), none, (.bin .and (.t 6) (.v (.d (.int .i64 65535))))⟩, ⟨none, none, (.store 1 (.t 0) (.t 7))⟩]) (.seq (.reg [] [⟨(some 8), none, (.mov (.t 1))⟩]) (.cond (.t 8) (.reg [] [⟨(some 9), none, (.load false 1 (.t 0))⟩, ⟨(some 10), none, (.bin .xor (.t 9) (.v (.d (.int .i64 4129))))⟩, ⟨none, none, (.store 1 (.t 0) (.t 10))⟩]) .skip))))⟩
theorem c77 : cAt Try.prog 77 = some F77.er := by kernel_rfl
def cfT : List (Nat × CFunc) := [(3, F3), (6, F6), (17, F17), (18, F18), (20, F20), (21, F21), (23, F23), (25, F25), (31, F31), (32, F32), (33, F33), (34, F34), (35, F35), (36, F36), (37, F37), (42, F42), (43, F43), (44, F44), (45, F45), (50, F50), (51, F51), (52, F52), (53, F53), (54, F54), (58, F58), (59, F59), (61, F61), (62, F62), (63, F63), (65, F65), (66, F66), (67, F67), (68, F68), (69, F69), (70, F70), (73, F73), (75, F75), (76, F76), (77, F77)]
def lookT : List (Nat × CFunc) → Nat → Option CFunc
  | [], _ => none
  | (i, F) :: r, j => match Nat.beq j i with | true => some F | false => lookT r j
def extT : List (FuncId × XK) := [(60, .grow 5 true 1 1)]
def E0 : Env := ⟨lookT cfT, extOf extT, fun _ => none, fun _ => false, fun f => Nat.beq f 32⟩
theorem lookT_ok : ∀ (l : List (Nat × CFunc)), (∀ p, p ∈ l → cAt Try.prog p.1 = some p.2.er) → ∀ f F, lookT l f = some F → cAt Try.prog f = some F.er
  | [], _, f, F, h => by simp [lookT] at h
  | (i, G) :: r, hl, f, F, h => by
    simp only [lookT] at h
    split at h
    · rename_i hb
      cases h
      rw [Nat.eq_of_beq_eq_true hb]
      exact hl (i, _) (List.mem_cons_self ..)
    · exact lookT_ok r (fun p hp => hl p (by simp [hp])) f F h
theorem cfT_ok : ∀ p, p ∈ cfT → cAt Try.prog p.1 = some p.2.er := by
  unfold cfT
  simp only [List.forall_mem_cons]
  exact ⟨c3, c6, c17, c18, c20, c21, c23, c25, c31, c32, c33, c34, c35, c36, c37, c42, c43, c44, c45, c50, c51, c52, c53, c54, c58, c59, c61, c62, c63, c65, c66, c67, c68, c69, c70, c73, c75, c76, c77, fun p h => by simp at h⟩
theorem e0_ext {f : FuncId} (h : lookX extT f = none) : ∀ a m, E0.ext f a m = none := ext_none h
theorem e0_cf : ∀ f F, E0.cf f = some F → cAt Try.prog f = some F.er := lookT_ok cfT cfT_ok
theorem w3 {args : List V} {m : Mem} (os : List (A E0)) {r : List V × Mem} (h : walkF E0 F3 args m os = some (r, want os)) : cl E0 3 args m = some r := cl_walk (e0_ext (by kernel_rfl)) (by kernel_rfl) (by decide) os h
theorem w6 {args : List V} {m : Mem} (os : List (A E0)) {r : List V × Mem} (h : walkF E0 F6 args m os = some (r, want os)) : cl E0 6 args m = some r := cl_walk (e0_ext (by kernel_rfl)) (by kernel_rfl) (by decide) os h
theorem w18 {args : List V} {m : Mem} (os : List (A E0)) {r : List V × Mem} (h : walkF E0 F18 args m os = some (r, want os)) : cl E0 18 args m = some r := cl_walk (e0_ext (by kernel_rfl)) (by kernel_rfl) (by decide) os h
theorem w20 {args : List V} {m : Mem} (os : List (A E0)) {r : List V × Mem} (h : walkF E0 F20 args m os = some (r, want os)) : cl E0 20 args m = some r := cl_walk (e0_ext (by kernel_rfl)) (by kernel_rfl) (by decide) os h
theorem w21 {args : List V} {m : Mem} (os : List (A E0)) {r : List V × Mem} (h : walkF E0 F21 args m os = some (r, want os)) : cl E0 21 args m = some r := cl_walk (e0_ext (by kernel_rfl)) (by kernel_rfl) (by decide) os h
theorem w23 {args : List V} {m : Mem} (os : List (A E0)) {r : List V × Mem} (h : walkF E0 F23 args m os = some (r, want os)) : cl E0 23 args m = some r := cl_walk (e0_ext (by kernel_rfl)) (by kernel_rfl) (by decide) os h
theorem w25 {args : List V} {m : Mem} (os : List (A E0)) {r : List V × Mem} (h : walkF E0 F25 args m os = some (r, want os)) : cl E0 25 args m = some r := cl_walk (e0_ext (by kernel_rfl)) (by kernel_rfl) (by decide) os h
theorem w31 {args : List V} {m : Mem} (os : List (A E0)) {r : List V × Mem} (h : walkF E0 F31 args m os = some (r, want os)) : cl E0 31 args m = some r := cl_walk (e0_ext (by kernel_rfl)) (by kernel_rfl) (by decide) os h
theorem w32 {args : List V} {m : Mem} (os : List (A E0)) {r : List V × Mem} (h : walkF E0 F32 args m os = some (r, want os)) : cl E0 32 args m = some r := cl_walk (e0_ext (by kernel_rfl)) (by kernel_rfl) (by decide) os h
theorem w33 {args : List V} {m : Mem} (os : List (A E0)) {r : List V × Mem} (h : walkF E0 F33 args m os = some (r, want os)) : cl E0 33 args m = some r := cl_walk (e0_ext (by kernel_rfl)) (by kernel_rfl) (by decide) os h
theorem w34 {args : List V} {m : Mem} (os : List (A E0)) {r : List V × Mem} (h : walkF E0 F34 args m os = some (r, want os)) : cl E0 34 args m = some r := cl_walk (e0_ext (by kernel_rfl)) (by kernel_rfl) (by decide) os h
theorem w35 {args : List V} {m : Mem} (os : List (A E0)) {r : List V × Mem} (h : walkF E0 F35 args m os = some (r, want os)) : cl E0 35 args m = some r := cl_walk (e0_ext (by kernel_rfl)) (by kernel_rfl) (by decide) os h
theorem w37 {args : List V} {m : Mem} (os : List (A E0)) {r : List V × Mem} (h : walkF E0 F37 args m os = some (r, want os)) : cl E0 37 args m = some r := cl_walk (e0_ext (by kernel_rfl)) (by kernel_rfl) (by decide) os h
theorem w42 {args : List V} {m : Mem} (os : List (A E0)) {r : List V × Mem} (h : walkF E0 F42 args m os = some (r, want os)) : cl E0 42 args m = some r := cl_walk (e0_ext (by kernel_rfl)) (by kernel_rfl) (by decide) os h
theorem w43 {args : List V} {m : Mem} (os : List (A E0)) {r : List V × Mem} (h : walkF E0 F43 args m os = some (r, want os)) : cl E0 43 args m = some r := cl_walk (e0_ext (by kernel_rfl)) (by kernel_rfl) (by decide) os h
theorem w44 {args : List V} {m : Mem} (os : List (A E0)) {r : List V × Mem} (h : walkF E0 F44 args m os = some (r, want os)) : cl E0 44 args m = some r := cl_walk (e0_ext (by kernel_rfl)) (by kernel_rfl) (by decide) os h
theorem w45 {args : List V} {m : Mem} (os : List (A E0)) {r : List V × Mem} (h : walkF E0 F45 args m os = some (r, want os)) : cl E0 45 args m = some r := cl_walk (e0_ext (by kernel_rfl)) (by kernel_rfl) (by decide) os h
theorem w50 {args : List V} {m : Mem} (os : List (A E0)) {r : List V × Mem} (h : walkF E0 F50 args m os = some (r, want os)) : cl E0 50 args m = some r := cl_walk (e0_ext (by kernel_rfl)) (by kernel_rfl) (by decide) os h
theorem w51 {args : List V} {m : Mem} (os : List (A E0)) {r : List V × Mem} (h : walkF E0 F51 args m os = some (r, want os)) : cl E0 51 args m = some r := cl_walk (e0_ext (by kernel_rfl)) (by kernel_rfl) (by decide) os h
theorem w52 {args : List V} {m : Mem} (os : List (A E0)) {r : List V × Mem} (h : walkF E0 F52 args m os = some (r, want os)) : cl E0 52 args m = some r := cl_walk (e0_ext (by kernel_rfl)) (by kernel_rfl) (by decide) os h
theorem w53 {args : List V} {m : Mem} (os : List (A E0)) {r : List V × Mem} (h : walkF E0 F53 args m os = some (r, want os)) : cl E0 53 args m = some r := cl_walk (e0_ext (by kernel_rfl)) (by kernel_rfl) (by decide) os h
theorem w54 {args : List V} {m : Mem} (os : List (A E0)) {r : List V × Mem} (h : walkF E0 F54 args m os = some (r, want os)) : cl E0 54 args m = some r := cl_walk (e0_ext (by kernel_rfl)) (by kernel_rfl) (by decide) os h
theorem w58 {args : List V} {m : Mem} (os : List (A E0)) {r : List V × Mem} (h : walkF E0 F58 args m os = some (r, want os)) : cl E0 58 args m = some r := cl_walk (e0_ext (by kernel_rfl)) (by kernel_rfl) (by decide) os h
theorem w59 {args : List V} {m : Mem} (os : List (A E0)) {r : List V × Mem} (h : walkF E0 F59 args m os = some (r, want os)) : cl E0 59 args m = some r := cl_walk (e0_ext (by kernel_rfl)) (by kernel_rfl) (by decide) os h
theorem w61 {args : List V} {m : Mem} (os : List (A E0)) {r : List V × Mem} (h : walkF E0 F61 args m os = some (r, want os)) : cl E0 61 args m = some r := cl_walk (e0_ext (by kernel_rfl)) (by kernel_rfl) (by decide) os h
theorem w62 {args : List V} {m : Mem} (os : List (A E0)) {r : List V × Mem} (h : walkF E0 F62 args m os = some (r, want os)) : cl E0 62 args m = some r := cl_walk (e0_ext (by kernel_rfl)) (by kernel_rfl) (by decide) os h
theorem w63 {args : List V} {m : Mem} (os : List (A E0)) {r : List V × Mem} (h : walkF E0 F63 args m os = some (r, want os)) : cl E0 63 args m = some r := cl_walk (e0_ext (by kernel_rfl)) (by kernel_rfl) (by decide) os h
theorem w65 {args : List V} {m : Mem} (os : List (A E0)) {r : List V × Mem} (h : walkF E0 F65 args m os = some (r, want os)) : cl E0 65 args m = some r := cl_walk (e0_ext (by kernel_rfl)) (by kernel_rfl) (by decide) os h
theorem w66 {args : List V} {m : Mem} (os : List (A E0)) {r : List V × Mem} (h : walkF E0 F66 args m os = some (r, want os)) : cl E0 66 args m = some r := cl_walk (e0_ext (by kernel_rfl)) (by kernel_rfl) (by decide) os h
theorem w67 {args : List V} {m : Mem} (os : List (A E0)) {r : List V × Mem} (h : walkF E0 F67 args m os = some (r, want os)) : cl E0 67 args m = some r := cl_walk (e0_ext (by kernel_rfl)) (by kernel_rfl) (by decide) os h
theorem w68 {args : List V} {m : Mem} (os : List (A E0)) {r : List V × Mem} (h : walkF E0 F68 args m os = some (r, want os)) : cl E0 68 args m = some r := cl_walk (e0_ext (by kernel_rfl)) (by kernel_rfl) (by decide) os h
theorem w69 {args : List V} {m : Mem} (os : List (A E0)) {r : List V × Mem} (h : walkF E0 F69 args m os = some (r, want os)) : cl E0 69 args m = some r := cl_walk (e0_ext (by kernel_rfl)) (by kernel_rfl) (by decide) os h
theorem w70 {args : List V} {m : Mem} (os : List (A E0)) {r : List V × Mem} (h : walkF E0 F70 args m os = some (r, want os)) : cl E0 70 args m = some r := cl_walk (e0_ext (by kernel_rfl)) (by kernel_rfl) (by decide) os h
theorem w73 {args : List V} {m : Mem} (os : List (A E0)) {r : List V × Mem} (h : walkF E0 F73 args m os = some (r, want os)) : cl E0 73 args m = some r := cl_walk (e0_ext (by kernel_rfl)) (by kernel_rfl) (by decide) os h
theorem w75 {args : List V} {m : Mem} (os : List (A E0)) {r : List V × Mem} (h : walkF E0 F75 args m os = some (r, want os)) : cl E0 75 args m = some r := cl_walk (e0_ext (by kernel_rfl)) (by kernel_rfl) (by decide) os h
theorem w76 {args : List V} {m : Mem} (os : List (A E0)) {r : List V × Mem} (h : walkF E0 F76 args m os = some (r, want os)) : cl E0 76 args m = some r := cl_walk (e0_ext (by kernel_rfl)) (by kernel_rfl) (by decide) os h
theorem w77 {args : List V} {m : Mem} (os : List (A E0)) {r : List V × Mem} (h : walkF E0 F77 args m os = some (r, want os)) : cl E0 77 args m = some r := cl_walk (e0_ext (by kernel_rfl)) (by kernel_rfl) (by decide) os h
theorem e0_del : ∀ f, E0.del f = true → DelOK Try.prog f := fun f h => by cases h
def rhoG60 : Shelf.Ren := ⟨fun x => if x = 4 then 60 else x, fun x => match x with | 0 => 0 | 3 => 3 | 4 => 4 | 9 => 9 | 20 => 20 | 22 => 37 | 25 => 5 | x => x, fun x => x⟩
theorem laysG60 : Lays8.n4 Try.prog rhoG60 := by
  constructor
  case f4 => exact ⟨"slices.Grow[[]byte,byte]", by kernel_rfl, by kernel_rfl⟩
  all_goals first | kernel_rfl | (intro w; kernel_rfl)
theorem xok60 : XOK Try.prog 60 (.grow 5 true 1 1) := ⟨by decide, ⟨_, rfl, by kernel_rfl, by kernel_rfl⟩, growOK_of laysG60 rfl rfl (i0 := (Try.prog.info? 5).getD default) (z := (((Try.prog.info? 5).bind (·.zero)).getD default)) (by kernel_rfl) (by kernel_rfl) (by kernel_rfl) (by kernel_rfl) (by kernel_rfl) (by decide) (by decide)⟩
theorem e0_x : ∀ p, p ∈ extT → XOK Try.prog p.1 p.2 := by
  unfold extT
  simp only [List.forall_mem_cons]
  exact ⟨xok60, fun p h => by simp at h⟩
end Go.Proofs.Ytkipngagfiaddaa.Den

namespace Go.Proofs.Ytkipngagfiaddaa.Den
open Go
set_option linter.unusedVariables false
set_option linter.unusedSimpArgs false
set_option linter.unusedSectionVars false
def tabE {α : Type} [Inhabited α] (T : List α) (n : Nat) : List α := (List.range n).map fun (j : Nat) => gt T (j : Int)
def staE {α : Type} [Inhabited α] (T : List α) (n : Nat) (i : Int) (v : α) : List α := st (tabE T n) i v
def arrE {α : Type} [Inhabited α] (enc : α → List D) (T : List α) (n : Nat) : List D := ((tabE T n).map enc).flatten
section
variable {α : Type} [Inhabited α]
theorem tabE_len (T : List α) (n : Nat) : (tabE T n).length = n := by simp [tabE]
theorem staE_len (T : List α) (n : Nat) (i : Int) (v : α) : (staE T n i v).length = n := by simp [staE, st, tabE_len]
theorem tabE_id {T : List α} {n : Nat} (h : T.length = n) : tabE T n = T := by
  apply List.ext_getElem
  · rw [tabE_len, h]
  · intro j h1 h2
    simp [tabE, gt, List.getD, h2]
theorem flat_len_E {enc : α → List D} {z : Nat} (hz : ∀ a, (enc a).length = z) : ∀ (l : List α), ((l.map enc).flatten).length = l.length * z
  | [] => by simp
  | a :: l => by
    have := flat_len_E hz l
    simp only [List.map_cons, List.flatten_cons, List.length_append, hz, this, List.length_cons, Nat.succ_mul]; omega
theorem flat_at_E {enc : α → List D} {z : Nat} (hz : ∀ a, (enc a).length = z) : ∀ (l : List α) (i : Nat) (h : i < l.length), (((l.map enc).flatten).drop (i * z)).take z = enc l[i]
  | a :: l, 0, _ => by simp [hz, List.take_append_of_le_length]
  | a :: l, i + 1, h => by
    have := flat_at_E hz l i (by simpa using h)
    simp only [List.map_cons, List.flatten_cons, List.getElem_cons_succ]
    rw [← this, Nat.succ_mul, Nat.add_comm, ← List.drop_drop, List.drop_left' (hz a)]
theorem flat_set_E {enc : α → List D} {z : Nat} (hz : ∀ a, (enc a).length = z) (v : α) : ∀ (l : List α) (i : Nat), i < l.length →
    ((l.set i v).map enc).flatten = ((l.map enc).flatten).take (i * z) ++ (enc v ++ ((l.map enc).flatten).drop (i * z + z))
  | a :: l, 0, _ => by
    simp only [List.set_cons_zero, List.map_cons, List.flatten_cons, Nat.zero_mul, List.take_zero, List.nil_append, Nat.zero_add]
    rw [List.drop_left' (hz a)]
  | a :: l, i + 1, h => by
    have := flat_set_E hz v l i (by simpa using h)
    simp only [List.set_cons_succ, List.map_cons, List.flatten_cons, this]
    have e1 : (i + 1) * z = z + i * z := by rw [Nat.succ_mul, Nat.add_comm]
    have e2 : (enc a).take (z + i * z) = enc a := List.take_of_length_le (by rw [hz]; exact Nat.le_add_right _ _)
    have e3 : ∀ (r : List D) (k : Nat), (enc a ++ r).drop (z + k) = r.drop k := fun r k => by rw [← List.drop_drop, List.drop_left' (hz a)]
    rw [e1, List.take_append, e2, hz, Nat.add_sub_cancel_left, List.append_assoc, Nat.add_assoc, e3]
theorem staE_set {T : List α} {n : Nat} {i : Int} {v : α} (h1 : 0 ≤ i) (h2 : i.toNat < n) : tabE (staE T n i v) n = (tabE T n).set i.toNat v := by
  rw [tabE_id (staE_len T n i v)]; rfl
theorem arrE_len {enc : α → List D} {z : Nat} (hz : ∀ a, (enc a).length = z) (T : List α) (n : Nat) : (arrE enc T n).length = n * z := by
  unfold arrE; rw [flat_len_E hz, tabE_len]
theorem arrE_at {enc : α → List D} {z : Nat} (hz : ∀ a, (enc a).length = z) {T : List α} {n : Nat} {i : Int} (h1 : 0 ≤ i) (h2 : i.toNat < n) : ((arrE enc T n).drop (i.toNat * z)).take z = enc (gt T i) := by
  unfold arrE
  rw [flat_at_E hz _ _ (by rw [tabE_len]; exact h2)]
  simp [tabE, show ((i.toNat : Nat) : Int) = i by omega]
theorem arrE_sta {enc : α → List D} {z : Nat} (hz : ∀ a, (enc a).length = z) {T : List α} {n : Nat} {i : Int} {v : α} (h1 : 0 ≤ i) (h2 : i.toNat < n) :
    arrE enc (staE T n i v) n = (arrE enc T n).take (i.toNat * z) ++ (enc v ++ (arrE enc T n).drop (i.toNat * z + z)) := by
  unfold arrE
  rw [staE_set h1 h2]
  exact flat_set_E hz v _ _ (by rw [tabE_len]; exact h2)
variable {E : Env} {c : CallT} {t : Nat → V} {m : Mem}
theorem part_mid {cells : List V} {A : List D} {off z o size : Nat} {agg : Bool} {v : V} (hx : (cells.drop off).take z = A.map V.d) (hA : A.length = z) (h0 : 0 < z) (hv : part agg (A.map V.d) o size = some v) : part agg cells (off + o) size = some v := by
  have key : ∀ q, q < z → cells[off + q]? = (A.map V.d)[q]? := fun q hq => arr_at hx hq
  unfold part at hv ⊢
  cases agg with
  | false =>
    simp only [Bool.false_eq_true, if_false] at hv ⊢
    have ho : o < z := by
      rcases Nat.lt_or_ge o z with h | h
      · exact h
      · rw [List.getElem?_eq_none (by simp [hA]; exact h)] at hv; cases hv
    rw [key o ho]; exact hv
  | true =>
    simp only [if_true] at hv ⊢
    obtain ⟨w, hw, rfl⟩ := Option.map_eq_some_iff.1 hv
    unfold seg at hw ⊢
    by_cases hl : o + size ≤ (A.map V.d).length
    · rw [if_pos hl] at hw
      cases hw
      have hl' : o + size ≤ z := by simpa [hA] using hl
      have hc : off + z ≤ cells.length := by
        have := congrArg List.length hx
        simp [hA] at this; omega
      have hlen : off + o + size ≤ cells.length := by omega
      rw [if_pos hlen, ← hx]
      simp only [Option.map_some, Option.some.injEq, V.agg.injEq]
      rw [List.drop_take, List.drop_drop, List.take_take, Nat.min_eq_left (by omega)]
    · rw [if_neg hl] at hw; cases hw
theorem o_store_arrE {α : Type} [Inhabited α] {enc : α → List D} {z : Nat} (hz : ∀ a, (enc a).length = z) (h0 : 0 < z) (hsc : ∀ a, toSs ((enc a).map V.d) = some (enc a)) {id nn row off n s : Nat} {e : TypeId} {rows : List (List D)} {cs : List D} {T : List α} {i : Int} {v : α}
    (hm : m[id]? = some (.flat e s rows false)) (hr : rows[row]? = some cs) (hn : Nat.beq nn rows.length = true) (hx : (cs.drop off).take (n * z) = arrE enc T n) (h : inb n i = true) :
    doI E c (.store z (.v (.ptr id nn row (off + i.toNat * z))) (.v (.agg ((enc v).map V.d)))) t m = some (.tup [], m.set id (.flat e s (rows.set row (cs.take off ++ (arrE enc (staE T n i v) n ++ cs.drop (off + n * z)))) false)) := by
  obtain ⟨h1, h2⟩ := inb_spec h
  have hle : i.toNat * z + z ≤ n * z := by rw [← Nat.succ_mul]; exact Nat.mul_le_mul_right z h2
  have hlen : off + n * z ≤ cs.length := by
    have := congrArg List.length hx
    rw [arrE_len hz] at this
    simp at this
    rcases Nat.lt_or_ge cs.length (off + n * z) with h | h
    · omega
    · exact h
  have hput : cs.take (off + i.toNat * z) ++ (enc v ++ cs.drop (off + i.toNat * z + z)) = cs.take off ++ (arrE enc (staE T n i v) n ++ cs.drop (off + n * z)) := by
    rw [arrE_sta hz h1 h2, ← hx, List.take_add, List.take_take, Nat.min_eq_left (by omega), List.drop_take, List.drop_drop]
    simp only [List.append_assoc]
    congr 3
    have e1 : cs.drop (off + i.toNat * z + z) = (cs.drop (off + (i.toNat * z + z))).take (n * z - (i.toNat * z + z)) ++ (cs.drop (off + (i.toNat * z + z))).drop (n * z - (i.toNat * z + z)) := by
      rw [List.take_append_drop, Nat.add_assoc]
    rw [e1, List.drop_drop, show off + (i.toNat * z + z) + (n * z - (i.toNat * z + z)) = off + n * z by omega]
  have hl : ((enc v).map V.d).length = z := by simp [hz]
  have hle2 : off + i.toNat * z + z ≤ cs.length := by omega
  simp only [doI, ev, storeV, V.cells, hl, V.cellsOk, hm, Option.bind_some, Blk.put?, beq_len hn, if_true, hsc, setRow, hr, hz, hle2, Option.map_some, and_self, List.append_assoc, hput]
theorem o_idx_arrE {α : Type} [Inhabited α] {enc : α → List D} {z : Nat} (hz : ∀ a, (enc a).length = z) (h0 : 0 < z) {n : Nat} {agg : Bool} {cells : List V} {k : IntKind} {T : List α} {i : Int} {v : V}
    (hx : cells.take (n * z) = (arrE enc T n).map V.d) (h : inb n i = true) (hv : part agg ((enc (gt T i)).map V.d) 0 z = some v) :
    doI E c (.idx agg n z (.v (.agg cells)) (.v (.d (.int k i)))) t m = some (v, m) := by
  obtain ⟨h1, h2⟩ := inb_spec h
  have hle : i.toNat * z + z ≤ n * z := by rw [← Nat.succ_mul]; exact Nat.mul_le_mul_right z h2
  have hx2 : (cells.drop (i.toNat * z)).take z = (enc (gt T i)).map V.d := by
    rw [← arrE_at hz h1 h2 (T := T), List.map_take, List.map_drop, ← hx, List.drop_take, List.take_take, Nat.min_eq_left (by omega)]
  have := part_mid hx2 (hz _) h0 hv
  simp only [Nat.add_zero] at this
  simp [doI, ev, asNat_inb h1, fieldV, h2, this]
end
end Go.Proofs.Ytkipngagfiaddaa.Den

namespace Go.Proofs.Ytkipngagfiaddaa.Den
open Go
set_option linter.unusedVariables false
set_option linter.unusedSimpArgs false
section
variable {E : Env} {c : CallT} {t : Nat → V} {m : Mem}
end
end Go.Proofs.Ytkipngagfiaddaa.Den

namespace Go.Proofs.Ytkipngagfiaddaa.Den
open Go Go.Proofs
set_option maxRecDepth 100000
set_option maxHeartbeats 4000000
set_option linter.unusedVariables false
set_option linter.unusedSimpArgs false
structure R_bool_Su811 where
  c0 : Bool
  c1 : Bool
  c2 : List Int
  deriving Inhabited
structure R_i64_i64_i64_bool where
  c0 : Int
  c1 : Int
  c2 : Int
  c3 : Bool
  deriving Inhabited
def enc_R_i64_i64_i64_bool (p : R_i64_i64_i64_bool) : List D := [(.int .i64 p.c0), (.int .i64 p.c1), (.int .i64 p.c2), (.bool p.c3)]
end Go.Proofs.Ytkipngagfiaddaa.Den

namespace Go.Proofs.Ytkipngagfiaddaa.Den
open Go Go.Proofs
set_option maxRecDepth 100000
set_option maxHeartbeats 4000000
set_option linter.unusedVariables false
set_option linter.unusedSimpArgs false
def fix_right_i_r0_0 (x0 : Int) : Bool := (bif tb (decide (0 ≤ x0)) then (decide (x0 < 65536)) else false)
theorem fix_right_i_t0 (x0 : Int) : cl E0 76 [(V.d (.int .i64 x0))] [] = some ([(V.d (.bool (fix_right_i_r0_0 x0)))], []) := by
  unfold fix_right_i_r0_0
  cases h1 : tb (decide (0 ≤ x0))
  · exact w76 [.b (tbE h1)] (by kernel_rfl)
  · exact w76 [.b (tbE h1)] (by kernel_rfl)
def fix_Has_ii_r0_0 (x0 : Int) (x1 : Int) : Bool := (bif tb (fix_right_i_r0_0 x0) then (bif tb (decide (0 ≤ x1)) then (bif tb (decide (x1 < 16)) then (((andI .i64 (shrI .i64 x0 x1) 1) : Int) == 1) else false) else false) else false)
theorem fix_Has_ii_t0 (x0 : Int) (x1 : Int) : cl E0 67 [(V.d (.int .i64 x0)), (V.d (.int .i64 x1))] [] = some ([(V.d (.bool (fix_Has_ii_r0_0 x0 x1)))], []) := by
  unfold fix_Has_ii_r0_0
  cases h1 : tb (fix_right_i_r0_0 x0)
  · exact w67 [.c (fix_right_i_t0 x0), .b (tbE h1)] (by kernel_rfl)
  · cases h2 : tb (decide (0 ≤ x1))
    · exact w67 [.c (fix_right_i_t0 x0), .b (tbE h1), .b (tbE h2)] (by kernel_rfl)
    · cases h3 : tb (decide (x1 < 16))
      · exact w67 [.c (fix_right_i_t0 x0), .b (tbE h1), .b (tbE h2), .b (tbE h3)] (by kernel_rfl)
      · exact w67 [.c (fix_right_i_t0 x0), .b (tbE h1), .b (tbE h2), .b (tbE h3), .o 18 (fun _ => o_shr (k := .i64) (k2 := .i64) (x := x0) (y := x1) (tbE h2))] (by kernel_rfl)
end Go.Proofs.Ytkipngagfiaddaa.Den

namespace Go.Proofs.Ytkipngagfiaddaa.Den
open Go Go.Proofs
set_option maxRecDepth 100000
set_option maxHeartbeats 4000000
set_option linter.unusedVariables false
set_option linter.unusedSimpArgs false
def status_Right_ai3b_S0_r0_0 (x0 : Int) (x2 : Int) : Bool := (bif tb ((x2 : Int) == (-1)) then true else (bif tb (decide (0 ≤ x2)) then (bif tb (decide (x2 < 4)) then (fix_Has_ii_r0_0 x0 x2) else false) else false))
theorem status_Right_ai3b_S0_t0 (x0 : Int) (x1 : Int) (x2 : Int) (x3 : Bool) (x4 : Bool) : segG (runC E0 (cl E0) S52_0) [1] [] [1, 3] 1 ([(V.ptr 0 1 0 0)], [(Blk.flat 52 4 [[(.int .i64 x0), (.int .i64 x1), (.int .i64 x2), (.bool x3)]] x4)]) = some (.normal, ([(V.ptr 0 1 0 0), (V.d (.bool (status_Right_ai3b_S0_r0_0 x0 x2)))], [(Blk.flat 52 4 [[(.int .i64 x0), (.int .i64 x1), (.int .i64 x2), (.bool x3)]] x4)])) := by
  unfold status_Right_ai3b_S0_r0_0
  cases h1 : tb ((x2 : Int) == (-1))
  · cases h2 : tb (decide (0 ≤ x2))
    · exact seg_walk [.b (tbE h1), .b (tbE h2)] (by kernel_rfl)
    · cases h3 : tb (decide (x2 < 4))
      · exact seg_walk [.b (tbE h1), .b (tbE h2), .b (tbE h3)] (by kernel_rfl)
      · exact seg_walk [.b (tbE h1), .b (tbE h2), .b (tbE h3), .c (fix_Has_ii_t0 x0 x2)] (by kernel_rfl)
  · exact seg_walk [.b (tbE h1)] (by kernel_rfl)
def status_masked_i_r0_0 (x0 : Int) : Bool := (bif tb (decide (0 ≤ x0)) then (decide (x0 ≤ 15)) else false)
theorem status_masked_i_t0 (x0 : Int) : cl E0 68 [(V.d (.int .i64 x0))] [] = some ([(V.d (.bool (status_masked_i_r0_0 x0)))], []) := by
  unfold status_masked_i_r0_0
  cases h1 : tb (decide (0 ≤ x0))
  · exact w68 [.b (tbE h1)] (by kernel_rfl)
  · exact w68 [.b (tbE h1)] (by kernel_rfl)
def status_Right_ai3b_S1_r0_0 (x0 : Int) (x1 : Int) (x3 : Bool) (x5 : Bool) : Bool := (bif tb (status_masked_i_r0_0 x0) then (bif tb (status_masked_i_r0_0 x1) then (bif tb (false != (x3 == ((x0 : Int) == 0))) then x5 else false) else false) else false)
theorem status_Right_ai3b_S1_t0 (x0 : Int) (x1 : Int) (x2 : Int) (x3 : Bool) (x4 : Bool) (x5 : Bool) : segG (runC E0 (cl E0) S52_1) [1, 3] [] [2] 1 ([(V.ptr 0 1 0 0), (V.d (.bool x5))], [(Blk.flat 52 4 [[(.int .i64 x0), (.int .i64 x1), (.int .i64 x2), (.bool x3)]] x4)]) = some (.normal, ([(V.d (.bool (status_Right_ai3b_S1_r0_0 x0 x1 x3 x5)))], [(Blk.flat 52 4 [[(.int .i64 x0), (.int .i64 x1), (.int .i64 x2), (.bool x3)]] x4)])) := by
  unfold status_Right_ai3b_S1_r0_0
  cases h1 : tb (status_masked_i_r0_0 x0)
  · exact seg_walk [.c (status_masked_i_t0 x0), .b (tbE h1)] (by kernel_rfl)
  · cases h2 : tb (status_masked_i_r0_0 x1)
    · exact seg_walk [.c (status_masked_i_t0 x0), .b (tbE h1), .c (status_masked_i_t0 x1), .b (tbE h2)] (by kernel_rfl)
    · cases h3 : tb (false != (x3 == ((x0 : Int) == 0)))
      · exact seg_walk [.c (status_masked_i_t0 x0), .b (tbE h1), .c (status_masked_i_t0 x1), .b (tbE h2), .b (tbE h3)] (by kernel_rfl)
      · exact seg_walk [.c (status_masked_i_t0 x0), .b (tbE h1), .c (status_masked_i_t0 x1), .b (tbE h2), .b (tbE h3)] (by kernel_rfl)
theorem status_Right_ai3b_t0 (x0 : Int) (x1 : Int) (x2 : Int) (x3 : Bool) : cl E0 52 [(V.agg [(V.d (.int .i64 x0)), (V.d (.int .i64 x1)), (V.d (.int .i64 x2)), (V.d (.bool x3))])] [] = some ([(V.d (.bool (status_Right_ai3b_S1_r0_0 x0 x1 x3 (status_Right_ai3b_S0_r0_0 x0 x2))))], []) := by
  exact w52 [.s (status_Right_ai3b_S0_t0 x0 x1 x2 x3 false), .s (status_Right_ai3b_S1_t0 x0 x1 x2 x3 false (status_Right_ai3b_S0_r0_0 x0 x2))] (by kernel_rfl)
def status_Word_ai3b_e0 (x0 : Int) (x1 : Int) : Int := orI .i64 (orI .i64 (orI .i64 x0 (shlI .i64 x1 4)) 1792) 2048
def status_Word_ai3b_e1 (x0 : Int) (x1 : Int) (x2 : Int) : Int := orI .i64 (orI .i64 (orI .i64 x0 (shlI .i64 x1 4)) (shlI .i64 x2 8)) 2048
def status_Word_ai3b_r0_0 (x0 : Int) (x1 : Int) (x2 : Int) (x3 : Bool) : Int := (bif tb (status_Right_ai3b_S1_r0_0 x0 x1 x3 (status_Right_ai3b_S0_r0_0 x0 x2)) then (bif tb (decide (x2 < 0)) then (bif tb (x3) then (status_Word_ai3b_e0 x0 x1) else (orI .i64 (orI .i64 x0 (shlI .i64 x1 4)) 1792)) else (bif tb (x3) then (status_Word_ai3b_e1 x0 x1 x2) else (orI .i64 (orI .i64 x0 (shlI .i64 x1 4)) (shlI .i64 x2 8)))) else 0)
def status_Word_ai3b_r0_1 (x0 : Int) (x1 : Int) (x2 : Int) (x3 : Bool) : Int := (bif tb (status_Right_ai3b_S1_r0_0 x0 x1 x3 (status_Right_ai3b_S0_r0_0 x0 x2)) then 0 else 1)
theorem status_Word_ai3b_t0 (x0 : Int) (x1 : Int) (x2 : Int) (x3 : Bool) : cl E0 63 [(V.agg [(V.d (.int .i64 x0)), (V.d (.int .i64 x1)), (V.d (.int .i64 x2)), (V.d (.bool x3))])] [] = some ([(V.d (.int .i64 (status_Word_ai3b_r0_0 x0 x1 x2 x3))), (V.d (.int .i64 (status_Word_ai3b_r0_1 x0 x1 x2 x3)))], []) := by
  unfold status_Word_ai3b_r0_0 status_Word_ai3b_r0_1
  cases h1 : tb (status_Right_ai3b_S1_r0_0 x0 x1 x3 (status_Right_ai3b_S0_r0_0 x0 x2))
  · exact w63 [.c (status_Right_ai3b_t0 x0 x1 x2 x3), .b (notF (tbE h1))] (by kernel_rfl)
  · cases h2 : tb (decide (x2 < 0))
    · cases h3 : tb (x3)
      · exact w63 [.c (status_Right_ai3b_t0 x0 x1 x2 x3), .b (notT (tbE h1)), .b (tbE h2), .o 16 (fun _ => o_shl (k := .i64) (k2 := .u64) (x := x1) (y := 4) rfl), .o 19 (fun _ => o_shl (k := .i64) (k2 := .u64) (x := x2) (y := 8) rfl), .b (tbE h3)] (by kernel_rfl)
      · exact w63 [.c (status_Right_ai3b_t0 x0 x1 x2 x3), .b (notT (tbE h1)), .b (tbE h2), .o 16 (fun _ => o_shl (k := .i64) (k2 := .u64) (x := x1) (y := 4) rfl), .o 19 (fun _ => o_shl (k := .i64) (k2 := .u64) (x := x2) (y := 8) rfl), .b (tbE h3)] (by kernel_rfl)
    · cases h3 : tb (x3)
      · exact w63 [.c (status_Right_ai3b_t0 x0 x1 x2 x3), .b (notT (tbE h1)), .b (tbE h2), .o 16 (fun _ => o_shl (k := .i64) (k2 := .u64) (x := x1) (y := 4) rfl), .b (tbE h3)] (by kernel_rfl)
      · exact w63 [.c (status_Right_ai3b_t0 x0 x1 x2 x3), .b (notT (tbE h1)), .b (tbE h2), .o 16 (fun _ => o_shl (k := .i64) (k2 := .u64) (x := x1) (y := 4) rfl), .b (tbE h3)] (by kernel_rfl)
def status_Parse_i_r0_0 (x0 : Int) : Int := (bif tb (decide (x0 < 0)) then 0 else (bif tb (decide (4096 ≤ x0)) then 0 else (bif tb (((andI .i64 (shrI .i64 x0 8) 7) : Int) == 7) then (bif tb (status_Right_ai3b_S1_r0_0 (andI .i64 x0 15) (andI .i64 (shrI .i64 x0 4) 15) (fix_Has_ii_r0_0 x0 11) (status_Right_ai3b_S0_r0_0 (andI .i64 x0 15) (-1))) then (andI .i64 x0 15) else 0) else (bif tb (status_Right_ai3b_S1_r0_0 (andI .i64 x0 15) (andI .i64 (shrI .i64 x0 4) 15) (fix_Has_ii_r0_0 x0 11) (status_Right_ai3b_S0_r0_0 (andI .i64 x0 15) (andI .i64 (shrI .i64 x0 8) 7))) then (andI .i64 x0 15) else 0))))
def status_Parse_i_r0_1 (x0 : Int) : Int := (bif tb (decide (x0 < 0)) then 0 else (bif tb (decide (4096 ≤ x0)) then 0 else (bif tb (((andI .i64 (shrI .i64 x0 8) 7) : Int) == 7) then (bif tb (status_Right_ai3b_S1_r0_0 (andI .i64 x0 15) (andI .i64 (shrI .i64 x0 4) 15) (fix_Has_ii_r0_0 x0 11) (status_Right_ai3b_S0_r0_0 (andI .i64 x0 15) (-1))) then (andI .i64 (shrI .i64 x0 4) 15) else 0) else (bif tb (status_Right_ai3b_S1_r0_0 (andI .i64 x0 15) (andI .i64 (shrI .i64 x0 4) 15) (fix_Has_ii_r0_0 x0 11) (status_Right_ai3b_S0_r0_0 (andI .i64 x0 15) (andI .i64 (shrI .i64 x0 8) 7))) then (andI .i64 (shrI .i64 x0 4) 15) else 0))))
def status_Parse_i_r0_2 (x0 : Int) : Int := (bif tb (decide (x0 < 0)) then 0 else (bif tb (decide (4096 ≤ x0)) then 0 else (bif tb (((andI .i64 (shrI .i64 x0 8) 7) : Int) == 7) then (bif tb (status_Right_ai3b_S1_r0_0 (andI .i64 x0 15) (andI .i64 (shrI .i64 x0 4) 15) (fix_Has_ii_r0_0 x0 11) (status_Right_ai3b_S0_r0_0 (andI .i64 x0 15) (-1))) then (-1) else 0) else (bif tb (status_Right_ai3b_S1_r0_0 (andI .i64 x0 15) (andI .i64 (shrI .i64 x0 4) 15) (fix_Has_ii_r0_0 x0 11) (status_Right_ai3b_S0_r0_0 (andI .i64 x0 15) (andI .i64 (shrI .i64 x0 8) 7))) then (andI .i64 (shrI .i64 x0 8) 7) else 0))))
def status_Parse_i_r0_3 (x0 : Int) : Bool := (bif tb (decide (x0 < 0)) then false else (bif tb (decide (4096 ≤ x0)) then false else (bif tb (((andI .i64 (shrI .i64 x0 8) 7) : Int) == 7) then (bif tb (status_Right_ai3b_S1_r0_0 (andI .i64 x0 15) (andI .i64 (shrI .i64 x0 4) 15) (fix_Has_ii_r0_0 x0 11) (status_Right_ai3b_S0_r0_0 (andI .i64 x0 15) (-1))) then (fix_Has_ii_r0_0 x0 11) else false) else (bif tb (status_Right_ai3b_S1_r0_0 (andI .i64 x0 15) (andI .i64 (shrI .i64 x0 4) 15) (fix_Has_ii_r0_0 x0 11) (status_Right_ai3b_S0_r0_0 (andI .i64 x0 15) (andI .i64 (shrI .i64 x0 8) 7))) then (fix_Has_ii_r0_0 x0 11) else false))))
def status_Parse_i_r0_4 (x0 : Int) : Int := (bif tb (decide (x0 < 0)) then 3 else (bif tb (decide (4096 ≤ x0)) then 3 else (bif tb (((andI .i64 (shrI .i64 x0 8) 7) : Int) == 7) then (bif tb (status_Right_ai3b_S1_r0_0 (andI .i64 x0 15) (andI .i64 (shrI .i64 x0 4) 15) (fix_Has_ii_r0_0 x0 11) (status_Right_ai3b_S0_r0_0 (andI .i64 x0 15) (-1))) then 0 else 3) else (bif tb (status_Right_ai3b_S1_r0_0 (andI .i64 x0 15) (andI .i64 (shrI .i64 x0 4) 15) (fix_Has_ii_r0_0 x0 11) (status_Right_ai3b_S0_r0_0 (andI .i64 x0 15) (andI .i64 (shrI .i64 x0 8) 7))) then 0 else 3))))
theorem status_Parse_i_t0 (x0 : Int) : cl E0 44 [(V.d (.int .i64 x0))] [] = some ([(V.agg [(V.d (.int .i64 (status_Parse_i_r0_0 x0))), (V.d (.int .i64 (status_Parse_i_r0_1 x0))), (V.d (.int .i64 (status_Parse_i_r0_2 x0))), (V.d (.bool (status_Parse_i_r0_3 x0)))]), (V.d (.int .i64 (status_Parse_i_r0_4 x0)))], []) := by
  unfold status_Parse_i_r0_0 status_Parse_i_r0_1 status_Parse_i_r0_2 status_Parse_i_r0_3 status_Parse_i_r0_4
  cases h1 : tb (decide (x0 < 0))
  · cases h2 : tb (decide (4096 ≤ x0))
    · cases h3 : tb (((andI .i64 (shrI .i64 x0 8) 7) : Int) == 7)
      · cases h4 : tb (status_Right_ai3b_S1_r0_0 (andI .i64 x0 15) (andI .i64 (shrI .i64 x0 4) 15) (fix_Has_ii_r0_0 x0 11) (status_Right_ai3b_S0_r0_0 (andI .i64 x0 15) (andI .i64 (shrI .i64 x0 8) 7)))
        · exact w44 [.b (tbE h1), .b (tbE h2), .o 15 (fun _ => o_shr (k := .i64) (k2 := .u64) (x := x0) (y := 4) rfl), .o 18 (fun _ => o_shr (k := .i64) (k2 := .u64) (x := x0) (y := 8) rfl), .c (fix_Has_ii_t0 x0 11), .b (tbE h3), .c (status_Right_ai3b_t0 (andI .i64 x0 15) (andI .i64 (shrI .i64 x0 4) 15) (andI .i64 (shrI .i64 x0 8) 7) (fix_Has_ii_r0_0 x0 11)), .b (notF (tbE h4))] (by kernel_rfl)
        · exact w44 [.b (tbE h1), .b (tbE h2), .o 15 (fun _ => o_shr (k := .i64) (k2 := .u64) (x := x0) (y := 4) rfl), .o 18 (fun _ => o_shr (k := .i64) (k2 := .u64) (x := x0) (y := 8) rfl), .c (fix_Has_ii_t0 x0 11), .b (tbE h3), .c (status_Right_ai3b_t0 (andI .i64 x0 15) (andI .i64 (shrI .i64 x0 4) 15) (andI .i64 (shrI .i64 x0 8) 7) (fix_Has_ii_r0_0 x0 11)), .b (notT (tbE h4))] (by kernel_rfl)
      · cases h4 : tb (status_Right_ai3b_S1_r0_0 (andI .i64 x0 15) (andI .i64 (shrI .i64 x0 4) 15) (fix_Has_ii_r0_0 x0 11) (status_Right_ai3b_S0_r0_0 (andI .i64 x0 15) (-1)))
        · exact w44 [.b (tbE h1), .b (tbE h2), .o 15 (fun _ => o_shr (k := .i64) (k2 := .u64) (x := x0) (y := 4) rfl), .o 18 (fun _ => o_shr (k := .i64) (k2 := .u64) (x := x0) (y := 8) rfl), .c (fix_Has_ii_t0 x0 11), .b (tbE h3), .c (status_Right_ai3b_t0 (andI .i64 x0 15) (andI .i64 (shrI .i64 x0 4) 15) (-1) (fix_Has_ii_r0_0 x0 11)), .b (notF (tbE h4))] (by kernel_rfl)
        · exact w44 [.b (tbE h1), .b (tbE h2), .o 15 (fun _ => o_shr (k := .i64) (k2 := .u64) (x := x0) (y := 4) rfl), .o 18 (fun _ => o_shr (k := .i64) (k2 := .u64) (x := x0) (y := 8) rfl), .c (fix_Has_ii_t0 x0 11), .b (tbE h3), .c (status_Right_ai3b_t0 (andI .i64 x0 15) (andI .i64 (shrI .i64 x0 4) 15) (-1) (fix_Has_ii_r0_0 x0 11)), .b (notT (tbE h4))] (by kernel_rfl)
    · exact w44 [.b (tbE h1), .b (tbE h2)] (by kernel_rfl)
  · exact w44 [.b (tbE h1)] (by kernel_rfl)
end Go.Proofs.Ytkipngagfiaddaa.Den

namespace Go.Proofs.Ytkipngagfiaddaa.Den
open Go Go.Proofs
set_option maxRecDepth 100000
set_option maxHeartbeats 4000000
set_option linter.unusedVariables false
set_option linter.unusedSimpArgs false
def ref01_Has_ii_S0_c0 (x0 : Int) (x1 : Int) : Bool := (bif tb (decide (x0 < 0)) then true else (bif tb (decide (65535 < x0)) then true else (bif tb (decide (x1 < 0)) then true else (bif tb (decide (15 < x1)) then true else false))))
structure ref01_Has_ii_L1_s0 where
  c1 : Int
  c2 : Int
  deriving Inhabited
def ref01_Has_ii_L1_sel (x0 : Int) (s0 : ref01_Has_ii_L1_s0) : Bool := (bif tb (decide (s0.c2 < x0)) then true else false)
def ref01_Has_ii_L1_nx (x0 : Int) (s0 : ref01_Has_ii_L1_s0) : ref01_Has_ii_L1_s0 := ⟨(quoI .i64 s0.c1 2), (wi (s0.c2 + 1))⟩
def ref01_Has_ii_L1_ok (x0 : Int) (s0 : ref01_Has_ii_L1_s0) : Bool := (itS (ref01_Has_ii_L1_sel x0) (ref01_Has_ii_L1_nx x0) bound s0).isSome
def ref01_Has_ii_L1_end (x0 : Int) (s0 : ref01_Has_ii_L1_s0) : ref01_Has_ii_L1_s0 := (itS (ref01_Has_ii_L1_sel x0) (ref01_Has_ii_L1_nx x0) bound s0).getD default
def ref01_Has_ii_S2_c0 (x0 : Int) (x1 : Int) : Bool := (bif tb (ref01_Has_ii_L1_ok x0 (⟨x1, 0⟩ : ref01_Has_ii_L1_s0)) then true else false)
def ref01_Has_ii_e0 (x0 : Int) (x1 : Int) : Int := remI .i64 ((ref01_Has_ii_L1_end x1 (⟨x0, 0⟩ : ref01_Has_ii_L1_s0)).c1) 2
def ref01_Has_ii_c0 (x0 : Int) (x1 : Int) : Bool := (bif tb (ref01_Has_ii_S0_c0 x0 x1) then true else (bif tb (ref01_Has_ii_S2_c0 x1 x0) then true else false))
def ref01_Has_ii_r0_0 (x0 : Int) (x1 : Int) : Bool := (bif tb (ref01_Has_ii_S0_c0 x0 x1) then false else (((ref01_Has_ii_e0 x0 x1) : Int) == 1))
end Go.Proofs.Ytkipngagfiaddaa.Den

namespace Go.Proofs.Ytkipngagfiaddaa.Den
open Go Go.Proofs
set_option maxRecDepth 100000
set_option maxHeartbeats 4000000
set_option linter.unusedVariables false
set_option linter.unusedSimpArgs false
def ref16_Right_ai3b_S0_r0_0 (x0 : Int) (x1 : Int) (x2 : Int) (x3 : Bool) : Bool := (bif tb (decide (x0 < 0)) then true else (bif tb (decide (15 < x0)) then true else (bif tb (decide (x1 < 0)) then true else (bif tb (decide (15 < x1)) then true else (bif tb (true != (x3 == ((x0 : Int) == 0))) then true else (bif tb (decide (x2 < (-1))) then true else (decide (3 < x2))))))))
def ref16_Right_ai3b_S1_c0 (x0 : Int) (x1 : Int) (x2 : Int) (x3 : Bool) : Bool := (bif tb (ref16_Right_ai3b_S0_r0_0 x0 x1 x2 x3) then true else false)
def ref16_Right_ai3b_S2_r0_0 (x2 : Int) (x5 : Bool) : Bool := (bif tb ((x2 : Int) == (-1)) then true else x5)
def ref16_Right_ai3b_c0 (x0 : Int) (x1 : Int) (x2 : Int) (x3 : Bool) : Bool := (bif tb (ref16_Right_ai3b_S1_c0 x0 x1 x2 x3) then true else (bif tb (ref01_Has_ii_c0 x0 x2) then true else false))
def ref16_Right_ai3b_r0_0 (x0 : Int) (x1 : Int) (x2 : Int) (x3 : Bool) : Bool := (bif tb (ref16_Right_ai3b_S1_c0 x0 x1 x2 x3) then false else (ref16_Right_ai3b_S2_r0_0 x2 (ref01_Has_ii_r0_0 x0 x2)))
def ref16_Word_ai3b_e0 (x0 : Int) (x1 : Int) (x2 : Int) : Int := wi ((wi ((wi (x0 + (wi (16 * x1)))) + (wi (256 * x2)))) + 2048)
def ref16_Word_ai3b_c0 (x0 : Int) (x1 : Int) (x2 : Int) (x3 : Bool) : Bool := (bif tb (ref16_Right_ai3b_c0 x0 x1 x2 x3) then true else false)
def ref16_Word_ai3b_r0_0 (x0 : Int) (x1 : Int) (x2 : Int) (x3 : Bool) : Int := (bif tb (ref16_Right_ai3b_r0_0 x0 x1 x2 x3) then (bif tb (decide (x2 < 0)) then (bif tb (x3) then (wi ((wi ((wi (x0 + (wi (16 * x1)))) + 1792)) + 2048)) else (wi ((wi (x0 + (wi (16 * x1)))) + 1792))) else (bif tb (x3) then (ref16_Word_ai3b_e0 x0 x1 x2) else (wi ((wi (x0 + (wi (16 * x1)))) + (wi (256 * x2)))))) else 0)
def ref16_Word_ai3b_r0_1 (x0 : Int) (x1 : Int) (x2 : Int) (x3 : Bool) : Int := (bif tb (ref16_Right_ai3b_r0_0 x0 x1 x2 x3) then 0 else 1)
def ref16_Parse_i_S0_c0 (x1 : Int) : Bool := (bif tb (decide (x1 < 0)) then true else (bif tb (decide (4095 < x1)) then true else false))
def ref16_Parse_i_S1_r0_8 (x2 : Int) : Int := (bif tb ((x2 : Int) == 7) then (-1) else x2)
def ref16_Parse_i_S2_c0 (x0 : Int) (x1 : Int) (x2 : Int) (x3 : Bool) : Bool := (bif tb (ref16_Word_ai3b_c0 x0 x1 x2 x3) then true else false)
def ref16_Parse_i_S3_c0 (x6 : Int) (x7 : Int) (x8 : Int) : Bool := (bif tb ((x8 : Int) != 0) then true else (bif tb ((x7 : Int) != x6) then true else false))
def ref16_Parse_i_e0 (x0 : Int) : Int := (ref16_Word_ai3b_r0_0 (remI .i64 x0 16) (remI .i64 (quoI .i64 x0 16) 16) (ref16_Parse_i_S1_r0_8 (remI .i64 (quoI .i64 x0 256) 8)) (decide (2048 ≤ x0)))
def ref16_Parse_i_e1 (x0 : Int) : Int := (ref16_Word_ai3b_r0_1 (remI .i64 x0 16) (remI .i64 (quoI .i64 x0 16) 16) (ref16_Parse_i_S1_r0_8 (remI .i64 (quoI .i64 x0 256) 8)) (decide (2048 ≤ x0)))
def ref16_Parse_i_c0 (x0 : Int) : Bool := (bif tb (ref16_Parse_i_S0_c0 x0) then true else (bif tb (ref16_Parse_i_S2_c0 (remI .i64 x0 16) (remI .i64 (quoI .i64 x0 16) 16) (ref16_Parse_i_S1_r0_8 (remI .i64 (quoI .i64 x0 256) 8)) (decide (2048 ≤ x0))) then true else false))
def ref16_Parse_i_r0_0 (x0 : Int) : Int := (bif tb (ref16_Parse_i_S0_c0 x0) then 0 else (bif tb (ref16_Parse_i_S3_c0 x0 (ref16_Parse_i_e0 x0) (ref16_Parse_i_e1 x0)) then 0 else (remI .i64 x0 16)))
def ref16_Parse_i_r0_1 (x0 : Int) : Int := (bif tb (ref16_Parse_i_S0_c0 x0) then 0 else (bif tb (ref16_Parse_i_S3_c0 x0 (ref16_Parse_i_e0 x0) (ref16_Parse_i_e1 x0)) then 0 else (remI .i64 (quoI .i64 x0 16) 16)))
def ref16_Parse_i_r0_2 (x0 : Int) : Int := (bif tb (ref16_Parse_i_S0_c0 x0) then 0 else (bif tb (ref16_Parse_i_S3_c0 x0 (ref16_Parse_i_e0 x0) (ref16_Parse_i_e1 x0)) then 0 else (ref16_Parse_i_S1_r0_8 (remI .i64 (quoI .i64 x0 256) 8))))
def ref16_Parse_i_r0_3 (x0 : Int) : Bool := (bif tb (ref16_Parse_i_S0_c0 x0) then false else (bif tb (ref16_Parse_i_S3_c0 x0 (ref16_Parse_i_e0 x0) (ref16_Parse_i_e1 x0)) then false else (decide (2048 ≤ x0))))
def ref16_Parse_i_r0_4 (x0 : Int) : Int := (bif tb (ref16_Parse_i_S0_c0 x0) then 3 else (bif tb (ref16_Parse_i_S3_c0 x0 (ref16_Parse_i_e0 x0) (ref16_Parse_i_e1 x0)) then 3 else 0))
end Go.Proofs.Ytkipngagfiaddaa.Den

namespace Go.Proofs.Ytkipngagfiaddaa.Den
open Go Go.Proofs
set_option linter.unusedVariables false
set_option linter.unusedSimpArgs false
set_option maxRecDepth 100000
abbrev St4 := R_i64_i64_i64_bool
def rightS (s : St4) : Bool := status_Right_ai3b_S1_r0_0 s.c0 s.c1 s.c3 (status_Right_ai3b_S0_r0_0 s.c0 s.c2)
def wordS (s : St4) : Int := status_Word_ai3b_r0_0 s.c0 s.c1 s.c2 s.c3
def parseS (n : Int) : St4 := ⟨status_Parse_i_r0_0 n, status_Parse_i_r0_1 n, status_Parse_i_r0_2 n, status_Parse_i_r0_3 n⟩
def ckS (s : St4) : Bool :=
  ref16_Right_ai3b_c0 s.c0 s.c1 s.c2 s.c3 && (rightS s == ref16_Right_ai3b_r0_0 s.c0 s.c1 s.c2 s.c3) && (wordS s == ref16_Word_ai3b_r0_0 s.c0 s.c1 s.c2 s.c3) &&
  (!(rightS s) || (decide (0 ≤ wordS s) && decide (wordS s ≤ 4095) && (status_Parse_i_r0_4 (wordS s) == 0) && ((parseS (wordS s)).c0 == s.c0) && ((parseS (wordS s)).c1 == s.c1) && ((parseS (wordS s)).c2 == s.c2) && ((parseS (wordS s)).c3 == s.c3)))
def ckSK (k : Nat) : Bool := ckS ⟨((k / 160 : Nat) : Int), ((k / 10 % 16 : Nat) : Int), ((k / 2 % 5 : Nat) : Int) - 1, k % 2 == 1⟩
def ckSB (a : Nat) : Bool := (List.range 160).all fun k => ckSK (160 * a + k)
def ckW (n : Nat) : Bool :=
  ref16_Parse_i_c0 (n : Int) && (status_Parse_i_r0_0 (n : Int) == ref16_Parse_i_r0_0 (n : Int)) && (status_Parse_i_r0_1 (n : Int) == ref16_Parse_i_r0_1 (n : Int)) && (status_Parse_i_r0_2 (n : Int) == ref16_Parse_i_r0_2 (n : Int)) &&
  (status_Parse_i_r0_3 (n : Int) == ref16_Parse_i_r0_3 (n : Int)) && (status_Parse_i_r0_4 (n : Int) == ref16_Parse_i_r0_4 (n : Int)) &&
  (cond (status_Parse_i_r0_4 (n : Int) == 0) (rightS (parseS (n : Int)) && (wordS (parseS (n : Int)) == (n : Int))) ((status_Parse_i_r0_4 (n : Int) == 3) && !(rightS (parseS (n : Int)))))
def ckWB (a : Nat) : Bool := (List.range 512).all fun k => ckW (512 * a + k)
end Go.Proofs.Ytkipngagfiaddaa.Den

namespace Go.Proofs.Ytkipngagfiaddaa.Den
open Go Go.Proofs
set_option maxRecDepth 100000
theorem ckSB_0 : ckSB 0 = true := by kernel_rfl
theorem ckSB_1 : ckSB 1 = true := by kernel_rfl
theorem ckSB_2 : ckSB 2 = true := by kernel_rfl
theorem ckSB_3 : ckSB 3 = true := by kernel_rfl
theorem ckWB_0 : ckWB 0 = true := by kernel_rfl
theorem ckWB_1 : ckWB 1 = true := by kernel_rfl
end Go.Proofs.Ytkipngagfiaddaa.Den

namespace Go.Proofs.Ytkipngagfiaddaa.Den
open Go Go.Proofs
set_option maxRecDepth 100000
theorem ckSB_4 : ckSB 4 = true := by kernel_rfl
theorem ckSB_5 : ckSB 5 = true := by kernel_rfl
theorem ckSB_6 : ckSB 6 = true := by kernel_rfl
theorem ckSB_7 : ckSB 7 = true := by kernel_rfl
theorem ckWB_2 : ckWB 2 = true := by kernel_rfl
theorem ckWB_3 : ckWB 3 = true := by kernel_rfl
end Go.Proofs.Ytkipngagfiaddaa.Den

namespace Go.Proofs.Ytkipngagfiaddaa.Den
open Go Go.Proofs
set_option maxRecDepth 100000
theorem ckSB_8 : ckSB 8 = true := by kernel_rfl
theorem ckSB_9 : ckSB 9 = true := by kernel_rfl
theorem ckSB_10 : ckSB 10 = true := by kernel_rfl
theorem ckSB_11 : ckSB 11 = true := by kernel_rfl
theorem ckWB_4 : ckWB 4 = true := by kernel_rfl
theorem ckWB_5 : ckWB 5 = true := by kernel_rfl
end Go.Proofs.Ytkipngagfiaddaa.Den

namespace Go.Proofs.Ytkipngagfiaddaa.Den
open Go Go.Proofs
set_option maxRecDepth 100000
theorem ckSB_12 : ckSB 12 = true := by kernel_rfl
theorem ckSB_13 : ckSB 13 = true := by kernel_rfl
theorem ckSB_14 : ckSB 14 = true := by kernel_rfl
theorem ckSB_15 : ckSB 15 = true := by kernel_rfl
theorem ckWB_6 : ckWB 6 = true := by kernel_rfl
theorem ckWB_7 : ckWB 7 = true := by kernel_rfl
end Go.Proofs.Ytkipngagfiaddaa.Den

namespace Go.Proofs.Ytkipngagfiaddaa.Den
open Go Go.Proofs
set_option linter.unusedVariables false
set_option linter.unusedSimpArgs false
set_option maxRecDepth 100000
theorem all_belowO {n : Nat} {f : Nat → Bool} (h : (List.range n).all f = true) {k : Nat} (hk : k < n) : f k = true := List.all_eq_true.1 h k (List.mem_range.2 hk)
theorem ckSB_all {a : Nat} (h : a < 16) : ckSB a = true := by
  rcases (by omega : a = 0 ∨ a = 1 ∨ a = 2 ∨ a = 3 ∨ a = 4 ∨ a = 5 ∨ a = 6 ∨ a = 7 ∨ a = 8 ∨ a = 9 ∨ a = 10 ∨ a = 11 ∨ a = 12 ∨ a = 13 ∨ a = 14 ∨ a = 15) with rfl | rfl | rfl | rfl | rfl | rfl | rfl | rfl | rfl | rfl | rfl | rfl | rfl | rfl | rfl | rfl
  · exact ckSB_0
  · exact ckSB_1
  · exact ckSB_2
  · exact ckSB_3
  · exact ckSB_4
  · exact ckSB_5
  · exact ckSB_6
  · exact ckSB_7
  · exact ckSB_8
  · exact ckSB_9
  · exact ckSB_10
  · exact ckSB_11
  · exact ckSB_12
  · exact ckSB_13
  · exact ckSB_14
  · exact ckSB_15
theorem ckWB_all {a : Nat} (h : a < 8) : ckWB a = true := by
  rcases (by omega : a = 0 ∨ a = 1 ∨ a = 2 ∨ a = 3 ∨ a = 4 ∨ a = 5 ∨ a = 6 ∨ a = 7) with rfl | rfl | rfl | rfl | rfl | rfl | rfl | rfl
  · exact ckWB_0
  · exact ckWB_1
  · exact ckWB_2
  · exact ckWB_3
  · exact ckWB_4
  · exact ckWB_5
  · exact ckWB_6
  · exact ckWB_7
theorem ck_in {x0 x1 x2 : Int} {x3 : Bool} (h0 : 0 ≤ x0 ∧ x0 ≤ 15) (h1 : 0 ≤ x1 ∧ x1 ≤ 15) (h2 : -1 ≤ x2 ∧ x2 ≤ 3) : ckS ⟨x0, x1, x2, x3⟩ = true := by
  obtain ⟨b, hb, hb3⟩ : ∃ b : Nat, b < 2 ∧ (b == 1) = x3 := by cases x3 with | false => exact ⟨0, by omega, rfl⟩ | true => exact ⟨1, by omega, rfl⟩
  have h := all_belowO (ckSB_all (a := x0.toNat) (by omega)) (k := x1.toNat * 10 + (x2 + 1).toNat * 2 + b) (by omega)
  rw [show 160 * x0.toNat + (x1.toNat * 10 + (x2 + 1).toNat * 2 + b) = x0.toNat * 160 + x1.toNat * 10 + (x2 + 1).toNat * 2 + b by omega] at h
  unfold ckSK at h
  rw [show (x0.toNat * 160 + x1.toNat * 10 + (x2 + 1).toNat * 2 + b) / 160 = x0.toNat by omega, show (x0.toNat * 160 + x1.toNat * 10 + (x2 + 1).toNat * 2 + b) / 10 % 16 = x1.toNat by omega,
    show (x0.toNat * 160 + x1.toNat * 10 + (x2 + 1).toNat * 2 + b) / 2 % 5 = (x2 + 1).toNat by omega, show (x0.toNat * 160 + x1.toNat * 10 + (x2 + 1).toNat * 2 + b) % 2 = b by omega, hb3,
    show ((x0.toNat : Nat) : Int) = x0 by omega, show ((x1.toNat : Nat) : Int) = x1 by omega, show (((x2 + 1).toNat : Nat) : Int) - 1 = x2 by omega] at h
  exact h
theorem right_outS {x0 x1 x2 : Int} (x3 : Bool) (h : ¬ ((0 ≤ x0 ∧ x0 ≤ 15) ∧ (0 ≤ x1 ∧ x1 ≤ 15) ∧ (-1 ≤ x2 ∧ x2 ≤ 3))) :
    status_Right_ai3b_S1_r0_0 x0 x1 x3 (status_Right_ai3b_S0_r0_0 x0 x2) = false ∧ ref16_Right_ai3b_c0 x0 x1 x2 x3 = true ∧ ref16_Right_ai3b_r0_0 x0 x1 x2 x3 = false := by
  have hs : ref16_Right_ai3b_S0_r0_0 x0 x1 x2 x3 = true := by
    simp only [ref16_Right_ai3b_S0_r0_0, tb_eq]
    by_cases a1 : x0 < 0
    · simp [a1]
    by_cases a2 : 15 < x0
    · simp [a1, a2]
    by_cases a3 : x1 < 0
    · simp [a1, a2, a3]
    by_cases a4 : 15 < x1
    · simp [a1, a2, a3, a4]
    by_cases a5 : (true != (x3 == (x0 == 0))) = true
    · simp only [a1, a2, a3, a4, a5, decide_false, cond_false, cond_true]
    · by_cases a6 : x2 < -1
      · simp [a1, a2, a3, a4, a6]
      · have a7 : 3 < x2 := by omega
        simp [a1, a2, a3, a4, a6, a7]
  have hm : ∀ x : Int, status_masked_i_r0_0 x = (decide (0 ≤ x) && decide (x ≤ 15)) := fun x => by
    simp only [status_masked_i_r0_0, tb_eq]; cases decide (0 ≤ x) <;> rfl
  have hr : status_Right_ai3b_S1_r0_0 x0 x1 x3 (status_Right_ai3b_S0_r0_0 x0 x2) = false := by
    simp only [status_Right_ai3b_S1_r0_0, hm, tb_eq]
    by_cases a1 : 0 ≤ x0 ∧ x0 ≤ 15
    · by_cases a2 : 0 ≤ x1 ∧ x1 ≤ 15
      · have h0 : status_Right_ai3b_S0_r0_0 x0 x2 = false := by
          have n1 : (x2 == -1) = false := by rw [beq_eq_false_iff_ne]; omega
          simp only [status_Right_ai3b_S0_r0_0, n1, tb_eq, cond_false]
          by_cases a3 : 0 ≤ x2
          · have : ¬ x2 < 4 := by omega
            simp [a3, this]
          · simp [a3]
        rw [h0]
        cases (decide (0 ≤ x0) && decide (x0 ≤ 15)) <;> cases (decide (0 ≤ x1) && decide (x1 ≤ 15)) <;> cases (false != (x3 == (x0 == 0))) <;> rfl
      · have : (decide (0 ≤ x1) && decide (x1 ≤ 15)) = false := by
          rw [← Bool.decide_and]; exact decide_eq_false a2
        rw [this]; cases (decide (0 ≤ x0) && decide (x0 ≤ 15)) <;> rfl
    · have : (decide (0 ≤ x0) && decide (x0 ≤ 15)) = false := by
        rw [← Bool.decide_and]; exact decide_eq_false a1
      rw [this]; rfl
  exact ⟨hr, by simp only [ref16_Right_ai3b_c0, ref16_Right_ai3b_S1_c0, hs, tb_eq, cond_true], by simp only [ref16_Right_ai3b_r0_0, ref16_Right_ai3b_S1_c0, hs, tb_eq, cond_true]⟩
theorem ck_every (s : St4) : ckS s = true := by
  obtain ⟨x0, x1, x2, x3⟩ := s
  by_cases h : (0 ≤ x0 ∧ x0 ≤ 15) ∧ (0 ≤ x1 ∧ x1 ≤ 15) ∧ (-1 ≤ x2 ∧ x2 ≤ 3)
  · exact ck_in h.1 h.2.1 h.2.2
  · obtain ⟨r1, r2, r3⟩ := right_outS x3 h
    simp only [ckS, rightS, wordS, status_Word_ai3b_r0_0, ref16_Word_ai3b_r0_0, r1, r2, r3, tb_eq, cond_true, cond_false]
    rfl
theorem word_back {s : St4} (h : rightS s = true) : 0 ≤ wordS s ∧ wordS s ≤ 4095 ∧ status_Parse_i_r0_4 (wordS s) = 0 ∧ parseS (wordS s) = s := by
  have hk := ck_every s
  simp only [ckS, Bool.and_eq_true, beq_iff_eq, h, Bool.not_true, Bool.false_or, decide_eq_true_eq] at hk
  obtain ⟨_, ⟨⟨⟨⟨⟨b1, b2⟩, b3⟩, b4⟩, b5⟩, b6⟩, b7⟩ := hk
  refine ⟨b1, b2, b3, ?_⟩
  cases s with | mk x0 x1 x2 x3 =>
  have : parseS (wordS ⟨x0, x1, x2, x3⟩) = ⟨(parseS (wordS ⟨x0, x1, x2, x3⟩)).c0, (parseS (wordS ⟨x0, x1, x2, x3⟩)).c1, (parseS (wordS ⟨x0, x1, x2, x3⟩)).c2, (parseS (wordS ⟨x0, x1, x2, x3⟩)).c3⟩ := rfl
  rw [this, b4, b5, b6, b7]
theorem ckW_all {n : Nat} (h : n < 4096) : ckW n = true := by
  have := all_belowO (ckWB_all (a := n / 512) (by omega)) (k := n % 512) (by omega)
  rwa [show 512 * (n / 512) + n % 512 = n by omega] at this
theorem parse_back (x : Int) : (status_Parse_i_r0_4 x = 0 ∧ rightS (parseS x) = true ∧ wordS (parseS x) = x) ∨ (status_Parse_i_r0_4 x = 3 ∧ rightS (parseS x) = false) := by
  by_cases h : 0 ≤ x ∧ x ≤ 4095
  · have hc := ckW_all (n := x.toNat) (by omega)
    unfold ckW at hc
    rw [show ((x.toNat : Nat) : Int) = x by omega] at hc
    simp only [Bool.and_eq_true, beq_iff_eq] at hc
    obtain ⟨_, hc⟩ := hc
    by_cases h0 : status_Parse_i_r0_4 x = 0
    · simp only [h0, beq_self_eq_true, cond_true, Bool.and_eq_true, beq_iff_eq] at hc
      exact .inl ⟨h0, hc⟩
    · have : (status_Parse_i_r0_4 x == 0) = false := beq_eq_false_iff_ne.2 h0
      simp only [this, cond_false, Bool.and_eq_true, beq_iff_eq, Bool.not_eq_true'] at hc
      exact .inr hc
  · refine .inr ?_
    by_cases h0 : x < 0
    · simp [parseS, status_Parse_i_r0_0, status_Parse_i_r0_1, status_Parse_i_r0_2, status_Parse_i_r0_3, status_Parse_i_r0_4, h0]; rfl
    · have h1 : 4096 ≤ x := by omega
      simp [parseS, status_Parse_i_r0_0, status_Parse_i_r0_1, status_Parse_i_r0_2, status_Parse_i_r0_3, status_Parse_i_r0_4, h0, h1]; rfl
end Go.Proofs.Ytkipngagfiaddaa.Den

namespace Go.Proofs.Ytkipngagfiaddaa.Den
open Go Go.Proofs
set_option maxRecDepth 100000
set_option maxHeartbeats 4000000
set_option linter.unusedVariables false
set_option linter.unusedSimpArgs false
def word_Get2_o_c0 (x1 : List Int) : Bool := (bif tb ((((x1.length : Nat) : Int) : Int) != 2) then true else (bif tb (inb x1.length 0) then (bif tb (inb x1.length 1) then true else false) else false))
def word_Get2_o_r0_0 (x1 : List Int) : Int := (bif tb ((((x1.length : Nat) : Int) : Int) != 2) then 0 else (orI .i64 (shlI .i64 (wi (gt x1 0)) 8) (wi (gt x1 1))))
def word_Get2_o_r0_1 (x1 : List Int) : Bool := (bif tb ((((x1.length : Nat) : Int) : Int) != 2) then false else true)
theorem word_Get2_o_t0 (x0 : Bool) (x1 : List Int) : word_Get2_o_c0 x1 = true → cl E0 42 [(V.d (slD (encI .u8) true 1 x0 x1))] [] = some ([(V.d (.int .i64 (word_Get2_o_r0_0 x1))), (V.d (.bool (word_Get2_o_r0_1 x1)))], []) := by
  unfold word_Get2_o_c0 word_Get2_o_r0_0 word_Get2_o_r0_1
  cases h1 : tb ((((x1.length : Nat) : Int) : Int) != 2)
  · cases h2 : tb (inb x1.length 0)
    · intro g0
      exact absurd g0 ft
    · cases h3 : tb (inb x1.length 1)
      · intro g0
        exact absurd g0 ft
      · intro g0
        exact w42 [.o 5 (fun _ => o_len_os (enc := (encI .u8)) (l := x1) (fl := true) (n := x0) (s := 1)), .b (tbE h1), .o 8 (fun _ => o_idx_os (enc := (encI .u8)) (l := x1) (fl := true) (n := x0) (s := 1) (k := .i64) (tbE h2)), .o 11 (fun _ => o_shl (k := .i64) (k2 := .u64) (x := (wi (gt x1 0))) (y := 8) rfl), .o 13 (fun _ => o_idx_os (enc := (encI .u8)) (l := x1) (fl := true) (n := x0) (s := 1) (k := .i64) (tbE h3))] (by kernel_rfl)
  · intro g0
    exact w42 [.o 5 (fun _ => o_len_os (enc := (encI .u8)) (l := x1) (fl := true) (n := x0) (s := 1)), .b (tbE h1)] (by kernel_rfl)
theorem word_fours_o_t0 (x0 : Bool) (x1 : List Int) : cl E0 65 [(V.d (slD (encI .u8) true 1 x0 x1))] [] = some ([(V.fn (.func 75) [] [(V.ptr 0 1 0 0)])], [(Blk.gen 37 1 [[(V.d (slD (encI .u8) true 1 x0 x1))]] false)]) := by
  exact w65 [] (by kernel_rfl)
def word_Get4_l_e0 (x0 : List Int) : Int := orI .u32 (shlI .u32 (IntKind.u32.wrap (gt x0 0)) 24) (shlI .u32 (IntKind.u32.wrap (gt x0 1)) 16)
def word_Get4_l_e1 (x0 : List Int) : Int := orI .u32 (word_Get4_l_e0 x0) (shlI .u32 (IntKind.u32.wrap (gt x0 2)) 8)
def word_Get4_l_e2 (x0 : List Int) : Int := IntKind.i32.wrap (orI .u32 (word_Get4_l_e1 x0) (IntKind.u32.wrap (gt x0 3)))
def word_Get4_l_c0 (x0 : List Int) : Bool := (bif tb ((((x0.length : Nat) : Int) : Int) != 4) then true else (bif tb (inb x0.length 0) then (bif tb (inb x0.length 1) then (bif tb (inb x0.length 2) then (bif tb (inb x0.length 3) then true else false) else false) else false) else false))
def word_Get4_l_r0_0 (x0 : List Int) : Int := (bif tb ((((x0.length : Nat) : Int) : Int) != 4) then 0 else (wi ((word_Get4_l_e2 x0))))
def word_Get4_l_r0_1 (x0 : List Int) : Bool := (bif tb ((((x0.length : Nat) : Int) : Int) != 4) then false else true)
theorem word_Get4_l_t0 (x0 : List Int) : word_Get4_l_c0 x0 = true → cl E0 66 [(V.d (.rs true 1 (List.map (encI .u8) x0) true))] [] = some ([(V.d (.int .i64 (word_Get4_l_r0_0 x0))), (V.d (.bool (word_Get4_l_r0_1 x0)))], []) := by
  unfold word_Get4_l_c0 word_Get4_l_r0_0 word_Get4_l_r0_1
  cases h1 : tb ((((x0.length : Nat) : Int) : Int) != 4)
  · cases h2 : tb (inb x0.length 0)
    · intro g0
      exact absurd g0 ft
    · cases h3 : tb (inb x0.length 1)
      · intro g0
        exact absurd g0 ft
      · cases h4 : tb (inb x0.length 2)
        · intro g0
          exact absurd g0 ft
        · cases h5 : tb (inb x0.length 3)
          · intro g0
            exact absurd g0 ft
          · intro g0
            exact w66 [.o 6 (fun _ => o_len_rs (enc := (encI .u8)) (l := x0) (fl := true) (tg := true) (s := 1)), .b (tbE h1), .o 9 (fun _ => o_idx_rs (enc := (encI .u8)) (l := x0) (fl := true) (tg := true) (s := 1) (k := .i64) (tbE h2)), .o 12 (fun _ => o_shl (k := .u32) (k2 := .u64) (x := (IntKind.u32.wrap (gt x0 0))) (y := 24) rfl), .o 14 (fun _ => o_idx_rs (enc := (encI .u8)) (l := x0) (fl := true) (tg := true) (s := 1) (k := .i64) (tbE h3)), .o 17 (fun _ => o_shl (k := .u32) (k2 := .u64) (x := (IntKind.u32.wrap (gt x0 1))) (y := 16) rfl), .o 20 (fun _ => o_idx_rs (enc := (encI .u8)) (l := x0) (fl := true) (tg := true) (s := 1) (k := .i64) (tbE h4)), .o 23 (fun _ => o_shl (k := .u32) (k2 := .u64) (x := (IntKind.u32.wrap (gt x0 2))) (y := 8) rfl), .o 26 (fun _ => o_idx_rs (enc := (encI .u8)) (l := x0) (fl := true) (tg := true) (s := 1) (k := .i64) (tbE h5))] (by kernel_rfl)
  · intro g0
    exact w66 [.o 6 (fun _ => o_len_rs (enc := (encI .u8)) (l := x0) (fl := true) (tg := true) (s := 1)), .b (tbE h1)] (by kernel_rfl)
def word_GetAll_Y1_l_Y43_1pGvL_c0 (x0 : List Int) (x5 : List Int) : Bool := (bif tb (word_Get4_l_c0 x5) then (bif tb (decide ((x0.length + [(word_Get4_l_r0_0 x5)].length) * 8 ≤ 140737488355328)) then true else false) else false)
theorem word_GetAll_Y1_l_Y43_1pGvL_t0 (x0 : List Int) (x2 : Bool) (x5 : List Int) : word_GetAll_Y1_l_Y43_1pGvL_c0 x0 x5 = true → cl E0 yfn [(V.yl 0), (V.d (.rs true 1 (List.map (encI .u8) x5) true))] [(Blk.loop .ready none [V.un, V.un, V.un, V.un, (V.ptr 1 1 0 0), V.un, V.un, V.un, V.un, V.un, V.un, V.un, V.un, V.un, V.un, V.un, V.un, V.un, V.un, V.un, V.un, V.un, V.un, V.un, V.un] [14] L43_0 L43_1 false), (Blk.gen 74 1 [[(V.so x2 2 x0.length)]] false), (Blk.flat 3 1 (List.map (encI .i64) x0) false)] = some ([(V.d (.bool true))], [(Blk.loop .ready none [V.un, V.un, V.un, V.un, (V.ptr 1 1 0 0), V.un, V.un, V.un, V.un, V.un, V.un, V.un, V.un, V.un, V.un, V.un, V.un, V.un, V.un, V.un, V.un, V.un, V.un, V.un, V.un] [14] L43_0 L43_1 false), (Blk.gen 74 1 [[(V.so false 2 ((x0 ++ [(word_Get4_l_r0_0 x5)]).length))]] false), (Blk.flat 3 1 (List.map (encI .i64) (x0 ++ [(word_Get4_l_r0_0 x5)])) false)]) := by
  unfold word_GetAll_Y1_l_Y43_1pGvL_c0
  cases h1 : tb (word_Get4_l_c0 x5)
  · intro g0
    exact absurd g0 ft
  · cases h2 : tb (decide ((x0.length + [(word_Get4_l_r0_0 x5)].length) * 8 ≤ 140737488355328))
    · intro g0
      exact absurd g0 ft
    · intro g0
      exact round_yield [.c (word_Get4_l_t0 x5 (tbE h1)), .m 23 (o_app_so (nl := x2) (m := [(Blk.loop .busy none [V.un, V.un, V.un, V.un, (V.ptr 1 1 0 0), V.un, V.un, V.un, V.un, V.un, V.un, V.un, V.un, V.un, V.un, V.un, V.un, V.un, V.un, V.un, V.un, V.un, V.un, V.un, V.un] [14] L43_0 L43_1 false), (Blk.gen 74 1 [[(V.so x2 2 x0.length)]] false), (Blk.flat 3 1 (List.map (encI .i64) x0) false), (Blk.flat 3 1 [[(.int .i64 (word_Get4_l_r0_0 x5))]] false)]) (enc := (encI .i64)) (l0 := x0) (l1 := [(word_Get4_l_r0_0 x5)]) (id := 2) (e := 3) (s := 1) (bytes := 8) (x := (V.so false 3 1)) (n := x0.length) (Nat.beq_refl _) (by kernel_rfl) (by kernel_rfl) (by kernel_rfl) (tbE h2))] (by kernel_rfl)
structure word_fours_c1_yp_Y43_1pGvLGo_L0_s0 where
  c1 : Bool
  c3 : List Int
  c5 : Bool
  c6 : List Int
  deriving Inhabited
def word_fours_c1_yp_Y43_1pGvLGo_L0_enc (x0 : List Int) (x1 : Bool) (x2 : Bool) (x3 : Bool) (x4 : Bool) (x5 : Bool) (x6 : List Int) (x7 : Bool) (s0 : word_fours_c1_yp_Y43_1pGvLGo_L0_s0) : List V × Mem := ([(V.yl 0), (V.ptr 3 1 0 0)], [(Blk.loop .ready none [V.un, V.un, V.un, V.un, (V.ptr 1 1 0 0), V.un, V.un, V.un, V.un, V.un, V.un, V.un, V.un, V.un, V.un, V.un, V.un, V.un, V.un, V.un, V.un, V.un, V.un, V.un, V.un] [14] L43_0 L43_1 false), (Blk.gen 74 1 [[(V.so s0.c1 2 s0.c3.length)]] false), (Blk.flat 3 1 (List.map (encI .i64) s0.c3) false), (Blk.gen 37 1 [[(V.d (slD (encI .u8) true 1 s0.c5 s0.c6))]] false)])
def word_fours_c1_yp_Y43_1pGvLGo_L0_sel  (s0 : word_fours_c1_yp_Y43_1pGvLGo_L0_s0) : Bool := (bif tb (decide (4 ≤ ((s0.c6.length : Nat) : Int))) then (bif tb (ins s0.c6.length 0 4) then (bif tb (word_GetAll_Y1_l_Y43_1pGvL_c0 s0.c3 (sub s0.c6 0 4)) then (bif tb (ins s0.c6.length 4 ((s0.c6.length : Nat) : Int)) then true else false) else false) else false) else false)
def word_fours_c1_yp_Y43_1pGvLGo_L0_nx  (s0 : word_fours_c1_yp_Y43_1pGvLGo_L0_s0) : word_fours_c1_yp_Y43_1pGvLGo_L0_s0 := ⟨false, (s0.c3 ++ [(word_Get4_l_r0_0 (sub s0.c6 0 4))]), (s0.c5 && s0.c6.isEmpty), (sub s0.c6 4 ((s0.c6.length : Nat) : Int))⟩
def word_fours_c1_yp_Y43_1pGvLGo_L0_ok  (s0 : word_fours_c1_yp_Y43_1pGvLGo_L0_s0) : Bool := (itS (word_fours_c1_yp_Y43_1pGvLGo_L0_sel ) (word_fours_c1_yp_Y43_1pGvLGo_L0_nx ) bound s0).isSome
def word_fours_c1_yp_Y43_1pGvLGo_L0_end  (s0 : word_fours_c1_yp_Y43_1pGvLGo_L0_s0) : word_fours_c1_yp_Y43_1pGvLGo_L0_s0 := (itS (word_fours_c1_yp_Y43_1pGvLGo_L0_sel ) (word_fours_c1_yp_Y43_1pGvLGo_L0_nx ) bound s0).getD default
theorem word_fours_c1_yp_Y43_1pGvLGo_L0_go (x0 : List Int) (x1 : Bool) (x2 : Bool) (x3 : Bool) (x4 : Bool) (x5 : Bool) (x6 : List Int) (x7 : Bool) (s0 : word_fours_c1_yp_Y43_1pGvLGo_L0_s0) : word_fours_c1_yp_Y43_1pGvLGo_L0_sel  s0 = true → (roundG (runC E0 (cl E0) L75_0) [0, 1] [] 4) (word_fours_c1_yp_Y43_1pGvLGo_L0_enc x0 x1 x2 x3 x4 x5 x6 x7 s0) = some (.normal, word_fours_c1_yp_Y43_1pGvLGo_L0_enc x0 x1 x2 x3 x4 x5 x6 x7 (word_fours_c1_yp_Y43_1pGvLGo_L0_nx  s0)) := by
  unfold word_fours_c1_yp_Y43_1pGvLGo_L0_sel word_fours_c1_yp_Y43_1pGvLGo_L0_nx
  cases h1 : tb (decide (4 ≤ ((s0.c6.length : Nat) : Int)))
  · intro g0
    exact absurd g0 ft
  · cases h2 : tb (ins s0.c6.length 0 4)
    · intro g0
      exact absurd g0 ft
    · cases h3 : tb (word_GetAll_Y1_l_Y43_1pGvL_c0 s0.c3 (sub s0.c6 0 4))
      · intro g0
        exact absurd g0 ft
      · cases h4 : tb (ins s0.c6.length 4 ((s0.c6.length : Nat) : Int))
        · intro g0
          exact absurd g0 ft
        · intro _
          exact round_walk [.o 4 (fun _ => o_len_os (enc := (encI .u8)) (l := s0.c6) (fl := true) (n := s0.c5) (s := 1)), .b (tbE h1), .o 10 (fun _ => o_slice_mx (enc := (encI .u8)) (l := s0.c6) (fl := true) (n := s0.c5) (s := 1) (kl := .i64) (kh := .i64) (kx := .i64) (hi := 4) (tbE h2) rfl), .c (word_GetAll_Y1_l_Y43_1pGvL_t0 s0.c3 s0.c1 (sub s0.c6 0 4) (tbE h3)), .k false, .o 7 (fun _ => o_slice_os (enc := (encI .u8)) (l := s0.c6) (fl := true) (n := s0.c5) (s := 1) (some (.i64, 4)) none (tbE h4))] (by kernel_rfl)
def word_fours_c1_yp_Y43_1pGvLGo_L0_c0 (s0 : word_fours_c1_yp_Y43_1pGvLGo_L0_s0) : Bool := (bif tb (decide (4 ≤ ((s0.c6.length : Nat) : Int))) then false else true)
theorem word_fours_c1_yp_Y43_1pGvLGo_L0_x0 (x0 : List Int) (x1 : Bool) (x2 : Bool) (x3 : Bool) (x4 : Bool) (x5 : Bool) (x6 : List Int) (x7 : Bool) (s0 : word_fours_c1_yp_Y43_1pGvLGo_L0_s0) : word_fours_c1_yp_Y43_1pGvLGo_L0_sel  s0 = false → word_fours_c1_yp_Y43_1pGvLGo_L0_c0 s0 = true → (roundG (runC E0 (cl E0) L75_0) [0, 1] [] 4) (word_fours_c1_yp_Y43_1pGvLGo_L0_enc x0 x1 x2 x3 x4 x5 x6 x7 s0) = some ((.exit 0), ([], [(Blk.loop .ready none [V.un, V.un, V.un, V.un, (V.ptr 1 1 0 0), V.un, V.un, V.un, V.un, V.un, V.un, V.un, V.un, V.un, V.un, V.un, V.un, V.un, V.un, V.un, V.un, V.un, V.un, V.un, V.un] [14] L43_0 L43_1 false), (Blk.gen 74 1 [[(V.so s0.c1 2 s0.c3.length)]] false), (Blk.flat 3 1 (List.map (encI .i64) s0.c3) false), (Blk.gen 37 1 [[(V.d (slD (encI .u8) true 1 s0.c5 s0.c6))]] false)])) := by
  unfold word_fours_c1_yp_Y43_1pGvLGo_L0_sel word_fours_c1_yp_Y43_1pGvLGo_L0_c0
  cases h1 : tb (decide (4 ≤ ((s0.c6.length : Nat) : Int)))
  · intro g0 g1
    exact round_walk [.o 4 (fun _ => o_len_os (enc := (encI .u8)) (l := s0.c6) (fl := true) (n := s0.c5) (s := 1)), .b (tbE h1)] (by kernel_rfl)
  · cases h2 : tb (ins s0.c6.length 0 4)
    · intro g0 g1
      exact absurd g1 ft
    · cases h3 : tb (word_GetAll_Y1_l_Y43_1pGvL_c0 s0.c3 (sub s0.c6 0 4))
      · intro g0 g1
        exact absurd g1 ft
      · cases h4 : tb (ins s0.c6.length 4 ((s0.c6.length : Nat) : Int))
        · intro g0 g1
          exact absurd g1 ft
        · intro g0 g1
          exact absurd g0 tf
theorem word_fours_c1_yp_Y43_1pGvLGo_L0_f0_0 (x0 : List Int) (x1 : Bool) (x2 : Bool) (x3 : Bool) (x4 : Bool) (x5 : Bool) (x6 : List Int) (x7 : Bool) (s : word_fours_c1_yp_Y43_1pGvLGo_L0_s0) (hok : word_fours_c1_yp_Y43_1pGvLGo_L0_ok  s = true) (c0 : word_fours_c1_yp_Y43_1pGvLGo_L0_c0 (word_fours_c1_yp_Y43_1pGvLGo_L0_end  s) = true) : loopG (roundG (runC E0 (cl E0) L75_0) [0, 1] [] 4) bound (word_fours_c1_yp_Y43_1pGvLGo_L0_enc x0 x1 x2 x3 x4 x5 x6 x7 s) = some ((.exit 0), ([], [(Blk.loop .ready none [V.un, V.un, V.un, V.un, (V.ptr 1 1 0 0), V.un, V.un, V.un, V.un, V.un, V.un, V.un, V.un, V.un, V.un, V.un, V.un, V.un, V.un, V.un, V.un, V.un, V.un, V.un, V.un] [14] L43_0 L43_1 false), (Blk.gen 74 1 [[(V.so ((word_fours_c1_yp_Y43_1pGvLGo_L0_end  s).c1) 2 (((word_fours_c1_yp_Y43_1pGvLGo_L0_end  s).c3).length))]] false), (Blk.flat 3 1 (List.map (encI .i64) ((word_fours_c1_yp_Y43_1pGvLGo_L0_end  s).c3)) false), (Blk.gen 37 1 [[(V.d (slD (encI .u8) true 1 ((word_fours_c1_yp_Y43_1pGvLGo_L0_end  s).c5) ((word_fours_c1_yp_Y43_1pGvLGo_L0_end  s).c6)))]] false)])) := by
  have e : itS (word_fours_c1_yp_Y43_1pGvLGo_L0_sel ) (word_fours_c1_yp_Y43_1pGvLGo_L0_nx ) bound s = some (word_fours_c1_yp_Y43_1pGvLGo_L0_end  s) := itS_get hok
  have f := itS_false e
  exact loop_it (word_fours_c1_yp_Y43_1pGvLGo_L0_go x0 x1 x2 x3 x4 x5 x6 x7) bound s _ _ _ e (fun h => by cases h) (word_fours_c1_yp_Y43_1pGvLGo_L0_x0 x0 x1 x2 x3 x4 x5 x6 x7 (word_fours_c1_yp_Y43_1pGvLGo_L0_end  s) f c0)
def word_fours_c1_yp_Y43_1pGvLGo_e0 (x0 : List Int) (x2 : Bool) (x5 : Bool) (x6 : List Int) : word_fours_c1_yp_Y43_1pGvLGo_L0_s0 := word_fours_c1_yp_Y43_1pGvLGo_L0_end  (⟨x2, x0, x5, x6⟩ : word_fours_c1_yp_Y43_1pGvLGo_L0_s0)
def word_fours_c1_yp_Y43_1pGvLGo_c0 (x0 : List Int) (x2 : Bool) (x5 : Bool) (x6 : List Int) : Bool := (bif tb (word_fours_c1_yp_Y43_1pGvLGo_L0_ok  (⟨x2, x0, x5, x6⟩ : word_fours_c1_yp_Y43_1pGvLGo_L0_s0)) then (bif tb (word_fours_c1_yp_Y43_1pGvLGo_L0_c0 (word_fours_c1_yp_Y43_1pGvLGo_e0 x0 x2 x5 x6)) then true else false) else false)
theorem word_fours_c1_yp_Y43_1pGvLGo_t0 (x0 : List Int) (x2 : Bool) (x5 : Bool) (x6 : List Int) : word_fours_c1_yp_Y43_1pGvLGo_c0 x0 x2 x5 x6 = true → cl E0 75 [(V.yl 0), (V.ptr 3 1 0 0)] [(Blk.loop .ready none [V.un, V.un, V.un, V.un, (V.ptr 1 1 0 0), V.un, V.un, V.un, V.un, V.un, V.un, V.un, V.un, V.un, V.un, V.un, V.un, V.un, V.un, V.un, V.un, V.un, V.un, V.un, V.un] [14] L43_0 L43_1 false), (Blk.gen 74 1 [[(V.so x2 2 x0.length)]] false), (Blk.flat 3 1 (List.map (encI .i64) x0) false), (Blk.gen 37 1 [[(V.d (slD (encI .u8) true 1 x5 x6))]] false)] = some ([], [(Blk.loop .ready none [V.un, V.un, V.un, V.un, (V.ptr 1 1 0 0), V.un, V.un, V.un, V.un, V.un, V.un, V.un, V.un, V.un, V.un, V.un, V.un, V.un, V.un, V.un, V.un, V.un, V.un, V.un, V.un] [14] L43_0 L43_1 false), (Blk.gen 74 1 [[(V.so ((word_fours_c1_yp_Y43_1pGvLGo_e0 x0 x2 x5 x6).c1) 2 (((word_fours_c1_yp_Y43_1pGvLGo_e0 x0 x2 x5 x6).c3).length))]] false), (Blk.flat 3 1 (List.map (encI .i64) ((word_fours_c1_yp_Y43_1pGvLGo_e0 x0 x2 x5 x6).c3)) false), (Blk.gen 37 1 [[(V.d (slD (encI .u8) true 1 ((word_fours_c1_yp_Y43_1pGvLGo_e0 x0 x2 x5 x6).c5) ((word_fours_c1_yp_Y43_1pGvLGo_e0 x0 x2 x5 x6).c6)))]] false)]) := by
  unfold word_fours_c1_yp_Y43_1pGvLGo_c0
  cases h1 : tb (word_fours_c1_yp_Y43_1pGvLGo_L0_ok  (⟨x2, x0, x5, x6⟩ : word_fours_c1_yp_Y43_1pGvLGo_L0_s0))
  · intro g0
    exact absurd g0 ft
  · cases h2 : tb (word_fours_c1_yp_Y43_1pGvLGo_L0_c0 (word_fours_c1_yp_Y43_1pGvLGo_e0 x0 x2 x5 x6))
    · intro g0
      exact absurd g0 ft
    · intro g0
      exact w75 [.l (word_fours_c1_yp_Y43_1pGvLGo_L0_f0_0 x0 false x2 false false x5 x6 false (⟨x2, x0, x5, x6⟩ : word_fours_c1_yp_Y43_1pGvLGo_L0_s0) (tbE h1) (tbE h2))] (by kernel_rfl)
def word_GetAll_o_c0 (x0 : Bool) (x1 : List Int) : Bool := (bif tb (((remI .i64 ((x1.length : Nat) : Int) 4) : Int) != 0) then true else (bif tb (word_fours_c1_yp_Y43_1pGvLGo_c0 ([] : List Int) true x0 x1) then true else false))
def word_GetAll_o_r0_0 (x0 : Bool) (x1 : List Int) : Bool := (bif tb (((remI .i64 ((x1.length : Nat) : Int) 4) : Int) != 0) then true else ((word_fours_c1_yp_Y43_1pGvLGo_e0 ([] : List Int) true x0 x1).c1))
def word_GetAll_o_r0_1 (x1 : List Int) : Bool := (bif tb (((remI .i64 ((x1.length : Nat) : Int) 4) : Int) != 0) then false else true)
def word_GetAll_o_r0_2 (x0 : Bool) (x1 : List Int) : List Int := (bif tb (((remI .i64 ((x1.length : Nat) : Int) 4) : Int) != 0) then ([] : List Int) else ((word_fours_c1_yp_Y43_1pGvLGo_e0 ([] : List Int) true x0 x1).c3))
theorem word_GetAll_o_t0 (x0 : Bool) (x1 : List Int) : word_GetAll_o_c0 x0 x1 = true → cl E0 43 [(V.d (slD (encI .u8) true 1 x0 x1))] [] = some ([(V.so (word_GetAll_o_r0_0 x0 x1) 0 ((word_GetAll_o_r0_2 x0 x1).length)), (V.d (.bool (word_GetAll_o_r0_1 x1)))], [(Blk.flat 3 1 (List.map (encI .i64) (word_GetAll_o_r0_2 x0 x1)) false)]) := by
  unfold word_GetAll_o_c0 word_GetAll_o_r0_0 word_GetAll_o_r0_1 word_GetAll_o_r0_2
  cases h1 : tb (((remI .i64 ((x1.length : Nat) : Int) 4) : Int) != 0)
  · cases h2 : tb (word_fours_c1_yp_Y43_1pGvLGo_c0 ([] : List Int) true x0 x1)
    · intro g0
      exact absurd g0 ft
    · intro g0
      exact w43 [.o 9 (fun _ => o_len_os (enc := (encI .u8)) (l := x1) (fl := true) (n := x0) (s := 1)), .b (tbE h1), .c (word_fours_o_t0 x0 x1), .c (word_fours_c1_yp_Y43_1pGvLGo_t0 ([] : List Int) true x0 x1 (tbE h2))] (by kernel_rfl)
  · intro g0
    exact w43 [.o 9 (fun _ => o_len_os (enc := (encI .u8)) (l := x1) (fl := true) (n := x0) (s := 1)), .b (tbE h1)] (by kernel_rfl)
structure word_fours_c1_yp_Y43_1pGvLGz_L0_s0 where mk ::
  deriving Inhabited
def word_seq_i_r0_0 (x0 : Int) : Bool := (bif tb (decide (0 ≤ x0)) then (decide (x0 < 65536)) else false)
theorem word_seq_i_t0 (x0 : Int) : cl E0 35 [(V.d (.int .i64 x0))] [] = some ([(V.d (.bool (word_seq_i_r0_0 x0)))], []) := by
  unfold word_seq_i_r0_0
  cases h1 : tb (decide (0 ≤ x0))
  · exact w35 [.b (tbE h1)] (by kernel_rfl)
  · exact w35 [.b (tbE h1)] (by kernel_rfl)
def word_Put2_i_r0_0 (x0 : Int) : Bool := (bif tb (word_seq_i_r0_0 x0) then false else true)
def word_Put2_i_r0_1 (x0 : Int) : List Int := (bif tb (word_seq_i_r0_0 x0) then [(IntKind.u8.wrap (shrI .i64 x0 8)), (IntKind.u8.wrap (x0))] else ([] : List Int))
theorem word_Put2_i_t0 (x0 : Int) : cl E0 33 [(V.d (.int .i64 x0))] [] = some ([(V.so (word_Put2_i_r0_0 x0) 0 ((word_Put2_i_r0_1 x0).length))], [(Blk.flat 5 1 (List.map (encI .u8) (word_Put2_i_r0_1 x0)) false)]) := by
  unfold word_Put2_i_r0_0 word_Put2_i_r0_1
  cases h1 : tb (word_seq_i_r0_0 x0)
  · exact w33 [.c (word_seq_i_t0 x0), .b (notF (tbE h1))] (by kernel_rfl)
  · exact w33 [.c (word_seq_i_t0 x0), .b (notT (tbE h1)), .o 7 (fun _ => o_shr (k := .i64) (k2 := .u64) (x := x0) (y := 8) rfl)] (by kernel_rfl)
def word_Put4_i_r0_0 (x0 : Int) : Bool := (bif tb (decide (x0 < (-2147483648))) then true else (bif tb (decide (2147483647 < x0)) then true else false))
def word_Put4_i_r0_1 (x0 : Int) : List Int := (bif tb (decide (x0 < (-2147483648))) then ([] : List Int) else (bif tb (decide (2147483647 < x0)) then ([] : List Int) else [(IntKind.u8.wrap (shrI .i64 x0 24)), (IntKind.u8.wrap (shrI .i64 x0 16)), (IntKind.u8.wrap (shrI .i64 x0 8)), (IntKind.u8.wrap (x0))]))
theorem word_Put4_i_t0 (x0 : Int) : cl E0 61 [(V.d (.int .i64 x0))] [] = some ([(V.so (word_Put4_i_r0_0 x0) 0 ((word_Put4_i_r0_1 x0).length))], [(Blk.flat 5 1 (List.map (encI .u8) (word_Put4_i_r0_1 x0)) false)]) := by
  unfold word_Put4_i_r0_0 word_Put4_i_r0_1
  cases h1 : tb (decide (x0 < (-2147483648)))
  · cases h2 : tb (decide (2147483647 < x0))
    · exact w61 [.b (tbE h1), .b (tbE h2), .o 10 (fun _ => o_shr (k := .i64) (k2 := .u64) (x := x0) (y := 24) rfl), .o 13 (fun _ => o_shr (k := .i64) (k2 := .u64) (x := x0) (y := 16) rfl), .o 16 (fun _ => o_shr (k := .i64) (k2 := .u64) (x := x0) (y := 8) rfl)] (by kernel_rfl)
    · exact w61 [.b (tbE h1), .b (tbE h2)] (by kernel_rfl)
  · exact w61 [.b (tbE h1)] (by kernel_rfl)
structure word_PutAll_o_L0_s0 where
  c0 : Bool
  c4 : Int
  c6 : List Int
  deriving Inhabited
def word_PutAll_o_L0_enc (x0 : List Int) (x1 : Bool) (x2 : Bool) (x3 : Bool) (x4 : Bool) (x5 : List Int) (x6 : Int) (x7 : Int) (s0 : word_PutAll_o_L0_s0) : List V × Mem := ([(V.so s0.c0 1 s0.c6.length), (V.d (slD (encI .i64) true 1 x4 x5)), (V.d (.int .i64 x6)), (V.d (.int .i64 s0.c4))], [(Blk.flat 5 1 [] x1), (Blk.flat 5 1 (List.map (encI .u8) s0.c6) false)])
def word_PutAll_o_L0_sel (x5 : List Int) (x6 : Int) (s0 : word_PutAll_o_L0_s0) : Bool := (bif tb (decide (s0.c4 < x6)) then (bif tb (inb x5.length s0.c4) then (bif tb (false != (word_Put4_i_r0_0 (gt x5 s0.c4))) then false else (bif tb (decide ((s0.c6.length + (word_Put4_i_r0_1 (gt x5 s0.c4)).length) * 1 ≤ 140737488355328)) then true else false)) else false) else false)
def word_PutAll_o_L0_nx (x5 : List Int) (x6 : Int) (s0 : word_PutAll_o_L0_s0) : word_PutAll_o_L0_s0 := ⟨((word_Put4_i_r0_1 (gt x5 s0.c4)).isEmpty && s0.c0), (wi (s0.c4 + 1)), (s0.c6 ++ (word_Put4_i_r0_1 (gt x5 s0.c4)))⟩
def word_PutAll_o_L0_ok (x5 : List Int) (x6 : Int) (s0 : word_PutAll_o_L0_s0) : Bool := (itS (word_PutAll_o_L0_sel x5 x6) (word_PutAll_o_L0_nx x5 x6) bound s0).isSome
def word_PutAll_o_L0_end (x5 : List Int) (x6 : Int) (s0 : word_PutAll_o_L0_s0) : word_PutAll_o_L0_s0 := (itS (word_PutAll_o_L0_sel x5 x6) (word_PutAll_o_L0_nx x5 x6) bound s0).getD default
theorem word_PutAll_o_L0_go (x0 : List Int) (x1 : Bool) (x2 : Bool) (x3 : Bool) (x4 : Bool) (x5 : List Int) (x6 : Int) (x7 : Int) (s0 : word_PutAll_o_L0_s0) : word_PutAll_o_L0_sel x5 x6 s0 = true → (roundG (runC E0 (cl E0) L34_0) [3, 7, 8, 9] [2, 3] 2) (word_PutAll_o_L0_enc x0 x1 x2 x3 x4 x5 x6 x7 s0) = some (.normal, word_PutAll_o_L0_enc x0 x1 x2 x3 x4 x5 x6 x7 (word_PutAll_o_L0_nx x5 x6 s0)) := by
  unfold word_PutAll_o_L0_sel word_PutAll_o_L0_nx
  cases h1 : tb (decide (s0.c4 < x6))
  · intro g0
    exact absurd g0 ft
  · cases h2 : tb (inb x5.length s0.c4)
    · intro g0
      exact absurd g0 ft
    · cases h3 : tb (false != (word_Put4_i_r0_0 (gt x5 s0.c4)))
      · cases h4 : tb (decide ((s0.c6.length + (word_Put4_i_r0_1 (gt x5 s0.c4)).length) * 1 ≤ 140737488355328))
        · intro g0
          exact absurd g0 ft
        · intro _
          exact round_walk [.b (tbE h1), .o 11 (fun _ => o_idx_os (enc := (encI .i64)) (l := x5) (fl := true) (n := x4) (s := 1) (k := .i64) (tbE h2)), .c (word_Put4_i_t0 (gt x5 s0.c4)), .b (tbE h3), .m 19 (o_app_so (nl := s0.c0) (m := [(Blk.flat 5 1 [] x1), (Blk.flat 5 1 (List.map (encI .u8) s0.c6) false), (Blk.flat 5 1 (List.map (encI .u8) (word_Put4_i_r0_1 (gt x5 s0.c4))) false)]) (enc := (encI .u8)) (l0 := s0.c6) (l1 := (word_Put4_i_r0_1 (gt x5 s0.c4))) (id := 1) (e := 5) (s := 1) (bytes := 1) (x := (V.so (word_Put4_i_r0_0 (gt x5 s0.c4)) 2 ((word_Put4_i_r0_1 (gt x5 s0.c4)).length))) (n := s0.c6.length) (Nat.beq_refl _) (by kernel_rfl) (flatRowsOf_so' (b := (word_Put4_i_r0_0 (gt x5 s0.c4))) (e := 5) (s := 1) (p := false) (Nat.beq_refl _) (by kernel_rfl)) (by kernel_rfl) (tbE h4))] (by kernel_rfl)
      · intro g0
        exact absurd g0 ft
def word_PutAll_o_L0_c0 (x5 : List Int) (x6 : Int) (s0 : word_PutAll_o_L0_s0) : Bool := (bif tb (decide (s0.c4 < x6)) then (bif tb (inb x5.length s0.c4) then (bif tb (false != (word_Put4_i_r0_0 (gt x5 s0.c4))) then true else false) else false) else false)
def word_PutAll_o_L0_c1 (x6 : Int) (s0 : word_PutAll_o_L0_s0) : Bool := (bif tb (decide (s0.c4 < x6)) then false else true)
theorem word_PutAll_o_L0_x0 (x0 : List Int) (x1 : Bool) (x2 : Bool) (x3 : Bool) (x4 : Bool) (x5 : List Int) (x6 : Int) (x7 : Int) (s0 : word_PutAll_o_L0_s0) : word_PutAll_o_L0_sel x5 x6 s0 = false → word_PutAll_o_L0_c0 x5 x6 s0 = true → (roundG (runC E0 (cl E0) L34_0) [3, 7, 8, 9] [2, 3] 2) (word_PutAll_o_L0_enc x0 x1 x2 x3 x4 x5 x6 x7 s0) = some (.ret, ([(V.so true 2 0), (V.so s0.c0 1 s0.c6.length)], [(Blk.flat 5 1 [] x1), (Blk.flat 5 1 (List.map (encI .u8) s0.c6) false), (Blk.flat 5 1 [] false)])) := by
  unfold word_PutAll_o_L0_sel word_PutAll_o_L0_c0
  cases h1 : tb (decide (s0.c4 < x6))
  · intro g0 g1
    exact absurd g1 ft
  · cases h2 : tb (inb x5.length s0.c4)
    · intro g0 g1
      exact absurd g1 ft
    · cases h3 : tb (false != (word_Put4_i_r0_0 (gt x5 s0.c4)))
      · cases h4 : tb (decide ((s0.c6.length + (word_Put4_i_r0_1 (gt x5 s0.c4)).length) * 1 ≤ 140737488355328))
        · intro g0 g1
          exact absurd g1 ft
        · intro g0 g1
          exact absurd g0 tf
      · intro g0 g1
        exact round_walk [.b (tbE h1), .o 11 (fun _ => o_idx_os (enc := (encI .i64)) (l := x5) (fl := true) (n := x4) (s := 1) (k := .i64) (tbE h2)), .c (word_Put4_i_t0 (gt x5 s0.c4)), .b (tbE h3)] (by kernel_rfl)
theorem word_PutAll_o_L0_x1 (x0 : List Int) (x1 : Bool) (x2 : Bool) (x3 : Bool) (x4 : Bool) (x5 : List Int) (x6 : Int) (x7 : Int) (s0 : word_PutAll_o_L0_s0) : word_PutAll_o_L0_sel x5 x6 s0 = false → word_PutAll_o_L0_c0 x5 x6 s0 = false → word_PutAll_o_L0_c1 x6 s0 = true → (roundG (runC E0 (cl E0) L34_0) [3, 7, 8, 9] [2, 3] 2) (word_PutAll_o_L0_enc x0 x1 x2 x3 x4 x5 x6 x7 s0) = some ((.exit 0), ([V.un, (V.so s0.c0 1 s0.c6.length)], [(Blk.flat 5 1 [] x1), (Blk.flat 5 1 (List.map (encI .u8) s0.c6) false)])) := by
  unfold word_PutAll_o_L0_sel word_PutAll_o_L0_c0 word_PutAll_o_L0_c1
  cases h1 : tb (decide (s0.c4 < x6))
  · intro g0 g1 g2
    exact round_walk [.b (tbE h1)] (by kernel_rfl)
  · cases h2 : tb (inb x5.length s0.c4)
    · intro g0 g1 g2
      exact absurd g2 ft
    · cases h3 : tb (false != (word_Put4_i_r0_0 (gt x5 s0.c4)))
      · cases h4 : tb (decide ((s0.c6.length + (word_Put4_i_r0_1 (gt x5 s0.c4)).length) * 1 ≤ 140737488355328))
        · intro g0 g1 g2
          exact absurd g2 ft
        · intro g0 g1 g2
          exact absurd g0 tf
      · intro g0 g1 g2
        exact absurd g1 tf
theorem word_PutAll_o_L0_f0_0 (x0 : List Int) (x1 : Bool) (x2 : Bool) (x3 : Bool) (x4 : Bool) (x5 : List Int) (x6 : Int) (x7 : Int) (s : word_PutAll_o_L0_s0) (hok : word_PutAll_o_L0_ok x5 x6 s = true) (c0 : word_PutAll_o_L0_c0 x5 x6 (word_PutAll_o_L0_end x5 x6 s) = true) : loopG (roundG (runC E0 (cl E0) L34_0) [3, 7, 8, 9] [2, 3] 2) bound (word_PutAll_o_L0_enc x0 x1 x2 x3 x4 x5 x6 x7 s) = some (.ret, ([(V.so true 2 0), (V.so ((word_PutAll_o_L0_end x5 x6 s).c0) 1 (((word_PutAll_o_L0_end x5 x6 s).c6).length))], [(Blk.flat 5 1 [] x1), (Blk.flat 5 1 (List.map (encI .u8) ((word_PutAll_o_L0_end x5 x6 s).c6)) false), (Blk.flat 5 1 [] false)])) := by
  have e : itS (word_PutAll_o_L0_sel x5 x6) (word_PutAll_o_L0_nx x5 x6) bound s = some (word_PutAll_o_L0_end x5 x6 s) := itS_get hok
  have f := itS_false e
  exact loop_it (word_PutAll_o_L0_go x0 x1 x2 x3 x4 x5 x6 x7) bound s _ _ _ e (fun h => by cases h) (word_PutAll_o_L0_x0 x0 x1 x2 x3 x4 x5 x6 x7 (word_PutAll_o_L0_end x5 x6 s) f c0)
theorem word_PutAll_o_L0_f0_1 (x0 : List Int) (x1 : Bool) (x2 : Bool) (x3 : Bool) (x4 : Bool) (x5 : List Int) (x6 : Int) (x7 : Int) (s : word_PutAll_o_L0_s0) (hok : word_PutAll_o_L0_ok x5 x6 s = true) (c0 : word_PutAll_o_L0_c0 x5 x6 (word_PutAll_o_L0_end x5 x6 s) = false) (c1 : word_PutAll_o_L0_c1 x6 (word_PutAll_o_L0_end x5 x6 s) = true) : loopG (roundG (runC E0 (cl E0) L34_0) [3, 7, 8, 9] [2, 3] 2) bound (word_PutAll_o_L0_enc x0 x1 x2 x3 x4 x5 x6 x7 s) = some ((.exit 0), ([V.un, (V.so ((word_PutAll_o_L0_end x5 x6 s).c0) 1 (((word_PutAll_o_L0_end x5 x6 s).c6).length))], [(Blk.flat 5 1 [] x1), (Blk.flat 5 1 (List.map (encI .u8) ((word_PutAll_o_L0_end x5 x6 s).c6)) false)])) := by
  have e : itS (word_PutAll_o_L0_sel x5 x6) (word_PutAll_o_L0_nx x5 x6) bound s = some (word_PutAll_o_L0_end x5 x6 s) := itS_get hok
  have f := itS_false e
  exact loop_it (word_PutAll_o_L0_go x0 x1 x2 x3 x4 x5 x6 x7) bound s _ _ _ e (fun h => by cases h) (word_PutAll_o_L0_x1 x0 x1 x2 x3 x4 x5 x6 x7 (word_PutAll_o_L0_end x5 x6 s) f c0 c1)
def word_PutAll_o_e0 (x1 : List Int) : word_PutAll_o_L0_s0 := word_PutAll_o_L0_end x1 ((x1.length : Nat) : Int) (⟨true, 0, ([] : List Int)⟩ : word_PutAll_o_L0_s0)
def word_PutAll_o_c0 (x1 : List Int) : Bool := (bif tb (word_PutAll_o_L0_ok x1 ((x1.length : Nat) : Int) (⟨true, 0, ([] : List Int)⟩ : word_PutAll_o_L0_s0)) then (bif tb (word_PutAll_o_L0_c0 x1 ((x1.length : Nat) : Int) (word_PutAll_o_e0 x1)) then true else (bif tb (word_PutAll_o_L0_c1 ((x1.length : Nat) : Int) (word_PutAll_o_e0 x1)) then true else false)) else false)
def word_PutAll_o_r0_0 (x1 : List Int) : Bool := (bif tb (word_PutAll_o_L0_c0 x1 ((x1.length : Nat) : Int) (word_PutAll_o_e0 x1)) then true else ((word_PutAll_o_e0 x1).c0))
def word_PutAll_o_r0_1 (x1 : List Int) : List Int := (bif tb (word_PutAll_o_L0_c0 x1 ((x1.length : Nat) : Int) (word_PutAll_o_e0 x1)) then ([] : List Int) else ((word_PutAll_o_e0 x1).c6))
theorem word_PutAll_o_t0 (x0 : Bool) (x1 : List Int) : word_PutAll_o_c0 x1 = true → cl E0 34 [(V.d (slD (encI .i64) true 1 x0 x1))] [] = some ([(V.so (word_PutAll_o_r0_0 x1) 0 ((word_PutAll_o_r0_1 x1).length))], [(Blk.flat 5 1 (List.map (encI .u8) (word_PutAll_o_r0_1 x1)) false)]) := by
  unfold word_PutAll_o_c0 word_PutAll_o_r0_0 word_PutAll_o_r0_1
  cases h1 : tb (word_PutAll_o_L0_ok x1 ((x1.length : Nat) : Int) (⟨true, 0, ([] : List Int)⟩ : word_PutAll_o_L0_s0))
  · intro g0
    exact absurd g0 ft
  · cases h2 : tb (word_PutAll_o_L0_c0 x1 ((x1.length : Nat) : Int) (word_PutAll_o_e0 x1))
    · cases h3 : tb (word_PutAll_o_L0_c1 ((x1.length : Nat) : Int) (word_PutAll_o_e0 x1))
      · intro g0
        exact absurd g0 ft
      · intro g0
        exact w34 [.o 8 (fun _ => o_len_os (enc := (encI .i64)) (l := x1) (fl := true) (n := x0) (s := 1)), .l (word_PutAll_o_L0_f0_1 ([] : List Int) false false true x0 x1 ((x1.length : Nat) : Int) 0 (⟨true, 0, ([] : List Int)⟩ : word_PutAll_o_L0_s0) (tbE h1) (tbE h2) (tbE h3))] (by kernel_rfl)
    · intro g0
      exact w34 [.o 8 (fun _ => o_len_os (enc := (encI .i64)) (l := x1) (fl := true) (n := x0) (s := 1)), .l (word_PutAll_o_L0_f0_0 ([] : List Int) false false true x0 x1 ((x1.length : Nat) : Int) 0 (⟨true, 0, ([] : List Int)⟩ : word_PutAll_o_L0_s0) (tbE h1) (tbE h2))] (by kernel_rfl)
end Go.Proofs.Ytkipngagfiaddaa.Den

namespace Go.Proofs.Ytkipngagfiaddaa.Den
open Go Go.Proofs
set_option maxRecDepth 100000
set_option maxHeartbeats 4000000
set_option linter.unusedVariables false
set_option linter.unusedSimpArgs false
def ref04_Get2_o_c0 (x1 : List Int) : Bool := (bif tb ((((x1.length : Nat) : Int) : Int) != 2) then true else (bif tb (inb x1.length 0) then (bif tb (inb x1.length 1) then true else false) else false))
def ref04_Get2_o_r0_0 (x1 : List Int) : Int := (bif tb ((((x1.length : Nat) : Int) : Int) != 2) then 0 else (wi ((wi (256 * (wi (gt x1 0)))) + (wi (gt x1 1)))))
def ref04_Get2_o_r0_1 (x1 : List Int) : Bool := (bif tb ((((x1.length : Nat) : Int) : Int) != 2) then false else true)
structure ref04_Get4_o_L0_s0 where
  c2 : Int
  c3 : Int
  deriving Inhabited
end Go.Proofs.Ytkipngagfiaddaa.Den

namespace Go.Proofs.Ytkipngagfiaddaa.Den
open Go
set_option linter.unusedVariables false
set_option linter.unusedSimpArgs false
theorem loop_seq {S : Type} {sel : S → Bool} {nx : S → S} (st : Nat → S) (n : Nat) (hb : n < 1152921504606846976) (hn : ∀ k, k < n → sel (st k) = true ∧ nx (st k) = st (k + 1)) (he : sel (st n) = false) : itS sel nx bound (st 0) = some (st n) := by
  have key : ∀ (d N : Nat), d ≤ n → d < N → itS sel nx N (st (n - d)) = some (st n) := by
    intro d
    induction d with
    | zero =>
      intro N _ hN
      obtain ⟨N, rfl⟩ : ∃ M, N = M + 1 := ⟨N - 1, by omega⟩
      simp only [Nat.sub_zero, itS, he]
    | succ d ih =>
      intro N h1 hN
      obtain ⟨N, rfl⟩ : ∃ M, N = M + 1 := ⟨N - 1, by omega⟩
      obtain ⟨g1, g2⟩ := hn (n - (d + 1)) (by omega)
      simp only [itS, g1, g2]
      rw [show n - (d + 1) + 1 = n - d by omega]
      exact ih N (by omega) (by omega)
  have := key n bound (Nat.le_refl _) (by unfold bound; omega)
  rwa [Nat.sub_self] at this
theorem gt_zip {l k : List Int} (h : l.length = k.length) {i : Int} (h1 : 0 ≤ i) (h2 : i < l.length) : gt (l.zip k) i = (gt l i, gt k i) := by
  rw [gt_getElem h1 (by rw [List.length_zip]; omega), gt_getElem h1 (by omega), gt_getElem h1 (by omega), List.getElem_zip]
theorem zip_all : ∀ {l k : List Int}, l.length = k.length → ((l.zip k).all fun p => p.1 == p.2) = decide (l = k)
  | [], [], _ => by simp
  | x :: l, y :: k, h => by
    rw [List.zip_cons_cons, List.all_cons, zip_all (by simpa using h), Bool.eq_iff_iff]
    simp
  | [], _ :: _, h => by simp at h
  | _ :: _, [], h => by simp at h
theorem eq_loop {S : Type} {sel : S → Bool} {nx : S → S} {s0 : S} {l k : List Int} (hlk : l.length = k.length) (ix : S → Int) (hl : l.length < 1152921504606846976) (h0 : ix s0 = 0)
    (hnx : ∀ s, 0 ≤ ix s → ix s < l.length → ix (nx s) = ix s + 1) (hsel : ∀ s, 0 ≤ ix s → ix s ≤ l.length → sel s = (decide (ix s < l.length) && (gt l (ix s) == gt k (ix s)))) :
    ∃ s1, itS sel nx bound s0 = some s1 ∧ 0 ≤ ix s1 ∧ ((ix s1 = l.length ∧ l = k) ∨ (ix s1 < l.length ∧ (gt l (ix s1) == gt k (ix s1)) = false ∧ l ≠ k)) := by
  have hz : (l.zip k).length = l.length := by rw [List.length_zip]; omega
  obtain ⟨s1, e, -, g0, g⟩ := all_loop (sel := sel) (nx := nx) (s0 := s0) (l.zip k) ix (fun p => p.1 == p.2) (fun _ => True) (by omega) h0 trivial
    (fun s _ a1 a2 _ => ⟨hnx s a1 (by omega), trivial⟩)
    (fun s _ a1 a2 => by
      rw [hsel s a1 (by omega), hz]
      by_cases h : ix s < l.length
      · rw [gt_zip hlk a1 h]
      · simp [h])
  rw [zip_all hlk, hz] at g
  refine ⟨s1, e, g0, ?_⟩
  rcases g with ⟨a, b⟩ | ⟨a, b, c⟩
  · exact .inl ⟨a, by simpa using b⟩
  · rw [gt_zip hlk g0 a] at b
    exact .inr ⟨a, b, by simpa using c⟩
theorem sub_nat {α : Type} (l : List α) (a b : Nat) : sub l (a : Int) (b : Int) = (l.drop a).take (b - a) := by
  unfold sub; congr 1; omega
theorem take_succ_gt {α : Type} [Inhabited α] {l : List α} {k : Nat} (h : k < l.length) : l.take (k + 1) = l.take k ++ [gt l (k : Int)] := by
  rw [gt_nat h, List.take_succ_eq_append_getElem h]
theorem u8w (x : Int) : IntKind.u8.wrap x = x % 256 := by simp [IntKind.wrap, IntKind.bits, IntKind.signed]
theorem u32w (x : Int) : IntKind.u32.wrap x = x % 4294967296 := by simp [IntKind.wrap, IntKind.bits, IntKind.signed]
theorem i32w (x : Int) : IntKind.i32.wrap x = if 2147483648 ≤ x % 4294967296 then x % 4294967296 - 4294967296 else x % 4294967296 := by
  simp [IntKind.wrap, IntKind.bits, IntKind.signed]
theorem shr_i64 (x : Int) (k : Nat) (hk : k ≤ 64) : shrI .i64 x (k : Int) = x / (2 ^ k : Int) := by
  unfold shrI
  have : min (k : Int).toNat IntKind.i64.bits = k := by simp [IntKind.bits]; omega
  rw [this]
  exact Int.fdiv_eq_ediv_of_nonneg _ (by exact_mod_cast Nat.zero_le _)
theorem rem_i64 {x y : Int} (h1 : 0 ≤ x) : remI .i64 x y = x % y := by
  unfold remI; exact Int.tmod_eq_emod_of_nonneg h1
theorem bvOf {n : Nat} {a : Nat} (h : a < 2 ^ n) : (BitVec.ofInt n (a : Int)) = BitVec.ofNat n a := by
  simp
theorem or_nat {k : IntKind} {a b : Nat} (ha : a < 2 ^ k.bits) (hb : b < 2 ^ k.bits) : orI k (a : Int) (b : Int) = k.wrap ((a ||| b : Nat) : Int) := by
  unfold orI
  rw [bvOf ha, bvOf hb, BitVec.toNat_or, BitVec.toNat_ofNat, BitVec.toNat_ofNat, Nat.mod_eq_of_lt ha, Nat.mod_eq_of_lt hb]
theorem or_add {a b i : Nat} (hb : b < 2 ^ i) : (2 ^ i * a) ||| b = 2 ^ i * a + b := by
  exact (Nat.two_pow_add_eq_or_of_lt hb a).symm
end Go.Proofs.Ytkipngagfiaddaa.Den

namespace Go.Proofs.Ytkipngagfiaddaa.Den
open Go
set_option linter.unusedVariables false
set_option linter.unusedSimpArgs false
set_option maxRecDepth 10000
def Byts (l : List Int) : Prop := ∀ z ∈ l, 0 ≤ z ∧ z ≤ 255
theorem byts_of {l : List Int} (h : ∀ z ∈ l, WfI .u8 z) : Byts l := fun z hz => wfI_u8 (h z hz)
theorem byts_take {l : List Int} (h : Byts l) (k : Nat) : Byts (l.take k) := fun z hz => h z (List.mem_of_mem_take hz)
theorem byts_drop {l : List Int} (h : Byts l) (k : Nat) : Byts (l.drop k) := fun z hz => h z (List.mem_of_mem_drop hz)
def be4 (a b c d : Int) : Int := if 2147483648 ≤ 16777216 * a + 65536 * b + 256 * c + d then 16777216 * a + 65536 * b + 256 * c + d - 4294967296 else 16777216 * a + 65536 * b + 256 * c + d
def g4 : List Int → Int
  | [a, b, c, d] => be4 a b c d
  | _ => 0
theorem nat_of {a : Int} (h : 0 ≤ a ∧ a ≤ 255) : ∃ n : Nat, a = n ∧ n < 256 := ⟨a.toNat, by omega, by omega⟩
theorem shl_u32 {n : Nat} (k : Nat) (hn : n * 2 ^ k < 4294967296) (hk : k ≤ 32) : shlI .u32 (n : Int) (k : Int) = ((2 ^ k * n : Nat) : Int) := by
  unfold shlI
  have : min (k : Int).toNat IntKind.u32.bits = k := by simp [IntKind.bits]; omega
  rw [this, u32w]
  have : ((n : Int) * 2 ^ k) = ((n * 2 ^ k : Nat) : Int) := by push_cast; rfl
  rw [this, Int.emod_eq_of_lt (by omega) (by omega), Nat.mul_comm]
theorem u32_or {a b : Nat} (ha : a < 4294967296) (hb : b < 4294967296) (h : a ||| b < 4294967296) : orI .u32 (a : Int) (b : Int) = ((a ||| b : Nat) : Int) := by
  rw [or_nat (k := .u32) (by simpa [IntKind.bits] using ha) (by simpa [IntKind.bits] using hb), u32w]
  exact Int.emod_eq_of_lt (by omega) (by omega)
theorem u32_small {n : Nat} (h : n < 4294967296) : IntKind.u32.wrap (n : Int) = n := by
  rw [u32w]; exact Int.emod_eq_of_lt (by omega) (by omega)
theorem i64_or {a b : Nat} (ha : a < 4294967296) (hb : b < 4294967296) (h : a ||| b < 4294967296) : orI .i64 (a : Int) (b : Int) = ((a ||| b : Nat) : Int) := by
  rw [or_nat (k := .i64) (by simp [IntKind.bits]; omega) (by simp [IntKind.bits]; omega)]
  exact wrap64 (by omega) (by omega)
theorem word4 {a b c d : Int} (ha : 0 ≤ a ∧ a ≤ 255) (hb : 0 ≤ b ∧ b ≤ 255) (hc : 0 ≤ c ∧ c ≤ 255) (hd : 0 ≤ d ∧ d ≤ 255) :
    wi (IntKind.i32.wrap (orI .u32 (orI .u32 (orI .u32 (shlI .u32 (IntKind.u32.wrap a) 24) (shlI .u32 (IntKind.u32.wrap b) 16)) (shlI .u32 (IntKind.u32.wrap c) 8)) (IntKind.u32.wrap d))) = be4 a b c d := by
  obtain ⟨A, rfl, hA⟩ := nat_of ha
  obtain ⟨B, rfl, hB⟩ := nat_of hb
  obtain ⟨C, rfl, hC⟩ := nat_of hc
  obtain ⟨D, rfl, hD⟩ := nat_of hd
  rw [u32_small (by omega), u32_small (by omega), u32_small (by omega), u32_small (by omega)]
  have e1 : shlI .u32 (A : Int) 24 = ((2 ^ 24 * A : Nat) : Int) := shl_u32 (n := A) 24 (by omega) (by omega)
  have e2 : shlI .u32 (B : Int) 16 = ((2 ^ 16 * B : Nat) : Int) := shl_u32 (n := B) 16 (by omega) (by omega)
  have e3 : shlI .u32 (C : Int) 8 = ((2 ^ 8 * C : Nat) : Int) := shl_u32 (n := C) 8 (by omega) (by omega)
  rw [e1, e2, e3]
  have o1 : (2 ^ 24 * A) ||| (2 ^ 16 * B) = 2 ^ 24 * A + 2 ^ 16 * B := or_add (by omega)
  have o2 : (2 ^ 24 * A + 2 ^ 16 * B) ||| (2 ^ 8 * C) = 2 ^ 24 * A + 2 ^ 16 * B + 2 ^ 8 * C := by
    have := or_add (a := 2 ^ 8 * A + B) (b := 2 ^ 8 * C) (i := 16) (by omega)
    rw [show 2 ^ 16 * (2 ^ 8 * A + B) = 2 ^ 24 * A + 2 ^ 16 * B by omega] at this; exact this
  have o3 : (2 ^ 24 * A + 2 ^ 16 * B + 2 ^ 8 * C) ||| D = 2 ^ 24 * A + 2 ^ 16 * B + 2 ^ 8 * C + D := by
    have := or_add (a := 2 ^ 16 * A + 2 ^ 8 * B + C) (b := D) (i := 8) (by omega)
    rw [show 2 ^ 8 * (2 ^ 16 * A + 2 ^ 8 * B + C) = 2 ^ 24 * A + 2 ^ 16 * B + 2 ^ 8 * C by omega] at this; exact this
  rw [u32_or (by omega) (by omega) (by rw [o1]; omega), o1, u32_or (by omega) (by omega) (by rw [o2]; omega), o2, u32_or (by omega) (by omega) (by rw [o3]; omega), o3, i32w]
  unfold be4
  have hm : ((2 ^ 24 * A + 2 ^ 16 * B + 2 ^ 8 * C + D : Nat) : Int) % 4294967296 = 16777216 * (A : Int) + 65536 * B + 256 * C + D := by
    rw [Int.emod_eq_of_lt (by omega) (by omega)]; omega
  rw [hm]
  exact wi_eq (by split <;> omega) (by split <;> omega)
theorem len4 {l : List Int} (h : l.length = 4) : ∃ a b c d, l = [a, b, c, d] := by
  match l, h with
  | [a, b, c, d], _ => exact ⟨a, b, c, d, rfl⟩
theorem Get4_c (l : List Int) : word_Get4_l_c0 l = true := by
  simp only [word_Get4_l_c0, tb_eq]
  by_cases h : l.length = 4
  · simp [h, inb]
  · have : ((l.length : Int) != 4) = true := by simp; omega
    simp [this]
theorem Get4_r {l : List Int} (hl : Byts l) : word_Get4_l_r0_0 l = g4 l ∧ word_Get4_l_r0_1 l = decide (l.length = 4) := by
  by_cases h : l.length = 4
  · obtain ⟨a, b, c, d, rfl⟩ := len4 h
    refine ⟨?_, by simp [word_Get4_l_r0_1]⟩
    simp only [word_Get4_l_r0_0, tb_eq]
    have e : word_Get4_l_e2 [a, b, c, d] = IntKind.i32.wrap (orI .u32 (orI .u32 (orI .u32 (shlI .u32 (IntKind.u32.wrap a) 24) (shlI .u32 (IntKind.u32.wrap b) 16)) (shlI .u32 (IntKind.u32.wrap c) 8)) (IntKind.u32.wrap d)) := rfl
    rw [e, word4 (hl a (by simp)) (hl b (by simp)) (hl c (by simp)) (hl d (by simp))]
    simp [g4]
  · have : ((l.length : Int) != 4) = true := by simp; omega
    simp only [word_Get4_l_r0_0, word_Get4_l_r0_1, tb_eq, this, cond_true, h, decide_false, and_true]
    unfold g4
    split
    · simp at h
    · rfl
def n32 (n : Int) : Bool := decide (-2147483648 ≤ n) && decide (n ≤ 2147483647)
theorem n32_iff {n : Int} : n32 n = true ↔ -2147483648 ≤ n ∧ n ≤ 2147483647 := by simp [n32]
def p4 (n : Int) : List Int := [n / 16777216 % 256, n / 65536 % 256, n / 256 % 256, n % 256]
theorem Put4_l (n : Int) : [(IntKind.u8.wrap (shrI .i64 n 24)), (IntKind.u8.wrap (shrI .i64 n 16)), (IntKind.u8.wrap (shrI .i64 n 8)), (IntKind.u8.wrap (n))] = p4 n := by
  have h24 : shrI .i64 n 24 = n / 16777216 := shr_i64 n 24 (by omega)
  have h16 : shrI .i64 n 16 = n / 65536 := shr_i64 n 16 (by omega)
  have h8 : shrI .i64 n 8 = n / 256 := shr_i64 n 8 (by omega)
  rw [h24, h16, h8, u8w, u8w, u8w, u8w]; rfl
def q4 (n : Int) : List Int := if n32 n then p4 n else []
theorem Put4_r (n : Int) : word_Put4_i_r0_0 n = !n32 n ∧ word_Put4_i_r0_1 n = q4 n := by
  simp only [word_Put4_i_r0_0, word_Put4_i_r0_1, Put4_l, tb_eq, q4, n32]
  by_cases h1 : n < -2147483648
  · have : ¬ (-2147483648 ≤ n) := by omega
    simp [h1, this]
  · have h2 : -2147483648 ≤ n := by omega
    by_cases h3 : 2147483647 < n
    · have : ¬ (n ≤ 2147483647) := by omega
      simp [h1, h2, h3, this]
    · have : n ≤ 2147483647 := by omega
      simp [h1, h2, h3, this]
theorem g4_p4 {n : Int} (h : n32 n = true) : g4 (p4 n) = n := by
  obtain ⟨h1, h2⟩ := n32_iff.1 h
  simp only [p4, g4, be4]
  split <;> omega
theorem p4_byts (n : Int) : Byts (p4 n) := by
  intro z hz
  simp [p4] at hz
  omega
def n16 (n : Int) : Bool := decide (0 ≤ n) && decide (n < 65536)
theorem n16_iff {n : Int} : n16 n = true ↔ 0 ≤ n ∧ n < 65536 := by simp [n16]
def g2 : List Int → Int
  | [a, b] => 256 * a + b
  | _ => 0
def p2 (n : Int) : List Int := [n / 256 % 256, n % 256]
theorem seq_r (n : Int) : word_seq_i_r0_0 n = n16 n := by
  simp only [word_seq_i_r0_0, tb_eq, n16]; cases decide (0 ≤ n) <;> rfl
theorem Put2_l (n : Int) : [(IntKind.u8.wrap (shrI .i64 n 8)), (IntKind.u8.wrap (n))] = p2 n := by
  have h8 : shrI .i64 n 8 = n / 256 := shr_i64 n 8 (by omega)
  rw [h8, u8w, u8w]; rfl
def q2 (n : Int) : List Int := if n16 n then p2 n else []
theorem Put2_r (n : Int) : word_Put2_i_r0_1 n = q2 n := by
  simp only [word_Put2_i_r0_1, Put2_l, seq_r, tb_eq, q2]
  cases n16 n <;> rfl
theorem len2 {l : List Int} (h : l.length = 2) : ∃ a b, l = [a, b] := by
  match l, h with
  | [a, b], _ => exact ⟨a, b, rfl⟩
theorem g2_len {l : List Int} (h : l.length ≠ 2) : g2 l = 0 := by
  unfold g2
  split
  · simp at h
  · rfl
theorem Get2_eq {l : List Int} (hl : Byts l) : word_Get2_o_c0 l = true ∧ ref04_Get2_o_c0 l = true ∧ word_Get2_o_r0_0 l = g2 l ∧ ref04_Get2_o_r0_0 l = g2 l ∧ word_Get2_o_r0_1 l = decide (l.length = 2) ∧ ref04_Get2_o_r0_1 l = decide (l.length = 2) := by
  by_cases h : l.length = 2
  · obtain ⟨a, b, rfl⟩ := len2 h
    have ha := hl a (by simp)
    have hb := hl b (by simp)
    refine ⟨by simp [word_Get2_o_c0, inb], by simp [ref04_Get2_o_c0, inb], ?_, ?_, by simp [word_Get2_o_r0_1], by simp [ref04_Get2_o_r0_1]⟩
    · obtain ⟨A, rfl, hA⟩ := nat_of ha
      obtain ⟨B, rfl, hB⟩ := nat_of hb
      have e : word_Get2_o_r0_0 [(A : Int), (B : Int)] = orI .i64 (shlI .i64 (wi (A : Int)) 8) (wi (B : Int)) := by simp [word_Get2_o_r0_0, gt]
      have hs : shlI .i64 (A : Int) 8 = ((2 ^ 8 * A : Nat) : Int) := by
        unfold shlI
        rw [show min (8 : Int).toNat IntKind.i64.bits = 8 from rfl, wrap64 (by omega) (by omega)]; push_cast; omega
      rw [e, wi_eq (by omega) (by omega), wi_eq (by omega) (by omega), hs]
      have o : (2 ^ 8 * A) ||| B = 2 ^ 8 * A + B := or_add (by omega)
      rw [i64_or (by omega) (by omega) (by rw [o]; omega), o]
      simp only [g2]; push_cast; omega
    · have e : ref04_Get2_o_r0_0 [a, b] = wi (wi (256 * wi a) + wi b) := by simp [ref04_Get2_o_r0_0, gt]
      rw [e, wi_eq (x := a) (by omega) (by omega), wi_eq (x := b) (by omega) (by omega), wi_eq (x := 256 * a) (by omega) (by omega), wi_eq (by omega) (by omega)]; rfl
  · have : ((l.length : Int) != 2) = true := by simp; omega
    simp [word_Get2_o_c0, ref04_Get2_o_c0, word_Get2_o_r0_0, ref04_Get2_o_r0_0, word_Get2_o_r0_1, ref04_Get2_o_r0_1, this, h, g2_len h]
theorem g2_p2 {n : Int} (h : n16 n = true) : g2 (p2 n) = n := by
  obtain ⟨h1, h2⟩ := n16_iff.1 h
  simp only [p2, g2]; omega
theorem p2_byts (n : Int) : Byts (p2 n) := by
  intro z hz
  simp [p2] at hz
  omega
open Go
set_option linter.unusedVariables false
set_option linter.unusedSimpArgs false
set_option maxRecDepth 10000
def fours (b : List Int) (k : Nat) : List Int := (List.range k).map fun i => g4 ((b.drop (4 * i)).take 4)
theorem fours_succ (b : List Int) (k : Nat) : fours b (k + 1) = fours b k ++ [g4 ((b.drop (4 * k)).take 4)] := by
  simp [fours, List.range_succ]
theorem fours_len (b : List Int) (k : Nat) : (fours b k).length = k := by simp [fours]
theorem sub04 (l : List Int) : sub l 0 4 = l.take 4 := by unfold sub; simp
theorem sub4e (l : List Int) : sub l 4 (l.length : Int) = l.drop 4 := by
  unfold sub
  rw [List.take_of_length_le]
  · rfl
  · simp; omega
theorem Get4l_c (l : List Int) : word_Get4_l_c0 l = true := Get4_c l
theorem Get4l_r {l : List Int} (hl : Byts l) : word_Get4_l_r0_0 l = g4 l := (Get4_r hl).1
theorem fours_run {b : List Int} (hb : Byts b) (hl : b.length ≤ 1000000) (x : Bool) :
    itS word_fours_c1_yp_Y43_1pGvLGo_L0_sel word_fours_c1_yp_Y43_1pGvLGo_L0_nx bound ⟨true, [], x, b⟩ = some ⟨b.length / 4 == 0, fours b (b.length / 4), (b.length / 4 == 0) && x, b.drop (4 * (b.length / 4))⟩ := by
  have := loop_seq (sel := word_fours_c1_yp_Y43_1pGvLGo_L0_sel) (nx := word_fours_c1_yp_Y43_1pGvLGo_L0_nx) (fun k => ⟨k == 0, fours b k, (k == 0) && x, b.drop (4 * k)⟩) (b.length / 4) (by omega) (fun k hk => ?_) ?_
  · simpa [fours] using this
  · have h4 : 4 ≤ (b.drop (4 * k)).length := by simp; omega
    have h4' : (4 : Int) ≤ ((b.drop (4 * k)).length : Int) := by omega
    have i1 : ins (b.drop (4 * k)).length 0 4 = true := by simp only [ins, Bool.and_eq_true, decide_eq_true_eq]; omega
    have i2 : ins (b.drop (4 * k)).length 4 ((b.drop (4 * k)).length : Int) = true := by simp only [ins, Bool.and_eq_true, decide_eq_true_eq]; omega
    have hby : Byts ((b.drop (4 * k)).take 4) := byts_take (byts_drop hb _) _
    have hsz : (k + 1) * 8 ≤ 140737488355328 := by omega
    have hy : word_GetAll_Y1_l_Y43_1pGvL_c0 (fours b k) ((b.drop (4 * k)).take 4) = true := by
      simp [word_GetAll_Y1_l_Y43_1pGvL_c0, Get4l_c, fours_len, hsz]
    constructor
    · simp only [word_fours_c1_yp_Y43_1pGvLGo_L0_sel, sub04, i1, i2, hy, tb_eq, h4', decide_true, cond_true]
    · simp only [word_fours_c1_yp_Y43_1pGvLGo_L0_nx, sub04, sub4e, Get4l_r hby, fours_succ]
      have hne : (b.drop (4 * k)).isEmpty = false := by cases h : b.drop (4 * k) with | nil => rw [h] at h4; simp at h4 | cons a r => rfl
      rw [hne, List.drop_drop]
      simp [Nat.mul_add]
  · have : ¬ (4 : Int) ≤ ((b.drop (4 * (b.length / 4))).length : Int) := by simp; omega
    simp only [word_fours_c1_yp_Y43_1pGvLGo_L0_sel, tb_eq, this, decide_false, cond_false]
theorem rem4 (n : Nat) : remI .i64 ((n : Nat) : Int) 4 = ((n % 4 : Nat) : Int) := by
  rw [rem_i64 (by omega)]; omega
def getAll (b : List Int) : List Int := if b.length % 4 = 0 then fours b (b.length / 4) else []
theorem GetAll_r {b : List Int} (hb : Byts b) (hl : b.length ≤ 1000000) (x : Bool) : word_GetAll_o_c0 x b = true ∧ word_GetAll_o_r0_1 b = decide (b.length % 4 = 0) ∧ word_GetAll_o_r0_2 x b = getAll b := by
  have hrun := fours_run hb hl x
  have he : word_fours_c1_yp_Y43_1pGvLGo_e0 [] true x b = ⟨b.length / 4 == 0, fours b (b.length / 4), (b.length / 4 == 0) && x, b.drop (4 * (b.length / 4))⟩ := by
    simp only [word_fours_c1_yp_Y43_1pGvLGo_e0, word_fours_c1_yp_Y43_1pGvLGo_L0_end, hrun]; rfl
  have hn : ¬ (4 : Int) ≤ ((b.drop (4 * (b.length / 4))).length : Int) := by simp; omega
  have hc : word_fours_c1_yp_Y43_1pGvLGo_c0 [] true x b = true := by
    simp only [word_fours_c1_yp_Y43_1pGvLGo_c0, word_fours_c1_yp_Y43_1pGvLGo_L0_ok, hrun, he, word_fours_c1_yp_Y43_1pGvLGo_L0_c0, tb_eq, hn, decide_false, cond_false]; rfl
  simp only [word_GetAll_o_c0, word_GetAll_o_r0_1, word_GetAll_o_r0_2, rem4, hc, he, tb_eq, getAll]
  by_cases h : b.length % 4 = 0
  · simp [h]
  · have : (((b.length % 4 : Nat) : Int) != 0) = true := by simp; omega
    simp only [this, cond_true, h, decide_false, if_false, and_self]
def all32 (l : List Int) : Bool := l.all n32
def putAll (l : List Int) : List Int := if all32 l then l.flatMap p4 else []
theorem p4_len (n : Int) : (p4 n).length = 4 := rfl
theorem flat_len : ∀ (l : List Int), (l.flatMap p4).length = 4 * l.length
  | [] => rfl
  | a :: r => by rw [List.flatMap_cons, List.length_append, flat_len r, p4_len, List.length_cons]; omega
theorem put_run {l : List Int} {n : Nat} (hl : l.length ≤ 1000000) (hn : n ≤ l.length) (hall : ∀ k, k < n → n32 (gt l (k : Int)) = true) (hend : n = l.length ∨ n32 (gt l (n : Int)) = false) :
    itS (word_PutAll_o_L0_sel l (l.length : Int)) (word_PutAll_o_L0_nx l (l.length : Int)) bound ⟨true, 0, []⟩ = some ⟨n == 0, n, (l.take n).flatMap p4⟩ := by
  have := loop_seq (sel := word_PutAll_o_L0_sel l (l.length : Int)) (nx := word_PutAll_o_L0_nx l (l.length : Int)) (fun k => ⟨k == 0, (k : Int), (l.take k).flatMap p4⟩) n (by omega) (fun k hk => ?_) ?_
  · simpa using this
  · obtain ⟨a1, a2⟩ := Put4_r (gt l (k : Int))
    have h32 := hall k hk
    have hi : inb l.length (k : Int) = true := inb_of (by omega) (by omega)
    have hlt : (k : Int) < (l.length : Int) := by omega
    have hlen : ((l.take k).flatMap p4).length = 4 * k := by rw [flat_len]; simp; omega
    have hq : q4 (gt l (k : Int)) = p4 (gt l (k : Int)) := by simp [q4, h32]
    have hsz : (4 * k + 4) * 1 ≤ 140737488355328 := by omega
    constructor
    · simp only [word_PutAll_o_L0_sel, a1, a2, hq, h32, hi, hlt, hlen, p4_len, hsz, tb_eq]; rfl
    · simp only [word_PutAll_o_L0_nx, a2, hq]
      rw [wi_eq (by omega) (by omega), take_succ_gt (by omega)]
      simp [p4]
  · rcases hend with rfl | h32
    · simp [word_PutAll_o_L0_sel, tb_eq]
    · obtain ⟨a1, a2⟩ := Put4_r (gt l (n : Int))
      simp only [word_PutAll_o_L0_sel, a1, h32, tb_eq]
      cases decide ((n : Int) < (l.length : Int)) <;> cases inb l.length (n : Int) <;> rfl
theorem first_bad : ∀ (l : List Int), all32 l = true ∨ ∃ n, n < l.length ∧ (∀ k, k < n → n32 (gt l (k : Int)) = true) ∧ n32 (gt l (n : Int)) = false
  | [] => .inl rfl
  | a :: r => by
    have g0 : gt (a :: r) ((0 : Nat) : Int) = a := rfl
    have gs : ∀ k : Nat, gt (a :: r) ((k + 1 : Nat) : Int) = gt r (k : Int) := fun k => by simp [gt]
    cases h : n32 a with
    | false => exact .inr ⟨0, by simp, fun k hk => by omega, by rw [g0]; exact h⟩
    | true =>
      rcases first_bad r with h1 | ⟨n, h1, h2, h3⟩
      · left; simp only [all32, List.all_cons, h, Bool.true_and]; exact h1
      · right
        refine ⟨n + 1, by simp; omega, fun k hk => ?_, by rw [gs]; exact h3⟩
        cases k with
        | zero => rw [g0]; exact h
        | succ k => rw [gs]; exact h2 k (by omega)
theorem all32_gt {l : List Int} (h : all32 l = true) {k : Nat} (hk : k < l.length) : n32 (gt l (k : Int)) = true := by
  rw [gt_nat hk]
  exact List.all_eq_true.1 h _ (List.getElem_mem hk)
theorem PutAll_r {l : List Int} (hl : l.length ≤ 1000000) : word_PutAll_o_c0 l = true ∧ word_PutAll_o_r0_1 l = putAll l := by
  rcases first_bad l with h | ⟨n, h1, h2, h3⟩
  · have hrun := put_run (n := l.length) hl (Nat.le_refl _) (fun k hk => all32_gt h hk) (.inl rfl)
    have he : word_PutAll_o_e0 l = ⟨l.length == 0, l.length, (l.take l.length).flatMap p4⟩ := by simp only [word_PutAll_o_e0, word_PutAll_o_L0_end, hrun]; rfl
    have hok : word_PutAll_o_L0_ok l (l.length : Int) ⟨true, 0, []⟩ = true := by simp only [word_PutAll_o_L0_ok, hrun]; rfl
    simp only [word_PutAll_o_c0, word_PutAll_o_r0_1, hok, he, word_PutAll_o_L0_c0, word_PutAll_o_L0_c1, tb_eq, putAll, h]
    simp
  · have hrun := put_run (n := n) hl (by omega) h2 (.inr h3)
    have he : word_PutAll_o_e0 l = ⟨n == 0, n, (l.take n).flatMap p4⟩ := by simp only [word_PutAll_o_e0, word_PutAll_o_L0_end, hrun]; rfl
    have hok : word_PutAll_o_L0_ok l (l.length : Int) ⟨true, 0, []⟩ = true := by simp only [word_PutAll_o_L0_ok, hrun]; rfl
    have hbad : all32 l = false := by
      cases h : all32 l with
      | false => rfl
      | true => rw [all32_gt h h1] at h3; cases h3
    have hi : inb l.length (n : Int) = true := inb_of (by omega) (by omega)
    have hlt : (n : Int) < (l.length : Int) := by omega
    obtain ⟨a1, a2⟩ := Put4_r (gt l (n : Int))
    simp only [word_PutAll_o_c0, word_PutAll_o_r0_1, hok, he, word_PutAll_o_L0_c0, word_PutAll_o_L0_c1, tb_eq, putAll, hbad, hi, hlt, a1, h3]
    simp
theorem fours_flat : ∀ (l : List Int), all32 l = true → fours (l.flatMap p4) l.length = l
  | [], _ => rfl
  | a :: r, h => by
    simp only [all32, List.all_cons, Bool.and_eq_true] at h
    have ih := fours_flat r h.2
    rw [List.flatMap_cons, List.length_cons]
    simp only [fours, List.range_succ_eq_map, List.map_cons, List.map_map]
    congr 1
    · show g4 (p4 a) = a
      exact g4_p4 h.1
theorem flat_byts : ∀ (l : List Int), Byts (l.flatMap p4)
  | [], z, hz => by simp at hz
  | a :: r, z, hz => by
    rw [List.flatMap_cons] at hz
    rcases List.mem_append.1 hz with h | h
    · exact p4_byts a z h
    · exact flat_byts r z h
end Go.Proofs.Ytkipngagfiaddaa.Den

namespace Go.Proofs.Ytkipngagfiaddaa.Den
open Go Go.Proofs
set_option maxRecDepth 100000
set_option maxHeartbeats 4000000
set_option linter.unusedVariables false
set_option linter.unusedSimpArgs false
def slices_Grow_byte_ni_c0 (x0 : Int) : Bool := (decide (0 ≤ x0) && decide ((x0 : Int).toNat * 1 ≤ 140737488355328))
theorem slices_Grow_byte_ni_t0 (x0 : Int) (h : slices_Grow_byte_ni_c0 x0 = true) : cl E0 60 [(V.d .nils), (V.d (.int .i64 x0))] [] = some ([(V.so (Nat.beq (x0 : Int).toNat 0) 0 0)], [(Blk.flat 5 1 [] false)]) := x_grow (l := extT) (f := 60) (e := 5) (flat := true) (size := 1) (bytes := 1) ⟨⟨rfl, by kernel_rfl⟩, by decide⟩ (by kernel_rfl) h
end Go.Proofs.Ytkipngagfiaddaa.Den

namespace Go.Proofs.Ytkipngagfiaddaa.Den
open Go Go.Proofs
set_option maxRecDepth 100000
set_option maxHeartbeats 4000000
set_option linter.unusedVariables false
set_option linter.unusedSimpArgs false
def slices_Clone_byte_o_c0 (x0 : Bool) (x1 : List Int) : Bool := (bif tb (false != (x0 && x1.isEmpty)) then true else (bif tb (decide ((([] : List Int).length + x1.length) * 1 ≤ 140737488355328)) then true else false))
def slices_Clone_byte_o_r0_0 (x0 : Bool) (x1 : List Int) : Bool := (bif tb (false != (x0 && x1.isEmpty)) then true else false)
def slices_Clone_byte_o_r0_1 (x0 : Bool) (x1 : List Int) : List Int := (bif tb (false != (x0 && x1.isEmpty)) then ([] : List Int) else x1)
theorem slices_Clone_byte_o_t0 (x0 : Bool) (x1 : List Int) : slices_Clone_byte_o_c0 x0 x1 = true → cl E0 59 [(V.d (slD (encI .u8) true 1 x0 x1))] [] = some ([(V.so (slices_Clone_byte_o_r0_0 x0 x1) 0 ((slices_Clone_byte_o_r0_1 x0 x1).length))], [(Blk.flat 5 1 (List.map (encI .u8) (slices_Clone_byte_o_r0_1 x0 x1)) false)]) := by
  unfold slices_Clone_byte_o_c0 slices_Clone_byte_o_r0_0 slices_Clone_byte_o_r0_1
  cases h1 : tb (false != (x0 && x1.isEmpty))
  · cases h2 : tb (decide ((([] : List Int).length + x1.length) * 1 ≤ 140737488355328))
    · intro g0
      exact absurd g0 ft
    · intro g0
      exact w59 [.o 4 (fun _ => o_nil_os (enc := (encI .u8)) (l := x1) (fl := true) (n := x0) (s := 1) (neg := false)), .b (tbE h1), .m 7 (o_app_sf (m := [(Blk.flat 5 1 [] false), (Blk.flat 5 1 [] false)]) (enc := (encI .u8)) (l0 := ([] : List Int)) (l1 := x1) (id := 1) (e := 5) (s := 1) (bytes := 1) (x := (V.d (slD (encI .u8) true 1 x0 x1))) (n := 0) (by kernel_rfl) (by kernel_rfl) flatRowsOf_os sizeOk_os (tbE h2))] (by kernel_rfl)
  · intro g0
    exact w59 [.o 4 (fun _ => o_nil_os (enc := (encI .u8)) (l := x1) (fl := true) (n := x0) (s := 1) (neg := false)), .b (tbE h1)] (by kernel_rfl)
structure slices_Equal_byte_oo_L0_s0 where
  c5 : Int
  deriving Inhabited
def slices_Equal_byte_oo_L0_enc (x0 : Bool) (x1 : List Int) (x2 : Bool) (x3 : List Int) (x4 : Int) (x5 : Int) (s0 : slices_Equal_byte_oo_L0_s0) : List V × Mem := ([(V.d (slD (encI .u8) true 1 x0 x1)), (V.d (slD (encI .u8) true 1 x2 x3)), (V.d (.int .i64 x4)), (V.d (.int .i64 s0.c5))], [])
def slices_Equal_byte_oo_L0_sel (x1 : List Int) (x3 : List Int) (x4 : Int) (s0 : slices_Equal_byte_oo_L0_s0) : Bool := (bif tb (decide (s0.c5 < x4)) then (bif tb (inb x1.length s0.c5) then (bif tb (inb x3.length s0.c5) then (bif tb (((gt x1 s0.c5) : Int) != (gt x3 s0.c5)) then false else true) else false) else false) else false)
def slices_Equal_byte_oo_L0_nx (x1 : List Int) (x3 : List Int) (x4 : Int) (s0 : slices_Equal_byte_oo_L0_s0) : slices_Equal_byte_oo_L0_s0 := ⟨(wi (s0.c5 + 1))⟩
def slices_Equal_byte_oo_L0_ok (x1 : List Int) (x3 : List Int) (x4 : Int) (s0 : slices_Equal_byte_oo_L0_s0) : Bool := (itS (slices_Equal_byte_oo_L0_sel x1 x3 x4) (slices_Equal_byte_oo_L0_nx x1 x3 x4) bound s0).isSome
def slices_Equal_byte_oo_L0_end (x1 : List Int) (x3 : List Int) (x4 : Int) (s0 : slices_Equal_byte_oo_L0_s0) : slices_Equal_byte_oo_L0_s0 := (itS (slices_Equal_byte_oo_L0_sel x1 x3 x4) (slices_Equal_byte_oo_L0_nx x1 x3 x4) bound s0).getD default
theorem slices_Equal_byte_oo_L0_go (x0 : Bool) (x1 : List Int) (x2 : Bool) (x3 : List Int) (x4 : Int) (x5 : Int) (s0 : slices_Equal_byte_oo_L0_s0) : slices_Equal_byte_oo_L0_sel x1 x3 x4 s0 = true → (roundG (runC E0 (cl E0) L45_0) [0, 1, 12, 13] [4] 0) (slices_Equal_byte_oo_L0_enc x0 x1 x2 x3 x4 x5 s0) = some (.normal, slices_Equal_byte_oo_L0_enc x0 x1 x2 x3 x4 x5 (slices_Equal_byte_oo_L0_nx x1 x3 x4 s0)) := by
  unfold slices_Equal_byte_oo_L0_sel slices_Equal_byte_oo_L0_nx
  cases h1 : tb (decide (s0.c5 < x4))
  · intro g0
    exact absurd g0 ft
  · cases h2 : tb (inb x1.length s0.c5)
    · intro g0
      exact absurd g0 ft
    · cases h3 : tb (inb x3.length s0.c5)
      · intro g0
        exact absurd g0 ft
      · cases h4 : tb (((gt x1 s0.c5) : Int) != (gt x3 s0.c5))
        · intro _
          exact round_walk [.b (tbE h1), .o 18 (fun _ => o_idx_os (enc := (encI .u8)) (l := x1) (fl := true) (n := x0) (s := 1) (k := .i64) (tbE h2)), .o 22 (fun _ => o_idx_os (enc := (encI .u8)) (l := x3) (fl := true) (n := x2) (s := 1) (k := .i64) (tbE h3)), .b (tbE h4)] (by kernel_rfl)
        · intro g0
          exact absurd g0 ft
def slices_Equal_byte_oo_L0_c0 (x1 : List Int) (x3 : List Int) (x4 : Int) (s0 : slices_Equal_byte_oo_L0_s0) : Bool := (bif tb (decide (s0.c5 < x4)) then (bif tb (inb x1.length s0.c5) then (bif tb (inb x3.length s0.c5) then true else false) else false) else false)
def slices_Equal_byte_oo_L0_c1 (x4 : Int) (s0 : slices_Equal_byte_oo_L0_s0) : Bool := (bif tb (decide (s0.c5 < x4)) then false else true)
theorem slices_Equal_byte_oo_L0_x0 (x0 : Bool) (x1 : List Int) (x2 : Bool) (x3 : List Int) (x4 : Int) (x5 : Int) (s0 : slices_Equal_byte_oo_L0_s0) : slices_Equal_byte_oo_L0_sel x1 x3 x4 s0 = false → slices_Equal_byte_oo_L0_c0 x1 x3 x4 s0 = true → (roundG (runC E0 (cl E0) L45_0) [0, 1, 12, 13] [4] 0) (slices_Equal_byte_oo_L0_enc x0 x1 x2 x3 x4 x5 s0) = some (.ret, ([(V.d (.bool false))], [])) := by
  unfold slices_Equal_byte_oo_L0_sel slices_Equal_byte_oo_L0_c0
  cases h1 : tb (decide (s0.c5 < x4))
  · intro g0 g1
    exact absurd g1 ft
  · cases h2 : tb (inb x1.length s0.c5)
    · intro g0 g1
      exact absurd g1 ft
    · cases h3 : tb (inb x3.length s0.c5)
      · intro g0 g1
        exact absurd g1 ft
      · cases h4 : tb (((gt x1 s0.c5) : Int) != (gt x3 s0.c5))
        · intro g0 g1
          exact absurd g0 tf
        · intro g0 g1
          exact round_walk [.b (tbE h1), .o 18 (fun _ => o_idx_os (enc := (encI .u8)) (l := x1) (fl := true) (n := x0) (s := 1) (k := .i64) (tbE h2)), .o 22 (fun _ => o_idx_os (enc := (encI .u8)) (l := x3) (fl := true) (n := x2) (s := 1) (k := .i64) (tbE h3)), .b (tbE h4)] (by kernel_rfl)
theorem slices_Equal_byte_oo_L0_x1 (x0 : Bool) (x1 : List Int) (x2 : Bool) (x3 : List Int) (x4 : Int) (x5 : Int) (s0 : slices_Equal_byte_oo_L0_s0) : slices_Equal_byte_oo_L0_sel x1 x3 x4 s0 = false → slices_Equal_byte_oo_L0_c0 x1 x3 x4 s0 = false → slices_Equal_byte_oo_L0_c1 x4 s0 = true → (roundG (runC E0 (cl E0) L45_0) [0, 1, 12, 13] [4] 0) (slices_Equal_byte_oo_L0_enc x0 x1 x2 x3 x4 x5 s0) = some ((.exit 0), ([V.un], [])) := by
  unfold slices_Equal_byte_oo_L0_sel slices_Equal_byte_oo_L0_c0 slices_Equal_byte_oo_L0_c1
  cases h1 : tb (decide (s0.c5 < x4))
  · intro g0 g1 g2
    exact round_walk [.b (tbE h1)] (by kernel_rfl)
  · cases h2 : tb (inb x1.length s0.c5)
    · intro g0 g1 g2
      exact absurd g2 ft
    · cases h3 : tb (inb x3.length s0.c5)
      · intro g0 g1 g2
        exact absurd g2 ft
      · cases h4 : tb (((gt x1 s0.c5) : Int) != (gt x3 s0.c5))
        · intro g0 g1 g2
          exact absurd g0 tf
        · intro g0 g1 g2
          exact absurd g1 tf
theorem slices_Equal_byte_oo_L0_f0_0 (x0 : Bool) (x1 : List Int) (x2 : Bool) (x3 : List Int) (x4 : Int) (x5 : Int) (s : slices_Equal_byte_oo_L0_s0) (hok : slices_Equal_byte_oo_L0_ok x1 x3 x4 s = true) (c0 : slices_Equal_byte_oo_L0_c0 x1 x3 x4 (slices_Equal_byte_oo_L0_end x1 x3 x4 s) = true) : loopG (roundG (runC E0 (cl E0) L45_0) [0, 1, 12, 13] [4] 0) bound (slices_Equal_byte_oo_L0_enc x0 x1 x2 x3 x4 x5 s) = some (.ret, ([(V.d (.bool false))], [])) := by
  have e : itS (slices_Equal_byte_oo_L0_sel x1 x3 x4) (slices_Equal_byte_oo_L0_nx x1 x3 x4) bound s = some (slices_Equal_byte_oo_L0_end x1 x3 x4 s) := itS_get hok
  have f := itS_false e
  exact loop_it (slices_Equal_byte_oo_L0_go x0 x1 x2 x3 x4 x5) bound s _ _ _ e (fun h => by cases h) (slices_Equal_byte_oo_L0_x0 x0 x1 x2 x3 x4 x5 (slices_Equal_byte_oo_L0_end x1 x3 x4 s) f c0)
theorem slices_Equal_byte_oo_L0_f0_1 (x0 : Bool) (x1 : List Int) (x2 : Bool) (x3 : List Int) (x4 : Int) (x5 : Int) (s : slices_Equal_byte_oo_L0_s0) (hok : slices_Equal_byte_oo_L0_ok x1 x3 x4 s = true) (c0 : slices_Equal_byte_oo_L0_c0 x1 x3 x4 (slices_Equal_byte_oo_L0_end x1 x3 x4 s) = false) (c1 : slices_Equal_byte_oo_L0_c1 x4 (slices_Equal_byte_oo_L0_end x1 x3 x4 s) = true) : loopG (roundG (runC E0 (cl E0) L45_0) [0, 1, 12, 13] [4] 0) bound (slices_Equal_byte_oo_L0_enc x0 x1 x2 x3 x4 x5 s) = some ((.exit 0), ([V.un], [])) := by
  have e : itS (slices_Equal_byte_oo_L0_sel x1 x3 x4) (slices_Equal_byte_oo_L0_nx x1 x3 x4) bound s = some (slices_Equal_byte_oo_L0_end x1 x3 x4 s) := itS_get hok
  have f := itS_false e
  exact loop_it (slices_Equal_byte_oo_L0_go x0 x1 x2 x3 x4 x5) bound s _ _ _ e (fun h => by cases h) (slices_Equal_byte_oo_L0_x1 x0 x1 x2 x3 x4 x5 (slices_Equal_byte_oo_L0_end x1 x3 x4 s) f c0 c1)
def slices_Equal_byte_oo_e0 (x1 : List Int) (x3 : List Int) : slices_Equal_byte_oo_L0_s0 := slices_Equal_byte_oo_L0_end x1 x3 ((x1.length : Nat) : Int) (⟨0⟩ : slices_Equal_byte_oo_L0_s0)
def slices_Equal_byte_oo_c0 (x1 : List Int) (x3 : List Int) : Bool := (bif tb ((((x1.length : Nat) : Int) : Int) != ((x3.length : Nat) : Int)) then true else (bif tb (slices_Equal_byte_oo_L0_ok x1 x3 ((x1.length : Nat) : Int) (⟨0⟩ : slices_Equal_byte_oo_L0_s0)) then (bif tb (slices_Equal_byte_oo_L0_c0 x1 x3 ((x1.length : Nat) : Int) (slices_Equal_byte_oo_e0 x1 x3)) then true else (bif tb (slices_Equal_byte_oo_L0_c1 ((x1.length : Nat) : Int) (slices_Equal_byte_oo_e0 x1 x3)) then true else false)) else false))
def slices_Equal_byte_oo_r0_0 (x1 : List Int) (x3 : List Int) : Bool := (bif tb ((((x1.length : Nat) : Int) : Int) != ((x3.length : Nat) : Int)) then false else (bif tb (slices_Equal_byte_oo_L0_c0 x1 x3 ((x1.length : Nat) : Int) (slices_Equal_byte_oo_e0 x1 x3)) then false else true))
theorem slices_Equal_byte_oo_t0 (x0 : Bool) (x1 : List Int) (x2 : Bool) (x3 : List Int) : slices_Equal_byte_oo_c0 x1 x3 = true → cl E0 45 [(V.d (slD (encI .u8) true 1 x0 x1)), (V.d (slD (encI .u8) true 1 x2 x3))] [] = some ([(V.d (.bool (slices_Equal_byte_oo_r0_0 x1 x3)))], []) := by
  unfold slices_Equal_byte_oo_c0 slices_Equal_byte_oo_r0_0
  cases h1 : tb ((((x1.length : Nat) : Int) : Int) != ((x3.length : Nat) : Int))
  · cases h2 : tb (slices_Equal_byte_oo_L0_ok x1 x3 ((x1.length : Nat) : Int) (⟨0⟩ : slices_Equal_byte_oo_L0_s0))
    · intro g0
      exact absurd g0 ft
    · cases h3 : tb (slices_Equal_byte_oo_L0_c0 x1 x3 ((x1.length : Nat) : Int) (slices_Equal_byte_oo_e0 x1 x3))
      · cases h4 : tb (slices_Equal_byte_oo_L0_c1 ((x1.length : Nat) : Int) (slices_Equal_byte_oo_e0 x1 x3))
        · intro g0
          exact absurd g0 ft
        · intro g0
          exact w45 [.o 7 (fun _ => o_len_os (enc := (encI .u8)) (l := x1) (fl := true) (n := x0) (s := 1)), .o 9 (fun _ => o_len_os (enc := (encI .u8)) (l := x3) (fl := true) (n := x2) (s := 1)), .b (tbE h1), .o 12 (fun _ => o_len_os (enc := (encI .u8)) (l := x1) (fl := true) (n := x0) (s := 1)), .l (slices_Equal_byte_oo_L0_f0_1 x0 x1 x2 x3 ((x1.length : Nat) : Int) 0 (⟨0⟩ : slices_Equal_byte_oo_L0_s0) (tbE h2) (tbE h3) (tbE h4))] (by kernel_rfl)
      · intro g0
        exact w45 [.o 7 (fun _ => o_len_os (enc := (encI .u8)) (l := x1) (fl := true) (n := x0) (s := 1)), .o 9 (fun _ => o_len_os (enc := (encI .u8)) (l := x3) (fl := true) (n := x2) (s := 1)), .b (tbE h1), .o 12 (fun _ => o_len_os (enc := (encI .u8)) (l := x1) (fl := true) (n := x0) (s := 1)), .l (slices_Equal_byte_oo_L0_f0_0 x0 x1 x2 x3 ((x1.length : Nat) : Int) 0 (⟨0⟩ : slices_Equal_byte_oo_L0_s0) (tbE h2) (tbE h3))] (by kernel_rfl)
  · intro g0
    exact w45 [.o 7 (fun _ => o_len_os (enc := (encI .u8)) (l := x1) (fl := true) (n := x0) (s := 1)), .o 9 (fun _ => o_len_os (enc := (encI .u8)) (l := x3) (fl := true) (n := x2) (s := 1)), .b (tbE h1)] (by kernel_rfl)
structure slices_Concat_byte_v_GvvvLLL_L0_1_s0 where mk ::
  deriving Inhabited
structure slices_Concat_byte_v_GvvvLLL_L0_1_s1 where mk ::
  deriving Inhabited
structure slices_Concat_byte_v_GvvvLLL_L0_1_s2 where mk ::
  deriving Inhabited
structure slices_Concat_byte_v_GvvvLLL_L0_1_s3 where mk ::
  deriving Inhabited
inductive slices_Concat_byte_v_GvvvLLL_L0_1_S where
  | h0 (v : slices_Concat_byte_v_GvvvLLL_L0_1_s0)
  | h1 (v : slices_Concat_byte_v_GvvvLLL_L0_1_s1)
  | h2 (v : slices_Concat_byte_v_GvvvLLL_L0_1_s2)
  | h3 (v : slices_Concat_byte_v_GvvvLLL_L0_1_s3)
  deriving Inhabited
def slices_Concat_byte_v_GvvvLLL_L0_1_is0 : slices_Concat_byte_v_GvvvLLL_L0_1_S → Bool
  | .h0 _ => true
  | _ => false
def slices_Concat_byte_v_GvvvLLL_L0_1_is1 : slices_Concat_byte_v_GvvvLLL_L0_1_S → Bool
  | .h1 _ => true
  | _ => false
def slices_Concat_byte_v_GvvvLLL_L0_1_is2 : slices_Concat_byte_v_GvvvLLL_L0_1_S → Bool
  | .h2 _ => true
  | _ => false
def slices_Concat_byte_v_GvvvLLL_L0_1_get3 : slices_Concat_byte_v_GvvvLLL_L0_1_S → slices_Concat_byte_v_GvvvLLL_L0_1_s3
  | .h3 v => v
  | _ => default
def slices_Concat_byte_v_GvvvLLL_L0_1_h1_e0 (x0 : List Int) (x1 : List Int) : Int := wi ((wi (0 + ((x0.length : Nat) : Int))) + ((x1.length : Nat) : Int))
def slices_Concat_byte_v_GvvvLLL_L0_1_h2_e0 (x0 : List Int) (x1 : List Int) (x2 : List Int) : Int := wi ((slices_Concat_byte_v_GvvvLLL_L0_1_h1_e0 x0 x1) + ((x2.length : Nat) : Int))
def slices_Concat_byte_v_GvvvLLL_L0_1_enc (x0 : List Int) (x1 : List Int) (x2 : List Int) (x3 : Bool) (x4 : Bool) (x5 : Bool) (x6 : Bool) (x7 : Bool) (x8 : Bool) (x9 : Bool) (x10 : Bool) (x11 : Bool) (x12 : Bool) : slices_Concat_byte_v_GvvvLLL_L0_1_S → List V × Mem
  | .h0 s0 => ([(V.so x11 0 3), (V.d (.int .i64 0)), (V.so x12 0 3), (V.d (.int .i64 3)), (V.d (.int .i64 0))], [(Blk.gen 37 1 [[(V.so x3 1 x0.length)], [(V.so x4 2 x1.length)], [(V.so x5 3 x2.length)]] x6), (Blk.flat 5 1 (List.map (encI .u8) x0) x7), (Blk.flat 5 1 (List.map (encI .u8) x1) x8), (Blk.flat 5 1 (List.map (encI .u8) x2) x9), (Blk.flat 5 1 [] x10)])
  | .h1 s0 => ([(V.so x11 0 3), (V.d (.int .i64 (wi (0 + ((x0.length : Nat) : Int))))), (V.so x12 0 3), (V.d (.int .i64 3)), (V.d (.int .i64 1))], [(Blk.gen 37 1 [[(V.so x3 1 x0.length)], [(V.so x4 2 x1.length)], [(V.so x5 3 x2.length)]] x6), (Blk.flat 5 1 (List.map (encI .u8) x0) x7), (Blk.flat 5 1 (List.map (encI .u8) x1) x8), (Blk.flat 5 1 (List.map (encI .u8) x2) x9), (Blk.flat 5 1 [] x10)])
  | .h2 s0 => ([(V.so x11 0 3), (V.d (.int .i64 (slices_Concat_byte_v_GvvvLLL_L0_1_h1_e0 x0 x1))), (V.so x12 0 3), (V.d (.int .i64 3)), (V.d (.int .i64 2))], [(Blk.gen 37 1 [[(V.so x3 1 x0.length)], [(V.so x4 2 x1.length)], [(V.so x5 3 x2.length)]] x6), (Blk.flat 5 1 (List.map (encI .u8) x0) x7), (Blk.flat 5 1 (List.map (encI .u8) x1) x8), (Blk.flat 5 1 (List.map (encI .u8) x2) x9), (Blk.flat 5 1 [] x10)])
  | .h3 s0 => ([(V.so x11 0 3), (V.d (.int .i64 (slices_Concat_byte_v_GvvvLLL_L0_1_h2_e0 x0 x1 x2))), (V.so x12 0 3), (V.d (.int .i64 3)), (V.d (.int .i64 3))], [(Blk.gen 37 1 [[(V.so x3 1 x0.length)], [(V.so x4 2 x1.length)], [(V.so x5 3 x2.length)]] x6), (Blk.flat 5 1 (List.map (encI .u8) x0) x7), (Blk.flat 5 1 (List.map (encI .u8) x1) x8), (Blk.flat 5 1 (List.map (encI .u8) x2) x9), (Blk.flat 5 1 [] x10)])
def slices_Concat_byte_v_GvvvLLL_L0_1_h0_sel (x0 : List Int) (x1 : List Int) (x2 : List Int) (s0 : slices_Concat_byte_v_GvvvLLL_L0_1_s0) : Bool := (bif tb (decide ((wi (0 + ((x0.length : Nat) : Int))) < 0)) then false else true)
def slices_Concat_byte_v_GvvvLLL_L0_1_h0_nx (x0 : List Int) (x1 : List Int) (x2 : List Int) (s0 : slices_Concat_byte_v_GvvvLLL_L0_1_s0) : slices_Concat_byte_v_GvvvLLL_L0_1_S := .h1 ⟨⟩
def slices_Concat_byte_v_GvvvLLL_L0_1_h1_sel (x0 : List Int) (x1 : List Int) (x2 : List Int) (s0 : slices_Concat_byte_v_GvvvLLL_L0_1_s1) : Bool := (bif tb (decide ((slices_Concat_byte_v_GvvvLLL_L0_1_h1_e0 x0 x1) < 0)) then false else true)
def slices_Concat_byte_v_GvvvLLL_L0_1_h1_nx (x0 : List Int) (x1 : List Int) (x2 : List Int) (s0 : slices_Concat_byte_v_GvvvLLL_L0_1_s1) : slices_Concat_byte_v_GvvvLLL_L0_1_S := .h2 ⟨⟩
def slices_Concat_byte_v_GvvvLLL_L0_1_h2_sel (x0 : List Int) (x1 : List Int) (x2 : List Int) (s0 : slices_Concat_byte_v_GvvvLLL_L0_1_s2) : Bool := (bif tb (decide ((slices_Concat_byte_v_GvvvLLL_L0_1_h2_e0 x0 x1 x2) < 0)) then false else true)
def slices_Concat_byte_v_GvvvLLL_L0_1_h2_nx (x0 : List Int) (x1 : List Int) (x2 : List Int) (s0 : slices_Concat_byte_v_GvvvLLL_L0_1_s2) : slices_Concat_byte_v_GvvvLLL_L0_1_S := .h3 ⟨⟩
def slices_Concat_byte_v_GvvvLLL_L0_1_h3_sel (x0 : List Int) (x1 : List Int) (x2 : List Int) (s0 : slices_Concat_byte_v_GvvvLLL_L0_1_s3) : Bool := false
def slices_Concat_byte_v_GvvvLLL_L0_1_h3_nx (x0 : List Int) (x1 : List Int) (x2 : List Int) (s0 : slices_Concat_byte_v_GvvvLLL_L0_1_s3) : slices_Concat_byte_v_GvvvLLL_L0_1_S := default
def slices_Concat_byte_v_GvvvLLL_L0_1_sel (x0 : List Int) (x1 : List Int) (x2 : List Int) : slices_Concat_byte_v_GvvvLLL_L0_1_S → Bool
  | .h0 v => slices_Concat_byte_v_GvvvLLL_L0_1_h0_sel x0 x1 x2 v
  | .h1 v => slices_Concat_byte_v_GvvvLLL_L0_1_h1_sel x0 x1 x2 v
  | .h2 v => slices_Concat_byte_v_GvvvLLL_L0_1_h2_sel x0 x1 x2 v
  | .h3 v => slices_Concat_byte_v_GvvvLLL_L0_1_h3_sel x0 x1 x2 v
def slices_Concat_byte_v_GvvvLLL_L0_1_nx (x0 : List Int) (x1 : List Int) (x2 : List Int) : slices_Concat_byte_v_GvvvLLL_L0_1_S → slices_Concat_byte_v_GvvvLLL_L0_1_S
  | .h0 v => slices_Concat_byte_v_GvvvLLL_L0_1_h0_nx x0 x1 x2 v
  | .h1 v => slices_Concat_byte_v_GvvvLLL_L0_1_h1_nx x0 x1 x2 v
  | .h2 v => slices_Concat_byte_v_GvvvLLL_L0_1_h2_nx x0 x1 x2 v
  | .h3 v => slices_Concat_byte_v_GvvvLLL_L0_1_h3_nx x0 x1 x2 v
def slices_Concat_byte_v_GvvvLLL_L0_1_ok (x0 : List Int) (x1 : List Int) (x2 : List Int) (s0 : slices_Concat_byte_v_GvvvLLL_L0_1_S) : Bool := (itS (slices_Concat_byte_v_GvvvLLL_L0_1_sel x0 x1 x2) (slices_Concat_byte_v_GvvvLLL_L0_1_nx x0 x1 x2) bound s0).isSome
def slices_Concat_byte_v_GvvvLLL_L0_1_end (x0 : List Int) (x1 : List Int) (x2 : List Int) (s0 : slices_Concat_byte_v_GvvvLLL_L0_1_S) : slices_Concat_byte_v_GvvvLLL_L0_1_S := (itS (slices_Concat_byte_v_GvvvLLL_L0_1_sel x0 x1 x2) (slices_Concat_byte_v_GvvvLLL_L0_1_nx x0 x1 x2) bound s0).getD default
theorem slices_Concat_byte_v_GvvvLLL_L0_1_h0_go (x0 : List Int) (x1 : List Int) (x2 : List Int) (x3 : Bool) (x4 : Bool) (x5 : Bool) (x6 : Bool) (x7 : Bool) (x8 : Bool) (x9 : Bool) (x10 : Bool) (x11 : Bool) (x12 : Bool) (s0 : slices_Concat_byte_v_GvvvLLL_L0_1_s0) : slices_Concat_byte_v_GvvvLLL_L0_1_h0_sel x0 x1 x2 s0 = true → (roundG (runC E0 (cl E0) L32_0) [0, 3, 9, 10, 11] [0, 3] 5) (slices_Concat_byte_v_GvvvLLL_L0_1_enc x0 x1 x2 x3 x4 x5 x6 x7 x8 x9 x10 x11 x12 (.h0 s0)) = some (.normal, slices_Concat_byte_v_GvvvLLL_L0_1_enc x0 x1 x2 x3 x4 x5 x6 x7 x8 x9 x10 x11 x12 (slices_Concat_byte_v_GvvvLLL_L0_1_h0_nx x0 x1 x2 s0)) := by
  unfold slices_Concat_byte_v_GvvvLLL_L0_1_h0_sel slices_Concat_byte_v_GvvvLLL_L0_1_h0_nx
  cases h1 : tb (decide ((wi (0 + ((x0.length : Nat) : Int))) < 0))
  · intro _
    exact round_walk [.k true, .b (tbE h1)] (by kernel_rfl)
  · intro g0
    exact absurd g0 ft
theorem slices_Concat_byte_v_GvvvLLL_L0_1_h1_go (x0 : List Int) (x1 : List Int) (x2 : List Int) (x3 : Bool) (x4 : Bool) (x5 : Bool) (x6 : Bool) (x7 : Bool) (x8 : Bool) (x9 : Bool) (x10 : Bool) (x11 : Bool) (x12 : Bool) (s0 : slices_Concat_byte_v_GvvvLLL_L0_1_s1) : slices_Concat_byte_v_GvvvLLL_L0_1_h1_sel x0 x1 x2 s0 = true → (roundG (runC E0 (cl E0) L32_0) [0, 3, 9, 10, 11] [0, 3] 5) (slices_Concat_byte_v_GvvvLLL_L0_1_enc x0 x1 x2 x3 x4 x5 x6 x7 x8 x9 x10 x11 x12 (.h1 s0)) = some (.normal, slices_Concat_byte_v_GvvvLLL_L0_1_enc x0 x1 x2 x3 x4 x5 x6 x7 x8 x9 x10 x11 x12 (slices_Concat_byte_v_GvvvLLL_L0_1_h1_nx x0 x1 x2 s0)) := by
  unfold slices_Concat_byte_v_GvvvLLL_L0_1_h1_sel slices_Concat_byte_v_GvvvLLL_L0_1_h1_nx
  cases h1 : tb (decide ((slices_Concat_byte_v_GvvvLLL_L0_1_h1_e0 x0 x1) < 0))
  · intro _
    exact round_walk [.k true, .b (tbE h1)] (by kernel_rfl)
  · intro g0
    exact absurd g0 ft
theorem slices_Concat_byte_v_GvvvLLL_L0_1_h2_go (x0 : List Int) (x1 : List Int) (x2 : List Int) (x3 : Bool) (x4 : Bool) (x5 : Bool) (x6 : Bool) (x7 : Bool) (x8 : Bool) (x9 : Bool) (x10 : Bool) (x11 : Bool) (x12 : Bool) (s0 : slices_Concat_byte_v_GvvvLLL_L0_1_s2) : slices_Concat_byte_v_GvvvLLL_L0_1_h2_sel x0 x1 x2 s0 = true → (roundG (runC E0 (cl E0) L32_0) [0, 3, 9, 10, 11] [0, 3] 5) (slices_Concat_byte_v_GvvvLLL_L0_1_enc x0 x1 x2 x3 x4 x5 x6 x7 x8 x9 x10 x11 x12 (.h2 s0)) = some (.normal, slices_Concat_byte_v_GvvvLLL_L0_1_enc x0 x1 x2 x3 x4 x5 x6 x7 x8 x9 x10 x11 x12 (slices_Concat_byte_v_GvvvLLL_L0_1_h2_nx x0 x1 x2 s0)) := by
  unfold slices_Concat_byte_v_GvvvLLL_L0_1_h2_sel slices_Concat_byte_v_GvvvLLL_L0_1_h2_nx
  cases h1 : tb (decide ((slices_Concat_byte_v_GvvvLLL_L0_1_h2_e0 x0 x1 x2) < 0))
  · intro _
    exact round_walk [.k true, .b (tbE h1)] (by kernel_rfl)
  · intro g0
    exact absurd g0 ft
theorem slices_Concat_byte_v_GvvvLLL_L0_1_h3_go (x0 : List Int) (x1 : List Int) (x2 : List Int) (x3 : Bool) (x4 : Bool) (x5 : Bool) (x6 : Bool) (x7 : Bool) (x8 : Bool) (x9 : Bool) (x10 : Bool) (x11 : Bool) (x12 : Bool) (s0 : slices_Concat_byte_v_GvvvLLL_L0_1_s3) : slices_Concat_byte_v_GvvvLLL_L0_1_h3_sel x0 x1 x2 s0 = true → (roundG (runC E0 (cl E0) L32_0) [0, 3, 9, 10, 11] [0, 3] 5) (slices_Concat_byte_v_GvvvLLL_L0_1_enc x0 x1 x2 x3 x4 x5 x6 x7 x8 x9 x10 x11 x12 (.h3 s0)) = some (.normal, slices_Concat_byte_v_GvvvLLL_L0_1_enc x0 x1 x2 x3 x4 x5 x6 x7 x8 x9 x10 x11 x12 (slices_Concat_byte_v_GvvvLLL_L0_1_h3_nx x0 x1 x2 s0)) := by
  unfold slices_Concat_byte_v_GvvvLLL_L0_1_h3_sel slices_Concat_byte_v_GvvvLLL_L0_1_h3_nx
  intro g0
  exact absurd g0 ft
theorem slices_Concat_byte_v_GvvvLLL_L0_1_h3_x0 (x0 : List Int) (x1 : List Int) (x2 : List Int) (x3 : Bool) (x4 : Bool) (x5 : Bool) (x6 : Bool) (x7 : Bool) (x8 : Bool) (x9 : Bool) (x10 : Bool) (x11 : Bool) (x12 : Bool) (s0 : slices_Concat_byte_v_GvvvLLL_L0_1_s3) : slices_Concat_byte_v_GvvvLLL_L0_1_h3_sel x0 x1 x2 s0 = false → (roundG (runC E0 (cl E0) L32_0) [0, 3, 9, 10, 11] [0, 3] 5) (slices_Concat_byte_v_GvvvLLL_L0_1_enc x0 x1 x2 x3 x4 x5 x6 x7 x8 x9 x10 x11 x12 (.h3 s0)) = some ((.exit 0), ([(V.so x11 0 3), (V.d (.int .i64 (slices_Concat_byte_v_GvvvLLL_L0_1_h2_e0 x0 x1 x2)))], [(Blk.gen 37 1 [[(V.so x3 1 x0.length)], [(V.so x4 2 x1.length)], [(V.so x5 3 x2.length)]] x6), (Blk.flat 5 1 (List.map (encI .u8) x0) x7), (Blk.flat 5 1 (List.map (encI .u8) x1) x8), (Blk.flat 5 1 (List.map (encI .u8) x2) x9), (Blk.flat 5 1 [] x10)])) := by
  unfold slices_Concat_byte_v_GvvvLLL_L0_1_h3_sel
  intro g0
  exact round_walk [.k false] (by kernel_rfl)
theorem slices_Concat_byte_v_GvvvLLL_L0_1_go (x0 : List Int) (x1 : List Int) (x2 : List Int) (x3 : Bool) (x4 : Bool) (x5 : Bool) (x6 : Bool) (x7 : Bool) (x8 : Bool) (x9 : Bool) (x10 : Bool) (x11 : Bool) (x12 : Bool) : ∀ s, slices_Concat_byte_v_GvvvLLL_L0_1_sel x0 x1 x2 s = true → (roundG (runC E0 (cl E0) L32_0) [0, 3, 9, 10, 11] [0, 3] 5) (slices_Concat_byte_v_GvvvLLL_L0_1_enc x0 x1 x2 x3 x4 x5 x6 x7 x8 x9 x10 x11 x12 s) = some (.normal, slices_Concat_byte_v_GvvvLLL_L0_1_enc x0 x1 x2 x3 x4 x5 x6 x7 x8 x9 x10 x11 x12 (slices_Concat_byte_v_GvvvLLL_L0_1_nx x0 x1 x2 s))
  | .h0 s0, h => slices_Concat_byte_v_GvvvLLL_L0_1_h0_go x0 x1 x2 x3 x4 x5 x6 x7 x8 x9 x10 x11 x12 s0 h
  | .h1 s0, h => slices_Concat_byte_v_GvvvLLL_L0_1_h1_go x0 x1 x2 x3 x4 x5 x6 x7 x8 x9 x10 x11 x12 s0 h
  | .h2 s0, h => slices_Concat_byte_v_GvvvLLL_L0_1_h2_go x0 x1 x2 x3 x4 x5 x6 x7 x8 x9 x10 x11 x12 s0 h
  | .h3 s0, h => slices_Concat_byte_v_GvvvLLL_L0_1_h3_go x0 x1 x2 x3 x4 x5 x6 x7 x8 x9 x10 x11 x12 s0 h
theorem slices_Concat_byte_v_GvvvLLL_L0_1_f3_0 (x0 : List Int) (x1 : List Int) (x2 : List Int) (x3 : Bool) (x4 : Bool) (x5 : Bool) (x6 : Bool) (x7 : Bool) (x8 : Bool) (x9 : Bool) (x10 : Bool) (x11 : Bool) (x12 : Bool) (s : slices_Concat_byte_v_GvvvLLL_L0_1_S) (hok : slices_Concat_byte_v_GvvvLLL_L0_1_ok x0 x1 x2 s = true) (k0 : slices_Concat_byte_v_GvvvLLL_L0_1_is0 (slices_Concat_byte_v_GvvvLLL_L0_1_end x0 x1 x2 s) = false) (k1 : slices_Concat_byte_v_GvvvLLL_L0_1_is1 (slices_Concat_byte_v_GvvvLLL_L0_1_end x0 x1 x2 s) = false) (k2 : slices_Concat_byte_v_GvvvLLL_L0_1_is2 (slices_Concat_byte_v_GvvvLLL_L0_1_end x0 x1 x2 s) = false) : loopG (roundG (runC E0 (cl E0) L32_0) [0, 3, 9, 10, 11] [0, 3] 5) bound (slices_Concat_byte_v_GvvvLLL_L0_1_enc x0 x1 x2 x3 x4 x5 x6 x7 x8 x9 x10 x11 x12 s) = some ((.exit 0), ([(V.so x11 0 3), (V.d (.int .i64 (slices_Concat_byte_v_GvvvLLL_L0_1_h2_e0 x0 x1 x2)))], [(Blk.gen 37 1 [[(V.so x3 1 x0.length)], [(V.so x4 2 x1.length)], [(V.so x5 3 x2.length)]] x6), (Blk.flat 5 1 (List.map (encI .u8) x0) x7), (Blk.flat 5 1 (List.map (encI .u8) x1) x8), (Blk.flat 5 1 (List.map (encI .u8) x2) x9), (Blk.flat 5 1 [] x10)])) := by
  have e : itS (slices_Concat_byte_v_GvvvLLL_L0_1_sel x0 x1 x2) (slices_Concat_byte_v_GvvvLLL_L0_1_nx x0 x1 x2) bound s = some (slices_Concat_byte_v_GvvvLLL_L0_1_end x0 x1 x2 s) := itS_get hok
  have f := itS_false e
  have a : (slices_Concat_byte_v_GvvvLLL_L0_1_end x0 x1 x2 s) = .h3 (slices_Concat_byte_v_GvvvLLL_L0_1_get3 (slices_Concat_byte_v_GvvvLLL_L0_1_end x0 x1 x2 s)) := by
    revert k0 k1 k2
    cases (slices_Concat_byte_v_GvvvLLL_L0_1_end x0 x1 x2 s) with
    | h0 w => intros; contradiction
    | h1 w => intros; contradiction
    | h2 w => intros; contradiction
    | h3 w => intros; rfl
  have g := slices_Concat_byte_v_GvvvLLL_L0_1_h3_x0 x0 x1 x2 x3 x4 x5 x6 x7 x8 x9 x10 x11 x12 (slices_Concat_byte_v_GvvvLLL_L0_1_get3 (slices_Concat_byte_v_GvvvLLL_L0_1_end x0 x1 x2 s)) (by rw [a] at f; exact f)
  exact loop_it (slices_Concat_byte_v_GvvvLLL_L0_1_go x0 x1 x2 x3 x4 x5 x6 x7 x8 x9 x10 x11 x12) bound s _ _ _ e (fun h => by cases h) (by rw [a]; exact g)
def slices_Concat_byte_v_GvvvLLL_S1_e0 (x0 : List Int) (x1 : List Int) (x2 : List Int) : slices_Concat_byte_v_GvvvLLL_L0_1_S := slices_Concat_byte_v_GvvvLLL_L0_1_end x0 x1 x2 (.h0 ⟨⟩ : slices_Concat_byte_v_GvvvLLL_L0_1_S)
def slices_Concat_byte_v_GvvvLLL_S1_c0 (x0 : List Int) (x1 : List Int) (x2 : List Int) : Bool := (bif tb (slices_Concat_byte_v_GvvvLLL_L0_1_ok x0 x1 x2 (.h0 ⟨⟩ : slices_Concat_byte_v_GvvvLLL_L0_1_S)) then (bif tb (slices_Concat_byte_v_GvvvLLL_L0_1_is0 (slices_Concat_byte_v_GvvvLLL_S1_e0 x0 x1 x2)) then false else (bif tb (slices_Concat_byte_v_GvvvLLL_L0_1_is1 (slices_Concat_byte_v_GvvvLLL_S1_e0 x0 x1 x2)) then false else (bif tb (slices_Concat_byte_v_GvvvLLL_L0_1_is2 (slices_Concat_byte_v_GvvvLLL_S1_e0 x0 x1 x2)) then false else true))) else false)
theorem slices_Concat_byte_v_GvvvLLL_S1_t0 (x0 : List Int) (x1 : List Int) (x2 : List Int) (x3 : Bool) (x4 : Bool) (x5 : Bool) (x6 : Bool) (x7 : Bool) (x8 : Bool) (x9 : Bool) (x10 : Bool) (x11 : Bool) : slices_Concat_byte_v_GvvvLLL_S1_c0 x0 x1 x2 = true → segG (runC E0 (cl E0) S32_1) [0, 3] [] [0, 3] 5 ([(V.so x11 0 3), (V.d (.int .i64 0))], [(Blk.gen 37 1 [[(V.so x3 1 x0.length)], [(V.so x4 2 x1.length)], [(V.so x5 3 x2.length)]] x6), (Blk.flat 5 1 (List.map (encI .u8) x0) x7), (Blk.flat 5 1 (List.map (encI .u8) x1) x8), (Blk.flat 5 1 (List.map (encI .u8) x2) x9), (Blk.flat 5 1 [] x10)]) = some (.normal, ([(V.so x11 0 3), (V.d (.int .i64 (slices_Concat_byte_v_GvvvLLL_L0_1_h2_e0 x0 x1 x2)))], [(Blk.gen 37 1 [[(V.so x3 1 x0.length)], [(V.so x4 2 x1.length)], [(V.so x5 3 x2.length)]] x6), (Blk.flat 5 1 (List.map (encI .u8) x0) x7), (Blk.flat 5 1 (List.map (encI .u8) x1) x8), (Blk.flat 5 1 (List.map (encI .u8) x2) x9), (Blk.flat 5 1 [] x10)])) := by
  unfold slices_Concat_byte_v_GvvvLLL_S1_c0
  cases h1 : tb (slices_Concat_byte_v_GvvvLLL_L0_1_ok x0 x1 x2 (.h0 ⟨⟩ : slices_Concat_byte_v_GvvvLLL_L0_1_S))
  · intro g0
    exact absurd g0 ft
  · cases h2 : tb (slices_Concat_byte_v_GvvvLLL_L0_1_is0 (slices_Concat_byte_v_GvvvLLL_S1_e0 x0 x1 x2))
    · cases h3 : tb (slices_Concat_byte_v_GvvvLLL_L0_1_is1 (slices_Concat_byte_v_GvvvLLL_S1_e0 x0 x1 x2))
      · cases h4 : tb (slices_Concat_byte_v_GvvvLLL_L0_1_is2 (slices_Concat_byte_v_GvvvLLL_S1_e0 x0 x1 x2))
        · intro g0
          exact seg_walk [.l (slices_Concat_byte_v_GvvvLLL_L0_1_f3_0 x0 x1 x2 x3 x4 x5 x6 x7 x8 x9 x10 x11 x11 (.h0 ⟨⟩ : slices_Concat_byte_v_GvvvLLL_L0_1_S) (tbE h1) (tbE h2) (tbE h3) (tbE h4))] (by kernel_rfl)
        · intro g0
          exact absurd g0 ft
      · intro g0
        exact absurd g0 ft
    · intro g0
      exact absurd g0 ft
structure slices_Concat_byte_v_GvvvLLL_L2_1_s0 where mk ::
  deriving Inhabited
structure slices_Concat_byte_v_GvvvLLL_L2_1_s1 where mk ::
  deriving Inhabited
structure slices_Concat_byte_v_GvvvLLL_L2_1_s2 where mk ::
  deriving Inhabited
structure slices_Concat_byte_v_GvvvLLL_L2_1_s3 where mk ::
  deriving Inhabited
inductive slices_Concat_byte_v_GvvvLLL_L2_1_S where
  | h0 (v : slices_Concat_byte_v_GvvvLLL_L2_1_s0)
  | h1 (v : slices_Concat_byte_v_GvvvLLL_L2_1_s1)
  | h2 (v : slices_Concat_byte_v_GvvvLLL_L2_1_s2)
  | h3 (v : slices_Concat_byte_v_GvvvLLL_L2_1_s3)
  deriving Inhabited
def slices_Concat_byte_v_GvvvLLL_L2_1_is0 : slices_Concat_byte_v_GvvvLLL_L2_1_S → Bool
  | .h0 _ => true
  | _ => false
def slices_Concat_byte_v_GvvvLLL_L2_1_is1 : slices_Concat_byte_v_GvvvLLL_L2_1_S → Bool
  | .h1 _ => true
  | _ => false
def slices_Concat_byte_v_GvvvLLL_L2_1_is2 : slices_Concat_byte_v_GvvvLLL_L2_1_S → Bool
  | .h2 _ => true
  | _ => false
def slices_Concat_byte_v_GvvvLLL_L2_1_get3 : slices_Concat_byte_v_GvvvLLL_L2_1_S → slices_Concat_byte_v_GvvvLLL_L2_1_s3
  | .h3 v => v
  | _ => default
def slices_Concat_byte_v_GvvvLLL_L2_1_enc (x0 : List Int) (x1 : List Int) (x2 : List Int) (x3 : Bool) (x4 : Bool) (x5 : Bool) (x6 : Bool) (x7 : Bool) (x8 : Bool) (x9 : Bool) (x10 : Bool) (x11 : Bool) (x12 : Bool) (x13 : Bool) : slices_Concat_byte_v_GvvvLLL_L2_1_S → List V × Mem
  | .h0 s0 => ([(V.so x12 5 0), (V.so x13 0 3), (V.d (.int .i64 3)), (V.d (.int .i64 0))], [(Blk.gen 37 1 [[(V.so x3 1 x0.length)], [(V.so x4 2 x1.length)], [(V.so x5 3 x2.length)]] x6), (Blk.flat 5 1 (List.map (encI .u8) x0) x7), (Blk.flat 5 1 (List.map (encI .u8) x1) x8), (Blk.flat 5 1 (List.map (encI .u8) x2) x9), (Blk.flat 5 1 [] x10), (Blk.flat 5 1 [] false)])
  | .h1 s0 => ([(V.so (x0.isEmpty && x12) 5 x0.length), (V.so x13 0 3), (V.d (.int .i64 3)), (V.d (.int .i64 1))], [(Blk.gen 37 1 [[(V.so x3 1 x0.length)], [(V.so x4 2 x1.length)], [(V.so x5 3 x2.length)]] x6), (Blk.flat 5 1 (List.map (encI .u8) x0) x7), (Blk.flat 5 1 (List.map (encI .u8) x1) x8), (Blk.flat 5 1 (List.map (encI .u8) x2) x9), (Blk.flat 5 1 [] x10), (Blk.flat 5 1 (List.map (encI .u8) x0) false)])
  | .h2 s0 => ([(V.so (x1.isEmpty && (x0.isEmpty && x12)) 5 ((x0 ++ x1).length)), (V.so x13 0 3), (V.d (.int .i64 3)), (V.d (.int .i64 2))], [(Blk.gen 37 1 [[(V.so x3 1 x0.length)], [(V.so x4 2 x1.length)], [(V.so x5 3 x2.length)]] x6), (Blk.flat 5 1 (List.map (encI .u8) x0) x7), (Blk.flat 5 1 (List.map (encI .u8) x1) x8), (Blk.flat 5 1 (List.map (encI .u8) x2) x9), (Blk.flat 5 1 [] x10), (Blk.flat 5 1 (List.map (encI .u8) (x0 ++ x1)) false)])
  | .h3 s0 => ([(V.so (x2.isEmpty && (x1.isEmpty && (x0.isEmpty && x12))) 5 (((x0 ++ x1) ++ x2).length)), (V.so x13 0 3), (V.d (.int .i64 3)), (V.d (.int .i64 3))], [(Blk.gen 37 1 [[(V.so x3 1 x0.length)], [(V.so x4 2 x1.length)], [(V.so x5 3 x2.length)]] x6), (Blk.flat 5 1 (List.map (encI .u8) x0) x7), (Blk.flat 5 1 (List.map (encI .u8) x1) x8), (Blk.flat 5 1 (List.map (encI .u8) x2) x9), (Blk.flat 5 1 [] x10), (Blk.flat 5 1 (List.map (encI .u8) ((x0 ++ x1) ++ x2)) false)])
def slices_Concat_byte_v_GvvvLLL_L2_1_h0_sel (x0 : List Int) (x1 : List Int) (x2 : List Int) (s0 : slices_Concat_byte_v_GvvvLLL_L2_1_s0) : Bool := (bif tb (decide ((([] : List Int).length + x0.length) * 1 ≤ 140737488355328)) then true else false)
def slices_Concat_byte_v_GvvvLLL_L2_1_h0_nx (x0 : List Int) (x1 : List Int) (x2 : List Int) (s0 : slices_Concat_byte_v_GvvvLLL_L2_1_s0) : slices_Concat_byte_v_GvvvLLL_L2_1_S := .h1 ⟨⟩
def slices_Concat_byte_v_GvvvLLL_L2_1_h1_sel (x0 : List Int) (x1 : List Int) (x2 : List Int) (s0 : slices_Concat_byte_v_GvvvLLL_L2_1_s1) : Bool := (bif tb (decide ((x0.length + x1.length) * 1 ≤ 140737488355328)) then true else false)
def slices_Concat_byte_v_GvvvLLL_L2_1_h1_nx (x0 : List Int) (x1 : List Int) (x2 : List Int) (s0 : slices_Concat_byte_v_GvvvLLL_L2_1_s1) : slices_Concat_byte_v_GvvvLLL_L2_1_S := .h2 ⟨⟩
def slices_Concat_byte_v_GvvvLLL_L2_1_h2_sel (x0 : List Int) (x1 : List Int) (x2 : List Int) (s0 : slices_Concat_byte_v_GvvvLLL_L2_1_s2) : Bool := (bif tb (decide (((x0 ++ x1).length + x2.length) * 1 ≤ 140737488355328)) then true else false)
def slices_Concat_byte_v_GvvvLLL_L2_1_h2_nx (x0 : List Int) (x1 : List Int) (x2 : List Int) (s0 : slices_Concat_byte_v_GvvvLLL_L2_1_s2) : slices_Concat_byte_v_GvvvLLL_L2_1_S := .h3 ⟨⟩
def slices_Concat_byte_v_GvvvLLL_L2_1_h3_sel (x0 : List Int) (x1 : List Int) (x2 : List Int) (s0 : slices_Concat_byte_v_GvvvLLL_L2_1_s3) : Bool := false
def slices_Concat_byte_v_GvvvLLL_L2_1_h3_nx (x0 : List Int) (x1 : List Int) (x2 : List Int) (s0 : slices_Concat_byte_v_GvvvLLL_L2_1_s3) : slices_Concat_byte_v_GvvvLLL_L2_1_S := default
def slices_Concat_byte_v_GvvvLLL_L2_1_sel (x0 : List Int) (x1 : List Int) (x2 : List Int) : slices_Concat_byte_v_GvvvLLL_L2_1_S → Bool
  | .h0 v => slices_Concat_byte_v_GvvvLLL_L2_1_h0_sel x0 x1 x2 v
  | .h1 v => slices_Concat_byte_v_GvvvLLL_L2_1_h1_sel x0 x1 x2 v
  | .h2 v => slices_Concat_byte_v_GvvvLLL_L2_1_h2_sel x0 x1 x2 v
  | .h3 v => slices_Concat_byte_v_GvvvLLL_L2_1_h3_sel x0 x1 x2 v
def slices_Concat_byte_v_GvvvLLL_L2_1_nx (x0 : List Int) (x1 : List Int) (x2 : List Int) : slices_Concat_byte_v_GvvvLLL_L2_1_S → slices_Concat_byte_v_GvvvLLL_L2_1_S
  | .h0 v => slices_Concat_byte_v_GvvvLLL_L2_1_h0_nx x0 x1 x2 v
  | .h1 v => slices_Concat_byte_v_GvvvLLL_L2_1_h1_nx x0 x1 x2 v
  | .h2 v => slices_Concat_byte_v_GvvvLLL_L2_1_h2_nx x0 x1 x2 v
  | .h3 v => slices_Concat_byte_v_GvvvLLL_L2_1_h3_nx x0 x1 x2 v
def slices_Concat_byte_v_GvvvLLL_L2_1_ok (x0 : List Int) (x1 : List Int) (x2 : List Int) (s0 : slices_Concat_byte_v_GvvvLLL_L2_1_S) : Bool := (itS (slices_Concat_byte_v_GvvvLLL_L2_1_sel x0 x1 x2) (slices_Concat_byte_v_GvvvLLL_L2_1_nx x0 x1 x2) bound s0).isSome
def slices_Concat_byte_v_GvvvLLL_L2_1_end (x0 : List Int) (x1 : List Int) (x2 : List Int) (s0 : slices_Concat_byte_v_GvvvLLL_L2_1_S) : slices_Concat_byte_v_GvvvLLL_L2_1_S := (itS (slices_Concat_byte_v_GvvvLLL_L2_1_sel x0 x1 x2) (slices_Concat_byte_v_GvvvLLL_L2_1_nx x0 x1 x2) bound s0).getD default
theorem slices_Concat_byte_v_GvvvLLL_L2_1_h0_go (x0 : List Int) (x1 : List Int) (x2 : List Int) (x3 : Bool) (x4 : Bool) (x5 : Bool) (x6 : Bool) (x7 : Bool) (x8 : Bool) (x9 : Bool) (x10 : Bool) (x11 : Bool) (x12 : Bool) (x13 : Bool) (s0 : slices_Concat_byte_v_GvvvLLL_L2_1_s0) : slices_Concat_byte_v_GvvvLLL_L2_1_h0_sel x0 x1 x2 s0 = true → (roundG (runC E0 (cl E0) L32_2) [6, 25, 26, 27] [6] 6) (slices_Concat_byte_v_GvvvLLL_L2_1_enc x0 x1 x2 x3 x4 x5 x6 x7 x8 x9 x10 x11 x12 x13 (.h0 s0)) = some (.normal, slices_Concat_byte_v_GvvvLLL_L2_1_enc x0 x1 x2 x3 x4 x5 x6 x7 x8 x9 x10 x11 x12 x13 (slices_Concat_byte_v_GvvvLLL_L2_1_h0_nx x0 x1 x2 s0)) := by
  unfold slices_Concat_byte_v_GvvvLLL_L2_1_h0_sel slices_Concat_byte_v_GvvvLLL_L2_1_h0_nx
  cases h1 : tb (decide ((([] : List Int).length + x0.length) * 1 ≤ 140737488355328))
  · intro g0
    exact absurd g0 ft
  · intro _
    exact round_walk [.k true, .m 33 (o_app_so (nl := x12) (m := [(Blk.gen 37 1 [[(V.so x3 1 x0.length)], [(V.so x4 2 x1.length)], [(V.so x5 3 x2.length)]] x6), (Blk.flat 5 1 (List.map (encI .u8) x0) x7), (Blk.flat 5 1 (List.map (encI .u8) x1) x8), (Blk.flat 5 1 (List.map (encI .u8) x2) x9), (Blk.flat 5 1 [] x10), (Blk.flat 5 1 [] false)]) (enc := (encI .u8)) (l0 := ([] : List Int)) (l1 := x0) (id := 5) (e := 5) (s := 1) (bytes := 1) (x := (V.so x3 1 x0.length)) (n := 0) (by kernel_rfl) (by kernel_rfl) (flatRowsOf_so' (b := x3) (e := 5) (s := 1) (p := x7) (Nat.beq_refl _) (by kernel_rfl)) (by kernel_rfl) (tbE h1))] (by kernel_rfl)
theorem slices_Concat_byte_v_GvvvLLL_L2_1_h1_go (x0 : List Int) (x1 : List Int) (x2 : List Int) (x3 : Bool) (x4 : Bool) (x5 : Bool) (x6 : Bool) (x7 : Bool) (x8 : Bool) (x9 : Bool) (x10 : Bool) (x11 : Bool) (x12 : Bool) (x13 : Bool) (s0 : slices_Concat_byte_v_GvvvLLL_L2_1_s1) : slices_Concat_byte_v_GvvvLLL_L2_1_h1_sel x0 x1 x2 s0 = true → (roundG (runC E0 (cl E0) L32_2) [6, 25, 26, 27] [6] 6) (slices_Concat_byte_v_GvvvLLL_L2_1_enc x0 x1 x2 x3 x4 x5 x6 x7 x8 x9 x10 x11 x12 x13 (.h1 s0)) = some (.normal, slices_Concat_byte_v_GvvvLLL_L2_1_enc x0 x1 x2 x3 x4 x5 x6 x7 x8 x9 x10 x11 x12 x13 (slices_Concat_byte_v_GvvvLLL_L2_1_h1_nx x0 x1 x2 s0)) := by
  unfold slices_Concat_byte_v_GvvvLLL_L2_1_h1_sel slices_Concat_byte_v_GvvvLLL_L2_1_h1_nx
  cases h1 : tb (decide ((x0.length + x1.length) * 1 ≤ 140737488355328))
  · intro g0
    exact absurd g0 ft
  · intro _
    exact round_walk [.k true, .m 33 (o_app_so (nl := (x0.isEmpty && x12)) (m := [(Blk.gen 37 1 [[(V.so x3 1 x0.length)], [(V.so x4 2 x1.length)], [(V.so x5 3 x2.length)]] x6), (Blk.flat 5 1 (List.map (encI .u8) x0) x7), (Blk.flat 5 1 (List.map (encI .u8) x1) x8), (Blk.flat 5 1 (List.map (encI .u8) x2) x9), (Blk.flat 5 1 [] x10), (Blk.flat 5 1 (List.map (encI .u8) x0) false)]) (enc := (encI .u8)) (l0 := x0) (l1 := x1) (id := 5) (e := 5) (s := 1) (bytes := 1) (x := (V.so x4 2 x1.length)) (n := x0.length) (Nat.beq_refl _) (by kernel_rfl) (flatRowsOf_so' (b := x4) (e := 5) (s := 1) (p := x8) (Nat.beq_refl _) (by kernel_rfl)) (by kernel_rfl) (tbE h1))] (by kernel_rfl)
theorem slices_Concat_byte_v_GvvvLLL_L2_1_h2_go (x0 : List Int) (x1 : List Int) (x2 : List Int) (x3 : Bool) (x4 : Bool) (x5 : Bool) (x6 : Bool) (x7 : Bool) (x8 : Bool) (x9 : Bool) (x10 : Bool) (x11 : Bool) (x12 : Bool) (x13 : Bool) (s0 : slices_Concat_byte_v_GvvvLLL_L2_1_s2) : slices_Concat_byte_v_GvvvLLL_L2_1_h2_sel x0 x1 x2 s0 = true → (roundG (runC E0 (cl E0) L32_2) [6, 25, 26, 27] [6] 6) (slices_Concat_byte_v_GvvvLLL_L2_1_enc x0 x1 x2 x3 x4 x5 x6 x7 x8 x9 x10 x11 x12 x13 (.h2 s0)) = some (.normal, slices_Concat_byte_v_GvvvLLL_L2_1_enc x0 x1 x2 x3 x4 x5 x6 x7 x8 x9 x10 x11 x12 x13 (slices_Concat_byte_v_GvvvLLL_L2_1_h2_nx x0 x1 x2 s0)) := by
  unfold slices_Concat_byte_v_GvvvLLL_L2_1_h2_sel slices_Concat_byte_v_GvvvLLL_L2_1_h2_nx
  cases h1 : tb (decide (((x0 ++ x1).length + x2.length) * 1 ≤ 140737488355328))
  · intro g0
    exact absurd g0 ft
  · intro _
    exact round_walk [.k true, .m 33 (o_app_so (nl := (x1.isEmpty && (x0.isEmpty && x12))) (m := [(Blk.gen 37 1 [[(V.so x3 1 x0.length)], [(V.so x4 2 x1.length)], [(V.so x5 3 x2.length)]] x6), (Blk.flat 5 1 (List.map (encI .u8) x0) x7), (Blk.flat 5 1 (List.map (encI .u8) x1) x8), (Blk.flat 5 1 (List.map (encI .u8) x2) x9), (Blk.flat 5 1 [] x10), (Blk.flat 5 1 (List.map (encI .u8) (x0 ++ x1)) false)]) (enc := (encI .u8)) (l0 := (x0 ++ x1)) (l1 := x2) (id := 5) (e := 5) (s := 1) (bytes := 1) (x := (V.so x5 3 x2.length)) (n := ((x0 ++ x1).length)) (Nat.beq_refl _) (by kernel_rfl) (flatRowsOf_so' (b := x5) (e := 5) (s := 1) (p := x9) (Nat.beq_refl _) (by kernel_rfl)) (by kernel_rfl) (tbE h1))] (by kernel_rfl)
theorem slices_Concat_byte_v_GvvvLLL_L2_1_h3_go (x0 : List Int) (x1 : List Int) (x2 : List Int) (x3 : Bool) (x4 : Bool) (x5 : Bool) (x6 : Bool) (x7 : Bool) (x8 : Bool) (x9 : Bool) (x10 : Bool) (x11 : Bool) (x12 : Bool) (x13 : Bool) (s0 : slices_Concat_byte_v_GvvvLLL_L2_1_s3) : slices_Concat_byte_v_GvvvLLL_L2_1_h3_sel x0 x1 x2 s0 = true → (roundG (runC E0 (cl E0) L32_2) [6, 25, 26, 27] [6] 6) (slices_Concat_byte_v_GvvvLLL_L2_1_enc x0 x1 x2 x3 x4 x5 x6 x7 x8 x9 x10 x11 x12 x13 (.h3 s0)) = some (.normal, slices_Concat_byte_v_GvvvLLL_L2_1_enc x0 x1 x2 x3 x4 x5 x6 x7 x8 x9 x10 x11 x12 x13 (slices_Concat_byte_v_GvvvLLL_L2_1_h3_nx x0 x1 x2 s0)) := by
  unfold slices_Concat_byte_v_GvvvLLL_L2_1_h3_sel slices_Concat_byte_v_GvvvLLL_L2_1_h3_nx
  intro g0
  exact absurd g0 ft
theorem slices_Concat_byte_v_GvvvLLL_L2_1_h3_x0 (x0 : List Int) (x1 : List Int) (x2 : List Int) (x3 : Bool) (x4 : Bool) (x5 : Bool) (x6 : Bool) (x7 : Bool) (x8 : Bool) (x9 : Bool) (x10 : Bool) (x11 : Bool) (x12 : Bool) (x13 : Bool) (s0 : slices_Concat_byte_v_GvvvLLL_L2_1_s3) : slices_Concat_byte_v_GvvvLLL_L2_1_h3_sel x0 x1 x2 s0 = false → (roundG (runC E0 (cl E0) L32_2) [6, 25, 26, 27] [6] 6) (slices_Concat_byte_v_GvvvLLL_L2_1_enc x0 x1 x2 x3 x4 x5 x6 x7 x8 x9 x10 x11 x12 x13 (.h3 s0)) = some ((.exit 2), ([(V.so (x2.isEmpty && (x1.isEmpty && (x0.isEmpty && x12))) 5 (((x0 ++ x1) ++ x2).length))], [(Blk.gen 37 1 [[(V.so x3 1 x0.length)], [(V.so x4 2 x1.length)], [(V.so x5 3 x2.length)]] x6), (Blk.flat 5 1 (List.map (encI .u8) x0) x7), (Blk.flat 5 1 (List.map (encI .u8) x1) x8), (Blk.flat 5 1 (List.map (encI .u8) x2) x9), (Blk.flat 5 1 [] x10), (Blk.flat 5 1 (List.map (encI .u8) ((x0 ++ x1) ++ x2)) false)])) := by
  unfold slices_Concat_byte_v_GvvvLLL_L2_1_h3_sel
  intro g0
  exact round_walk [.k false] (by kernel_rfl)
theorem slices_Concat_byte_v_GvvvLLL_L2_1_go (x0 : List Int) (x1 : List Int) (x2 : List Int) (x3 : Bool) (x4 : Bool) (x5 : Bool) (x6 : Bool) (x7 : Bool) (x8 : Bool) (x9 : Bool) (x10 : Bool) (x11 : Bool) (x12 : Bool) (x13 : Bool) : ∀ s, slices_Concat_byte_v_GvvvLLL_L2_1_sel x0 x1 x2 s = true → (roundG (runC E0 (cl E0) L32_2) [6, 25, 26, 27] [6] 6) (slices_Concat_byte_v_GvvvLLL_L2_1_enc x0 x1 x2 x3 x4 x5 x6 x7 x8 x9 x10 x11 x12 x13 s) = some (.normal, slices_Concat_byte_v_GvvvLLL_L2_1_enc x0 x1 x2 x3 x4 x5 x6 x7 x8 x9 x10 x11 x12 x13 (slices_Concat_byte_v_GvvvLLL_L2_1_nx x0 x1 x2 s))
  | .h0 s0, h => slices_Concat_byte_v_GvvvLLL_L2_1_h0_go x0 x1 x2 x3 x4 x5 x6 x7 x8 x9 x10 x11 x12 x13 s0 h
  | .h1 s0, h => slices_Concat_byte_v_GvvvLLL_L2_1_h1_go x0 x1 x2 x3 x4 x5 x6 x7 x8 x9 x10 x11 x12 x13 s0 h
  | .h2 s0, h => slices_Concat_byte_v_GvvvLLL_L2_1_h2_go x0 x1 x2 x3 x4 x5 x6 x7 x8 x9 x10 x11 x12 x13 s0 h
  | .h3 s0, h => slices_Concat_byte_v_GvvvLLL_L2_1_h3_go x0 x1 x2 x3 x4 x5 x6 x7 x8 x9 x10 x11 x12 x13 s0 h
theorem slices_Concat_byte_v_GvvvLLL_L2_1_f3_0 (x0 : List Int) (x1 : List Int) (x2 : List Int) (x3 : Bool) (x4 : Bool) (x5 : Bool) (x6 : Bool) (x7 : Bool) (x8 : Bool) (x9 : Bool) (x10 : Bool) (x11 : Bool) (x12 : Bool) (x13 : Bool) (s : slices_Concat_byte_v_GvvvLLL_L2_1_S) (hok : slices_Concat_byte_v_GvvvLLL_L2_1_ok x0 x1 x2 s = true) (k0 : slices_Concat_byte_v_GvvvLLL_L2_1_is0 (slices_Concat_byte_v_GvvvLLL_L2_1_end x0 x1 x2 s) = false) (k1 : slices_Concat_byte_v_GvvvLLL_L2_1_is1 (slices_Concat_byte_v_GvvvLLL_L2_1_end x0 x1 x2 s) = false) (k2 : slices_Concat_byte_v_GvvvLLL_L2_1_is2 (slices_Concat_byte_v_GvvvLLL_L2_1_end x0 x1 x2 s) = false) : loopG (roundG (runC E0 (cl E0) L32_2) [6, 25, 26, 27] [6] 6) bound (slices_Concat_byte_v_GvvvLLL_L2_1_enc x0 x1 x2 x3 x4 x5 x6 x7 x8 x9 x10 x11 x12 x13 s) = some ((.exit 2), ([(V.so (x2.isEmpty && (x1.isEmpty && (x0.isEmpty && x12))) 5 (((x0 ++ x1) ++ x2).length))], [(Blk.gen 37 1 [[(V.so x3 1 x0.length)], [(V.so x4 2 x1.length)], [(V.so x5 3 x2.length)]] x6), (Blk.flat 5 1 (List.map (encI .u8) x0) x7), (Blk.flat 5 1 (List.map (encI .u8) x1) x8), (Blk.flat 5 1 (List.map (encI .u8) x2) x9), (Blk.flat 5 1 [] x10), (Blk.flat 5 1 (List.map (encI .u8) ((x0 ++ x1) ++ x2)) false)])) := by
  have e : itS (slices_Concat_byte_v_GvvvLLL_L2_1_sel x0 x1 x2) (slices_Concat_byte_v_GvvvLLL_L2_1_nx x0 x1 x2) bound s = some (slices_Concat_byte_v_GvvvLLL_L2_1_end x0 x1 x2 s) := itS_get hok
  have f := itS_false e
  have a : (slices_Concat_byte_v_GvvvLLL_L2_1_end x0 x1 x2 s) = .h3 (slices_Concat_byte_v_GvvvLLL_L2_1_get3 (slices_Concat_byte_v_GvvvLLL_L2_1_end x0 x1 x2 s)) := by
    revert k0 k1 k2
    cases (slices_Concat_byte_v_GvvvLLL_L2_1_end x0 x1 x2 s) with
    | h0 w => intros; contradiction
    | h1 w => intros; contradiction
    | h2 w => intros; contradiction
    | h3 w => intros; rfl
  have g := slices_Concat_byte_v_GvvvLLL_L2_1_h3_x0 x0 x1 x2 x3 x4 x5 x6 x7 x8 x9 x10 x11 x12 x13 (slices_Concat_byte_v_GvvvLLL_L2_1_get3 (slices_Concat_byte_v_GvvvLLL_L2_1_end x0 x1 x2 s)) (by rw [a] at f; exact f)
  exact loop_it (slices_Concat_byte_v_GvvvLLL_L2_1_go x0 x1 x2 x3 x4 x5 x6 x7 x8 x9 x10 x11 x12 x13) bound s _ _ _ e (fun h => by cases h) (by rw [a]; exact g)
def slices_Concat_byte_v_GvvvLLL_e0 (x0 : List Int) (x1 : List Int) (x2 : List Int) : Bool := (Nat.beq ((slices_Concat_byte_v_GvvvLLL_L0_1_h2_e0 x0 x1 x2) : Int).toNat 0)
def slices_Concat_byte_v_GvvvLLL_e1 (x0 : List Int) (x1 : List Int) (x2 : List Int) : slices_Concat_byte_v_GvvvLLL_L2_1_S := slices_Concat_byte_v_GvvvLLL_L2_1_end x0 x1 x2 (.h0 ⟨⟩ : slices_Concat_byte_v_GvvvLLL_L2_1_S)
def slices_Concat_byte_v_GvvvLLL_c0 (x0 : List Int) (x1 : List Int) (x2 : List Int) : Bool := (bif tb (slices_Concat_byte_v_GvvvLLL_S1_c0 x0 x1 x2) then (bif tb (slices_Grow_byte_ni_c0 (slices_Concat_byte_v_GvvvLLL_L0_1_h2_e0 x0 x1 x2)) then (bif tb (slices_Concat_byte_v_GvvvLLL_L2_1_ok x0 x1 x2 (.h0 ⟨⟩ : slices_Concat_byte_v_GvvvLLL_L2_1_S)) then (bif tb (slices_Concat_byte_v_GvvvLLL_L2_1_is0 (slices_Concat_byte_v_GvvvLLL_e1 x0 x1 x2)) then false else (bif tb (slices_Concat_byte_v_GvvvLLL_L2_1_is1 (slices_Concat_byte_v_GvvvLLL_e1 x0 x1 x2)) then false else (bif tb (slices_Concat_byte_v_GvvvLLL_L2_1_is2 (slices_Concat_byte_v_GvvvLLL_e1 x0 x1 x2)) then false else true))) else false) else false) else false)
theorem slices_Concat_byte_v_GvvvLLL_t0 (x0 : List Int) (x1 : List Int) (x2 : List Int) (x3 : Bool) (x4 : Bool) (x5 : Bool) (x6 : Bool) (x7 : Bool) (x8 : Bool) (x9 : Bool) (x10 : Bool) : slices_Concat_byte_v_GvvvLLL_c0 x0 x1 x2 = true → cl E0 32 [(V.so x10 0 3)] [(Blk.gen 37 1 [[(V.so x3 1 x0.length)], [(V.so x4 2 x1.length)], [(V.so x5 3 x2.length)]] x6), (Blk.flat 5 1 (List.map (encI .u8) x0) x7), (Blk.flat 5 1 (List.map (encI .u8) x1) x8), (Blk.flat 5 1 (List.map (encI .u8) x2) x9)] = some ([(V.so (x2.isEmpty && (x1.isEmpty && (x0.isEmpty && (slices_Concat_byte_v_GvvvLLL_e0 x0 x1 x2)))) 4 (((x0 ++ x1) ++ x2).length))], [(Blk.gen 37 1 [[(V.so x3 1 x0.length)], [(V.so x4 2 x1.length)], [(V.so x5 3 x2.length)]] x6), (Blk.flat 5 1 (List.map (encI .u8) x0) x7), (Blk.flat 5 1 (List.map (encI .u8) x1) x8), (Blk.flat 5 1 (List.map (encI .u8) x2) x9), (Blk.flat 5 1 (List.map (encI .u8) ((x0 ++ x1) ++ x2)) false)]) := by
  unfold slices_Concat_byte_v_GvvvLLL_c0
  cases h1 : tb (slices_Concat_byte_v_GvvvLLL_S1_c0 x0 x1 x2)
  · intro g0
    exact absurd g0 ft
  · cases h2 : tb (slices_Grow_byte_ni_c0 (slices_Concat_byte_v_GvvvLLL_L0_1_h2_e0 x0 x1 x2))
    · intro g0
      exact absurd g0 ft
    · cases h3 : tb (slices_Concat_byte_v_GvvvLLL_L2_1_ok x0 x1 x2 (.h0 ⟨⟩ : slices_Concat_byte_v_GvvvLLL_L2_1_S))
      · intro g0
        exact absurd g0 ft
      · cases h4 : tb (slices_Concat_byte_v_GvvvLLL_L2_1_is0 (slices_Concat_byte_v_GvvvLLL_e1 x0 x1 x2))
        · cases h5 : tb (slices_Concat_byte_v_GvvvLLL_L2_1_is1 (slices_Concat_byte_v_GvvvLLL_e1 x0 x1 x2))
          · cases h6 : tb (slices_Concat_byte_v_GvvvLLL_L2_1_is2 (slices_Concat_byte_v_GvvvLLL_e1 x0 x1 x2))
            · intro g0
              exact w32 [.s (slices_Concat_byte_v_GvvvLLL_S1_t0 x0 x1 x2 x3 x4 x5 x6 x7 x8 x9 false x10 (tbE h1)), .c (slices_Grow_byte_ni_t0 (slices_Concat_byte_v_GvvvLLL_L0_1_h2_e0 x0 x1 x2) (tbE h2)), .l (slices_Concat_byte_v_GvvvLLL_L2_1_f3_0 x0 x1 x2 x3 x4 x5 x6 x7 x8 x9 false false (slices_Concat_byte_v_GvvvLLL_e0 x0 x1 x2) x10 (.h0 ⟨⟩ : slices_Concat_byte_v_GvvvLLL_L2_1_S) (tbE h3) (tbE h4) (tbE h5) (tbE h6))] (by kernel_rfl)
            · intro g0
              exact absurd g0 ft
          · intro g0
            exact absurd g0 ft
        · intro g0
          exact absurd g0 ft
end Go.Proofs.Ytkipngagfiaddaa.Den
