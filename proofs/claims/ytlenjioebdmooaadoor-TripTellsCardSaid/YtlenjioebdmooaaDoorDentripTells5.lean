/- TripTellsCard: part 5 of what its proof rests on: an evaluator of the program's code, proved sound; plain functions printed from the code by a program of this session, with proofs; plain laws. No condition. -/
import Derived.Test.YtlenjioebdmooaaDoorDentripTells4
import Derived.Test.YtlenjioebdmooaaDoorProg
import Derived.Handed
import Derived.Lay
import Derived.MakeChecks
import Derived.FnData
import Derived.Stop.Joined
import Derived.SevenTiedAt
import Derived.Shelf.Vars
import Derived.Test.YtlenjioebdmooaaDoorRows
import Derived.Test.YtlenjioebdmooaaDoorCards
import Derived.Test.YtlenjioebdmooaaDoorTie

namespace Go.Proofs.YtlenjioebdmooaaDoor.Den
open Go Go.Proofs
set_option maxRecDepth 100000
def S3_0 : C := (.seq1 (.reg [] [⟨(some 11), none, (.mov (.t 1))⟩, ⟨(some 12), none, (.lens (.t 11))⟩, ⟨(some 13), none, (.bin .gtr (.t 12) (.v (.d (.int .i64 200))))⟩, ⟨(some 14), none, (.mov (.t 13))⟩, ⟨(some 15), (some (14, false)), (.fieldA 0 (.t 5))⟩, ⟨(some 16), (some (14, false)), (.load false 1 (.t 15))⟩, ⟨(some 17), (some (14, false)), (.len (.t 16))⟩, ⟨(some 18), (some (14, false)), (.bin .gtr (.t 17) (.v (.d (.int .i64 40))))⟩, ⟨(some 19), none, (.pick (.t 14) (.v (.d (.bool true))) (.t 18))⟩]) (.cond (.t 19) (.seq (.reg [] [⟨(some 20), none, (.call (.v (.fn (.func 5) [] [])) [])⟩, ⟨(some 6), none, (.mov (.t 20))⟩]) .ret) .skip))
def S3_1 : C := (.reg [] [⟨(some 22), none, (.mov (.t 1))⟩, ⟨(some 23), none, (.call (.v (.fn (.func 6) [] [])) [(.t 22)])⟩, ⟨(some 21), none, (.mov (.t 23))⟩, ⟨(some 24), none, (.extract 0 (.t 21))⟩, ⟨(some 25), none, (.extract 1 (.t 21))⟩, ⟨(some 7), none, (.mov (.t 24))⟩, ⟨(some 8), none, (.mov (.t 25))⟩])
def S3_2 : C := (.reg [] [⟨(some 27), none, (.mov (.t 1))⟩, ⟨(some 28), none, (.call (.v (.fn (.func 7) [] [])) [(.t 27)])⟩, ⟨(some 26), none, (.mov (.t 28))⟩, ⟨(some 29), none, (.extract 0 (.t 26))⟩, ⟨(some 30), none, (.extract 1 (.t 26))⟩, ⟨(some 9), none, (.mov (.t 29))⟩, ⟨(some 10), none, (.mov (.t 30))⟩])
def S3_3 : C := (.mix [⟨(some 31), none, (.call (.v (.fn (.func 5) [] [])) [])⟩, ⟨(some 32), none, (.mov (.t 31))⟩, ⟨(some 33), (some (32, true)), (.mov (.t 0))⟩, ⟨(some 34), (some (32, true)), (.call (.v (.fn (.func 8) [] [])) [(.t 33)])⟩, ⟨(some 35), (some (32, true)), (.mov (.t 0))⟩, ⟨(some 36), (some (32, true)), (.call (.v (.fn (.func 9) [] [])) [(.t 35)])⟩, ⟨(some 37), (some (32, true)), (.bin .eql (.t 34) (.t 36))⟩, ⟨(some 38), none, (.pick (.t 32) (.t 37) (.v (.d (.bool false))))⟩, ⟨(some 39), none, (.mov (.t 38))⟩, ⟨(some 40), (some (39, true)), (.mov (.t 7))⟩, ⟨(some 41), (some (39, true)), (.mov (.t 9))⟩, ⟨(some 42), (some (39, true)), (.bin .eql (.t 40) (.t 41))⟩, ⟨(some 43), none, (.pick (.t 39) (.t 42) (.v (.d (.bool false))))⟩, ⟨(some 44), none, (.mov (.t 43))⟩, ⟨(some 45), (some (44, true)), (.mov (.t 8))⟩, ⟨(some 46), (some (44, true)), (.mov (.t 10))⟩, ⟨(some 47), (some (44, true)), (.bin .eql (.t 45) (.t 46))⟩, ⟨(some 48), none, (.pick (.t 44) (.t 47) (.v (.d (.bool false))))⟩, ⟨(some 49), none, (.mov (.t 48))⟩, ⟨(some 50), (some (49, true)), (.fieldA 0 (.t 5))⟩, ⟨(some 51), (some (49, true)), (.load false 1 (.t 50))⟩, ⟨(some 52), (some (49, true)), (.call (.v (.fn (.func 10) [] [])) [(.t 51)])⟩, ⟨(some 53), (some (49, true)), (.fieldA 0 (.t 5))⟩, ⟨(some 54), (some (49, true)), (.load false 1 (.t 53))⟩, ⟨(some 55), (some (49, true)), (.call (.v (.fn (.func 11) [] [])) [(.t 54)])⟩, ⟨(some 56), (some (49, true)), (.bin .eql (.t 52) (.t 55))⟩, ⟨(some 57), none, (.pick (.t 49) (.t 56) (.v (.d (.bool false))))⟩, ⟨(some 58), none, (.mov (.t 57))⟩, ⟨(some 59), (some (58, true)), (.mov (.t 0))⟩, ⟨(some 60), (some (58, true)), (.fieldA 1 (.t 5))⟩, ⟨(some 61), (some (58, true)), (.load false 1 (.t 60))⟩, ⟨(some 62), (some (58, true)), (.call (.v (.fn (.func 12) [] [])) [(.t 59), (.t 61)])⟩, ⟨(some 63), (some (58, true)), (.mov (.t 0))⟩, ⟨(some 64), (some (58, true)), (.fieldA 1 (.t 5))⟩, ⟨(some 65), (some (58, true)), (.load false 1 (.t 64))⟩, ⟨(some 66), (some (58, true)), (.call (.v (.fn (.func 13) [] [])) [(.t 63), (.t 65)])⟩, ⟨(some 67), (some (58, true)), (.beq .bool false (.t 62) (.t 66))⟩, ⟨(some 68), none, (.pick (.t 58) (.t 67) (.v (.d (.bool false))))⟩, ⟨(some 6), none, (.mov (.t 68))⟩] [[], [], [], [], [], [], [], [], [], [], [], [], [], [], [], [], [], [], [], [], [], [], [], [21], [], [], [], [], [], [], [], [], [], [], [31], [], [], [], []] [false, false, false, false, false, true, false, false, false, false, false, false, false, false, false, false, false, false, false, false, false, true, false, false, true, false, false, false, false, false, false, true, false, false, false, true, false, false, false])
def F3 : CFunc := ⟨69, [(.tmp 6)], (.seq (.reg [] [⟨(some 5), none, (.box 24 false 2 (.t 2))⟩, ⟨(some 6), none, (.mov (.v (.d (.bool false))))⟩]) (.cut [0, 1, 5] [6] [0, 1, 5] S3_0 (.cut [0, 1, 5] [] [0, 1, 5, 7, 8] S3_1 (.cut [0, 1, 5, 7, 8] [] [0, 5, 7, 8, 9, 10] S3_2 (.cut [0, 5, 7, 8, 9, 10] [] [6] S3_3 .ret)))))⟩
theorem c3 : cAt Tryd.prog 3 = some F3.er := by kernel_rfl
def S5_0 : C := (.reg [] [⟨(some 8), none, (.call (.v (.fn (.func 6) [] [])) [(.v (.d (.str ⟨#[114, 97, 110, 103, 101, 43, 109, 105, 115]⟩)))])⟩, ⟨(some 7), none, (.mov (.t 8))⟩, ⟨(some 9), none, (.extract 0 (.t 7))⟩, ⟨(some 10), none, (.extract 1 (.t 7))⟩, ⟨(some 1), none, (.mov (.t 9))⟩, ⟨(some 2), none, (.mov (.t 10))⟩])
def S5_1 : C := (.reg [] [⟨(some 12), none, (.call (.v (.fn (.func 6) [] [])) [(.v (.d (.str ⟨#[109, 105, 115, 43, 114, 97, 110, 103, 101]⟩)))])⟩, ⟨(some 11), none, (.mov (.t 12))⟩, ⟨(some 13), none, (.extract 0 (.t 11))⟩, ⟨(some 14), none, (.extract 1 (.t 11))⟩, ⟨(some 3), none, (.mov (.t 13))⟩, ⟨(some 4), none, (.mov (.t 14))⟩])
def S5_2 : C := (.reg [] [⟨(some 16), none, (.call (.v (.fn (.func 6) [] [])) [(.v (.d (.str ⟨#[45]⟩)))])⟩, ⟨(some 15), none, (.mov (.t 16))⟩, ⟨(some 17), none, (.extract 0 (.t 15))⟩, ⟨(some 18), none, (.extract 1 (.t 15))⟩, ⟨(some 5), none, (.mov (.t 17))⟩, ⟨(some 6), none, (.mov (.t 18))⟩])
def S5_3 : C := (.reg [] [⟨(some 19), none, (.call (.v (.fn (.func 8) [] [])) [(.v (.d (.int .i64 34)))])⟩, ⟨(some 20), none, (.bin .eql (.t 19) (.v (.d (.str ⟨#[114, 97, 110, 103, 101, 43, 109, 105, 115]⟩))))⟩, ⟨(some 21), none, (.mov (.t 20))⟩, ⟨(some 22), (some (21, true)), (.call (.v (.fn (.func 8) [] [])) [(.v (.d (.int .i64 0)))])⟩, ⟨(some 23), (some (21, true)), (.bin .eql (.t 22) (.v (.d (.str ⟨#[45]⟩))))⟩, ⟨(some 24), none, (.pick (.t 21) (.t 23) (.v (.d (.bool false))))⟩, ⟨(some 25), none, (.mov (.t 24))⟩, ⟨(some 26), (some (25, true)), (.call (.v (.fn (.func 8) [] [])) [(.v (.d (.int .i64 64)))])⟩, ⟨(some 27), (some (25, true)), (.bin .eql (.t 26) (.v (.d (.str ⟨#[]⟩))))⟩, ⟨(some 28), none, (.pick (.t 25) (.t 27) (.v (.d (.bool false))))⟩, ⟨(some 29), none, (.mov (.t 28))⟩, ⟨(some 30), (some (29, true)), (.mov (.t 1))⟩, ⟨(some 31), (some (29, true)), (.bin .eql (.t 30) (.v (.d (.int .i64 34))))⟩, ⟨(some 32), none, (.pick (.t 29) (.t 31) (.v (.d (.bool false))))⟩, ⟨(some 33), none, (.mov (.t 32))⟩, ⟨(some 34), (some (33, true)), (.mov (.t 2))⟩, ⟨(some 35), (some (33, true)), (.bin .eql (.t 34) (.v (.d (.int .i64 0))))⟩, ⟨(some 36), none, (.pick (.t 33) (.t 35) (.v (.d (.bool false))))⟩, ⟨(some 37), none, (.mov (.t 36))⟩, ⟨(some 38), (some (37, true)), (.mov (.t 4))⟩, ⟨(some 39), (some (37, true)), (.bin .eql (.t 38) (.v (.d (.int .i64 3))))⟩, ⟨(some 40), none, (.pick (.t 37) (.t 39) (.v (.d (.bool false))))⟩, ⟨(some 41), none, (.mov (.t 40))⟩, ⟨(some 42), (some (41, true)), (.mov (.t 5))⟩, ⟨(some 43), (some (41, true)), (.bin .eql (.t 42) (.v (.d (.int .i64 0))))⟩, ⟨(some 44), none, (.pick (.t 41) (.t 43) (.v (.d (.bool false))))⟩, ⟨(some 45), none, (.mov (.t 44))⟩, ⟨(some 46), (some (45, true)), (.mov (.t 6))⟩, ⟨(some 47), (some (45, true)), (.bin .eql (.t 46) (.v (.d (.int .i64 0))))⟩, ⟨(some 48), none, (.pick (.t 45) (.t 47) (.v (.d (.bool false))))⟩, ⟨(some 49), none, (.mov (.t 48))⟩, ⟨(some 50), (some (49, true)), (.bslice 4 true 1 3 [(.bool false)] [(0, (.v (.d (.bool true)))), (1, (.v (.d (.bool false)))), (2, (.v (.d (.bool true))))])⟩, ⟨(some 51), (some (49, true)), (.call (.v (.fn (.func 10) [] [])) [(.t 50)])⟩, ⟨(some 52), (some (49, true)), (.bin .eql (.t 51) (.v (.d (.int .i64 5))))⟩, ⟨(some 53), none, (.pick (.t 49) (.t 52) (.v (.d (.bool false))))⟩, ⟨(some 54), none, (.mov (.t 53))⟩, ⟨(some 55), (some (54, true)), (.call (.v (.fn (.func 12) [] [])) [(.v (.d (.int .i64 34))), (.v (.d (.int .i64 32)))])⟩, ⟨(some 56), none, (.pick (.t 54) (.t 55) (.v (.d (.bool false))))⟩, ⟨(some 57), none, (.mov (.t 56))⟩, ⟨(some 58), (some (57, true)), (.call (.v (.fn (.func 12) [] [])) [(.v (.d (.int .i64 34))), (.v (.d (.int .i64 3)))])⟩, ⟨(some 59), (some (57, true)), (.unop .not (.t 58))⟩, ⟨(some 60), none, (.pick (.t 57) (.t 59) (.v (.d (.bool false))))⟩, ⟨(some 61), none, (.mov (.t 60))⟩, ⟨(some 62), (some (61, true)), (.call (.v (.fn (.func 12) [] [])) [(.v (.d (.int .i64 34))), (.v (.d (.int .i64 1)))])⟩, ⟨(some 63), (some (61, true)), (.unop .not (.t 62))⟩, ⟨(some 64), none, (.pick (.t 61) (.t 63) (.v (.d (.bool false))))⟩, ⟨(some 0), none, (.mov (.t 64))⟩])
def F5 : CFunc := ⟨65, [(.tmp 0)], (.seq (.reg [] [⟨(some 0), none, (.mov (.v (.d (.bool false))))⟩]) (.cut [] [] [1, 2] S5_0 (.cut [1, 2] [] [1, 2, 4] S5_1 (.cut [1, 2, 4] [] [1, 2, 4, 5, 6] S5_2 (.cut [1, 2, 4, 5, 6] [] [0] S5_3 .ret)))))⟩
theorem c5 : cAt Tryd.prog 5 = some F5.er := by kernel_rfl
def L6_0 : C := (.seq (.reg [] [⟨(some 18), none, (.bin .lss (.t 17) (.v (.d (.int .i64 6))))⟩]) (.seq (.cond (.t 18) .skip (.exit 2)) (.seq (.block 3 (.seq (.reg [] [⟨(some 19), none, (.mov (.t 17))⟩, ⟨(some 20), none, (.idx false 6 1 (.t 16) (.t 17))⟩, ⟨(some 7), none, (.mov (.t 19))⟩, ⟨(some 8), none, (.mov (.t 20))⟩]) (.seq (.reg [] [⟨(some 21), none, (.mov (.t 8))⟩, ⟨(some 22), none, (.mov (.t 6))⟩, ⟨(some 23), none, (.bin .eql (.t 21) (.t 22))⟩]) (.cond (.t 23) (.seq (.reg [] [⟨(some 24), none, (.mov (.t 4))⟩, ⟨(some 25), none, (.mov (.t 7))⟩, ⟨(some 26), none, (.bin .shl (.v (.d (.int .i64 1))) (.t 25))⟩, ⟨(some 27), none, (.bin .or (.t 24) (.t 26))⟩, ⟨(some 4), none, (.mov (.t 27))⟩]) (.exit 1)) .skip)))) (.reg [] [⟨(some 28), none, (.bin .add (.t 17) (.v (.d (.int .i64 1))))⟩, ⟨(some 17), none, (.mov (.t 28))⟩]))))
def L6_1 : C := (.seq (.reg [] [⟨(some 13), none, (.bin .lss (.t 12) (.t 11))⟩]) (.seq (.cond (.t 13) .skip (.exit 0)) (.seq (.block 1 (.seq (.reg [] [⟨(some 14), none, (.idxA 1 (.t 10) (.t 12))⟩, ⟨(some 15), none, (.load false 1 (.t 14))⟩, ⟨(some 6), none, (.mov (.t 15))⟩]) (.seq (.reg [] [⟨(some 16), none, (.load true 6 (.g 0))⟩, ⟨(some 17), none, (.mov (.v (.d (.int .i64 0))))⟩]) (.block 2 (.loop [0, 4, 6, 10, 11, 12, 16, 17] [0, 4, 10, 11, 12] L6_0))))) (.reg [] [⟨(some 29), none, (.bin .add (.t 12) (.v (.d (.int .i64 1))))⟩, ⟨(some 12), none, (.mov (.t 29))⟩]))))
def S6_2 : C := (.seq1 (.reg [] [⟨(some 9), none, (.mov (.t 0))⟩, ⟨(some 10), none, (.call (.v (.fn (.func 14) [] [])) [(.t 9), (.v (.d (.str ⟨#[43]⟩)))])⟩, ⟨(some 11), none, (.len (.t 10))⟩, ⟨(some 12), none, (.mov (.v (.d (.int .i64 0))))⟩]) (.block 0 (.loop [0, 4, 10, 11, 12] [0, 4] L6_1)))
def F6 : CFunc := ⟨35, [(.tmp 2), (.tmp 3)], (.seq (.reg [] [⟨(some 2), none, (.mov (.v (.d (.int .i64 0))))⟩, ⟨(some 3), none, (.mov (.v (.d (.int .i64 0))))⟩]) (.scope (.seq (.reg [] [⟨(some 4), none, (.mov (.v (.d (.int .i64 0))))⟩]) (.seq .skip (.cut [0, 4] [] [0, 4] S6_2 (.seq (.seq (.reg [] [⟨(some 30), none, (.mov (.t 4))⟩, ⟨(some 31), none, (.call (.v (.fn (.func 8) [] [])) [(.t 30)])⟩, ⟨(some 32), none, (.mov (.t 0))⟩, ⟨(some 33), none, (.bin .neq (.t 31) (.t 32))⟩]) (.cond (.t 33) (.seq (.reg [] [⟨(some 2), none, (.mov (.v (.d (.int .i64 0))))⟩, ⟨(some 3), none, (.mov (.v (.d (.int .i64 3))))⟩]) .ret) .skip)) (.seq (.reg [] [⟨(some 34), none, (.mov (.t 4))⟩, ⟨(some 2), none, (.mov (.t 34))⟩, ⟨(some 3), none, (.mov (.v (.d (.int .i64 0))))⟩]) .ret)))))))⟩
theorem c6 : cAt Tryd.prog 6 = some F6.er := by kernel_rfl
def L7_0 : C := (.seq (.seq (.reg [] [⟨(some 6), none, (.mov (.t 4))⟩, ⟨(some 7), none, (.bin .lss (.t 6) (.v (.d (.int .i64 64))))⟩]) (.cond (.t 7) .skip (.exit 0))) (.seq (.block 1 (.seq (.reg [] [⟨(some 10), none, (.mov (.t 4))⟩, ⟨(some 11), none, (.call (.v (.fn (.func 9) [] [])) [(.t 10)])⟩, ⟨(some 5), none, (.mov (.t 11))⟩]) (.seq (.reg [] [⟨(some 12), none, (.mov (.t 5))⟩, ⟨(some 13), none, (.mov (.t 0))⟩, ⟨(some 14), none, (.bin .eql (.t 12) (.t 13))⟩]) (.cond (.t 14) (.seq (.reg [] [⟨(some 15), none, (.mov (.t 4))⟩, ⟨(some 2), none, (.mov (.t 15))⟩, ⟨(some 3), none, (.mov (.v (.d (.int .i64 0))))⟩]) .ret) .skip)))) (.reg [] [⟨(some 8), none, (.mov (.t 4))⟩, ⟨(some 9), none, (.bin .add (.t 8) (.v (.d (.int .i64 1))))⟩, ⟨(some 4), none, (.mov (.t 9))⟩])))
def F7 : CFunc := ⟨16, [(.tmp 2), (.tmp 3)], (.seq (.reg [] [⟨(some 2), none, (.mov (.v (.d (.int .i64 0))))⟩, ⟨(some 3), none, (.mov (.v (.d (.int .i64 0))))⟩]) (.seq (.seq (.reg [] [⟨(some 4), none, (.mov (.v (.d (.int .i64 0))))⟩]) (.block 0 (.loop [0, 4] [2, 3] L7_0))) (.seq (.reg [] [⟨(some 2), none, (.mov (.v (.d (.int .i64 0))))⟩, ⟨(some 3), none, (.mov (.v (.d (.int .i64 3))))⟩]) .ret)))⟩
theorem c7 : cAt Tryd.prog 7 = some F7.er := by kernel_rfl
def S8_0 : C := (.block 0 (.seq (.reg [] [⟨(some 7), none, (.mov (.t 0))⟩, ⟨(some 8), none, (.bin .lss (.t 7) (.v (.d (.int .i64 0))))⟩, ⟨(some 9), none, (.mov (.t 8))⟩, ⟨(some 10), (some (9, false)), (.mov (.t 0))⟩, ⟨(some 11), (some (9, false)), (.bin .gtr (.t 10) (.v (.d (.int .i64 63))))⟩, ⟨(some 12), none, (.pick (.t 9) (.v (.d (.bool true))) (.t 11))⟩, ⟨(some 6), none, (.mov (.t 12))⟩]) (.cond (.t 6) (.seq (.reg [] [⟨(some 2), none, (.mov (.v (.d (.str ⟨#[]⟩))))⟩]) .ret) (.seq (.reg [] [⟨(some 14), none, (.mov (.t 0))⟩, ⟨(some 15), none, (.bin .eql (.t 14) (.v (.d (.int .i64 0))))⟩, ⟨(some 13), none, (.mov (.t 15))⟩]) (.cond (.t 13) (.seq (.reg [] [⟨(some 2), none, (.mov (.v (.d (.str ⟨#[45]⟩))))⟩]) .ret) .skip)))))
def L8_1 : C := (.seq (.reg [] [⟨(some 18), none, (.bin .lss (.t 17) (.v (.d (.int .i64 6))))⟩]) (.seq (.cond (.t 18) .skip (.exit 1)) (.seq (.block 2 (.seq (.reg [] [⟨(some 19), none, (.mov (.t 17))⟩, ⟨(some 20), none, (.idx false 6 1 (.t 16) (.t 17))⟩, ⟨(some 4), none, (.mov (.t 19))⟩, ⟨(some 5), none, (.mov (.t 20))⟩]) (.seq (.reg [] [⟨(some 21), none, (.mov (.t 0))⟩, ⟨(some 22), none, (.mov (.t 4))⟩, ⟨(some 23), none, (.call (.v (.fn (.func 15) [] [])) [(.t 21), (.t 22)])⟩]) (.cond (.t 23) (.reg [] [⟨(some 24), none, (.mov (.t 3))⟩, ⟨(some 25), none, (.mov (.t 5))⟩, ⟨(some 26), none, (.bslice 9 true 1 1 [(.str ⟨#[]⟩)] [(0, (.t 25))])⟩, ⟨(some 27), none, (.append 9 true 1 16 (.t 24) (.t 26))⟩, ⟨(some 3), none, (.mov (.t 27))⟩]) .skip)))) (.reg [] [⟨(some 28), none, (.bin .add (.t 17) (.v (.d (.int .i64 1))))⟩, ⟨(some 17), none, (.mov (.t 28))⟩]))))
def S8_2 : C := (.seq (.seq (.reg [] [⟨(some 16), none, (.load true 6 (.g 0))⟩, ⟨(some 17), none, (.mov (.v (.d (.int .i64 0))))⟩]) (.block 1 (.loop [0, 3, 16, 17] [3] L8_1))) (.reg [] [⟨(some 29), none, (.mov (.t 3))⟩, ⟨(some 30), none, (.call (.v (.fn (.func 16) [] [])) [(.t 29), (.v (.d (.str ⟨#[43]⟩)))])⟩, ⟨(some 2), none, (.mov (.t 30))⟩]))
def F8 : CFunc := ⟨31, [(.tmp 2)], (.seq (.reg [] [⟨(some 2), none, (.mov (.v (.d (.str ⟨#[]⟩))))⟩]) (.cut [0] [2] [0] S8_0 (.seq (.reg [] [⟨(some 3), none, (.nsl 9 true 1)⟩]) (.cut [0, 3] [] [2] S8_2 .ret))))⟩
theorem c8 : cAt Tryd.prog 8 = some F8.er := by kernel_rfl
def S9_0 : C := (.seq1 (.reg [] [⟨(some 7), none, (.mov (.t 0))⟩, ⟨(some 8), none, (.bin .lss (.t 7) (.v (.d (.int .i64 0))))⟩, ⟨(some 9), none, (.mov (.t 8))⟩, ⟨(some 10), (some (9, false)), (.mov (.t 0))⟩, ⟨(some 11), (some (9, false)), (.bin .gtr (.t 10) (.v (.d (.int .i64 63))))⟩, ⟨(some 12), none, (.pick (.t 9) (.v (.d (.bool true))) (.t 11))⟩]) (.cond (.t 12) (.seq (.reg [] [⟨(some 2), none, (.mov (.v (.d (.str ⟨#[]⟩))))⟩]) .ret) .skip))
def L9_1 : C := (.seq (.seq (.reg [] [⟨(some 16), none, (.mov (.t 5))⟩, ⟨(some 17), none, (.bin .lss (.t 16) (.v (.d (.int .i64 6))))⟩]) (.cond (.t 17) .skip (.exit 0))) (.seq (.block 1 (.seq (.reg [] [⟨(some 20), none, (.mov (.t 0))⟩, ⟨(some 21), none, (.mov (.t 5))⟩, ⟨(some 22), none, (.call (.v (.fn (.func 18) [] [])) [(.t 20), (.t 21)])⟩, ⟨(some 6), none, (.mov (.t 22))⟩]) (.seq (.seq (.reg [] [⟨(some 23), none, (.mov (.t 6))⟩, ⟨(some 24), none, (.mov (.t 23))⟩, ⟨(some 25), (some (24, true)), (.mov (.t 4))⟩, ⟨(some 26), (some (24, true)), (.bin .neq (.t 25) (.v (.d (.str ⟨#[]⟩))))⟩, ⟨(some 27), none, (.pick (.t 24) (.t 26) (.v (.d (.bool false))))⟩]) (.cond (.t 27) (.reg [] [⟨(some 28), none, (.mov (.t 4))⟩, ⟨(some 29), none, (.bin .add (.t 28) (.v (.d (.str ⟨#[43]⟩))))⟩, ⟨(some 4), none, (.mov (.t 29))⟩]) .skip)) (.seq (.reg [] [⟨(some 30), none, (.mov (.t 6))⟩]) (.cond (.t 30) (.reg [] [⟨(some 31), none, (.mov (.t 4))⟩, ⟨(some 32), none, (.mov (.t 3))⟩, ⟨(some 33), none, (.mov (.t 5))⟩, ⟨(some 34), none, (.idxA 1 (.t 32) (.t 33))⟩, ⟨(some 35), none, (.load false 1 (.t 34))⟩, ⟨(some 36), none, (.bin .add (.t 31) (.t 35))⟩, ⟨(some 4), none, (.mov (.t 36))⟩]) .skip))))) (.reg [] [⟨(some 18), none, (.mov (.t 5))⟩, ⟨(some 19), none, (.bin .add (.t 18) (.v (.d (.int .i64 1))))⟩, ⟨(some 5), none, (.mov (.t 19))⟩])))
def S9_2 : C := (.seq (.reg [] [⟨(some 15), none, (.call (.v (.fn (.func 17) [] [])) [])⟩, ⟨(some 3), none, (.mov (.t 15))⟩]) (.seq (.reg [] [⟨(some 4), none, (.mov (.v (.d (.str ⟨#[]⟩))))⟩]) (.seq1 (.reg [] [⟨(some 5), none, (.mov (.v (.d (.int .i64 0))))⟩]) (.block 0 (.loop [0, 3, 4, 5] [4] L9_1)))))
def F9 : CFunc := ⟨38, [(.tmp 2)], (.seq (.reg [] [⟨(some 2), none, (.mov (.v (.d (.str ⟨#[]⟩))))⟩]) (.cut [0] [2] [0] S9_0 (.seq (.seq (.reg [] [⟨(some 13), none, (.mov (.t 0))⟩, ⟨(some 14), none, (.bin .eql (.t 13) (.v (.d (.int .i64 0))))⟩]) (.cond (.t 14) (.seq (.reg [] [⟨(some 2), none, (.mov (.v (.d (.str ⟨#[45]⟩))))⟩]) .ret) .skip)) (.cut [0] [] [4] S9_2 (.seq (.reg [] [⟨(some 37), none, (.mov (.t 4))⟩, ⟨(some 2), none, (.mov (.t 37))⟩]) .ret)))))⟩
theorem c9 : cAt Tryd.prog 9 = some F9.er := by kernel_rfl
def F10 : CFunc := ⟨8, [(.tmp 2)], (.seq (.reg [] [⟨(some 2), none, (.mov (.v (.d (.int .i64 0))))⟩]) (.seq (.seq (.reg [] [⟨(some 3), none, (.mov (.t 0))⟩, ⟨(some 4), none, (.len (.t 3))⟩, ⟨(some 5), none, (.bin .gtr (.t 4) (.v (.d (.int .i64 6))))⟩]) (.cond (.t 5) (.seq (.reg [] [⟨(some 2), none, (.mov (.v (.d (.int .i64 0))))⟩]) .ret) .skip)) (.seq (.reg [] [⟨(some 6), none, (.mov (.t 0))⟩, ⟨(some 7), none, (.call (.v (.fn (.func 19) [] [])) [(.t 6)])⟩, ⟨(some 2), none, (.mov (.t 7))⟩]) .ret)))⟩
theorem c10 : cAt Tryd.prog 10 = some F10.er := by kernel_rfl
def F11 : CFunc := ⟨8, [(.tmp 2)], (.seq (.reg [] [⟨(some 2), none, (.mov (.v (.d (.int .i64 0))))⟩]) (.seq (.seq (.reg [] [⟨(some 3), none, (.mov (.t 0))⟩, ⟨(some 4), none, (.len (.t 3))⟩, ⟨(some 5), none, (.bin .gtr (.t 4) (.v (.d (.int .i64 6))))⟩]) (.cond (.t 5) (.seq (.reg [] [⟨(some 2), none, (.mov (.v (.d (.int .i64 0))))⟩]) .ret) .skip)) (.seq (.reg [] [⟨(some 6), none, (.mov (.t 0))⟩, ⟨(some 7), none, (.call (.v (.fn (.func 20) [] [])) [(.t 6)])⟩, ⟨(some 2), none, (.mov (.t 7))⟩]) .ret)))⟩
theorem c11 : cAt Tryd.prog 11 = some F11.er := by kernel_rfl
def F12 : CFunc := ⟨30, [(.tmp 4)], (.seq (.reg [] [⟨(some 4), none, (.mov (.v (.d (.bool false))))⟩]) (.seq (.reg [] [⟨(some 5), none, (.mov (.t 0))⟩, ⟨(some 6), none, (.bin .geq (.t 5) (.v (.d (.int .i64 0))))⟩, ⟨(some 7), none, (.mov (.t 6))⟩, ⟨(some 8), (some (7, true)), (.mov (.t 0))⟩, ⟨(some 9), (some (7, true)), (.bin .leq (.t 8) (.v (.d (.int .i64 63))))⟩, ⟨(some 10), none, (.pick (.t 7) (.t 9) (.v (.d (.bool false))))⟩, ⟨(some 11), none, (.mov (.t 10))⟩, ⟨(some 12), (some (11, true)), (.mov (.t 1))⟩, ⟨(some 13), (some (11, true)), (.bin .geq (.t 12) (.v (.d (.int .i64 1))))⟩, ⟨(some 14), none, (.pick (.t 11) (.t 13) (.v (.d (.bool false))))⟩, ⟨(some 15), none, (.mov (.t 14))⟩, ⟨(some 16), (some (15, true)), (.mov (.t 1))⟩, ⟨(some 17), (some (15, true)), (.bin .leq (.t 16) (.v (.d (.int .i64 63))))⟩, ⟨(some 18), none, (.pick (.t 15) (.t 17) (.v (.d (.bool false))))⟩, ⟨(some 19), none, (.mov (.t 18))⟩, ⟨(some 20), (some (19, true)), (.mov (.t 1))⟩, ⟨(some 21), (some (19, true)), (.call (.v (.fn (.func 21) [] [])) [(.t 20)])⟩, ⟨(some 22), (some (19, true)), (.bin .eql (.t 21) (.v (.d (.int .i64 1))))⟩, ⟨(some 23), none, (.pick (.t 19) (.t 22) (.v (.d (.bool false))))⟩, ⟨(some 24), none, (.mov (.t 23))⟩, ⟨(some 25), (some (24, true)), (.mov (.t 0))⟩, ⟨(some 26), (some (24, true)), (.mov (.t 1))⟩, ⟨(some 27), (some (24, true)), (.bin .and (.t 25) (.t 26))⟩, ⟨(some 28), (some (24, true)), (.bin .neq (.t 27) (.v (.d (.int .i64 0))))⟩, ⟨(some 29), none, (.pick (.t 24) (.t 28) (.v (.d (.bool false))))⟩, ⟨(some 4), none, (.mov (.t 29))⟩]) .ret))⟩
theorem c12 : cAt Tryd.prog 12 = some F12.er := by kernel_rfl
def L13_0 : C := (.seq (.seq (.reg [] [⟨(some 13), none, (.mov (.t 6))⟩, ⟨(some 14), none, (.bin .lss (.t 13) (.v (.d (.int .i64 6))))⟩]) (.cond (.t 14) .skip (.exit 0))) (.seq (.block 1 (.seq (.seq (.reg [] [⟨(some 17), none, (.mov (.t 1))⟩, ⟨(some 18), none, (.mov (.t 5))⟩, ⟨(some 19), none, (.bin .eql (.t 17) (.t 18))⟩]) (.cond (.t 19) (.seq (.reg [] [⟨(some 20), none, (.mov (.t 0))⟩, ⟨(some 21), none, (.mov (.t 6))⟩, ⟨(some 22), none, (.call (.v (.fn (.func 18) [] [])) [(.t 20), (.t 21)])⟩, ⟨(some 4), none, (.mov (.t 22))⟩]) .ret) .skip)) (.reg [] [⟨(some 23), none, (.mov (.t 5))⟩, ⟨(some 24), none, (.bin .mul (.v (.d (.int .i64 2))) (.t 23))⟩, ⟨(some 5), none, (.mov (.t 24))⟩]))) (.reg [] [⟨(some 15), none, (.mov (.t 6))⟩, ⟨(some 16), none, (.bin .add (.t 15) (.v (.d (.int .i64 1))))⟩, ⟨(some 6), none, (.mov (.t 16))⟩])))
def F13 : CFunc := ⟨25, [(.tmp 4)], (.seq (.reg [] [⟨(some 4), none, (.mov (.v (.d (.bool false))))⟩]) (.seq (.seq (.reg [] [⟨(some 7), none, (.mov (.t 0))⟩, ⟨(some 8), none, (.bin .lss (.t 7) (.v (.d (.int .i64 0))))⟩, ⟨(some 9), none, (.mov (.t 8))⟩, ⟨(some 10), (some (9, false)), (.mov (.t 0))⟩, ⟨(some 11), (some (9, false)), (.bin .gtr (.t 10) (.v (.d (.int .i64 63))))⟩, ⟨(some 12), none, (.pick (.t 9) (.v (.d (.bool true))) (.t 11))⟩]) (.cond (.t 12) (.seq (.reg [] [⟨(some 4), none, (.mov (.v (.d (.bool false))))⟩]) .ret) .skip)) (.seq (.reg [] [⟨(some 5), none, (.mov (.v (.d (.int .i64 1))))⟩]) (.seq (.seq (.reg [] [⟨(some 6), none, (.mov (.v (.d (.int .i64 0))))⟩]) (.block 0 (.loop [0, 1, 5, 6] [4] L13_0))) (.seq (.reg [] [⟨(some 4), none, (.mov (.v (.d (.bool false))))⟩]) .ret)))))⟩
theorem c13 : cAt Tryd.prog 13 = some F13.er := by kernel_rfl
def F15 : CFunc := ⟨22, [(.tmp 4)], (.seq (.reg [] [⟨(some 4), none, (.mov (.v (.d (.bool false))))⟩]) (.seq (.reg [] [⟨(some 5), none, (.mov (.t 0))⟩, ⟨(some 6), none, (.call (.v (.fn (.func 23) [] [])) [(.t 5)])⟩, ⟨(some 7), none, (.mov (.t 6))⟩, ⟨(some 8), (some (7, true)), (.mov (.t 1))⟩, ⟨(some 9), (some (7, true)), (.bin .geq (.t 8) (.v (.d (.int .i64 0))))⟩, ⟨(some 10), none, (.pick (.t 7) (.t 9) (.v (.d (.bool false))))⟩, ⟨(some 11), none, (.mov (.t 10))⟩, ⟨(some 12), (some (11, true)), (.mov (.t 1))⟩, ⟨(some 13), (some (11, true)), (.bin .lss (.t 12) (.v (.d (.int .i64 16))))⟩, ⟨(some 14), none, (.pick (.t 11) (.t 13) (.v (.d (.bool false))))⟩, ⟨(some 15), none, (.mov (.t 14))⟩, ⟨(some 16), (some (15, true)), (.mov (.t 0))⟩, ⟨(some 17), (some (15, true)), (.mov (.t 1))⟩, ⟨(some 18), (some (15, true)), (.bin .shr (.t 16) (.t 17))⟩, ⟨(some 19), (some (15, true)), (.bin .and (.t 18) (.v (.d (.int .i64 1))))⟩, ⟨(some 20), (some (15, true)), (.bin .eql (.t 19) (.v (.d (.int .i64 1))))⟩, ⟨(some 21), none, (.pick (.t 15) (.t 20) (.v (.d (.bool false))))⟩, ⟨(some 4), none, (.mov (.t 21))⟩]) .ret))⟩
theorem c15 : cAt Tryd.prog 15 = some F15.er := by kernel_rfl
def F17 : CFunc := ⟨2, [(.tmp 0)], (.seq (.reg [] [⟨(some 0), none, (.nsl 9 true 1)⟩]) (.seq (.reg [] [⟨(some 1), none, (.bslice 9 true 1 6 [(.str ⟨#[]⟩)] [(0, (.v (.d (.str ⟨#[102, 114, 97, 109, 101]⟩)))), (1, (.v (.d (.str ⟨#[114, 97, 110, 103, 101]⟩)))), (2, (.v (.d (.str ⟨#[115, 112, 105, 107, 101]⟩)))), (3, (.v (.d (.str ⟨#[115, 116, 117, 99, 107]⟩)))), (4, (.v (.d (.str ⟨#[100, 114, 105, 102, 116]⟩)))), (5, (.v (.d (.str ⟨#[109, 105, 115]⟩))))])⟩, ⟨(some 0), none, (.mov (.t 1))⟩]) .ret))⟩
theorem c17 : cAt Tryd.prog 17 = some F17.er := by kernel_rfl
def S18_0 : C := (.seq1 (.reg [] [⟨(some 7), none, (.mov (.t 0))⟩, ⟨(some 8), none, (.bin .lss (.t 7) (.v (.d (.int .i64 0))))⟩, ⟨(some 9), none, (.mov (.t 8))⟩, ⟨(some 10), (some (9, false)), (.mov (.t 0))⟩, ⟨(some 11), (some (9, false)), (.bin .gtr (.t 10) (.v (.d (.int .i64 65535))))⟩, ⟨(some 12), none, (.pick (.t 9) (.v (.d (.bool true))) (.t 11))⟩, ⟨(some 13), none, (.mov (.t 12))⟩, ⟨(some 14), (some (13, false)), (.mov (.t 1))⟩, ⟨(some 15), (some (13, false)), (.bin .lss (.t 14) (.v (.d (.int .i64 0))))⟩, ⟨(some 16), none, (.pick (.t 13) (.v (.d (.bool true))) (.t 15))⟩, ⟨(some 17), none, (.mov (.t 16))⟩, ⟨(some 18), (some (17, false)), (.mov (.t 1))⟩, ⟨(some 19), (some (17, false)), (.bin .gtr (.t 18) (.v (.d (.int .i64 15))))⟩, ⟨(some 20), none, (.pick (.t 17) (.v (.d (.bool true))) (.t 19))⟩]) (.cond (.t 20) (.seq (.reg [] [⟨(some 4), none, (.mov (.v (.d (.bool false))))⟩]) .ret) .skip))
def L18_1 : C := (.seq (.seq (.reg [] [⟨(some 22), none, (.mov (.t 6))⟩, ⟨(some 23), none, (.mov (.t 1))⟩, ⟨(some 24), none, (.bin .lss (.t 22) (.t 23))⟩]) (.cond (.t 24) .skip (.exit 0))) (.seq (.block 1 (.reg [] [⟨(some 27), none, (.mov (.t 5))⟩, ⟨(some 28), none, (.bin .quo (.t 27) (.v (.d (.int .i64 2))))⟩, ⟨(some 5), none, (.mov (.t 28))⟩])) (.reg [] [⟨(some 25), none, (.mov (.t 6))⟩, ⟨(some 26), none, (.bin .add (.t 25) (.v (.d (.int .i64 1))))⟩, ⟨(some 6), none, (.mov (.t 26))⟩])))
def S18_2 : C := (.seq1 (.reg [] [⟨(some 6), none, (.mov (.v (.d (.int .i64 0))))⟩]) (.block 0 (.loop [1, 5, 6] [5] L18_1)))
def F18 : CFunc := ⟨32, [(.tmp 4)], (.seq (.reg [] [⟨(some 4), none, (.mov (.v (.d (.bool false))))⟩]) (.cut [0, 1] [4] [0, 1] S18_0 (.seq (.reg [] [⟨(some 21), none, (.mov (.t 0))⟩, ⟨(some 5), none, (.mov (.t 21))⟩]) (.cut [1, 5] [] [5] S18_2 (.seq (.reg [] [⟨(some 29), none, (.mov (.t 5))⟩, ⟨(some 30), none, (.bin .rem (.t 29) (.v (.d (.int .i64 2))))⟩, ⟨(some 31), none, (.bin .eql (.t 30) (.v (.d (.int .i64 1))))⟩, ⟨(some 4), none, (.mov (.t 31))⟩]) .ret)))))⟩
theorem c18 : cAt Tryd.prog 18 = some F18.er := by kernel_rfl
def L19_0 : C := (.seq (.reg [] [⟨(some 11), none, (.bin .lss (.t 10) (.t 9))⟩]) (.seq (.cond (.t 11) .skip (.exit 0)) (.seq (.block 1 (.seq (.reg [] [⟨(some 12), none, (.mov (.t 10))⟩, ⟨(some 4), none, (.mov (.t 12))⟩]) (.seq (.reg [] [⟨(some 13), none, (.mov (.t 0))⟩, ⟨(some 14), none, (.mov (.t 4))⟩, ⟨(some 15), none, (.idxA 1 (.t 13) (.t 14))⟩, ⟨(some 16), none, (.load false 1 (.t 15))⟩]) (.cond (.t 16) (.reg [] [⟨(some 17), none, (.mov (.t 3))⟩, ⟨(some 18), none, (.mov (.t 4))⟩, ⟨(some 19), none, (.bin .shl (.v (.d (.int .i64 1))) (.t 18))⟩, ⟨(some 20), none, (.bin .or (.t 17) (.t 19))⟩, ⟨(some 3), none, (.mov (.t 20))⟩]) .skip)))) (.reg [] [⟨(some 21), none, (.bin .add (.t 10) (.v (.d (.int .i64 1))))⟩, ⟨(some 10), none, (.mov (.t 21))⟩]))))
def F19 : CFunc := ⟨23, [(.tmp 2)], (.seq (.reg [] [⟨(some 2), none, (.mov (.v (.d (.int .i64 0))))⟩]) (.seq (.reg [] [⟨(some 3), none, (.mov (.v (.d (.int .i64 0))))⟩]) (.seq (.seq (.reg [] [⟨(some 5), none, (.mov (.t 0))⟩, ⟨(some 6), none, (.len (.t 5))⟩, ⟨(some 7), none, (.bin .gtr (.t 6) (.v (.d (.int .i64 16))))⟩]) (.cond (.t 7) (.seq (.reg [] [⟨(some 2), none, (.mov (.v (.d (.int .i64 0))))⟩]) .ret) .skip)) (.seq (.seq (.reg [] [⟨(some 8), none, (.mov (.t 0))⟩, ⟨(some 9), none, (.len (.t 8))⟩, ⟨(some 10), none, (.mov (.v (.d (.int .i64 0))))⟩]) (.block 0 (.loop [0, 3, 9, 10] [3] L19_0))) (.seq (.reg [] [⟨(some 22), none, (.mov (.t 3))⟩, ⟨(some 2), none, (.mov (.t 22))⟩]) .ret)))))⟩
theorem c19 : cAt Tryd.prog 19 = some F19.er := by kernel_rfl
def L20_0 : C := (.seq (.seq (.reg [] [⟨(some 9), none, (.mov (.t 5))⟩, ⟨(some 10), none, (.mov (.t 0))⟩, ⟨(some 11), none, (.len (.t 10))⟩, ⟨(some 12), none, (.bin .lss (.t 9) (.t 11))⟩]) (.cond (.t 12) .skip (.exit 0))) (.seq (.block 1 (.seq (.seq (.reg [] [⟨(some 15), none, (.mov (.t 0))⟩, ⟨(some 16), none, (.mov (.t 5))⟩, ⟨(some 17), none, (.idxA 1 (.t 15) (.t 16))⟩, ⟨(some 18), none, (.load false 1 (.t 17))⟩]) (.cond (.t 18) (.reg [] [⟨(some 19), none, (.mov (.t 3))⟩, ⟨(some 20), none, (.mov (.t 4))⟩, ⟨(some 21), none, (.bin .add (.t 19) (.t 20))⟩, ⟨(some 3), none, (.mov (.t 21))⟩]) .skip)) (.reg [] [⟨(some 22), none, (.mov (.t 4))⟩, ⟨(some 23), none, (.bin .mul (.v (.d (.int .i64 2))) (.t 22))⟩, ⟨(some 4), none, (.mov (.t 23))⟩]))) (.reg [] [⟨(some 13), none, (.mov (.t 5))⟩, ⟨(some 14), none, (.bin .add (.t 13) (.v (.d (.int .i64 1))))⟩, ⟨(some 5), none, (.mov (.t 14))⟩])))
def F20 : CFunc := ⟨25, [(.tmp 2)], (.seq (.reg [] [⟨(some 2), none, (.mov (.v (.d (.int .i64 0))))⟩]) (.seq (.seq (.reg [] [⟨(some 6), none, (.mov (.t 0))⟩, ⟨(some 7), none, (.len (.t 6))⟩, ⟨(some 8), none, (.bin .gtr (.t 7) (.v (.d (.int .i64 16))))⟩]) (.cond (.t 8) (.seq (.reg [] [⟨(some 2), none, (.mov (.v (.d (.int .i64 0))))⟩]) .ret) .skip)) (.seq (.reg [] [⟨(some 3), none, (.mov (.v (.d (.int .i64 0))))⟩]) (.seq (.reg [] [⟨(some 4), none, (.mov (.v (.d (.int .i64 1))))⟩]) (.seq (.seq (.reg [] [⟨(some 5), none, (.mov (.v (.d (.int .i64 0))))⟩]) (.block 0 (.loop [0, 3, 4, 5] [3] L20_0))) (.seq (.reg [] [⟨(some 24), none, (.mov (.t 3))⟩, ⟨(some 2), none, (.mov (.t 24))⟩]) .ret))))))⟩
theorem c20 : cAt Tryd.prog 20 = some F20.er := by kernel_rfl
def F21 : CFunc := ⟨9, [(.tmp 2)], (.seq (.reg [] [⟨(some 2), none, (.mov (.v (.d (.int .i64 0))))⟩]) (.seq (.seq (.reg [] [⟨(some 3), none, (.mov (.t 0))⟩, ⟨(some 4), none, (.call (.v (.fn (.func 23) [] [])) [(.t 3)])⟩, ⟨(some 5), none, (.unop .not (.t 4))⟩]) (.cond (.t 5) (.seq (.reg [] [⟨(some 2), none, (.mov (.v (.d (.int .i64 0))))⟩]) .ret) .skip)) (.seq (.reg [] [⟨(some 6), none, (.mov (.t 0))⟩, ⟨(some 7), none, (.conv (.int .u64) (.t 6))⟩, ⟨(some 8), none, (.call (.v (.fn (.func 27) [] [])) [(.t 7)])⟩, ⟨(some 2), none, (.mov (.t 8))⟩]) .ret)))⟩
theorem c21 : cAt Tryd.prog 21 = some F21.er := by kernel_rfl
def F23 : CFunc := ⟨9, [(.tmp 2)], (.seq (.reg [] [⟨(some 2), none, (.mov (.v (.d (.bool false))))⟩]) (.seq (.reg [] [⟨(some 3), none, (.mov (.t 0))⟩, ⟨(some 4), none, (.bin .geq (.t 3) (.v (.d (.int .i64 0))))⟩, ⟨(some 5), none, (.mov (.t 4))⟩, ⟨(some 6), (some (5, true)), (.mov (.t 0))⟩, ⟨(some 7), (some (5, true)), (.bin .lss (.t 6) (.v (.d (.int .i64 65536))))⟩, ⟨(some 8), none, (.pick (.t 5) (.t 7) (.v (.d (.bool false))))⟩, ⟨(some 2), none, (.mov (.t 8))⟩]) .ret))⟩
theorem c23 : cAt Tryd.prog 23 = some F23.er := by kernel_rfl
def F27 : CFunc := ⟨8, [(.tmp 2)], (.seq (.reg [] [⟨(some 2), none, (.mov (.v (.d (.int .i64 0))))⟩]) (.seq (.cond (.v (.d (.bool false))) (.seq (.reg [] [⟨(some 3), none, (.mov (.t 0))⟩, ⟨(some 4), none, (.conv (.int .u32) (.t 3))⟩, ⟨(some 5), none, (.call (.v (.fn (.func 33) [] [])) [(.t 4)])⟩, ⟨(some 2), none, (.mov (.t 5))⟩]) .ret) .skip) (.seq (.reg [] [⟨(some 6), none, (.mov (.t 0))⟩, ⟨(some 7), none, (.call (.v (.fn (.func 34) [] [])) [(.t 6)])⟩, ⟨(some 2), none, (.mov (.t 7))⟩]) .ret)))⟩
theorem c27 : cAt Tryd.prog 27 = some F27.er := by kernel_rfl
def F33 : CFunc := ⟨21, [(.tmp 2)], (.seq (.reg [] [⟨(some 2), none, (.mov (.v (.d (.int .i64 0))))⟩]) (.seq (.reg [⟨(some 3), none, (.mov (.t 0))⟩, ⟨(some 4), none, (.bin .shr (.t 3) (.v (.d (.int .u64 24))))⟩, ⟨(some 5), none, (.idxs (.v (.d (.str ⟨#[0, 1, 1, 2, 1, 2, 2, 3, 1, 2, 2, 3, 2, 3, 3, 4, 1, 2, 2, 3, 2, 3, 3, 4, 2, 3, 3, 4, 3, 4, 4, 5, 1, 2, 2, 3, 2, 3, 3, 4, 2, 3, 3, 4, 3, 4, 4, 5, 2, 3, 3, 4, 3, 4, 4, 5, 3, 4, 4, 5, 4, 5, 5, 6, 1, 2, 2, 3, 2, 3, 3, 4, 2, 3, 3, 4, 3, 4, 4, 5, 2, 3, 3, 4, 3, 4, 4, 5, 3, 4, 4, 5, 4, 5, 5, 6, 2, 3, 3, 4, 3, 4, 4, 5, 3, 4, 4, 5, 4, 5, 5, 6, 3, 4, 4, 5, 4, 5, 5, 6, 4, 5, 5, 6, 5, 6, 6, 7, 1, 2, 2, 3, 2, 3, 3, 4, 2, 3, 3, 4, 3, 4, 4, 5, 2, 3, 3, 4, 3, 4, 4, 5, 3, 4, 4, 5, 4, 5, 5, 6, 2, 3, 3, 4, 3, 4, 4, 5, 3, 4, 4, 5, 4, 5, 5, 6, 3, 4, 4, 5, 4, 5, 5, 6, 4, 5, 5, 6, 5, 6, 6, 7, 2, 3, 3, 4, 3, 4, 4, 5, 3, 4, 4, 5, 4, 5, 5, 6, 3, 4, 4, 5, 4, 5, 5, 6, 4, 5, 5, 6, 5, 6, 6, 7, 3, 4, 4, 5, 4, 5, 5, 6, 4, 5, 5, 6, 5, 6, 6, 7, 4, 5, 5, 6, 5, 6, 6, 7, 5, 6, 6, 7, 6, 7, 7, 8]⟩))) (.t 4))⟩, ⟨(some 6), none, (.mov (.t 0))⟩, ⟨(some 7), none, (.bin .shr (.t 6) (.v (.d (.int .u64 16))))⟩, ⟨(some 8), none, (.bin .and (.t 7) (.v (.d (.int .u32 255))))⟩, ⟨(some 9), none, (.idxs (.v (.d (.str ⟨#[0, 1, 1, 2, 1, 2, 2, 3, 1, 2, 2, 3, 2, 3, 3, 4, 1, 2, 2, 3, 2, 3, 3, 4, 2, 3, 3, 4, 3, 4, 4, 5, 1, 2, 2, 3, 2, 3, 3, 4, 2, 3, 3, 4, 3, 4, 4, 5, 2, 3, 3, 4, 3, 4, 4, 5, 3, 4, 4, 5, 4, 5, 5, 6, 1, 2, 2, 3, 2, 3, 3, 4, 2, 3, 3, 4, 3, 4, 4, 5, 2, 3, 3, 4, 3, 4, 4, 5, 3, 4, 4, 5, 4, 5, 5, 6, 2, 3, 3, 4, 3, 4, 4, 5, 3, 4, 4, 5, 4, 5, 5, 6, 3, 4, 4, 5, 4, 5, 5, 6, 4, 5, 5, 6, 5, 6, 6, 7, 1, 2, 2, 3, 2, 3, 3, 4, 2, 3, 3, 4, 3, 4, 4, 5, 2, 3, 3, 4, 3, 4, 4, 5, 3, 4, 4, 5, 4, 5, 5, 6, 2, 3, 3, 4, 3, 4, 4, 5, 3, 4, 4, 5, 4, 5, 5, 6, 3, 4, 4, 5, 4, 5, 5, 6, 4, 5, 5, 6, 5, 6, 6, 7, 2, 3, 3, 4, 3, 4, 4, 5, 3, 4, 4, 5, 4, 5, 5, 6, 3, 4, 4, 5, 4, 5, 5, 6, 4, 5, 5, 6, 5, 6, 6, 7, 3, 4, 4, 5, 4, 5, 5, 6, 4, 5, 5, 6, 5, 6, 6, 7, 4, 5, 5, 6, 5, 6, 6, 7, 5, 6, 6, 7, 6, 7, 7, 8]⟩))) (.t 8))⟩, ⟨(some 10), none, (.bin .add (.t 5) (.t 9))⟩, ⟨(some 11), none, (.mov (.t 0))⟩, ⟨(some 12), none, (.bin .shr (.t 11) (.v (.d (.int .u64 8))))⟩, ⟨(some 13), none, (.bin .and (.t 12) (.v (.d (.int .u32 255))))⟩, ⟨(some 14), none, (.idxs (.v (.d (.str ⟨#[0, 1, 1, 2, 1, 2, 2, 3, 1, 2, 2, 3, 2, 3, 3, 4, 1, 2, 2, 3, 2, 3, 3, 4, 2, 3, 3, 4, 3, 4, 4, 5, 1, 2, 2, 3, 2, 3, 3, 4, 2, 3, 3, 4, 3, 4, 4, 5, 2, 3, 3, 4, 3, 4, 4, 5, 3, 4, 4, 5, 4, 5, 5, 6, 1, 2, 2, 3, 2, 3, 3, 4, 2, 3, 3, 4, 3, 4, 4, 5, 2, 3, 3, 4, 3, 4, 4, 5, 3, 4, 4, 5, 4, 5, 5, 6, 2, 3, 3, 4, 3, 4, 4, 5, 3, 4, 4, 5, 4, 5, 5, 6, 3, 4, 4, 5, 4, 5, 5, 6, 4, 5, 5, 6, 5, 6, 6, 7, 1, 2, 2, 3, 2, 3, 3, 4, 2, 3, 3, 4, 3, 4, 4, 5, 2, 3, 3, 4, 3, 4, 4, 5, 3, 4, 4, 5, 4, 5, 5, 6, 2, 3, 3, 4, 3, 4, 4, 5, 3, 4, 4, 5, 4, 5, 5, 6, 3, 4, 4, 5, 4, 5, 5, 6, 4, 5, 5, 6, 5, 6, 6, 7, 2, 3, 3, 4, 3, 4, 4, 5, 3, 4, 4, 5, 4, 5, 5, 6, 3, 4, 4, 5, 4, 5, 5, 6, 4, 5, 5, 6, 5, 6, 6, 7, 3, 4, 4, 5, 4, 5, 5, 6, 4, 5, 5, 6, 5, 6, 6, 7, 4, 5, 5, 6, 5, 6, 6, 7, 5, 6, 6, 7, 6, 7, 7, 8]⟩))) (.t 13))⟩, ⟨(some 15), none, (.bin .add (.t 10) (.t 14))⟩, ⟨(some 16), none, (.mov (.t 0))⟩, ⟨(some 17), none, (.bin .and (.t 16) (.v (.d (.int .u32 255))))⟩, ⟨(some 18), none, (.idxs (.v (.d (.str ⟨#[0, 1, 1, 2, 1, 2, 2, 3, 1, 2, 2, 3, 2, 3, 3, 4, 1, 2, 2, 3, 2, 3, 3, 4, 2, 3, 3, 4, 3, 4, 4, 5, 1, 2, 2, 3, 2, 3, 3, 4, 2, 3, 3, 4, 3, 4, 4, 5, 2, 3, 3, 4, 3, 4, 4, 5, 3, 4, 4, 5, 4, 5, 5, 6, 1, 2, 2, 3, 2, 3, 3, 4, 2, 3, 3, 4, 3, 4, 4, 5, 2, 3, 3, 4, 3, 4, 4, 5, 3, 4, 4, 5, 4, 5, 5, 6, 2, 3, 3, 4, 3, 4, 4, 5, 3, 4, 4, 5, 4, 5, 5, 6, 3, 4, 4, 5, 4, 5, 5, 6, 4, 5, 5, 6, 5, 6, 6, 7, 1, 2, 2, 3, 2, 3, 3, 4, 2, 3, 3, 4, 3, 4, 4, 5, 2, 3, 3, 4, 3, 4, 4, 5, 3, 4, 4, 5, 4, 5, 5, 6, 2, 3, 3, 4, 3, 4, 4, 5, 3, 4, 4, 5, 4, 5, 5, 6, 3, 4, 4, 5, 4, 5, 5, 6, 4, 5, 5, 6, 5, 6, 6, 7, 2, 3, 3, 4, 3, 4, 4, 5, 3, 4, 4, 5, 4, 5, 5, 6, 3, 4, 4, 5, 4, 5, 5, 6, 4, 5, 5, 6, 5, 6, 6, 7, 3, 4, 4, 5, 4, 5, 5, 6, 4, 5, 5, 6, 5, 6, 6, 7, 4, 5, 5, 6, 5, 6, 6, 7, 5, 6, 6, 7, 6, 7, 7, 8]⟩))) (.t 17))⟩] [⟨(some 19), none, (.bin .add (.t 15) (.t 18))⟩, ⟨(some 20), none, (.conv (.int .i64) (.t 19))⟩, ⟨(some 2), none, (.mov (.t 20))⟩]) .ret))⟩
theorem c33 : cAt Tryd.prog 33 = some F33.er := by kernel_rfl
def F34 : CFunc := ⟨35, [(.tmp 2)], (.seq (.reg [] [⟨(some 2), none, (.mov (.v (.d (.int .i64 0))))⟩]) (.seq (.reg [] [⟨(some 3), none, (.mov (.t 0))⟩, ⟨(some 4), none, (.bin .shr (.t 3) (.v (.d (.int .u64 1))))⟩, ⟨(some 5), none, (.bin .and (.t 4) (.v (.d (.int .u64 6148914691236517205))))⟩, ⟨(some 6), none, (.mov (.t 0))⟩, ⟨(some 7), none, (.bin .and (.t 6) (.v (.d (.int .u64 6148914691236517205))))⟩, ⟨(some 8), none, (.bin .add (.t 5) (.t 7))⟩, ⟨(some 0), none, (.mov (.t 8))⟩]) (.seq (.reg [] [⟨(some 9), none, (.mov (.t 0))⟩, ⟨(some 10), none, (.bin .shr (.t 9) (.v (.d (.int .u64 2))))⟩, ⟨(some 11), none, (.bin .and (.t 10) (.v (.d (.int .u64 3689348814741910323))))⟩, ⟨(some 12), none, (.mov (.t 0))⟩, ⟨(some 13), none, (.bin .and (.t 12) (.v (.d (.int .u64 3689348814741910323))))⟩, ⟨(some 14), none, (.bin .add (.t 11) (.t 13))⟩, ⟨(some 0), none, (.mov (.t 14))⟩]) (.seq (.reg [] [⟨(some 15), none, (.mov (.t 0))⟩, ⟨(some 16), none, (.bin .shr (.t 15) (.v (.d (.int .u64 4))))⟩, ⟨(some 17), none, (.mov (.t 0))⟩, ⟨(some 18), none, (.bin .add (.t 16) (.t 17))⟩, ⟨(some 19), none, (.bin .and (.t 18) (.v (.d (.int .u64 1085102592571150095))))⟩, ⟨(some 0), none, (.mov (.t 19))⟩]) (.seq (.reg [] [⟨(some 20), none, (.mov (.t 0))⟩, ⟨(some 21), none, (.mov (.t 0))⟩, ⟨(some 22), none, (.bin .shr (.t 21) (.v (.d (.int .u64 8))))⟩, ⟨(some 23), none, (.bin .add (.t 20) (.t 22))⟩, ⟨(some 0), none, (.mov (.t 23))⟩]) (.seq (.reg [] [⟨(some 24), none, (.mov (.t 0))⟩, ⟨(some 25), none, (.mov (.t 0))⟩, ⟨(some 26), none, (.bin .shr (.t 25) (.v (.d (.int .u64 16))))⟩, ⟨(some 27), none, (.bin .add (.t 24) (.t 26))⟩, ⟨(some 0), none, (.mov (.t 27))⟩]) (.seq (.reg [] [⟨(some 28), none, (.mov (.t 0))⟩, ⟨(some 29), none, (.mov (.t 0))⟩, ⟨(some 30), none, (.bin .shr (.t 29) (.v (.d (.int .u64 32))))⟩, ⟨(some 31), none, (.bin .add (.t 28) (.t 30))⟩, ⟨(some 0), none, (.mov (.t 31))⟩]) (.seq (.reg [] [⟨(some 32), none, (.mov (.t 0))⟩, ⟨(some 33), none, (.conv (.int .i64) (.t 32))⟩, ⟨(some 34), none, (.bin .and (.t 33) (.v (.d (.int .i64 127))))⟩, ⟨(some 2), none, (.mov (.t 34))⟩]) .ret))))))))⟩
theorem c34 : cAt Tryd.prog 34 = some F34.er := by kernel_rfl
def cfT : List (Nat × CFunc) := [(3, F3), (5, F5), (6, F6), (7, F7), (8, F8), (9, F9), (10, F10), (11, F11), (12, F12), (13, F13), (15, F15), (17, F17), (18, F18), (19, F19), (20, F20), (21, F21), (23, F23), (27, F27), (33, F33), (34, F34)]
def lookT : List (Nat × CFunc) → Nat → Option CFunc
  | [], _ => none
  | (i, F) :: r, j => match Nat.beq j i with | true => some F | false => lookT r j
def extT : List (FuncId × XK) := [(16, .join), (14, .split 9 1)]
def gl0_0 : ByteArray := ⟨#[102, 114, 97, 109, 101]⟩
def gl0_1 : ByteArray := ⟨#[114, 97, 110, 103, 101]⟩
def gl0_2 : ByteArray := ⟨#[115, 112, 105, 107, 101]⟩
def gl0_3 : ByteArray := ⟨#[115, 116, 117, 99, 107]⟩
def gl0_4 : ByteArray := ⟨#[100, 114, 105, 102, 116]⟩
def gl0_5 : ByteArray := ⟨#[109, 105, 115]⟩
def gls0 : List ByteArray := [gl0_0, gl0_1, gl0_2, gl0_3, gl0_4, gl0_5]
def E0 : Env := { cf := lookT cfT, ext := extOf extT, gl := fun g => match Nat.beq g 0 with | true => some [.str gl0_0, .str gl0_1, .str gl0_2, .str gl0_3, .str gl0_4, .str gl0_5] | false => none, del := fun _ => false, ref := fun _ => false, gw := [(1, isInt)] }
theorem lookT_ok : ∀ (l : List (Nat × CFunc)), (∀ p, p ∈ l → cAt Tryd.prog p.1 = some p.2.er) → ∀ f F, lookT l f = some F → cAt Tryd.prog f = some F.er
  | [], _, f, F, h => by simp [lookT] at h
  | (i, G) :: r, hl, f, F, h => by
    simp only [lookT] at h
    split at h
    · rename_i hb
      cases h
      rw [Nat.eq_of_beq_eq_true hb]
      exact hl (i, _) (List.mem_cons_self ..)
    · exact lookT_ok r (fun p hp => hl p (by simp [hp])) f F h
theorem cfT_ok : ∀ p, p ∈ cfT → cAt Tryd.prog p.1 = some p.2.er := by
  unfold cfT
  simp only [List.forall_mem_cons]
  exact ⟨c3, c5, c6, c7, c8, c9, c10, c11, c12, c13, c15, c17, c18, c19, c20, c21, c23, c27, c33, c34, fun p h => by simp at h⟩
theorem e0_ext {f : FuncId} (h : lookX extT f = none) : ∀ a m, E0.ext f a m = none := ext_none h
theorem e0_cf : ∀ f F, E0.cf f = some F → cAt Tryd.prog f = some F.er := lookT_ok cfT cfT_ok
theorem w3 {args : List V} {m : Mem} (os : List (A E0)) {r : List V × Mem} (h : walkF E0 F3 args m os = some (r, want os)) : cl E0 3 args m = some r := cl_walk (e0_ext (by kernel_rfl)) (by kernel_rfl) (by decide) os h
theorem w6 {args : List V} {m : Mem} (os : List (A E0)) {r : List V × Mem} (h : walkF E0 F6 args m os = some (r, want os)) : cl E0 6 args m = some r := cl_walk (e0_ext (by kernel_rfl)) (by kernel_rfl) (by decide) os h
theorem w7 {args : List V} {m : Mem} (os : List (A E0)) {r : List V × Mem} (h : walkF E0 F7 args m os = some (r, want os)) : cl E0 7 args m = some r := cl_walk (e0_ext (by kernel_rfl)) (by kernel_rfl) (by decide) os h
theorem w8 {args : List V} {m : Mem} (os : List (A E0)) {r : List V × Mem} (h : walkF E0 F8 args m os = some (r, want os)) : cl E0 8 args m = some r := cl_walk (e0_ext (by kernel_rfl)) (by kernel_rfl) (by decide) os h
theorem w9 {args : List V} {m : Mem} (os : List (A E0)) {r : List V × Mem} (h : walkF E0 F9 args m os = some (r, want os)) : cl E0 9 args m = some r := cl_walk (e0_ext (by kernel_rfl)) (by kernel_rfl) (by decide) os h
theorem w10 {args : List V} {m : Mem} (os : List (A E0)) {r : List V × Mem} (h : walkF E0 F10 args m os = some (r, want os)) : cl E0 10 args m = some r := cl_walk (e0_ext (by kernel_rfl)) (by kernel_rfl) (by decide) os h
theorem w11 {args : List V} {m : Mem} (os : List (A E0)) {r : List V × Mem} (h : walkF E0 F11 args m os = some (r, want os)) : cl E0 11 args m = some r := cl_walk (e0_ext (by kernel_rfl)) (by kernel_rfl) (by decide) os h
theorem w12 {args : List V} {m : Mem} (os : List (A E0)) {r : List V × Mem} (h : walkF E0 F12 args m os = some (r, want os)) : cl E0 12 args m = some r := cl_walk (e0_ext (by kernel_rfl)) (by kernel_rfl) (by decide) os h
theorem w13 {args : List V} {m : Mem} (os : List (A E0)) {r : List V × Mem} (h : walkF E0 F13 args m os = some (r, want os)) : cl E0 13 args m = some r := cl_walk (e0_ext (by kernel_rfl)) (by kernel_rfl) (by decide) os h
theorem w15 {args : List V} {m : Mem} (os : List (A E0)) {r : List V × Mem} (h : walkF E0 F15 args m os = some (r, want os)) : cl E0 15 args m = some r := cl_walk (e0_ext (by kernel_rfl)) (by kernel_rfl) (by decide) os h
theorem w17 {args : List V} {m : Mem} (os : List (A E0)) {r : List V × Mem} (h : walkF E0 F17 args m os = some (r, want os)) : cl E0 17 args m = some r := cl_walk (e0_ext (by kernel_rfl)) (by kernel_rfl) (by decide) os h
theorem w18 {args : List V} {m : Mem} (os : List (A E0)) {r : List V × Mem} (h : walkF E0 F18 args m os = some (r, want os)) : cl E0 18 args m = some r := cl_walk (e0_ext (by kernel_rfl)) (by kernel_rfl) (by decide) os h
theorem w19 {args : List V} {m : Mem} (os : List (A E0)) {r : List V × Mem} (h : walkF E0 F19 args m os = some (r, want os)) : cl E0 19 args m = some r := cl_walk (e0_ext (by kernel_rfl)) (by kernel_rfl) (by decide) os h
theorem w20 {args : List V} {m : Mem} (os : List (A E0)) {r : List V × Mem} (h : walkF E0 F20 args m os = some (r, want os)) : cl E0 20 args m = some r := cl_walk (e0_ext (by kernel_rfl)) (by kernel_rfl) (by decide) os h
theorem w21 {args : List V} {m : Mem} (os : List (A E0)) {r : List V × Mem} (h : walkF E0 F21 args m os = some (r, want os)) : cl E0 21 args m = some r := cl_walk (e0_ext (by kernel_rfl)) (by kernel_rfl) (by decide) os h
theorem w23 {args : List V} {m : Mem} (os : List (A E0)) {r : List V × Mem} (h : walkF E0 F23 args m os = some (r, want os)) : cl E0 23 args m = some r := cl_walk (e0_ext (by kernel_rfl)) (by kernel_rfl) (by decide) os h
theorem w27 {args : List V} {m : Mem} (os : List (A E0)) {r : List V × Mem} (h : walkF E0 F27 args m os = some (r, want os)) : cl E0 27 args m = some r := cl_walk (e0_ext (by kernel_rfl)) (by kernel_rfl) (by decide) os h
theorem w34 {args : List V} {m : Mem} (os : List (A E0)) {r : List V × Mem} (h : walkF E0 F34 args m os = some (r, want os)) : cl E0 34 args m = some r := cl_walk (e0_ext (by kernel_rfl)) (by kernel_rfl) (by decide) os h
theorem e0_del : ∀ f, E0.del f = true → DelOK Tryd.prog f := fun f h => by cases h
open Go.Shelf
def rhoJ : Shelf.Ren := ⟨fun x => match x with | 156 => 16 | 165 => 24 | 166 => 25 | 169 => 26 | 240 => 31 | 241 => 32 | 276 => 39 | 277 => 40 | n => n,
  fun x => match x with | 31 => 36 | 9 => 9 | 3 => 3 | 4 => 4 | 0 => 0 | 20 => 20 | 72 => 47 | 76 => 51 | 70 => 44 | 37 => 45 | 75 => 50 | 127 => 58 | 164 => 67 | 5 => 5 | 80 => 53 | n => n,
  fun x => match x with | n => n⟩
theorem laysJ : Lays.n156 Tryd.prog rhoJ := by
  constructor <;> first | kernel_rfl | (intro w; kernel_rfl) | decide | (constructor <;> first | kernel_rfl | (intro w; kernel_rfl) | decide | (constructor <;> first | kernel_rfl | (intro w; kernel_rfl) | decide))
theorem extraJ : Builder.Extra Tryd.prog rhoJ := by
  constructor <;> first | kernel_rfl | (intro w; kernel_rfl) | decide | (constructor <;> first | kernel_rfl | (intro w; kernel_rfl) | decide | (constructor <;> first | kernel_rfl | (intro w; kernel_rfl) | decide))
theorem xok16 : XOK Tryd.prog 16 .join := ⟨by decide, ⟨_, rfl, by kernel_rfl, by kernel_rfl⟩, joinOK_of laysJ extraJ rfl⟩
open Go.Shelf
def rhoS : Shelf.Ren := ⟨fun x => match x with | 146 => 14 | 221 => 22 | 268 => 28 | 138 => 29 | 143 => 30 | 195 => 35 | 197 => 36 | 218 => 37 | 219 => 38 | 260 => 41 | 217 => 42 | 225 => 43 | 224 => 44 | 267 => 45 | 266 => 46 | 314 => 47 | n => n,
  fun x => match x with | 9 => 9 | 31 => 36 | 3 => 3 | 4 => 4 | 0 => 0 | 105 => 64 | 21 => 21 | 5 => 5 | 46 => 55 | 119 => 70 | 139 => 73 | 138 => 72 | 146 => 74 | 51 => 60 | n => n,
  fun x => match x with | 1 => 1 | 3 => 2 | 4 => 3 | n => n⟩
theorem laysS : Lays.n146 Tryd.prog rhoS := by
  constructor <;> first | kernel_rfl | (intro w; kernel_rfl) | decide | (constructor <;> first | kernel_rfl | (intro w; kernel_rfl) | decide | (constructor <;> first | kernel_rfl | (intro w; kernel_rfl) | decide))
theorem xok14 : XOK Tryd.prog 14 (.split 9 1) := ⟨by decide, ⟨_, rfl, by kernel_rfl, by kernel_rfl⟩, splitOK_of laysS (by kernel_rfl) rfl rfl rfl⟩
theorem e0_x : ∀ p, p ∈ extT → XOK Tryd.prog p.1 p.2 := by
  unfold extT
  simp only [List.forall_mem_cons]
  exact ⟨xok16, xok14, fun p h => by simp at h⟩
theorem e0_w : ∀ p, p ∈ extT → p.2.told E0.gw := by
  unfold extT
  simp only [List.forall_mem_cons]
  exact ⟨by first | exact trivial | simp [XK.told, E0], by first | exact trivial | simp [XK.told, E0], fun p h => by simp at h⟩
end Go.Proofs.YtlenjioebdmooaaDoor.Den

namespace Go.Proofs.YtlenjioebdmooaaDoor.Den
open Go
set_option linter.unusedVariables false
set_option linter.unusedSimpArgs false
set_option linter.unusedSectionVars false
section
variable {α : Type} [Inhabited α]
variable {E : Env} {c : CallT} {t : Nat → V} {m : Mem}
end
end Go.Proofs.YtlenjioebdmooaaDoor.Den

namespace Go.Proofs.YtlenjioebdmooaaDoor.Den
open Go Go.Proofs
set_option maxRecDepth 100000
set_option maxHeartbeats 4000000
set_option linter.unusedVariables false
set_option linter.unusedSimpArgs false
end Go.Proofs.YtlenjioebdmooaaDoor.Den

namespace Go.Proofs.YtlenjioebdmooaaDoor.Den
open Go Go.Proofs
set_option maxRecDepth 100000
set_option maxHeartbeats 4000000
set_option linter.unusedVariables false
set_option linter.unusedSimpArgs false
def strings_Split_ss_c0 (x0 : ByteArray) (x1 : ByteArray) : Bool := (Nat.beq x1.data.toList.length 1 && Nat.blt x0.size 4294967281)
theorem strings_Split_ss_t0 (x0 : ByteArray) (x1 : ByteArray) (h : strings_Split_ss_c0 x0 x1 = true) : cl E0 14 [(V.d (.str x0)), (V.d (.str x1))] [] = some ([(V.so false 0 ((splitT (headB x1) x0).length))], [(Blk.flat 9 1 (List.map encS (splitT (headB x1) x0)) false)]) := x_split1 (l := extT) (f := 14) (s := x0) (sep := x1) (e := 9) (g := 1) ⟨⟨rfl, by kernel_rfl⟩, by decide⟩ h
def strings_Join_os_c0 (x0 : Bool) (x1 : List ByteArray) (x2 : ByteArray) : Bool := joinOK x1 x2
theorem strings_Join_os_t0 (x0 : Bool) (x1 : List ByteArray) (x2 : ByteArray) (h : strings_Join_os_c0 x0 x1 x2 = true) : cl E0 16 [(V.d (slD encS true 1 x0 x1)), (V.d (.str x2))] [] = some ([(V.d (.str (joinB x1 x2)))], []) := x_join (l := extT) (f := 16) (m := []) (n := x0) (fl := true) (t := x1) (sep := x2) ⟨⟨rfl, by kernel_rfl⟩, by decide⟩ h
end Go.Proofs.YtlenjioebdmooaaDoor.Den

namespace Go.Proofs.YtlenjioebdmooaaDoor.Den
open Go Go.Proofs
set_option maxRecDepth 100000
set_option maxHeartbeats 4000000
set_option linter.unusedVariables false
set_option linter.unusedSimpArgs false
def math_bits_OnesCount64_i_e0 (x0 : Int) : Int := IntKind.u64.wrap ((andI .u64 (shrI .u64 x0 1) 6148914691236517205) + (andI .u64 x0 6148914691236517205))
def math_bits_OnesCount64_i_e1 (x0 : Int) : Int := andI .u64 (shrI .u64 (math_bits_OnesCount64_i_e0 x0) 2) 3689348814741910323
def math_bits_OnesCount64_i_e2 (x0 : Int) : Int := andI .u64 (math_bits_OnesCount64_i_e0 x0) 3689348814741910323
def math_bits_OnesCount64_i_e3 (x0 : Int) : Int := IntKind.u64.wrap ((math_bits_OnesCount64_i_e1 x0) + (math_bits_OnesCount64_i_e2 x0))
def math_bits_OnesCount64_i_e4 (x0 : Int) : Int := IntKind.u64.wrap ((shrI .u64 (math_bits_OnesCount64_i_e3 x0) 4) + (math_bits_OnesCount64_i_e3 x0))
def math_bits_OnesCount64_i_e5 (x0 : Int) : Int := andI .u64 (math_bits_OnesCount64_i_e4 x0) 1085102592571150095
def math_bits_OnesCount64_i_e6 (x0 : Int) : Int := IntKind.u64.wrap ((math_bits_OnesCount64_i_e5 x0) + (shrI .u64 (math_bits_OnesCount64_i_e5 x0) 8))
def math_bits_OnesCount64_i_e7 (x0 : Int) : Int := IntKind.u64.wrap ((math_bits_OnesCount64_i_e6 x0) + (shrI .u64 (math_bits_OnesCount64_i_e6 x0) 16))
def math_bits_OnesCount64_i_e8 (x0 : Int) : Int := IntKind.u64.wrap ((math_bits_OnesCount64_i_e7 x0) + (shrI .u64 (math_bits_OnesCount64_i_e7 x0) 32))
theorem math_bits_OnesCount64_i_t0 (x0 : Int) : cl E0 34 [(V.d (.int .u64 x0))] [] = some ([(V.d (.int .i64 (andI .i64 (wi ((math_bits_OnesCount64_i_e8 x0))) 127)))], []) := by
  exact w34 [.o 4 (fun _ => o_shr (k := .u64) (k2 := .u64) (x := x0) (y := 1) rfl), .o 10 (fun _ => o_shr (k := .u64) (k2 := .u64) (x := (math_bits_OnesCount64_i_e0 x0)) (y := 2) rfl), .o 16 (fun _ => o_shr (k := .u64) (k2 := .u64) (x := (math_bits_OnesCount64_i_e3 x0)) (y := 4) rfl), .o 22 (fun _ => o_shr (k := .u64) (k2 := .u64) (x := (math_bits_OnesCount64_i_e5 x0)) (y := 8) rfl), .o 26 (fun _ => o_shr (k := .u64) (k2 := .u64) (x := (math_bits_OnesCount64_i_e6 x0)) (y := 16) rfl), .o 30 (fun _ => o_shr (k := .u64) (k2 := .u64) (x := (math_bits_OnesCount64_i_e7 x0)) (y := 32) rfl)] (by kernel_rfl)
theorem math_bits_OnesCount_i_t0 (x0 : Int) : cl E0 27 [(V.d (.int .u64 x0))] [] = some ([(V.d (.int .i64 (andI .i64 (wi ((math_bits_OnesCount64_i_e8 x0))) 127)))], []) := by
  exact w27 [.c (math_bits_OnesCount64_i_t0 x0)] (by kernel_rfl)
end Go.Proofs.YtlenjioebdmooaaDoor.Den

namespace Go.Proofs.YtlenjioebdmooaaDoor.Den
open Go Go.Proofs
set_option maxRecDepth 100000
set_option maxHeartbeats 4000000
set_option linter.unusedVariables false
set_option linter.unusedSimpArgs false
def fix_right_i_r0_0 (x0 : Int) : Bool := (bif tb (decide (0 ≤ x0)) then (decide (x0 < 65536)) else false)
theorem fix_right_i_t0 (x0 : Int) : cl E0 23 [(V.d (.int .i64 x0))] [] = some ([(V.d (.bool (fix_right_i_r0_0 x0)))], []) := by
  unfold fix_right_i_r0_0
  cases h1 : tb (decide (0 ≤ x0))
  · exact w23 [.b (tbE h1)] (by kernel_rfl)
  · exact w23 [.b (tbE h1)] (by kernel_rfl)
def fix_Has_ii_r0_0 (x0 : Int) (x1 : Int) : Bool := (bif tb (fix_right_i_r0_0 x0) then (bif tb (decide (0 ≤ x1)) then (bif tb (decide (x1 < 16)) then (((andI .i64 (shrI .i64 x0 x1) 1) : Int) == 1) else false) else false) else false)
theorem fix_Has_ii_t0 (x0 : Int) (x1 : Int) : cl E0 15 [(V.d (.int .i64 x0)), (V.d (.int .i64 x1))] [] = some ([(V.d (.bool (fix_Has_ii_r0_0 x0 x1)))], []) := by
  unfold fix_Has_ii_r0_0
  cases h1 : tb (fix_right_i_r0_0 x0)
  · exact w15 [.c (fix_right_i_t0 x0), .b (tbE h1)] (by kernel_rfl)
  · cases h2 : tb (decide (0 ≤ x1))
    · exact w15 [.c (fix_right_i_t0 x0), .b (tbE h1), .b (tbE h2)] (by kernel_rfl)
    · cases h3 : tb (decide (x1 < 16))
      · exact w15 [.c (fix_right_i_t0 x0), .b (tbE h1), .b (tbE h2), .b (tbE h3)] (by kernel_rfl)
      · exact w15 [.c (fix_right_i_t0 x0), .b (tbE h1), .b (tbE h2), .b (tbE h3), .o 18 (fun _ => o_shr (k := .i64) (k2 := .i64) (x := x0) (y := x1) (tbE h2))] (by kernel_rfl)
structure fix_Bits_o_L0_s0 where
  c2 : Int
  c4 : Int
  deriving Inhabited
def fix_Bits_o_L0_enc (x0 : Bool) (x1 : List Bool) (x2 : Int) (x3 : Int) (x4 : Int) (s0 : fix_Bits_o_L0_s0) : List V × Mem := ([(V.d (slD encB true 1 x0 x1)), (V.d (.int .i64 s0.c2)), (V.d (.int .i64 x3)), (V.d (.int .i64 s0.c4))], [])
def fix_Bits_o_L0_sel (x1 : List Bool) (x3 : Int) (s0 : fix_Bits_o_L0_s0) : Bool := (bif tb (decide (s0.c4 < x3)) then (bif tb (inb x1.length s0.c4) then (bif tb (gt x1 s0.c4) then (bif tb (decide (0 ≤ s0.c4)) then true else false) else true) else false) else false)
def fix_Bits_o_L0_nx (x1 : List Bool) (x3 : Int) (s0 : fix_Bits_o_L0_s0) : fix_Bits_o_L0_s0 := (bif tb (gt x1 s0.c4) then ⟨(orI .i64 s0.c2 (shlI .i64 1 s0.c4)), (wi (s0.c4 + 1))⟩ else ⟨s0.c2, (wi (s0.c4 + 1))⟩)
def fix_Bits_o_L0_ok (x1 : List Bool) (x3 : Int) (s0 : fix_Bits_o_L0_s0) : Bool := (itS (fix_Bits_o_L0_sel x1 x3) (fix_Bits_o_L0_nx x1 x3) bound s0).isSome
def fix_Bits_o_L0_end (x1 : List Bool) (x3 : Int) (s0 : fix_Bits_o_L0_s0) : fix_Bits_o_L0_s0 := (itS (fix_Bits_o_L0_sel x1 x3) (fix_Bits_o_L0_nx x1 x3) bound s0).getD default
theorem fix_Bits_o_L0_go (x0 : Bool) (x1 : List Bool) (x2 : Int) (x3 : Int) (x4 : Int) (s0 : fix_Bits_o_L0_s0) : fix_Bits_o_L0_sel x1 x3 s0 = true → (roundG (runC E0 (cl E0) L19_0) [0, 3, 9, 10] [3] 0) (fix_Bits_o_L0_enc x0 x1 x2 x3 x4 s0) = some (.normal, fix_Bits_o_L0_enc x0 x1 x2 x3 x4 (fix_Bits_o_L0_nx x1 x3 s0)) := by
  unfold fix_Bits_o_L0_sel fix_Bits_o_L0_nx
  cases h1 : tb (decide (s0.c4 < x3))
  · intro g0
    exact absurd g0 ft
  · cases h2 : tb (inb x1.length s0.c4)
    · intro g0
      exact absurd g0 ft
    · cases h3 : tb (gt x1 s0.c4)
      · intro _
        exact round_walk [.b (tbE h1), .o 15 (fun _ => o_idx_os (enc := encB) (l := x1) (fl := true) (n := x0) (s := 1) (k := .i64) (tbE h2)), .b (tbE h3)] (by kernel_rfl)
      · cases h4 : tb (decide (0 ≤ s0.c4))
        · intro g0
          exact absurd g0 ft
        · intro _
          exact round_walk [.b (tbE h1), .o 15 (fun _ => o_idx_os (enc := encB) (l := x1) (fl := true) (n := x0) (s := 1) (k := .i64) (tbE h2)), .b (tbE h3), .o 19 (fun _ => o_shl (k := .i64) (k2 := .i64) (x := 1) (y := s0.c4) (tbE h4))] (by kernel_rfl)
def fix_Bits_o_L0_c0 (x3 : Int) (s0 : fix_Bits_o_L0_s0) : Bool := (bif tb (decide (s0.c4 < x3)) then false else true)
theorem fix_Bits_o_L0_x0 (x0 : Bool) (x1 : List Bool) (x2 : Int) (x3 : Int) (x4 : Int) (s0 : fix_Bits_o_L0_s0) : fix_Bits_o_L0_sel x1 x3 s0 = false → fix_Bits_o_L0_c0 x3 s0 = true → (roundG (runC E0 (cl E0) L19_0) [0, 3, 9, 10] [3] 0) (fix_Bits_o_L0_enc x0 x1 x2 x3 x4 s0) = some ((.exit 0), ([(V.d (.int .i64 s0.c2))], [])) := by
  unfold fix_Bits_o_L0_sel fix_Bits_o_L0_c0
  cases h1 : tb (decide (s0.c4 < x3))
  · intro g0 g1
    exact round_walk [.b (tbE h1)] (by kernel_rfl)
  · cases h2 : tb (inb x1.length s0.c4)
    · intro g0 g1
      exact absurd g1 ft
    · cases h3 : tb (gt x1 s0.c4)
      · intro g0 g1
        exact absurd g0 tf
      · cases h4 : tb (decide (0 ≤ s0.c4))
        · intro g0 g1
          exact absurd g1 ft
        · intro g0 g1
          exact absurd g0 tf
theorem fix_Bits_o_L0_f0_0 (x0 : Bool) (x1 : List Bool) (x2 : Int) (x3 : Int) (x4 : Int) (s : fix_Bits_o_L0_s0) (hok : fix_Bits_o_L0_ok x1 x3 s = true) (c0 : fix_Bits_o_L0_c0 x3 (fix_Bits_o_L0_end x1 x3 s) = true) : loopG (roundG (runC E0 (cl E0) L19_0) [0, 3, 9, 10] [3] 0) bound (fix_Bits_o_L0_enc x0 x1 x2 x3 x4 s) = some ((.exit 0), ([(V.d (.int .i64 ((fix_Bits_o_L0_end x1 x3 s).c2)))], [])) := by
  have e : itS (fix_Bits_o_L0_sel x1 x3) (fix_Bits_o_L0_nx x1 x3) bound s = some (fix_Bits_o_L0_end x1 x3 s) := itS_get hok
  have f := itS_false e
  exact loop_it (fix_Bits_o_L0_go x0 x1 x2 x3 x4) bound s _ _ _ e (fun h => by cases h) (fix_Bits_o_L0_x0 x0 x1 x2 x3 x4 (fix_Bits_o_L0_end x1 x3 s) f c0)
def fix_Bits_o_e0 (x1 : List Bool) : fix_Bits_o_L0_s0 := fix_Bits_o_L0_end x1 ((x1.length : Nat) : Int) (⟨0, 0⟩ : fix_Bits_o_L0_s0)
def fix_Bits_o_c0 (x1 : List Bool) : Bool := (bif tb (decide (16 < ((x1.length : Nat) : Int))) then true else (bif tb (fix_Bits_o_L0_ok x1 ((x1.length : Nat) : Int) (⟨0, 0⟩ : fix_Bits_o_L0_s0)) then (bif tb (fix_Bits_o_L0_c0 ((x1.length : Nat) : Int) (fix_Bits_o_e0 x1)) then true else false) else false))
def fix_Bits_o_r0_0 (x1 : List Bool) : Int := (bif tb (decide (16 < ((x1.length : Nat) : Int))) then 0 else ((fix_Bits_o_e0 x1).c2))
theorem fix_Bits_o_t0 (x0 : Bool) (x1 : List Bool) : fix_Bits_o_c0 x1 = true → cl E0 19 [(V.d (slD encB true 1 x0 x1))] [] = some ([(V.d (.int .i64 (fix_Bits_o_r0_0 x1)))], []) := by
  unfold fix_Bits_o_c0 fix_Bits_o_r0_0
  cases h1 : tb (decide (16 < ((x1.length : Nat) : Int)))
  · cases h2 : tb (fix_Bits_o_L0_ok x1 ((x1.length : Nat) : Int) (⟨0, 0⟩ : fix_Bits_o_L0_s0))
    · intro g0
      exact absurd g0 ft
    · cases h3 : tb (fix_Bits_o_L0_c0 ((x1.length : Nat) : Int) (fix_Bits_o_e0 x1))
      · intro g0
        exact absurd g0 ft
      · intro g0
        exact w19 [.o 6 (fun _ => o_len_os (enc := encB) (l := x1) (fl := true) (n := x0) (s := 1)), .b (tbE h1), .o 9 (fun _ => o_len_os (enc := encB) (l := x1) (fl := true) (n := x0) (s := 1)), .l (fix_Bits_o_L0_f0_0 x0 x1 0 ((x1.length : Nat) : Int) 0 (⟨0, 0⟩ : fix_Bits_o_L0_s0) (tbE h2) (tbE h3))] (by kernel_rfl)
  · intro g0
    exact w19 [.o 6 (fun _ => o_len_os (enc := encB) (l := x1) (fl := true) (n := x0) (s := 1)), .b (tbE h1)] (by kernel_rfl)
def fix_Count_i_r0_0 (x0 : Int) : Int := (bif tb (fix_right_i_r0_0 x0) then (andI .i64 (wi ((math_bits_OnesCount64_i_e8 (IntKind.u64.wrap (x0))))) 127) else 0)
theorem fix_Count_i_t0 (x0 : Int) : cl E0 21 [(V.d (.int .i64 x0))] [] = some ([(V.d (.int .i64 (fix_Count_i_r0_0 x0)))], []) := by
  unfold fix_Count_i_r0_0
  cases h1 : tb (fix_right_i_r0_0 x0)
  · exact w21 [.c (fix_right_i_t0 x0), .b (notF (tbE h1))] (by kernel_rfl)
  · exact w21 [.c (fix_right_i_t0 x0), .b (notT (tbE h1)), .c (math_bits_OnesCount_i_t0 (IntKind.u64.wrap (x0)))] (by kernel_rfl)
end Go.Proofs.YtlenjioebdmooaaDoor.Den

namespace Go.Proofs.YtlenjioebdmooaaDoor.Den
open Go Go.Proofs
set_option maxRecDepth 100000
set_option maxHeartbeats 4000000
set_option linter.unusedVariables false
set_option linter.unusedSimpArgs false
structure trip_Parse_s_L0_s0 where
  c7 : Int
  deriving Inhabited
def trip_Parse_s_L0_h0_e0 (x8 : List ByteArray) (s0 : trip_Parse_s_L0_s0) : ByteArray := gt ([gt x8 0, gt x8 1, gt x8 2, gt x8 3, gt x8 4, gt x8 5] : List ByteArray) s0.c7
def trip_Parse_s_L0_enc (x0 : List ByteArray) (x1 : Bool) (x2 : ByteArray) (x3 : Int) (x4 : ByteArray) (x5 : Bool) (x6 : Int) (x7 : Int) (x8 : List ByteArray) (x9 : Int) (s0 : trip_Parse_s_L0_s0) : List V × Mem := ([(V.d (.str x2)), (V.d (.int .i64 x3)), (V.d (.str x4)), (V.so x5 0 x0.length), (V.d (.int .i64 x6)), (V.d (.int .i64 x7)), (V.agg [(V.d (.str (gt x8 0))), (V.d (.str (gt x8 1))), (V.d (.str (gt x8 2))), (V.d (.str (gt x8 3))), (V.d (.str (gt x8 4))), (V.d (.str (gt x8 5)))]), (V.d (.int .i64 s0.c7))], [(Blk.flat 9 1 (List.map encS x0) x1)])
def trip_Parse_s_L0_sel (x4 : ByteArray) (x8 : List ByteArray) (s0 : trip_Parse_s_L0_s0) : Bool := (bif tb (decide (s0.c7 < 6)) then (bif tb (inb 6 s0.c7) then (bif tb ((trip_Parse_s_L0_h0_e0 x8 s0).toList == x4.toList) then false else true) else false) else false)
def trip_Parse_s_L0_nx (x4 : ByteArray) (x8 : List ByteArray) (s0 : trip_Parse_s_L0_s0) : trip_Parse_s_L0_s0 := ⟨(wi (s0.c7 + 1))⟩
def trip_Parse_s_L0_ok (x4 : ByteArray) (x8 : List ByteArray) (s0 : trip_Parse_s_L0_s0) : Bool := (itS (trip_Parse_s_L0_sel x4 x8) (trip_Parse_s_L0_nx x4 x8) bound s0).isSome
def trip_Parse_s_L0_end (x4 : ByteArray) (x8 : List ByteArray) (s0 : trip_Parse_s_L0_s0) : trip_Parse_s_L0_s0 := (itS (trip_Parse_s_L0_sel x4 x8) (trip_Parse_s_L0_nx x4 x8) bound s0).getD default
theorem trip_Parse_s_L0_go (x0 : List ByteArray) (x1 : Bool) (x2 : ByteArray) (x3 : Int) (x4 : ByteArray) (x5 : Bool) (x6 : Int) (x7 : Int) (x8 : List ByteArray) (x9 : Int) (s0 : trip_Parse_s_L0_s0) : trip_Parse_s_L0_sel x4 x8 s0 = true → (roundG (runC E0 (cl E0) L6_0) [0, 4, 6, 10, 11, 12, 16, 17] [0, 4, 10, 11, 12] 1) (trip_Parse_s_L0_enc x0 x1 x2 x3 x4 x5 x6 x7 x8 x9 s0) = some (.normal, trip_Parse_s_L0_enc x0 x1 x2 x3 x4 x5 x6 x7 x8 x9 (trip_Parse_s_L0_nx x4 x8 s0)) := by
  unfold trip_Parse_s_L0_sel trip_Parse_s_L0_nx
  cases h1 : tb (decide (s0.c7 < 6))
  · intro g0
    exact absurd g0 ft
  · cases h2 : tb (inb 6 s0.c7)
    · intro g0
      exact absurd g0 ft
    · cases h3 : tb ((trip_Parse_s_L0_h0_e0 x8 s0).toList == x4.toList)
      · intro _
        exact round_walk [.b (tbE h1), .o 20 (fun _ => o_idx_arrs (ss := ([gt x8 0, gt x8 1, gt x8 2, gt x8 3, gt x8 4, gt x8 5] : List ByteArray)) (n := 6) (k := .i64) (i := s0.c7) rfl (tbE h2)), .b (tbE h3)] (by kernel_rfl)
      · cases h4 : tb (decide (0 ≤ s0.c7))
        · intro g0
          exact absurd g0 ft
        · intro g0
          exact absurd g0 ft
def trip_Parse_s_L0_c0 (s0 : trip_Parse_s_L0_s0) : Bool := (bif tb (decide (s0.c7 < 6)) then (bif tb (inb 6 s0.c7) then (bif tb (decide (0 ≤ s0.c7)) then true else false) else false) else false)
def trip_Parse_s_L0_c1 (s0 : trip_Parse_s_L0_s0) : Bool := (bif tb (decide (s0.c7 < 6)) then false else true)
theorem trip_Parse_s_L0_x0 (x0 : List ByteArray) (x1 : Bool) (x2 : ByteArray) (x3 : Int) (x4 : ByteArray) (x5 : Bool) (x6 : Int) (x7 : Int) (x8 : List ByteArray) (x9 : Int) (s0 : trip_Parse_s_L0_s0) : trip_Parse_s_L0_sel x4 x8 s0 = false → trip_Parse_s_L0_c0 s0 = true → (roundG (runC E0 (cl E0) L6_0) [0, 4, 6, 10, 11, 12, 16, 17] [0, 4, 10, 11, 12] 1) (trip_Parse_s_L0_enc x0 x1 x2 x3 x4 x5 x6 x7 x8 x9 s0) = some ((.exit 1), ([(V.d (.str x2)), (V.d (.int .i64 (orI .i64 x3 (shlI .i64 1 s0.c7)))), (V.so x5 0 x0.length), (V.d (.int .i64 x6)), (V.d (.int .i64 x7))], [(Blk.flat 9 1 (List.map encS x0) x1)])) := by
  unfold trip_Parse_s_L0_sel trip_Parse_s_L0_c0
  cases h1 : tb (decide (s0.c7 < 6))
  · intro g0 g1
    exact absurd g1 ft
  · cases h2 : tb (inb 6 s0.c7)
    · intro g0 g1
      exact absurd g1 ft
    · cases h3 : tb ((trip_Parse_s_L0_h0_e0 x8 s0).toList == x4.toList)
      · intro g0 g1
        exact absurd g0 tf
      · cases h4 : tb (decide (0 ≤ s0.c7))
        · intro g0 g1
          exact absurd g1 ft
        · intro g0 g1
          exact round_walk [.b (tbE h1), .o 20 (fun _ => o_idx_arrs (ss := ([gt x8 0, gt x8 1, gt x8 2, gt x8 3, gt x8 4, gt x8 5] : List ByteArray)) (n := 6) (k := .i64) (i := s0.c7) rfl (tbE h2)), .b (tbE h3), .o 26 (fun _ => o_shl (k := .i64) (k2 := .i64) (x := 1) (y := s0.c7) (tbE h4))] (by kernel_rfl)
theorem trip_Parse_s_L0_x1 (x0 : List ByteArray) (x1 : Bool) (x2 : ByteArray) (x3 : Int) (x4 : ByteArray) (x5 : Bool) (x6 : Int) (x7 : Int) (x8 : List ByteArray) (x9 : Int) (s0 : trip_Parse_s_L0_s0) : trip_Parse_s_L0_sel x4 x8 s0 = false → trip_Parse_s_L0_c0 s0 = false → trip_Parse_s_L0_c1 s0 = true → (roundG (runC E0 (cl E0) L6_0) [0, 4, 6, 10, 11, 12, 16, 17] [0, 4, 10, 11, 12] 1) (trip_Parse_s_L0_enc x0 x1 x2 x3 x4 x5 x6 x7 x8 x9 s0) = some ((.exit 2), ([(V.d (.str x2)), (V.d (.int .i64 x3)), (V.so x5 0 x0.length), (V.d (.int .i64 x6)), (V.d (.int .i64 x7))], [(Blk.flat 9 1 (List.map encS x0) x1)])) := by
  unfold trip_Parse_s_L0_sel trip_Parse_s_L0_c0 trip_Parse_s_L0_c1
  cases h1 : tb (decide (s0.c7 < 6))
  · intro g0 g1 g2
    exact round_walk [.b (tbE h1)] (by kernel_rfl)
  · cases h2 : tb (inb 6 s0.c7)
    · intro g0 g1 g2
      exact absurd g2 ft
    · cases h3 : tb ((trip_Parse_s_L0_h0_e0 x8 s0).toList == x4.toList)
      · intro g0 g1 g2
        exact absurd g0 tf
      · cases h4 : tb (decide (0 ≤ s0.c7))
        · intro g0 g1 g2
          exact absurd g2 ft
        · intro g0 g1 g2
          exact absurd g1 tf
theorem trip_Parse_s_L0_f0_0 (x0 : List ByteArray) (x1 : Bool) (x2 : ByteArray) (x3 : Int) (x4 : ByteArray) (x5 : Bool) (x6 : Int) (x7 : Int) (x8 : List ByteArray) (x9 : Int) (s : trip_Parse_s_L0_s0) (hok : trip_Parse_s_L0_ok x4 x8 s = true) (c0 : trip_Parse_s_L0_c0 (trip_Parse_s_L0_end x4 x8 s) = true) : loopG (roundG (runC E0 (cl E0) L6_0) [0, 4, 6, 10, 11, 12, 16, 17] [0, 4, 10, 11, 12] 1) bound (trip_Parse_s_L0_enc x0 x1 x2 x3 x4 x5 x6 x7 x8 x9 s) = some ((.exit 1), ([(V.d (.str x2)), (V.d (.int .i64 (orI .i64 x3 (shlI .i64 1 (trip_Parse_s_L0_end x4 x8 s).c7)))), (V.so x5 0 x0.length), (V.d (.int .i64 x6)), (V.d (.int .i64 x7))], [(Blk.flat 9 1 (List.map encS x0) x1)])) := by
  have e : itS (trip_Parse_s_L0_sel x4 x8) (trip_Parse_s_L0_nx x4 x8) bound s = some (trip_Parse_s_L0_end x4 x8 s) := itS_get hok
  have f := itS_false e
  exact loop_it (trip_Parse_s_L0_go x0 x1 x2 x3 x4 x5 x6 x7 x8 x9) bound s _ _ _ e (fun h => by cases h) (trip_Parse_s_L0_x0 x0 x1 x2 x3 x4 x5 x6 x7 x8 x9 (trip_Parse_s_L0_end x4 x8 s) f c0)
theorem trip_Parse_s_L0_f0_1 (x0 : List ByteArray) (x1 : Bool) (x2 : ByteArray) (x3 : Int) (x4 : ByteArray) (x5 : Bool) (x6 : Int) (x7 : Int) (x8 : List ByteArray) (x9 : Int) (s : trip_Parse_s_L0_s0) (hok : trip_Parse_s_L0_ok x4 x8 s = true) (c0 : trip_Parse_s_L0_c0 (trip_Parse_s_L0_end x4 x8 s) = false) (c1 : trip_Parse_s_L0_c1 (trip_Parse_s_L0_end x4 x8 s) = true) : loopG (roundG (runC E0 (cl E0) L6_0) [0, 4, 6, 10, 11, 12, 16, 17] [0, 4, 10, 11, 12] 1) bound (trip_Parse_s_L0_enc x0 x1 x2 x3 x4 x5 x6 x7 x8 x9 s) = some ((.exit 2), ([(V.d (.str x2)), (V.d (.int .i64 x3)), (V.so x5 0 x0.length), (V.d (.int .i64 x6)), (V.d (.int .i64 x7))], [(Blk.flat 9 1 (List.map encS x0) x1)])) := by
  have e : itS (trip_Parse_s_L0_sel x4 x8) (trip_Parse_s_L0_nx x4 x8) bound s = some (trip_Parse_s_L0_end x4 x8 s) := itS_get hok
  have f := itS_false e
  exact loop_it (trip_Parse_s_L0_go x0 x1 x2 x3 x4 x5 x6 x7 x8 x9) bound s _ _ _ e (fun h => by cases h) (trip_Parse_s_L0_x1 x0 x1 x2 x3 x4 x5 x6 x7 x8 x9 (trip_Parse_s_L0_end x4 x8 s) f c0 c1)
structure trip_Parse_s_L1_s0 where
  c1 : Int
  c4 : Int
  deriving Inhabited
def trip_Parse_s_L1_h0_e0 (x0 : List ByteArray) (s0 : trip_Parse_s_L1_s0) : trip_Parse_s_L0_s0 := trip_Parse_s_L0_end (gt x0 s0.c4) [gl0_0, gl0_1, gl0_2, gl0_3, gl0_4, gl0_5] (⟨0⟩ : trip_Parse_s_L0_s0)
def trip_Parse_s_L1_enc (x0 : List ByteArray) (x1 : Bool) (x2 : ByteArray) (x3 : Int) (x4 : Bool) (x5 : Int) (x6 : Int) (s0 : trip_Parse_s_L1_s0) : List V × Mem := ([(V.d (.str x2)), (V.d (.int .i64 s0.c1)), (V.so x4 0 x0.length), (V.d (.int .i64 x5)), (V.d (.int .i64 s0.c4))], [(Blk.flat 9 1 (List.map encS x0) x1)])
def trip_Parse_s_L1_sel (x0 : List ByteArray) (x5 : Int) (s0 : trip_Parse_s_L1_s0) : Bool := (bif tb (decide (s0.c4 < x5)) then (bif tb (inb x0.length s0.c4) then (bif tb (trip_Parse_s_L0_ok (gt x0 s0.c4) [gl0_0, gl0_1, gl0_2, gl0_3, gl0_4, gl0_5] (⟨0⟩ : trip_Parse_s_L0_s0)) then (bif tb (trip_Parse_s_L0_c0 (trip_Parse_s_L1_h0_e0 x0 s0)) then true else (bif tb (trip_Parse_s_L0_c1 (trip_Parse_s_L1_h0_e0 x0 s0)) then true else false)) else false) else false) else false)
def trip_Parse_s_L1_nx (x0 : List ByteArray) (x5 : Int) (s0 : trip_Parse_s_L1_s0) : trip_Parse_s_L1_s0 := (bif tb (trip_Parse_s_L0_c0 (trip_Parse_s_L1_h0_e0 x0 s0)) then ⟨(orI .i64 s0.c1 (shlI .i64 1 (trip_Parse_s_L1_h0_e0 x0 s0).c7)), (wi (s0.c4 + 1))⟩ else ⟨s0.c1, (wi (s0.c4 + 1))⟩)
def trip_Parse_s_L1_ok (x0 : List ByteArray) (x5 : Int) (s0 : trip_Parse_s_L1_s0) : Bool := (itS (trip_Parse_s_L1_sel x0 x5) (trip_Parse_s_L1_nx x0 x5) bound s0).isSome
def trip_Parse_s_L1_end (x0 : List ByteArray) (x5 : Int) (s0 : trip_Parse_s_L1_s0) : trip_Parse_s_L1_s0 := (itS (trip_Parse_s_L1_sel x0 x5) (trip_Parse_s_L1_nx x0 x5) bound s0).getD default
theorem trip_Parse_s_L1_go (x0 : List ByteArray) (x1 : Bool) (x2 : ByteArray) (x3 : Int) (x4 : Bool) (x5 : Int) (x6 : Int) (s0 : trip_Parse_s_L1_s0) : trip_Parse_s_L1_sel x0 x5 s0 = true → (roundG (runC E0 (cl E0) L6_1) [0, 4, 10, 11, 12] [0, 4] 1) (trip_Parse_s_L1_enc x0 x1 x2 x3 x4 x5 x6 s0) = some (.normal, trip_Parse_s_L1_enc x0 x1 x2 x3 x4 x5 x6 (trip_Parse_s_L1_nx x0 x5 s0)) := by
  unfold trip_Parse_s_L1_sel trip_Parse_s_L1_nx
  cases h1 : tb (decide (s0.c4 < x5))
  · intro g0
    exact absurd g0 ft
  · cases h2 : tb (inb x0.length s0.c4)
    · intro g0
      exact absurd g0 ft
    · cases h3 : tb (trip_Parse_s_L0_ok (gt x0 s0.c4) [gl0_0, gl0_1, gl0_2, gl0_3, gl0_4, gl0_5] (⟨0⟩ : trip_Parse_s_L0_s0))
      · intro g0
        exact absurd g0 ft
      · cases h4 : tb (trip_Parse_s_L0_c0 (trip_Parse_s_L1_h0_e0 x0 s0))
        · cases h5 : tb (trip_Parse_s_L0_c1 (trip_Parse_s_L1_h0_e0 x0 s0))
          · intro g0
            exact absurd g0 ft
          · intro _
            exact round_walk [.b (tbE h1), .m 14 (o_idx_so (m := [(Blk.flat 9 1 (List.map encS x0) x1)]) (b := x4) (id := 0) (n := x0.length) (s := 1) (k := .i64) (by kernel_rfl) (tbE h2)), .m 15 (o_load_L (m := [(Blk.flat 9 1 (List.map encS x0) x1)]) (enc := encS) (l := x0) (id := 0) (e := 9) (s := 1) (off := 0) (size := 1) (p := x1) (agg := false) (i := s0.c4) (v := (V.d (.str (gt x0 s0.c4)))) (n := x0.length) (Nat.beq_refl _) (by kernel_rfl) (tbE h2) (by kernel_rfl)), .l (trip_Parse_s_L0_f0_1 x0 x1 x2 s0.c1 (gt x0 s0.c4) x4 x5 s0.c4 [gl0_0, gl0_1, gl0_2, gl0_3, gl0_4, gl0_5] 0 (⟨0⟩ : trip_Parse_s_L0_s0) (tbE h3) (tbE h4) (tbE h5))] (by kernel_rfl)
        · intro _
          exact round_walk [.b (tbE h1), .m 14 (o_idx_so (m := [(Blk.flat 9 1 (List.map encS x0) x1)]) (b := x4) (id := 0) (n := x0.length) (s := 1) (k := .i64) (by kernel_rfl) (tbE h2)), .m 15 (o_load_L (m := [(Blk.flat 9 1 (List.map encS x0) x1)]) (enc := encS) (l := x0) (id := 0) (e := 9) (s := 1) (off := 0) (size := 1) (p := x1) (agg := false) (i := s0.c4) (v := (V.d (.str (gt x0 s0.c4)))) (n := x0.length) (Nat.beq_refl _) (by kernel_rfl) (tbE h2) (by kernel_rfl)), .l (trip_Parse_s_L0_f0_0 x0 x1 x2 s0.c1 (gt x0 s0.c4) x4 x5 s0.c4 [gl0_0, gl0_1, gl0_2, gl0_3, gl0_4, gl0_5] 0 (⟨0⟩ : trip_Parse_s_L0_s0) (tbE h3) (tbE h4))] (by kernel_rfl)
def trip_Parse_s_L1_c0 (x5 : Int) (s0 : trip_Parse_s_L1_s0) : Bool := (bif tb (decide (s0.c4 < x5)) then false else true)
theorem trip_Parse_s_L1_x0 (x0 : List ByteArray) (x1 : Bool) (x2 : ByteArray) (x3 : Int) (x4 : Bool) (x5 : Int) (x6 : Int) (s0 : trip_Parse_s_L1_s0) : trip_Parse_s_L1_sel x0 x5 s0 = false → trip_Parse_s_L1_c0 x5 s0 = true → (roundG (runC E0 (cl E0) L6_1) [0, 4, 10, 11, 12] [0, 4] 1) (trip_Parse_s_L1_enc x0 x1 x2 x3 x4 x5 x6 s0) = some ((.exit 0), ([(V.d (.str x2)), (V.d (.int .i64 s0.c1))], [(Blk.flat 9 1 (List.map encS x0) x1)])) := by
  unfold trip_Parse_s_L1_sel trip_Parse_s_L1_c0
  cases h1 : tb (decide (s0.c4 < x5))
  · intro g0 g1
    exact round_walk [.b (tbE h1)] (by kernel_rfl)
  · cases h2 : tb (inb x0.length s0.c4)
    · intro g0 g1
      exact absurd g1 ft
    · cases h3 : tb (trip_Parse_s_L0_ok (gt x0 s0.c4) [gl0_0, gl0_1, gl0_2, gl0_3, gl0_4, gl0_5] (⟨0⟩ : trip_Parse_s_L0_s0))
      · intro g0 g1
        exact absurd g1 ft
      · cases h4 : tb (trip_Parse_s_L0_c0 (trip_Parse_s_L1_h0_e0 x0 s0))
        · cases h5 : tb (trip_Parse_s_L0_c1 (trip_Parse_s_L1_h0_e0 x0 s0))
          · intro g0 g1
            exact absurd g1 ft
          · intro g0 g1
            exact absurd g0 tf
        · intro g0 g1
          exact absurd g0 tf
theorem trip_Parse_s_L1_f0_0 (x0 : List ByteArray) (x1 : Bool) (x2 : ByteArray) (x3 : Int) (x4 : Bool) (x5 : Int) (x6 : Int) (s : trip_Parse_s_L1_s0) (hok : trip_Parse_s_L1_ok x0 x5 s = true) (c0 : trip_Parse_s_L1_c0 x5 (trip_Parse_s_L1_end x0 x5 s) = true) : loopG (roundG (runC E0 (cl E0) L6_1) [0, 4, 10, 11, 12] [0, 4] 1) bound (trip_Parse_s_L1_enc x0 x1 x2 x3 x4 x5 x6 s) = some ((.exit 0), ([(V.d (.str x2)), (V.d (.int .i64 ((trip_Parse_s_L1_end x0 x5 s).c1)))], [(Blk.flat 9 1 (List.map encS x0) x1)])) := by
  have e : itS (trip_Parse_s_L1_sel x0 x5) (trip_Parse_s_L1_nx x0 x5) bound s = some (trip_Parse_s_L1_end x0 x5 s) := itS_get hok
  have f := itS_false e
  exact loop_it (trip_Parse_s_L1_go x0 x1 x2 x3 x4 x5 x6) bound s _ _ _ e (fun h => by cases h) (trip_Parse_s_L1_x0 x0 x1 x2 x3 x4 x5 x6 (trip_Parse_s_L1_end x0 x5 s) f c0)
def trip_Parse_s_S2_e0 (x0 : ByteArray) : trip_Parse_s_L1_s0 := trip_Parse_s_L1_end (splitT (headB ⟨#[43]⟩) x0) (((splitT (headB ⟨#[43]⟩) x0).length : Nat) : Int) (⟨0, 0⟩ : trip_Parse_s_L1_s0)
def trip_Parse_s_S2_c0 (x0 : ByteArray) : Bool := (bif tb (strings_Split_ss_c0 x0 ⟨#[43]⟩) then (bif tb (trip_Parse_s_L1_ok (splitT (headB ⟨#[43]⟩) x0) (((splitT (headB ⟨#[43]⟩) x0).length : Nat) : Int) (⟨0, 0⟩ : trip_Parse_s_L1_s0)) then (bif tb (trip_Parse_s_L1_c0 (((splitT (headB ⟨#[43]⟩) x0).length : Nat) : Int) (trip_Parse_s_S2_e0 x0)) then true else false) else false) else false)
theorem trip_Parse_s_S2_t0 (x0 : ByteArray) : trip_Parse_s_S2_c0 x0 = true → segG (runC E0 (cl E0) S6_2) [0, 4] [] [0, 4] 0 ([(V.d (.str x0)), (V.d (.int .i64 0))], []) = some (.normal, ([(V.d (.str x0)), (V.d (.int .i64 ((trip_Parse_s_S2_e0 x0).c1)))], [])) := by
  unfold trip_Parse_s_S2_c0
  cases h1 : tb (strings_Split_ss_c0 x0 ⟨#[43]⟩)
  · intro g0
    exact absurd g0 ft
  · cases h2 : tb (trip_Parse_s_L1_ok (splitT (headB ⟨#[43]⟩) x0) (((splitT (headB ⟨#[43]⟩) x0).length : Nat) : Int) (⟨0, 0⟩ : trip_Parse_s_L1_s0))
    · intro g0
      exact absurd g0 ft
    · cases h3 : tb (trip_Parse_s_L1_c0 (((splitT (headB ⟨#[43]⟩) x0).length : Nat) : Int) (trip_Parse_s_S2_e0 x0))
      · intro g0
        exact absurd g0 ft
      · intro g0
        exact seg_walk [.c (strings_Split_ss_t0 x0 ⟨#[43]⟩ (tbE h1)), .l (trip_Parse_s_L1_f0_0 (splitT (headB ⟨#[43]⟩) x0) false x0 0 false (((splitT (headB ⟨#[43]⟩) x0).length : Nat) : Int) 0 (⟨0, 0⟩ : trip_Parse_s_L1_s0) (tbE h2) (tbE h3))] (by kernel_rfl)
def trip_Text_i_S0_c0 (x0 : Int) : Bool := (bif tb (decide (x0 < 0)) then true else (bif tb (decide (63 < x0)) then true else (bif tb ((x0 : Int) == 0) then true else false)))
def trip_Text_i_S0_r0_0 (x0 : Int) : ByteArray := (bif tb (decide (x0 < 0)) then ⟨#[]⟩ else (bif tb (decide (63 < x0)) then ⟨#[]⟩ else ⟨#[45]⟩))
theorem trip_Text_i_S0_t0 (x0 : Int) : trip_Text_i_S0_c0 x0 = true → segG (runC E0 (cl E0) S8_0) [0] [2] [0] 0 ([(V.d (.int .i64 x0))], []) = some (.ret, ([(V.d (.str (trip_Text_i_S0_r0_0 x0)))], [])) := by
  unfold trip_Text_i_S0_c0 trip_Text_i_S0_r0_0
  cases h1 : tb (decide (x0 < 0))
  · cases h2 : tb (decide (63 < x0))
    · cases h3 : tb ((x0 : Int) == 0)
      · intro g0
        exact absurd g0 ft
      · intro g0
        exact seg_walk [.b (tbE h1), .b (tbE h2), .b (tbE h3)] (by kernel_rfl)
    · intro g0
      exact seg_walk [.b (tbE h1), .b (tbE h2)] (by kernel_rfl)
  · intro g0
    exact seg_walk [.b (tbE h1)] (by kernel_rfl)
theorem trip_Text_i_S0_t1 (x0 : Int) : trip_Text_i_S0_c0 x0 = false → segG (runC E0 (cl E0) S8_0) [0] [2] [0] 0 ([(V.d (.int .i64 x0))], []) = some (.normal, ([(V.d (.int .i64 x0))], [])) := by
  unfold trip_Text_i_S0_c0
  cases h1 : tb (decide (x0 < 0))
  · cases h2 : tb (decide (63 < x0))
    · cases h3 : tb ((x0 : Int) == 0)
      · intro g0
        exact seg_walk [.b (tbE h1), .b (tbE h2), .b (tbE h3)] (by kernel_rfl)
      · intro g0
        exact absurd g0 tf
    · intro g0
      exact absurd g0 tf
  · intro g0
    exact absurd g0 tf
structure trip_Text_i_L1_s0 where
  c1 : Bool
  c3 : Int
  c4 : List ByteArray
  deriving Inhabited
def trip_Text_i_L1_h0_e0 (x4 : List ByteArray) (s0 : trip_Text_i_L1_s0) : ByteArray := gt ([gt x4 0, gt x4 1, gt x4 2, gt x4 3, gt x4 4, gt x4 5] : List ByteArray) s0.c3
def trip_Text_i_L1_enc (x0 : List ByteArray) (x1 : Bool) (x2 : Int) (x3 : Bool) (x4 : List ByteArray) (x5 : Int) (s0 : trip_Text_i_L1_s0) : List V × Mem := ([(V.d (.int .i64 x2)), (V.so s0.c1 0 s0.c4.length), (V.agg [(V.d (.str (gt x4 0))), (V.d (.str (gt x4 1))), (V.d (.str (gt x4 2))), (V.d (.str (gt x4 3))), (V.d (.str (gt x4 4))), (V.d (.str (gt x4 5)))]), (V.d (.int .i64 s0.c3))], [(Blk.flat 9 1 (List.map encS s0.c4) false)])
def trip_Text_i_L1_sel (x2 : Int) (x4 : List ByteArray) (s0 : trip_Text_i_L1_s0) : Bool := (bif tb (decide (s0.c3 < 6)) then (bif tb (inb 6 s0.c3) then (bif tb (fix_Has_ii_r0_0 x2 s0.c3) then (bif tb (decide ((s0.c4.length + [(trip_Text_i_L1_h0_e0 x4 s0)].length) * 16 ≤ 140737488355328)) then true else false) else true) else false) else false)
def trip_Text_i_L1_nx (x2 : Int) (x4 : List ByteArray) (s0 : trip_Text_i_L1_s0) : trip_Text_i_L1_s0 := (bif tb (fix_Has_ii_r0_0 x2 s0.c3) then ⟨false, (wi (s0.c3 + 1)), (s0.c4 ++ [(trip_Text_i_L1_h0_e0 x4 s0)])⟩ else ⟨s0.c1, (wi (s0.c3 + 1)), s0.c4⟩)
def trip_Text_i_L1_ok (x2 : Int) (x4 : List ByteArray) (s0 : trip_Text_i_L1_s0) : Bool := (itS (trip_Text_i_L1_sel x2 x4) (trip_Text_i_L1_nx x2 x4) bound s0).isSome
def trip_Text_i_L1_end (x2 : Int) (x4 : List ByteArray) (s0 : trip_Text_i_L1_s0) : trip_Text_i_L1_s0 := (itS (trip_Text_i_L1_sel x2 x4) (trip_Text_i_L1_nx x2 x4) bound s0).getD default
theorem trip_Text_i_L1_go (x0 : List ByteArray) (x1 : Bool) (x2 : Int) (x3 : Bool) (x4 : List ByteArray) (x5 : Int) (s0 : trip_Text_i_L1_s0) : trip_Text_i_L1_sel x2 x4 s0 = true → (roundG (runC E0 (cl E0) L8_1) [0, 3, 16, 17] [3] 1) (trip_Text_i_L1_enc x0 x1 x2 x3 x4 x5 s0) = some (.normal, trip_Text_i_L1_enc x0 x1 x2 x3 x4 x5 (trip_Text_i_L1_nx x2 x4 s0)) := by
  unfold trip_Text_i_L1_sel trip_Text_i_L1_nx
  cases h1 : tb (decide (s0.c3 < 6))
  · intro g0
    exact absurd g0 ft
  · cases h2 : tb (inb 6 s0.c3)
    · intro g0
      exact absurd g0 ft
    · cases h3 : tb (fix_Has_ii_r0_0 x2 s0.c3)
      · intro _
        exact round_walk [.b (tbE h1), .o 20 (fun _ => o_idx_arrs (ss := ([gt x4 0, gt x4 1, gt x4 2, gt x4 3, gt x4 4, gt x4 5] : List ByteArray)) (n := 6) (k := .i64) (i := s0.c3) rfl (tbE h2)), .c (fix_Has_ii_t0 x2 s0.c3), .b (tbE h3)] (by kernel_rfl)
      · cases h4 : tb (decide ((s0.c4.length + [(trip_Text_i_L1_h0_e0 x4 s0)].length) * 16 ≤ 140737488355328))
        · intro g0
          exact absurd g0 ft
        · intro _
          exact round_walk [.b (tbE h1), .o 20 (fun _ => o_idx_arrs (ss := ([gt x4 0, gt x4 1, gt x4 2, gt x4 3, gt x4 4, gt x4 5] : List ByteArray)) (n := 6) (k := .i64) (i := s0.c3) rfl (tbE h2)), .c (fix_Has_ii_t0 x2 s0.c3), .b (tbE h3), .m 27 (o_app_so (nl := s0.c1) (m := [(Blk.flat 9 1 (List.map encS s0.c4) false), (Blk.flat 9 1 [[(.str (trip_Text_i_L1_h0_e0 x4 s0))]] false)]) (enc := encS) (l0 := s0.c4) (l1 := [(trip_Text_i_L1_h0_e0 x4 s0)]) (id := 0) (e := 9) (s := 1) (bytes := 16) (x := (V.so false 1 1)) (n := s0.c4.length) (Nat.beq_refl _) (by kernel_rfl) (by kernel_rfl) (by kernel_rfl) (tbE h4))] (by kernel_rfl)
def trip_Text_i_L1_c0 (s0 : trip_Text_i_L1_s0) : Bool := (bif tb (decide (s0.c3 < 6)) then false else true)
theorem trip_Text_i_L1_x0 (x0 : List ByteArray) (x1 : Bool) (x2 : Int) (x3 : Bool) (x4 : List ByteArray) (x5 : Int) (s0 : trip_Text_i_L1_s0) : trip_Text_i_L1_sel x2 x4 s0 = false → trip_Text_i_L1_c0 s0 = true → (roundG (runC E0 (cl E0) L8_1) [0, 3, 16, 17] [3] 1) (trip_Text_i_L1_enc x0 x1 x2 x3 x4 x5 s0) = some ((.exit 1), ([(V.so s0.c1 0 s0.c4.length)], [(Blk.flat 9 1 (List.map encS s0.c4) false)])) := by
  unfold trip_Text_i_L1_sel trip_Text_i_L1_c0
  cases h1 : tb (decide (s0.c3 < 6))
  · intro g0 g1
    exact round_walk [.b (tbE h1)] (by kernel_rfl)
  · cases h2 : tb (inb 6 s0.c3)
    · intro g0 g1
      exact absurd g1 ft
    · cases h3 : tb (fix_Has_ii_r0_0 x2 s0.c3)
      · intro g0 g1
        exact absurd g0 tf
      · cases h4 : tb (decide ((s0.c4.length + [(trip_Text_i_L1_h0_e0 x4 s0)].length) * 16 ≤ 140737488355328))
        · intro g0 g1
          exact absurd g1 ft
        · intro g0 g1
          exact absurd g0 tf
theorem trip_Text_i_L1_f0_0 (x0 : List ByteArray) (x1 : Bool) (x2 : Int) (x3 : Bool) (x4 : List ByteArray) (x5 : Int) (s : trip_Text_i_L1_s0) (hok : trip_Text_i_L1_ok x2 x4 s = true) (c0 : trip_Text_i_L1_c0 (trip_Text_i_L1_end x2 x4 s) = true) : loopG (roundG (runC E0 (cl E0) L8_1) [0, 3, 16, 17] [3] 1) bound (trip_Text_i_L1_enc x0 x1 x2 x3 x4 x5 s) = some ((.exit 1), ([(V.so ((trip_Text_i_L1_end x2 x4 s).c1) 0 (((trip_Text_i_L1_end x2 x4 s).c4).length))], [(Blk.flat 9 1 (List.map encS ((trip_Text_i_L1_end x2 x4 s).c4)) false)])) := by
  have e : itS (trip_Text_i_L1_sel x2 x4) (trip_Text_i_L1_nx x2 x4) bound s = some (trip_Text_i_L1_end x2 x4 s) := itS_get hok
  have f := itS_false e
  exact loop_it (trip_Text_i_L1_go x0 x1 x2 x3 x4 x5) bound s _ _ _ e (fun h => by cases h) (trip_Text_i_L1_x0 x0 x1 x2 x3 x4 x5 (trip_Text_i_L1_end x2 x4 s) f c0)
def trip_Text_i_S2_e0 (x1 : Int) : trip_Text_i_L1_s0 := trip_Text_i_L1_end x1 [gl0_0, gl0_1, gl0_2, gl0_3, gl0_4, gl0_5] (⟨true, 0, ([] : List ByteArray)⟩ : trip_Text_i_L1_s0)
def trip_Text_i_S2_c0 (x1 : Int) : Bool := (bif tb (trip_Text_i_L1_ok x1 [gl0_0, gl0_1, gl0_2, gl0_3, gl0_4, gl0_5] (⟨true, 0, ([] : List ByteArray)⟩ : trip_Text_i_L1_s0)) then (bif tb (trip_Text_i_L1_c0 (trip_Text_i_S2_e0 x1)) then (bif tb (strings_Join_os_c0 ((trip_Text_i_S2_e0 x1).c1) ((trip_Text_i_S2_e0 x1).c4) ⟨#[43]⟩) then true else false) else false) else false)
theorem trip_Text_i_S2_t0 (x1 : Int) : trip_Text_i_S2_c0 x1 = true → segG (runC E0 (cl E0) S8_2) [0, 3] [] [2] 1 ([(V.d (.int .i64 x1)), (V.so true 0 0)], [(Blk.flat 9 1 [] false)]) = some (.normal, ([(V.d (.str (joinB ((trip_Text_i_S2_e0 x1).c4) ⟨#[43]⟩)))], [(Blk.flat 9 1 (List.map encS ((trip_Text_i_S2_e0 x1).c4)) false)])) := by
  unfold trip_Text_i_S2_c0
  cases h1 : tb (trip_Text_i_L1_ok x1 [gl0_0, gl0_1, gl0_2, gl0_3, gl0_4, gl0_5] (⟨true, 0, ([] : List ByteArray)⟩ : trip_Text_i_L1_s0))
  · intro g0
    exact absurd g0 ft
  · cases h2 : tb (trip_Text_i_L1_c0 (trip_Text_i_S2_e0 x1))
    · intro g0
      exact absurd g0 ft
    · cases h3 : tb (strings_Join_os_c0 ((trip_Text_i_S2_e0 x1).c1) ((trip_Text_i_S2_e0 x1).c4) ⟨#[43]⟩)
      · intro g0
        exact absurd g0 ft
      · intro g0
        exact seg_walk [.l (trip_Text_i_L1_f0_0 ([] : List ByteArray) false x1 true [gl0_0, gl0_1, gl0_2, gl0_3, gl0_4, gl0_5] 0 (⟨true, 0, ([] : List ByteArray)⟩ : trip_Text_i_L1_s0) (tbE h1) (tbE h2)), .y (mm := [(Blk.flat 9 1 (List.map encS ((trip_Text_i_S2_e0 x1).c4)) false)]) (args := [(V.so ((trip_Text_i_S2_e0 x1).c1) 0 (((trip_Text_i_S2_e0 x1).c4).length)), (V.d (.str ⟨#[43]⟩))]) (args1 := [(V.d (slD encS true 1 ((trip_Text_i_S2_e0 x1).c1) ((trip_Text_i_S2_e0 x1).c4))), (V.d (.str ⟨#[43]⟩))]) (byvals_cons (byval_so (enc := encS) (l := ((trip_Text_i_S2_e0 x1).c4)) (b := ((trip_Text_i_S2_e0 x1).c1)) (e := 9) (s := 1) (p := false) (n := (((trip_Text_i_S2_e0 x1).c4).length)) (Nat.beq_refl _) (by kernel_rfl)) (by kernel_rfl)), .c (strings_Join_os_t0 ((trip_Text_i_S2_e0 x1).c1) ((trip_Text_i_S2_e0 x1).c4) ⟨#[43]⟩ (tbE h3))] (by kernel_rfl)
def trip_Text_i_c0 (x0 : Int) : Bool := (bif tb (trip_Text_i_S0_c0 x0) then true else (bif tb (trip_Text_i_S2_c0 x0) then true else false))
def trip_Text_i_r0_0 (x0 : Int) : ByteArray := (bif tb (trip_Text_i_S0_c0 x0) then (trip_Text_i_S0_r0_0 x0) else (joinB ((trip_Text_i_S2_e0 x0).c4) ⟨#[43]⟩))
theorem trip_Text_i_t0 (x0 : Int) : trip_Text_i_c0 x0 = true → cl E0 8 [(V.d (.int .i64 x0))] [] = some ([(V.d (.str (trip_Text_i_r0_0 x0)))], []) := by
  unfold trip_Text_i_c0 trip_Text_i_r0_0
  cases h1 : tb (trip_Text_i_S0_c0 x0)
  · cases h2 : tb (trip_Text_i_S2_c0 x0)
    · intro g0
      exact absurd g0 ft
    · intro g0
      exact w8 [.s (trip_Text_i_S0_t1 x0 (tbE h1)), .s (trip_Text_i_S2_t0 x0 (tbE h2))] (by kernel_rfl)
  · intro g0
    exact w8 [.s (trip_Text_i_S0_t0 x0 (tbE h1))] (by kernel_rfl)
def trip_Parse_s_c0 (x0 : ByteArray) : Bool := (bif tb (trip_Parse_s_S2_c0 x0) then (bif tb (trip_Text_i_c0 ((trip_Parse_s_S2_e0 x0).c1)) then true else false) else false)
def trip_Parse_s_r0_0 (x0 : ByteArray) : Int := (bif tb (!((trip_Text_i_r0_0 ((trip_Parse_s_S2_e0 x0).c1)).toList == x0.toList)) then 0 else ((trip_Parse_s_S2_e0 x0).c1))
def trip_Parse_s_r0_1 (x0 : ByteArray) : Int := (bif tb (!((trip_Text_i_r0_0 ((trip_Parse_s_S2_e0 x0).c1)).toList == x0.toList)) then 3 else 0)
theorem trip_Parse_s_t0 (x0 : ByteArray) : trip_Parse_s_c0 x0 = true → cl E0 6 [(V.d (.str x0))] [] = some ([(V.d (.int .i64 (trip_Parse_s_r0_0 x0))), (V.d (.int .i64 (trip_Parse_s_r0_1 x0)))], []) := by
  unfold trip_Parse_s_c0 trip_Parse_s_r0_0 trip_Parse_s_r0_1
  cases h1 : tb (trip_Parse_s_S2_c0 x0)
  · intro g0
    exact absurd g0 ft
  · cases h2 : tb (trip_Text_i_c0 ((trip_Parse_s_S2_e0 x0).c1))
    · intro g0
      exact absurd g0 ft
    · cases h3 : tb (!((trip_Text_i_r0_0 ((trip_Parse_s_S2_e0 x0).c1)).toList == x0.toList))
      · intro g0
        exact w6 [.s (trip_Parse_s_S2_t0 x0 (tbE h1)), .c (trip_Text_i_t0 ((trip_Parse_s_S2_e0 x0).c1) (tbE h2)), .b (tbE h3)] (by kernel_rfl)
      · intro g0
        exact w6 [.s (trip_Parse_s_S2_t0 x0 (tbE h1)), .c (trip_Text_i_t0 ((trip_Parse_s_S2_e0 x0).c1) (tbE h2)), .b (tbE h3)] (by kernel_rfl)
def trip_Mask_o_c0 (x1 : List Bool) : Bool := (bif tb (decide (6 < ((x1.length : Nat) : Int))) then true else (bif tb (fix_Bits_o_c0 x1) then true else false))
def trip_Mask_o_r0_0 (x1 : List Bool) : Int := (bif tb (decide (6 < ((x1.length : Nat) : Int))) then 0 else (fix_Bits_o_r0_0 x1))
theorem trip_Mask_o_t0 (x0 : Bool) (x1 : List Bool) : trip_Mask_o_c0 x1 = true → cl E0 10 [(V.d (slD encB true 1 x0 x1))] [] = some ([(V.d (.int .i64 (trip_Mask_o_r0_0 x1)))], []) := by
  unfold trip_Mask_o_c0 trip_Mask_o_r0_0
  cases h1 : tb (decide (6 < ((x1.length : Nat) : Int)))
  · cases h2 : tb (fix_Bits_o_c0 x1)
    · intro g0
      exact absurd g0 ft
    · intro g0
      exact w10 [.o 4 (fun _ => o_len_os (enc := encB) (l := x1) (fl := true) (n := x0) (s := 1)), .b (tbE h1), .c (fix_Bits_o_t0 x0 x1 (tbE h2))] (by kernel_rfl)
  · intro g0
    exact w10 [.o 4 (fun _ => o_len_os (enc := encB) (l := x1) (fl := true) (n := x0) (s := 1)), .b (tbE h1)] (by kernel_rfl)
def trip_In_ii_r0_0 (x0 : Int) (x1 : Int) : Bool := (bif tb (decide (0 ≤ x0)) then (bif tb (decide (x0 ≤ 63)) then (bif tb (decide (1 ≤ x1)) then (bif tb (decide (x1 ≤ 63)) then (bif tb (((fix_Count_i_r0_0 x1) : Int) == 1) then (((andI .i64 x0 x1) : Int) != 0) else false) else false) else false) else false) else false)
theorem trip_In_ii_t0 (x0 : Int) (x1 : Int) : cl E0 12 [(V.d (.int .i64 x0)), (V.d (.int .i64 x1))] [] = some ([(V.d (.bool (trip_In_ii_r0_0 x0 x1)))], []) := by
  unfold trip_In_ii_r0_0
  cases h1 : tb (decide (0 ≤ x0))
  · exact w12 [.b (tbE h1)] (by kernel_rfl)
  · cases h2 : tb (decide (x0 ≤ 63))
    · exact w12 [.b (tbE h1), .b (tbE h2)] (by kernel_rfl)
    · cases h3 : tb (decide (1 ≤ x1))
      · exact w12 [.b (tbE h1), .b (tbE h2), .b (tbE h3)] (by kernel_rfl)
      · cases h4 : tb (decide (x1 ≤ 63))
        · exact w12 [.b (tbE h1), .b (tbE h2), .b (tbE h3), .b (tbE h4)] (by kernel_rfl)
        · cases h5 : tb (((fix_Count_i_r0_0 x1) : Int) == 1)
          · exact w12 [.b (tbE h1), .b (tbE h2), .b (tbE h3), .b (tbE h4), .c (fix_Count_i_t0 x1), .b (tbE h5)] (by kernel_rfl)
          · exact w12 [.b (tbE h1), .b (tbE h2), .b (tbE h3), .b (tbE h4), .c (fix_Count_i_t0 x1), .b (tbE h5)] (by kernel_rfl)
end Go.Proofs.YtlenjioebdmooaaDoor.Den

namespace Go.Proofs.YtlenjioebdmooaaDoor.Den
open Go Go.Proofs
set_option maxRecDepth 100000
set_option maxHeartbeats 4000000
set_option linter.unusedVariables false
set_option linter.unusedSimpArgs false
def ref01_Has_ii_S0_c0 (x0 : Int) (x1 : Int) : Bool := (bif tb (decide (x0 < 0)) then true else (bif tb (decide (65535 < x0)) then true else (bif tb (decide (x1 < 0)) then true else (bif tb (decide (15 < x1)) then true else false))))
theorem ref01_Has_ii_S0_t0 (x0 : Int) (x1 : Int) : ref01_Has_ii_S0_c0 x0 x1 = true → segG (runC E0 (cl E0) S18_0) [0, 1] [4] [0, 1] 0 ([(V.d (.int .i64 x0)), (V.d (.int .i64 x1))], []) = some (.ret, ([(V.d (.bool false))], [])) := by
  unfold ref01_Has_ii_S0_c0
  cases h1 : tb (decide (x0 < 0))
  · cases h2 : tb (decide (65535 < x0))
    · cases h3 : tb (decide (x1 < 0))
      · cases h4 : tb (decide (15 < x1))
        · intro g0
          exact absurd g0 ft
        · intro g0
          exact seg_walk [.b (tbE h1), .b (tbE h2), .b (tbE h3), .b (tbE h4)] (by kernel_rfl)
      · intro g0
        exact seg_walk [.b (tbE h1), .b (tbE h2), .b (tbE h3)] (by kernel_rfl)
    · intro g0
      exact seg_walk [.b (tbE h1), .b (tbE h2)] (by kernel_rfl)
  · intro g0
    exact seg_walk [.b (tbE h1)] (by kernel_rfl)
theorem ref01_Has_ii_S0_t1 (x0 : Int) (x1 : Int) : ref01_Has_ii_S0_c0 x0 x1 = false → segG (runC E0 (cl E0) S18_0) [0, 1] [4] [0, 1] 0 ([(V.d (.int .i64 x0)), (V.d (.int .i64 x1))], []) = some (.normal, ([(V.d (.int .i64 x0)), (V.d (.int .i64 x1))], [])) := by
  unfold ref01_Has_ii_S0_c0
  cases h1 : tb (decide (x0 < 0))
  · cases h2 : tb (decide (65535 < x0))
    · cases h3 : tb (decide (x1 < 0))
      · cases h4 : tb (decide (15 < x1))
        · intro g0
          exact seg_walk [.b (tbE h1), .b (tbE h2), .b (tbE h3), .b (tbE h4)] (by kernel_rfl)
        · intro g0
          exact absurd g0 tf
      · intro g0
        exact absurd g0 tf
    · intro g0
      exact absurd g0 tf
  · intro g0
    exact absurd g0 tf
structure ref01_Has_ii_L1_s0 where
  c1 : Int
  c2 : Int
  deriving Inhabited
def ref01_Has_ii_L1_enc (x0 : Int) (x1 : Int) (x2 : Int) (s0 : ref01_Has_ii_L1_s0) : List V × Mem := ([(V.d (.int .i64 x0)), (V.d (.int .i64 s0.c1)), (V.d (.int .i64 s0.c2))], [])
def ref01_Has_ii_L1_sel (x0 : Int) (s0 : ref01_Has_ii_L1_s0) : Bool := (bif tb (decide (s0.c2 < x0)) then true else false)
def ref01_Has_ii_L1_nx (x0 : Int) (s0 : ref01_Has_ii_L1_s0) : ref01_Has_ii_L1_s0 := ⟨(quoI .i64 s0.c1 2), (wi (s0.c2 + 1))⟩
def ref01_Has_ii_L1_ok (x0 : Int) (s0 : ref01_Has_ii_L1_s0) : Bool := (itS (ref01_Has_ii_L1_sel x0) (ref01_Has_ii_L1_nx x0) bound s0).isSome
def ref01_Has_ii_L1_end (x0 : Int) (s0 : ref01_Has_ii_L1_s0) : ref01_Has_ii_L1_s0 := (itS (ref01_Has_ii_L1_sel x0) (ref01_Has_ii_L1_nx x0) bound s0).getD default
theorem ref01_Has_ii_L1_go (x0 : Int) (x1 : Int) (x2 : Int) (s0 : ref01_Has_ii_L1_s0) : ref01_Has_ii_L1_sel x0 s0 = true → (roundG (runC E0 (cl E0) L18_1) [1, 5, 6] [5] 0) (ref01_Has_ii_L1_enc x0 x1 x2 s0) = some (.normal, ref01_Has_ii_L1_enc x0 x1 x2 (ref01_Has_ii_L1_nx x0 s0)) := by
  unfold ref01_Has_ii_L1_sel ref01_Has_ii_L1_nx
  cases h1 : tb (decide (s0.c2 < x0))
  · intro g0
    exact absurd g0 ft
  · intro _
    exact round_walk [.b (tbE h1)] (by kernel_rfl)
theorem ref01_Has_ii_L1_x0 (x0 : Int) (x1 : Int) (x2 : Int) (s0 : ref01_Has_ii_L1_s0) : ref01_Has_ii_L1_sel x0 s0 = false → (roundG (runC E0 (cl E0) L18_1) [1, 5, 6] [5] 0) (ref01_Has_ii_L1_enc x0 x1 x2 s0) = some ((.exit 0), ([(V.d (.int .i64 s0.c1))], [])) := by
  unfold ref01_Has_ii_L1_sel
  cases h1 : tb (decide (s0.c2 < x0))
  · intro g0
    exact round_walk [.b (tbE h1)] (by kernel_rfl)
  · intro g0
    exact absurd g0 tf
theorem ref01_Has_ii_L1_f0_0 (x0 : Int) (x1 : Int) (x2 : Int) (s : ref01_Has_ii_L1_s0) (hok : ref01_Has_ii_L1_ok x0 s = true) : loopG (roundG (runC E0 (cl E0) L18_1) [1, 5, 6] [5] 0) bound (ref01_Has_ii_L1_enc x0 x1 x2 s) = some ((.exit 0), ([(V.d (.int .i64 ((ref01_Has_ii_L1_end x0 s).c1)))], [])) := by
  have e : itS (ref01_Has_ii_L1_sel x0) (ref01_Has_ii_L1_nx x0) bound s = some (ref01_Has_ii_L1_end x0 s) := itS_get hok
  have f := itS_false e
  exact loop_it (ref01_Has_ii_L1_go x0 x1 x2) bound s _ _ _ e (fun h => by cases h) (ref01_Has_ii_L1_x0 x0 x1 x2 (ref01_Has_ii_L1_end x0 s) f )
def ref01_Has_ii_S2_c0 (x0 : Int) (x1 : Int) : Bool := (bif tb (ref01_Has_ii_L1_ok x0 (⟨x1, 0⟩ : ref01_Has_ii_L1_s0)) then true else false)
theorem ref01_Has_ii_S2_t0 (x0 : Int) (x1 : Int) : ref01_Has_ii_S2_c0 x0 x1 = true → segG (runC E0 (cl E0) S18_2) [1, 5] [] [5] 0 ([(V.d (.int .i64 x0)), (V.d (.int .i64 x1))], []) = some (.normal, ([(V.d (.int .i64 ((ref01_Has_ii_L1_end x0 (⟨x1, 0⟩ : ref01_Has_ii_L1_s0)).c1)))], [])) := by
  unfold ref01_Has_ii_S2_c0
  cases h1 : tb (ref01_Has_ii_L1_ok x0 (⟨x1, 0⟩ : ref01_Has_ii_L1_s0))
  · intro g0
    exact absurd g0 ft
  · intro g0
    exact seg_walk [.l (ref01_Has_ii_L1_f0_0 x0 x1 0 (⟨x1, 0⟩ : ref01_Has_ii_L1_s0) (tbE h1))] (by kernel_rfl)
def ref01_Has_ii_e0 (x0 : Int) (x1 : Int) : Int := remI .i64 ((ref01_Has_ii_L1_end x1 (⟨x0, 0⟩ : ref01_Has_ii_L1_s0)).c1) 2
def ref01_Has_ii_c0 (x0 : Int) (x1 : Int) : Bool := (bif tb (ref01_Has_ii_S0_c0 x0 x1) then true else (bif tb (ref01_Has_ii_S2_c0 x1 x0) then true else false))
def ref01_Has_ii_r0_0 (x0 : Int) (x1 : Int) : Bool := (bif tb (ref01_Has_ii_S0_c0 x0 x1) then false else (((ref01_Has_ii_e0 x0 x1) : Int) == 1))
theorem ref01_Has_ii_t0 (x0 : Int) (x1 : Int) : ref01_Has_ii_c0 x0 x1 = true → cl E0 18 [(V.d (.int .i64 x0)), (V.d (.int .i64 x1))] [] = some ([(V.d (.bool (ref01_Has_ii_r0_0 x0 x1)))], []) := by
  unfold ref01_Has_ii_c0 ref01_Has_ii_r0_0
  cases h1 : tb (ref01_Has_ii_S0_c0 x0 x1)
  · cases h2 : tb (ref01_Has_ii_S2_c0 x1 x0)
    · intro g0
      exact absurd g0 ft
    · intro g0
      exact w18 [.s (ref01_Has_ii_S0_t1 x0 x1 (tbE h1)), .s (ref01_Has_ii_S2_t0 x1 x0 (tbE h2))] (by kernel_rfl)
  · intro g0
    exact w18 [.s (ref01_Has_ii_S0_t0 x0 x1 (tbE h1))] (by kernel_rfl)
structure ref01_Bits_o_L0_s0 where
  c2 : Int
  c3 : Int
  c4 : Int
  deriving Inhabited
def ref01_Bits_o_L0_enc (x0 : Bool) (x1 : List Bool) (x2 : Int) (x3 : Int) (x4 : Int) (s0 : ref01_Bits_o_L0_s0) : List V × Mem := ([(V.d (slD encB true 1 x0 x1)), (V.d (.int .i64 s0.c2)), (V.d (.int .i64 s0.c3)), (V.d (.int .i64 s0.c4))], [])
def ref01_Bits_o_L0_sel (x1 : List Bool) (s0 : ref01_Bits_o_L0_s0) : Bool := (bif tb (decide (s0.c4 < ((x1.length : Nat) : Int))) then (bif tb (inb x1.length s0.c4) then true else false) else false)
def ref01_Bits_o_L0_nx (x1 : List Bool) (s0 : ref01_Bits_o_L0_s0) : ref01_Bits_o_L0_s0 := (bif tb (gt x1 s0.c4) then ⟨(wi (s0.c2 + s0.c3)), (wi (2 * s0.c3)), (wi (s0.c4 + 1))⟩ else ⟨s0.c2, (wi (2 * s0.c3)), (wi (s0.c4 + 1))⟩)
def ref01_Bits_o_L0_ok (x1 : List Bool) (s0 : ref01_Bits_o_L0_s0) : Bool := (itS (ref01_Bits_o_L0_sel x1) (ref01_Bits_o_L0_nx x1) bound s0).isSome
def ref01_Bits_o_L0_end (x1 : List Bool) (s0 : ref01_Bits_o_L0_s0) : ref01_Bits_o_L0_s0 := (itS (ref01_Bits_o_L0_sel x1) (ref01_Bits_o_L0_nx x1) bound s0).getD default
theorem ref01_Bits_o_L0_go (x0 : Bool) (x1 : List Bool) (x2 : Int) (x3 : Int) (x4 : Int) (s0 : ref01_Bits_o_L0_s0) : ref01_Bits_o_L0_sel x1 s0 = true → (roundG (runC E0 (cl E0) L20_0) [0, 3, 4, 5] [3] 0) (ref01_Bits_o_L0_enc x0 x1 x2 x3 x4 s0) = some (.normal, ref01_Bits_o_L0_enc x0 x1 x2 x3 x4 (ref01_Bits_o_L0_nx x1 s0)) := by
  unfold ref01_Bits_o_L0_sel ref01_Bits_o_L0_nx
  cases h1 : tb (decide (s0.c4 < ((x1.length : Nat) : Int)))
  · intro g0
    exact absurd g0 ft
  · cases h2 : tb (inb x1.length s0.c4)
    · intro g0
      exact absurd g0 ft
    · cases h3 : tb (gt x1 s0.c4)
      · intro _
        exact round_walk [.o 11 (fun _ => o_len_os (enc := encB) (l := x1) (fl := true) (n := x0) (s := 1)), .b (tbE h1), .o 17 (fun _ => o_idx_os (enc := encB) (l := x1) (fl := true) (n := x0) (s := 1) (k := .i64) (tbE h2)), .b (tbE h3)] (by kernel_rfl)
      · intro _
        exact round_walk [.o 11 (fun _ => o_len_os (enc := encB) (l := x1) (fl := true) (n := x0) (s := 1)), .b (tbE h1), .o 17 (fun _ => o_idx_os (enc := encB) (l := x1) (fl := true) (n := x0) (s := 1) (k := .i64) (tbE h2)), .b (tbE h3)] (by kernel_rfl)
def ref01_Bits_o_L0_c0 (x1 : List Bool) (s0 : ref01_Bits_o_L0_s0) : Bool := (bif tb (decide (s0.c4 < ((x1.length : Nat) : Int))) then false else true)
theorem ref01_Bits_o_L0_x0 (x0 : Bool) (x1 : List Bool) (x2 : Int) (x3 : Int) (x4 : Int) (s0 : ref01_Bits_o_L0_s0) : ref01_Bits_o_L0_sel x1 s0 = false → ref01_Bits_o_L0_c0 x1 s0 = true → (roundG (runC E0 (cl E0) L20_0) [0, 3, 4, 5] [3] 0) (ref01_Bits_o_L0_enc x0 x1 x2 x3 x4 s0) = some ((.exit 0), ([(V.d (.int .i64 s0.c2))], [])) := by
  unfold ref01_Bits_o_L0_sel ref01_Bits_o_L0_c0
  cases h1 : tb (decide (s0.c4 < ((x1.length : Nat) : Int)))
  · intro g0 g1
    exact round_walk [.o 11 (fun _ => o_len_os (enc := encB) (l := x1) (fl := true) (n := x0) (s := 1)), .b (tbE h1)] (by kernel_rfl)
  · cases h2 : tb (inb x1.length s0.c4)
    · intro g0 g1
      exact absurd g1 ft
    · cases h3 : tb (gt x1 s0.c4)
      · intro g0 g1
        exact absurd g0 tf
      · intro g0 g1
        exact absurd g0 tf
theorem ref01_Bits_o_L0_f0_0 (x0 : Bool) (x1 : List Bool) (x2 : Int) (x3 : Int) (x4 : Int) (s : ref01_Bits_o_L0_s0) (hok : ref01_Bits_o_L0_ok x1 s = true) (c0 : ref01_Bits_o_L0_c0 x1 (ref01_Bits_o_L0_end x1 s) = true) : loopG (roundG (runC E0 (cl E0) L20_0) [0, 3, 4, 5] [3] 0) bound (ref01_Bits_o_L0_enc x0 x1 x2 x3 x4 s) = some ((.exit 0), ([(V.d (.int .i64 ((ref01_Bits_o_L0_end x1 s).c2)))], [])) := by
  have e : itS (ref01_Bits_o_L0_sel x1) (ref01_Bits_o_L0_nx x1) bound s = some (ref01_Bits_o_L0_end x1 s) := itS_get hok
  have f := itS_false e
  exact loop_it (ref01_Bits_o_L0_go x0 x1 x2 x3 x4) bound s _ _ _ e (fun h => by cases h) (ref01_Bits_o_L0_x0 x0 x1 x2 x3 x4 (ref01_Bits_o_L0_end x1 s) f c0)
def ref01_Bits_o_c0 (x1 : List Bool) : Bool := (bif tb (decide (16 < ((x1.length : Nat) : Int))) then true else (bif tb (ref01_Bits_o_L0_ok x1 (⟨0, 1, 0⟩ : ref01_Bits_o_L0_s0)) then (bif tb (ref01_Bits_o_L0_c0 x1 (ref01_Bits_o_L0_end x1 (⟨0, 1, 0⟩ : ref01_Bits_o_L0_s0))) then true else false) else false))
def ref01_Bits_o_r0_0 (x1 : List Bool) : Int := (bif tb (decide (16 < ((x1.length : Nat) : Int))) then 0 else ((ref01_Bits_o_L0_end x1 (⟨0, 1, 0⟩ : ref01_Bits_o_L0_s0)).c2))
theorem ref01_Bits_o_t0 (x0 : Bool) (x1 : List Bool) : ref01_Bits_o_c0 x1 = true → cl E0 20 [(V.d (slD encB true 1 x0 x1))] [] = some ([(V.d (.int .i64 (ref01_Bits_o_r0_0 x1)))], []) := by
  unfold ref01_Bits_o_c0 ref01_Bits_o_r0_0
  cases h1 : tb (decide (16 < ((x1.length : Nat) : Int)))
  · cases h2 : tb (ref01_Bits_o_L0_ok x1 (⟨0, 1, 0⟩ : ref01_Bits_o_L0_s0))
    · intro g0
      exact absurd g0 ft
    · cases h3 : tb (ref01_Bits_o_L0_c0 x1 (ref01_Bits_o_L0_end x1 (⟨0, 1, 0⟩ : ref01_Bits_o_L0_s0)))
      · intro g0
        exact absurd g0 ft
      · intro g0
        exact w20 [.o 7 (fun _ => o_len_os (enc := encB) (l := x1) (fl := true) (n := x0) (s := 1)), .b (tbE h1), .l (ref01_Bits_o_L0_f0_0 x0 x1 0 1 0 (⟨0, 1, 0⟩ : ref01_Bits_o_L0_s0) (tbE h2) (tbE h3))] (by kernel_rfl)
  · intro g0
    exact w20 [.o 7 (fun _ => o_len_os (enc := encB) (l := x1) (fl := true) (n := x0) (s := 1)), .b (tbE h1)] (by kernel_rfl)
end Go.Proofs.YtlenjioebdmooaaDoor.Den

namespace Go.Proofs.YtlenjioebdmooaaDoor.Den
open Go Go.Proofs
set_option maxRecDepth 100000
set_option maxHeartbeats 4000000
set_option linter.unusedVariables false
set_option linter.unusedSimpArgs false
def ref14_Text_i_S0_c0 (x0 : Int) : Bool := (bif tb (decide (x0 < 0)) then true else (bif tb (decide (63 < x0)) then true else false))
theorem ref14_Text_i_S0_t0 (x0 : Int) : ref14_Text_i_S0_c0 x0 = true → segG (runC E0 (cl E0) S9_0) [0] [2] [0] 0 ([(V.d (.int .i64 x0))], []) = some (.ret, ([(V.d (.str ⟨#[]⟩))], [])) := by
  unfold ref14_Text_i_S0_c0
  cases h1 : tb (decide (x0 < 0))
  · cases h2 : tb (decide (63 < x0))
    · intro g0
      exact absurd g0 ft
    · intro g0
      exact seg_walk [.b (tbE h1), .b (tbE h2)] (by kernel_rfl)
  · intro g0
    exact seg_walk [.b (tbE h1)] (by kernel_rfl)
theorem ref14_Text_i_S0_t1 (x0 : Int) : ref14_Text_i_S0_c0 x0 = false → segG (runC E0 (cl E0) S9_0) [0] [2] [0] 0 ([(V.d (.int .i64 x0))], []) = some (.normal, ([(V.d (.int .i64 x0))], [])) := by
  unfold ref14_Text_i_S0_c0
  cases h1 : tb (decide (x0 < 0))
  · cases h2 : tb (decide (63 < x0))
    · intro g0
      exact seg_walk [.b (tbE h1), .b (tbE h2)] (by kernel_rfl)
    · intro g0
      exact absurd g0 tf
  · intro g0
    exact absurd g0 tf
theorem ref14_names_t0  : cl E0 17 [] [] = some ([(V.so false 0 6)], [(Blk.flat 9 1 [[(.str ⟨#[102, 114, 97, 109, 101]⟩)], [(.str ⟨#[114, 97, 110, 103, 101]⟩)], [(.str ⟨#[115, 112, 105, 107, 101]⟩)], [(.str ⟨#[115, 116, 117, 99, 107]⟩)], [(.str ⟨#[100, 114, 105, 102, 116]⟩)], [(.str ⟨#[109, 105, 115]⟩)]] false)]) := by
  exact w17 [] (by kernel_rfl)
structure ref14_Text_i_L1_s0 where
  c2 : ByteArray
  c3 : Int
  deriving Inhabited
def ref14_Text_i_L1_enc (x0 : List ByteArray) (x1 : Bool) (x2 : Int) (x3 : Bool) (x4 : ByteArray) (x5 : Int) (s0 : ref14_Text_i_L1_s0) : List V × Mem := ([(V.d (.int .i64 x2)), (V.so x3 0 x0.length), (V.d (.str s0.c2)), (V.d (.int .i64 s0.c3))], [(Blk.flat 9 1 (List.map encS x0) x1)])
def ref14_Text_i_L1_sel (x0 : List ByteArray) (x2 : Int) (s0 : ref14_Text_i_L1_s0) : Bool := (bif tb (decide (s0.c3 < 6)) then (bif tb (ref01_Has_ii_c0 x2 s0.c3) then (bif tb (ref01_Has_ii_r0_0 x2 s0.c3) then (bif tb (!(s0.c2.toList == (⟨#[]⟩ : ByteArray).toList)) then (bif tb (decide (s0.c2.size + (⟨#[43]⟩ : ByteArray).size ≤ 9223372036854775807)) then (bif tb (inb x0.length s0.c3) then (bif tb (decide ((s0.c2 ++ (⟨#[43]⟩ : ByteArray)).size + (gt x0 s0.c3).size ≤ 9223372036854775807)) then true else false) else false) else false) else (bif tb (inb x0.length s0.c3) then (bif tb (decide (s0.c2.size + (gt x0 s0.c3).size ≤ 9223372036854775807)) then true else false) else false)) else true) else false) else false)
def ref14_Text_i_L1_nx (x0 : List ByteArray) (x2 : Int) (s0 : ref14_Text_i_L1_s0) : ref14_Text_i_L1_s0 := (bif tb (ref01_Has_ii_r0_0 x2 s0.c3) then (bif tb (!(s0.c2.toList == (⟨#[]⟩ : ByteArray).toList)) then ⟨((s0.c2 ++ (⟨#[43]⟩ : ByteArray)) ++ (gt x0 s0.c3)), (wi (s0.c3 + 1))⟩ else ⟨(s0.c2 ++ (gt x0 s0.c3)), (wi (s0.c3 + 1))⟩) else ⟨s0.c2, (wi (s0.c3 + 1))⟩)
def ref14_Text_i_L1_ok (x0 : List ByteArray) (x2 : Int) (s0 : ref14_Text_i_L1_s0) : Bool := (itS (ref14_Text_i_L1_sel x0 x2) (ref14_Text_i_L1_nx x0 x2) bound s0).isSome
def ref14_Text_i_L1_end (x0 : List ByteArray) (x2 : Int) (s0 : ref14_Text_i_L1_s0) : ref14_Text_i_L1_s0 := (itS (ref14_Text_i_L1_sel x0 x2) (ref14_Text_i_L1_nx x0 x2) bound s0).getD default
theorem ref14_Text_i_L1_go (x0 : List ByteArray) (x1 : Bool) (x2 : Int) (x3 : Bool) (x4 : ByteArray) (x5 : Int) (s0 : ref14_Text_i_L1_s0) : ref14_Text_i_L1_sel x0 x2 s0 = true → (roundG (runC E0 (cl E0) L9_1) [0, 3, 4, 5] [4] 1) (ref14_Text_i_L1_enc x0 x1 x2 x3 x4 x5 s0) = some (.normal, ref14_Text_i_L1_enc x0 x1 x2 x3 x4 x5 (ref14_Text_i_L1_nx x0 x2 s0)) := by
  unfold ref14_Text_i_L1_sel ref14_Text_i_L1_nx
  cases h1 : tb (decide (s0.c3 < 6))
  · intro g0
    exact absurd g0 ft
  · cases h2 : tb (ref01_Has_ii_c0 x2 s0.c3)
    · intro g0
      exact absurd g0 ft
    · cases h3 : tb (ref01_Has_ii_r0_0 x2 s0.c3)
      · intro _
        exact round_walk [.b (tbE h1), .c (ref01_Has_ii_t0 x2 s0.c3 (tbE h2)), .b (tbE h3), .b (tbE h3)] (by kernel_rfl)
      · cases h4 : tb (!(s0.c2.toList == (⟨#[]⟩ : ByteArray).toList))
        · cases h5 : tb (inb x0.length s0.c3)
          · intro g0
            exact absurd g0 ft
          · cases h6 : tb (decide (s0.c2.size + (gt x0 s0.c3).size ≤ 9223372036854775807))
            · intro g0
              exact absurd g0 ft
            · intro _
              exact round_walk [.b (tbE h1), .c (ref01_Has_ii_t0 x2 s0.c3 (tbE h2)), .b (tbE h3), .b (tbE h4), .b (tbE h3), .m 34 (o_idx_so (m := [(Blk.flat 9 1 (List.map encS x0) x1)]) (b := x3) (id := 0) (n := x0.length) (s := 1) (k := .i64) (by kernel_rfl) (tbE h5)), .m 35 (o_load_L (m := [(Blk.flat 9 1 (List.map encS x0) x1)]) (enc := encS) (l := x0) (id := 0) (e := 9) (s := 1) (off := 0) (size := 1) (p := x1) (agg := false) (i := s0.c3) (v := (V.d (.str (gt x0 s0.c3)))) (n := x0.length) (Nat.beq_refl _) (by kernel_rfl) (tbE h5) (by kernel_rfl)), .o 36 (fun _ => o_addstr (x := s0.c2) (y := (gt x0 s0.c3)) (tbE h6))] (by kernel_rfl)
        · cases h5 : tb (decide (s0.c2.size + (⟨#[43]⟩ : ByteArray).size ≤ 9223372036854775807))
          · intro g0
            exact absurd g0 ft
          · cases h6 : tb (inb x0.length s0.c3)
            · intro g0
              exact absurd g0 ft
            · cases h7 : tb (decide ((s0.c2 ++ (⟨#[43]⟩ : ByteArray)).size + (gt x0 s0.c3).size ≤ 9223372036854775807))
              · intro g0
                exact absurd g0 ft
              · intro _
                exact round_walk [.b (tbE h1), .c (ref01_Has_ii_t0 x2 s0.c3 (tbE h2)), .b (tbE h3), .b (tbE h4), .o 29 (fun _ => o_addstr (x := s0.c2) (y := (⟨#[43]⟩ : ByteArray)) (tbE h5)), .b (tbE h3), .m 34 (o_idx_so (m := [(Blk.flat 9 1 (List.map encS x0) x1)]) (b := x3) (id := 0) (n := x0.length) (s := 1) (k := .i64) (by kernel_rfl) (tbE h6)), .m 35 (o_load_L (m := [(Blk.flat 9 1 (List.map encS x0) x1)]) (enc := encS) (l := x0) (id := 0) (e := 9) (s := 1) (off := 0) (size := 1) (p := x1) (agg := false) (i := s0.c3) (v := (V.d (.str (gt x0 s0.c3)))) (n := x0.length) (Nat.beq_refl _) (by kernel_rfl) (tbE h6) (by kernel_rfl)), .o 36 (fun _ => o_addstr (x := (s0.c2 ++ (⟨#[43]⟩ : ByteArray))) (y := (gt x0 s0.c3)) (tbE h7))] (by kernel_rfl)
def ref14_Text_i_L1_c0 (s0 : ref14_Text_i_L1_s0) : Bool := (bif tb (decide (s0.c3 < 6)) then false else true)
theorem ref14_Text_i_L1_x0 (x0 : List ByteArray) (x1 : Bool) (x2 : Int) (x3 : Bool) (x4 : ByteArray) (x5 : Int) (s0 : ref14_Text_i_L1_s0) : ref14_Text_i_L1_sel x0 x2 s0 = false → ref14_Text_i_L1_c0 s0 = true → (roundG (runC E0 (cl E0) L9_1) [0, 3, 4, 5] [4] 1) (ref14_Text_i_L1_enc x0 x1 x2 x3 x4 x5 s0) = some ((.exit 0), ([(V.d (.str s0.c2))], [(Blk.flat 9 1 (List.map encS x0) x1)])) := by
  unfold ref14_Text_i_L1_sel ref14_Text_i_L1_c0
  cases h1 : tb (decide (s0.c3 < 6))
  · intro g0 g1
    exact round_walk [.b (tbE h1)] (by kernel_rfl)
  · cases h2 : tb (ref01_Has_ii_c0 x2 s0.c3)
    · intro g0 g1
      exact absurd g1 ft
    · cases h3 : tb (ref01_Has_ii_r0_0 x2 s0.c3)
      · intro g0 g1
        exact absurd g0 tf
      · cases h4 : tb (!(s0.c2.toList == (⟨#[]⟩ : ByteArray).toList))
        · cases h5 : tb (inb x0.length s0.c3)
          · intro g0 g1
            exact absurd g1 ft
          · cases h6 : tb (decide (s0.c2.size + (gt x0 s0.c3).size ≤ 9223372036854775807))
            · intro g0 g1
              exact absurd g1 ft
            · intro g0 g1
              exact absurd g0 tf
        · cases h5 : tb (decide (s0.c2.size + (⟨#[43]⟩ : ByteArray).size ≤ 9223372036854775807))
          · intro g0 g1
            exact absurd g1 ft
          · cases h6 : tb (inb x0.length s0.c3)
            · intro g0 g1
              exact absurd g1 ft
            · cases h7 : tb (decide ((s0.c2 ++ (⟨#[43]⟩ : ByteArray)).size + (gt x0 s0.c3).size ≤ 9223372036854775807))
              · intro g0 g1
                exact absurd g1 ft
              · intro g0 g1
                exact absurd g0 tf
theorem ref14_Text_i_L1_f0_0 (x0 : List ByteArray) (x1 : Bool) (x2 : Int) (x3 : Bool) (x4 : ByteArray) (x5 : Int) (s : ref14_Text_i_L1_s0) (hok : ref14_Text_i_L1_ok x0 x2 s = true) (c0 : ref14_Text_i_L1_c0 (ref14_Text_i_L1_end x0 x2 s) = true) : loopG (roundG (runC E0 (cl E0) L9_1) [0, 3, 4, 5] [4] 1) bound (ref14_Text_i_L1_enc x0 x1 x2 x3 x4 x5 s) = some ((.exit 0), ([(V.d (.str ((ref14_Text_i_L1_end x0 x2 s).c2)))], [(Blk.flat 9 1 (List.map encS x0) x1)])) := by
  have e : itS (ref14_Text_i_L1_sel x0 x2) (ref14_Text_i_L1_nx x0 x2) bound s = some (ref14_Text_i_L1_end x0 x2 s) := itS_get hok
  have f := itS_false e
  exact loop_it (ref14_Text_i_L1_go x0 x1 x2 x3 x4 x5) bound s _ _ _ e (fun h => by cases h) (ref14_Text_i_L1_x0 x0 x1 x2 x3 x4 x5 (ref14_Text_i_L1_end x0 x2 s) f c0)
def ref14_Text_i_S2_e0  : List ByteArray := ([⟨#[102, 114, 97, 109, 101]⟩, ⟨#[114, 97, 110, 103, 101]⟩, ⟨#[115, 112, 105, 107, 101]⟩, ⟨#[115, 116, 117, 99, 107]⟩, ⟨#[100, 114, 105, 102, 116]⟩, ⟨#[109, 105, 115]⟩] : List ByteArray)
def ref14_Text_i_S2_e1 (x0 : Int) : ref14_Text_i_L1_s0 := ref14_Text_i_L1_end ref14_Text_i_S2_e0 x0 (⟨⟨#[]⟩, 0⟩ : ref14_Text_i_L1_s0)
def ref14_Text_i_S2_c0 (x0 : Int) : Bool := (bif tb (ref14_Text_i_L1_ok ref14_Text_i_S2_e0 x0 (⟨⟨#[]⟩, 0⟩ : ref14_Text_i_L1_s0)) then (bif tb (ref14_Text_i_L1_c0 (ref14_Text_i_S2_e1 x0)) then true else false) else false)
theorem ref14_Text_i_S2_t0 (x0 : Int) : ref14_Text_i_S2_c0 x0 = true → segG (runC E0 (cl E0) S9_2) [0] [] [4] 0 ([(V.d (.int .i64 x0))], []) = some (.normal, ([(V.d (.str ((ref14_Text_i_S2_e1 x0).c2)))], [])) := by
  unfold ref14_Text_i_S2_c0
  cases h1 : tb (ref14_Text_i_L1_ok ref14_Text_i_S2_e0 x0 (⟨⟨#[]⟩, 0⟩ : ref14_Text_i_L1_s0))
  · intro g0
    exact absurd g0 ft
  · cases h2 : tb (ref14_Text_i_L1_c0 (ref14_Text_i_S2_e1 x0))
    · intro g0
      exact absurd g0 ft
    · intro g0
      exact seg_walk [.c (ref14_names_t0), .l (ref14_Text_i_L1_f0_0 ref14_Text_i_S2_e0 false x0 false ⟨#[]⟩ 0 (⟨⟨#[]⟩, 0⟩ : ref14_Text_i_L1_s0) (tbE h1) (tbE h2))] (by kernel_rfl)
def ref14_Text_i_c0 (x0 : Int) : Bool := (bif tb (ref14_Text_i_S0_c0 x0) then true else (bif tb ((x0 : Int) == 0) then true else (bif tb (ref14_Text_i_S2_c0 x0) then true else false)))
def ref14_Text_i_r0_0 (x0 : Int) : ByteArray := (bif tb (ref14_Text_i_S0_c0 x0) then ⟨#[]⟩ else (bif tb ((x0 : Int) == 0) then ⟨#[45]⟩ else ((ref14_Text_i_S2_e1 x0).c2)))
theorem ref14_Text_i_t0 (x0 : Int) : ref14_Text_i_c0 x0 = true → cl E0 9 [(V.d (.int .i64 x0))] [] = some ([(V.d (.str (ref14_Text_i_r0_0 x0)))], []) := by
  unfold ref14_Text_i_c0 ref14_Text_i_r0_0
  cases h1 : tb (ref14_Text_i_S0_c0 x0)
  · cases h2 : tb ((x0 : Int) == 0)
    · cases h3 : tb (ref14_Text_i_S2_c0 x0)
      · intro g0
        exact absurd g0 ft
      · intro g0
        exact w9 [.s (ref14_Text_i_S0_t1 x0 (tbE h1)), .b (tbE h2), .s (ref14_Text_i_S2_t0 x0 (tbE h3))] (by kernel_rfl)
    · intro g0
      exact w9 [.s (ref14_Text_i_S0_t1 x0 (tbE h1)), .b (tbE h2)] (by kernel_rfl)
  · intro g0
    exact w9 [.s (ref14_Text_i_S0_t0 x0 (tbE h1))] (by kernel_rfl)
structure ref14_Parse_s_L0_s0 where
  c1 : Int
  deriving Inhabited
def ref14_Parse_s_L0_enc (x0 : ByteArray) (x1 : Int) (s0 : ref14_Parse_s_L0_s0) : List V × Mem := ([(V.d (.str x0)), (V.d (.int .i64 s0.c1))], [])
def ref14_Parse_s_L0_sel (x0 : ByteArray) (s0 : ref14_Parse_s_L0_s0) : Bool := (bif tb (decide (s0.c1 < 64)) then (bif tb (ref14_Text_i_c0 s0.c1) then (bif tb ((ref14_Text_i_r0_0 s0.c1).toList == x0.toList) then false else true) else false) else false)
def ref14_Parse_s_L0_nx (x0 : ByteArray) (s0 : ref14_Parse_s_L0_s0) : ref14_Parse_s_L0_s0 := ⟨(wi (s0.c1 + 1))⟩
def ref14_Parse_s_L0_ok (x0 : ByteArray) (s0 : ref14_Parse_s_L0_s0) : Bool := (itS (ref14_Parse_s_L0_sel x0) (ref14_Parse_s_L0_nx x0) bound s0).isSome
def ref14_Parse_s_L0_end (x0 : ByteArray) (s0 : ref14_Parse_s_L0_s0) : ref14_Parse_s_L0_s0 := (itS (ref14_Parse_s_L0_sel x0) (ref14_Parse_s_L0_nx x0) bound s0).getD default
theorem ref14_Parse_s_L0_go (x0 : ByteArray) (x1 : Int) (s0 : ref14_Parse_s_L0_s0) : ref14_Parse_s_L0_sel x0 s0 = true → (roundG (runC E0 (cl E0) L7_0) [0, 4] [2, 3] 0) (ref14_Parse_s_L0_enc x0 x1 s0) = some (.normal, ref14_Parse_s_L0_enc x0 x1 (ref14_Parse_s_L0_nx x0 s0)) := by
  unfold ref14_Parse_s_L0_sel ref14_Parse_s_L0_nx
  cases h1 : tb (decide (s0.c1 < 64))
  · intro g0
    exact absurd g0 ft
  · cases h2 : tb (ref14_Text_i_c0 s0.c1)
    · intro g0
      exact absurd g0 ft
    · cases h3 : tb ((ref14_Text_i_r0_0 s0.c1).toList == x0.toList)
      · intro _
        exact round_walk [.b (tbE h1), .c (ref14_Text_i_t0 s0.c1 (tbE h2)), .b (tbE h3)] (by kernel_rfl)
      · intro g0
        exact absurd g0 ft
def ref14_Parse_s_L0_c0 (s0 : ref14_Parse_s_L0_s0) : Bool := (bif tb (decide (s0.c1 < 64)) then (bif tb (ref14_Text_i_c0 s0.c1) then true else false) else false)
def ref14_Parse_s_L0_c1 (s0 : ref14_Parse_s_L0_s0) : Bool := (bif tb (decide (s0.c1 < 64)) then false else true)
theorem ref14_Parse_s_L0_x0 (x0 : ByteArray) (x1 : Int) (s0 : ref14_Parse_s_L0_s0) : ref14_Parse_s_L0_sel x0 s0 = false → ref14_Parse_s_L0_c0 s0 = true → (roundG (runC E0 (cl E0) L7_0) [0, 4] [2, 3] 0) (ref14_Parse_s_L0_enc x0 x1 s0) = some (.ret, ([(V.d (.int .i64 s0.c1)), (V.d (.int .i64 0))], [])) := by
  unfold ref14_Parse_s_L0_sel ref14_Parse_s_L0_c0
  cases h1 : tb (decide (s0.c1 < 64))
  · intro g0 g1
    exact absurd g1 ft
  · cases h2 : tb (ref14_Text_i_c0 s0.c1)
    · intro g0 g1
      exact absurd g1 ft
    · cases h3 : tb ((ref14_Text_i_r0_0 s0.c1).toList == x0.toList)
      · intro g0 g1
        exact absurd g0 tf
      · intro g0 g1
        exact round_walk [.b (tbE h1), .c (ref14_Text_i_t0 s0.c1 (tbE h2)), .b (tbE h3)] (by kernel_rfl)
theorem ref14_Parse_s_L0_x1 (x0 : ByteArray) (x1 : Int) (s0 : ref14_Parse_s_L0_s0) : ref14_Parse_s_L0_sel x0 s0 = false → ref14_Parse_s_L0_c0 s0 = false → ref14_Parse_s_L0_c1 s0 = true → (roundG (runC E0 (cl E0) L7_0) [0, 4] [2, 3] 0) (ref14_Parse_s_L0_enc x0 x1 s0) = some ((.exit 0), ([V.un, V.un], [])) := by
  unfold ref14_Parse_s_L0_sel ref14_Parse_s_L0_c0 ref14_Parse_s_L0_c1
  cases h1 : tb (decide (s0.c1 < 64))
  · intro g0 g1 g2
    exact round_walk [.b (tbE h1)] (by kernel_rfl)
  · cases h2 : tb (ref14_Text_i_c0 s0.c1)
    · intro g0 g1 g2
      exact absurd g2 ft
    · cases h3 : tb ((ref14_Text_i_r0_0 s0.c1).toList == x0.toList)
      · intro g0 g1 g2
        exact absurd g0 tf
      · intro g0 g1 g2
        exact absurd g1 tf
theorem ref14_Parse_s_L0_f0_0 (x0 : ByteArray) (x1 : Int) (s : ref14_Parse_s_L0_s0) (hok : ref14_Parse_s_L0_ok x0 s = true) (c0 : ref14_Parse_s_L0_c0 (ref14_Parse_s_L0_end x0 s) = true) : loopG (roundG (runC E0 (cl E0) L7_0) [0, 4] [2, 3] 0) bound (ref14_Parse_s_L0_enc x0 x1 s) = some (.ret, ([(V.d (.int .i64 ((ref14_Parse_s_L0_end x0 s).c1))), (V.d (.int .i64 0))], [])) := by
  have e : itS (ref14_Parse_s_L0_sel x0) (ref14_Parse_s_L0_nx x0) bound s = some (ref14_Parse_s_L0_end x0 s) := itS_get hok
  have f := itS_false e
  exact loop_it (ref14_Parse_s_L0_go x0 x1) bound s _ _ _ e (fun h => by cases h) (ref14_Parse_s_L0_x0 x0 x1 (ref14_Parse_s_L0_end x0 s) f c0)
theorem ref14_Parse_s_L0_f0_1 (x0 : ByteArray) (x1 : Int) (s : ref14_Parse_s_L0_s0) (hok : ref14_Parse_s_L0_ok x0 s = true) (c0 : ref14_Parse_s_L0_c0 (ref14_Parse_s_L0_end x0 s) = false) (c1 : ref14_Parse_s_L0_c1 (ref14_Parse_s_L0_end x0 s) = true) : loopG (roundG (runC E0 (cl E0) L7_0) [0, 4] [2, 3] 0) bound (ref14_Parse_s_L0_enc x0 x1 s) = some ((.exit 0), ([V.un, V.un], [])) := by
  have e : itS (ref14_Parse_s_L0_sel x0) (ref14_Parse_s_L0_nx x0) bound s = some (ref14_Parse_s_L0_end x0 s) := itS_get hok
  have f := itS_false e
  exact loop_it (ref14_Parse_s_L0_go x0 x1) bound s _ _ _ e (fun h => by cases h) (ref14_Parse_s_L0_x1 x0 x1 (ref14_Parse_s_L0_end x0 s) f c0 c1)
def ref14_Parse_s_c0 (x0 : ByteArray) : Bool := (bif tb (ref14_Parse_s_L0_ok x0 (⟨0⟩ : ref14_Parse_s_L0_s0)) then (bif tb (ref14_Parse_s_L0_c0 (ref14_Parse_s_L0_end x0 (⟨0⟩ : ref14_Parse_s_L0_s0))) then true else (bif tb (ref14_Parse_s_L0_c1 (ref14_Parse_s_L0_end x0 (⟨0⟩ : ref14_Parse_s_L0_s0))) then true else false)) else false)
def ref14_Parse_s_r0_0 (x0 : ByteArray) : Int := (bif tb (ref14_Parse_s_L0_c0 (ref14_Parse_s_L0_end x0 (⟨0⟩ : ref14_Parse_s_L0_s0))) then ((ref14_Parse_s_L0_end x0 (⟨0⟩ : ref14_Parse_s_L0_s0)).c1) else 0)
def ref14_Parse_s_r0_1 (x0 : ByteArray) : Int := (bif tb (ref14_Parse_s_L0_c0 (ref14_Parse_s_L0_end x0 (⟨0⟩ : ref14_Parse_s_L0_s0))) then 0 else 3)
theorem ref14_Parse_s_t0 (x0 : ByteArray) : ref14_Parse_s_c0 x0 = true → cl E0 7 [(V.d (.str x0))] [] = some ([(V.d (.int .i64 (ref14_Parse_s_r0_0 x0))), (V.d (.int .i64 (ref14_Parse_s_r0_1 x0)))], []) := by
  unfold ref14_Parse_s_c0 ref14_Parse_s_r0_0 ref14_Parse_s_r0_1
  cases h1 : tb (ref14_Parse_s_L0_ok x0 (⟨0⟩ : ref14_Parse_s_L0_s0))
  · intro g0
    exact absurd g0 ft
  · cases h2 : tb (ref14_Parse_s_L0_c0 (ref14_Parse_s_L0_end x0 (⟨0⟩ : ref14_Parse_s_L0_s0)))
    · cases h3 : tb (ref14_Parse_s_L0_c1 (ref14_Parse_s_L0_end x0 (⟨0⟩ : ref14_Parse_s_L0_s0)))
      · intro g0
        exact absurd g0 ft
      · intro g0
        exact w7 [.l (ref14_Parse_s_L0_f0_1 x0 0 (⟨0⟩ : ref14_Parse_s_L0_s0) (tbE h1) (tbE h2) (tbE h3))] (by kernel_rfl)
    · intro g0
      exact w7 [.l (ref14_Parse_s_L0_f0_0 x0 0 (⟨0⟩ : ref14_Parse_s_L0_s0) (tbE h1) (tbE h2))] (by kernel_rfl)
def ref14_Mask_o_c0 (x1 : List Bool) : Bool := (bif tb (decide (6 < ((x1.length : Nat) : Int))) then true else (bif tb (ref01_Bits_o_c0 x1) then true else false))
def ref14_Mask_o_r0_0 (x1 : List Bool) : Int := (bif tb (decide (6 < ((x1.length : Nat) : Int))) then 0 else (ref01_Bits_o_r0_0 x1))
theorem ref14_Mask_o_t0 (x0 : Bool) (x1 : List Bool) : ref14_Mask_o_c0 x1 = true → cl E0 11 [(V.d (slD encB true 1 x0 x1))] [] = some ([(V.d (.int .i64 (ref14_Mask_o_r0_0 x1)))], []) := by
  unfold ref14_Mask_o_c0 ref14_Mask_o_r0_0
  cases h1 : tb (decide (6 < ((x1.length : Nat) : Int)))
  · cases h2 : tb (ref01_Bits_o_c0 x1)
    · intro g0
      exact absurd g0 ft
    · intro g0
      exact w11 [.o 4 (fun _ => o_len_os (enc := encB) (l := x1) (fl := true) (n := x0) (s := 1)), .b (tbE h1), .c (ref01_Bits_o_t0 x0 x1 (tbE h2))] (by kernel_rfl)
  · intro g0
    exact w11 [.o 4 (fun _ => o_len_os (enc := encB) (l := x1) (fl := true) (n := x0) (s := 1)), .b (tbE h1)] (by kernel_rfl)
structure ref14_In_ii_L0_s0 where
  c2 : Int
  c3 : Int
  deriving Inhabited
def ref14_In_ii_L0_enc (x0 : Int) (x1 : Int) (x2 : Int) (x3 : Int) (s0 : ref14_In_ii_L0_s0) : List V × Mem := ([(V.d (.int .i64 x0)), (V.d (.int .i64 x1)), (V.d (.int .i64 s0.c2)), (V.d (.int .i64 s0.c3))], [])
def ref14_In_ii_L0_sel (x1 : Int) (s0 : ref14_In_ii_L0_s0) : Bool := (bif tb (decide (s0.c3 < 6)) then (bif tb ((x1 : Int) == s0.c2) then false else true) else false)
def ref14_In_ii_L0_nx (x1 : Int) (s0 : ref14_In_ii_L0_s0) : ref14_In_ii_L0_s0 := ⟨(wi (2 * s0.c2)), (wi (s0.c3 + 1))⟩
def ref14_In_ii_L0_ok (x1 : Int) (s0 : ref14_In_ii_L0_s0) : Bool := (itS (ref14_In_ii_L0_sel x1) (ref14_In_ii_L0_nx x1) bound s0).isSome
def ref14_In_ii_L0_end (x1 : Int) (s0 : ref14_In_ii_L0_s0) : ref14_In_ii_L0_s0 := (itS (ref14_In_ii_L0_sel x1) (ref14_In_ii_L0_nx x1) bound s0).getD default
theorem ref14_In_ii_L0_go (x0 : Int) (x1 : Int) (x2 : Int) (x3 : Int) (s0 : ref14_In_ii_L0_s0) : ref14_In_ii_L0_sel x1 s0 = true → (roundG (runC E0 (cl E0) L13_0) [0, 1, 5, 6] [4] 0) (ref14_In_ii_L0_enc x0 x1 x2 x3 s0) = some (.normal, ref14_In_ii_L0_enc x0 x1 x2 x3 (ref14_In_ii_L0_nx x1 s0)) := by
  unfold ref14_In_ii_L0_sel ref14_In_ii_L0_nx
  cases h1 : tb (decide (s0.c3 < 6))
  · intro g0
    exact absurd g0 ft
  · cases h2 : tb ((x1 : Int) == s0.c2)
    · intro _
      exact round_walk [.b (tbE h1), .b (tbE h2)] (by kernel_rfl)
    · cases h3 : tb (ref01_Has_ii_c0 x0 s0.c3)
      · intro g0
        exact absurd g0 ft
      · intro g0
        exact absurd g0 ft
def ref14_In_ii_L0_c0 (x0 : Int) (s0 : ref14_In_ii_L0_s0) : Bool := (bif tb (decide (s0.c3 < 6)) then (bif tb (ref01_Has_ii_c0 x0 s0.c3) then true else false) else false)
def ref14_In_ii_L0_c1 (s0 : ref14_In_ii_L0_s0) : Bool := (bif tb (decide (s0.c3 < 6)) then false else true)
theorem ref14_In_ii_L0_x0 (x0 : Int) (x1 : Int) (x2 : Int) (x3 : Int) (s0 : ref14_In_ii_L0_s0) : ref14_In_ii_L0_sel x1 s0 = false → ref14_In_ii_L0_c0 x0 s0 = true → (roundG (runC E0 (cl E0) L13_0) [0, 1, 5, 6] [4] 0) (ref14_In_ii_L0_enc x0 x1 x2 x3 s0) = some (.ret, ([(V.d (.bool (ref01_Has_ii_r0_0 x0 s0.c3)))], [])) := by
  unfold ref14_In_ii_L0_sel ref14_In_ii_L0_c0
  cases h1 : tb (decide (s0.c3 < 6))
  · intro g0 g1
    exact absurd g1 ft
  · cases h2 : tb ((x1 : Int) == s0.c2)
    · intro g0 g1
      exact absurd g0 tf
    · cases h3 : tb (ref01_Has_ii_c0 x0 s0.c3)
      · intro g0 g1
        exact absurd g1 ft
      · intro g0 g1
        exact round_walk [.b (tbE h1), .b (tbE h2), .c (ref01_Has_ii_t0 x0 s0.c3 (tbE h3))] (by kernel_rfl)
theorem ref14_In_ii_L0_x1 (x0 : Int) (x1 : Int) (x2 : Int) (x3 : Int) (s0 : ref14_In_ii_L0_s0) : ref14_In_ii_L0_sel x1 s0 = false → ref14_In_ii_L0_c0 x0 s0 = false → ref14_In_ii_L0_c1 s0 = true → (roundG (runC E0 (cl E0) L13_0) [0, 1, 5, 6] [4] 0) (ref14_In_ii_L0_enc x0 x1 x2 x3 s0) = some ((.exit 0), ([V.un], [])) := by
  unfold ref14_In_ii_L0_sel ref14_In_ii_L0_c0 ref14_In_ii_L0_c1
  cases h1 : tb (decide (s0.c3 < 6))
  · intro g0 g1 g2
    exact round_walk [.b (tbE h1)] (by kernel_rfl)
  · cases h2 : tb ((x1 : Int) == s0.c2)
    · intro g0 g1 g2
      exact absurd g0 tf
    · cases h3 : tb (ref01_Has_ii_c0 x0 s0.c3)
      · intro g0 g1 g2
        exact absurd g2 ft
      · intro g0 g1 g2
        exact absurd g1 tf
theorem ref14_In_ii_L0_f0_0 (x0 : Int) (x1 : Int) (x2 : Int) (x3 : Int) (s : ref14_In_ii_L0_s0) (hok : ref14_In_ii_L0_ok x1 s = true) (c0 : ref14_In_ii_L0_c0 x0 (ref14_In_ii_L0_end x1 s) = true) : loopG (roundG (runC E0 (cl E0) L13_0) [0, 1, 5, 6] [4] 0) bound (ref14_In_ii_L0_enc x0 x1 x2 x3 s) = some (.ret, ([(V.d (.bool (ref01_Has_ii_r0_0 x0 (ref14_In_ii_L0_end x1 s).c3)))], [])) := by
  have e : itS (ref14_In_ii_L0_sel x1) (ref14_In_ii_L0_nx x1) bound s = some (ref14_In_ii_L0_end x1 s) := itS_get hok
  have f := itS_false e
  exact loop_it (ref14_In_ii_L0_go x0 x1 x2 x3) bound s _ _ _ e (fun h => by cases h) (ref14_In_ii_L0_x0 x0 x1 x2 x3 (ref14_In_ii_L0_end x1 s) f c0)
theorem ref14_In_ii_L0_f0_1 (x0 : Int) (x1 : Int) (x2 : Int) (x3 : Int) (s : ref14_In_ii_L0_s0) (hok : ref14_In_ii_L0_ok x1 s = true) (c0 : ref14_In_ii_L0_c0 x0 (ref14_In_ii_L0_end x1 s) = false) (c1 : ref14_In_ii_L0_c1 (ref14_In_ii_L0_end x1 s) = true) : loopG (roundG (runC E0 (cl E0) L13_0) [0, 1, 5, 6] [4] 0) bound (ref14_In_ii_L0_enc x0 x1 x2 x3 s) = some ((.exit 0), ([V.un], [])) := by
  have e : itS (ref14_In_ii_L0_sel x1) (ref14_In_ii_L0_nx x1) bound s = some (ref14_In_ii_L0_end x1 s) := itS_get hok
  have f := itS_false e
  exact loop_it (ref14_In_ii_L0_go x0 x1 x2 x3) bound s _ _ _ e (fun h => by cases h) (ref14_In_ii_L0_x1 x0 x1 x2 x3 (ref14_In_ii_L0_end x1 s) f c0 c1)
def ref14_In_ii_c0 (x0 : Int) (x1 : Int) : Bool := (bif tb (decide (x0 < 0)) then true else (bif tb (decide (63 < x0)) then true else (bif tb (ref14_In_ii_L0_ok x1 (⟨1, 0⟩ : ref14_In_ii_L0_s0)) then (bif tb (ref14_In_ii_L0_c0 x0 (ref14_In_ii_L0_end x1 (⟨1, 0⟩ : ref14_In_ii_L0_s0))) then true else (bif tb (ref14_In_ii_L0_c1 (ref14_In_ii_L0_end x1 (⟨1, 0⟩ : ref14_In_ii_L0_s0))) then true else false)) else false)))
def ref14_In_ii_r0_0 (x0 : Int) (x1 : Int) : Bool := (bif tb (decide (x0 < 0)) then false else (bif tb (decide (63 < x0)) then false else (bif tb (ref14_In_ii_L0_c0 x0 (ref14_In_ii_L0_end x1 (⟨1, 0⟩ : ref14_In_ii_L0_s0))) then (ref01_Has_ii_r0_0 x0 (ref14_In_ii_L0_end x1 (⟨1, 0⟩ : ref14_In_ii_L0_s0)).c3) else false)))
theorem ref14_In_ii_t0 (x0 : Int) (x1 : Int) : ref14_In_ii_c0 x0 x1 = true → cl E0 13 [(V.d (.int .i64 x0)), (V.d (.int .i64 x1))] [] = some ([(V.d (.bool (ref14_In_ii_r0_0 x0 x1)))], []) := by
  unfold ref14_In_ii_c0 ref14_In_ii_r0_0
  cases h1 : tb (decide (x0 < 0))
  · cases h2 : tb (decide (63 < x0))
    · cases h3 : tb (ref14_In_ii_L0_ok x1 (⟨1, 0⟩ : ref14_In_ii_L0_s0))
      · intro g0
        exact absurd g0 ft
      · cases h4 : tb (ref14_In_ii_L0_c0 x0 (ref14_In_ii_L0_end x1 (⟨1, 0⟩ : ref14_In_ii_L0_s0)))
        · cases h5 : tb (ref14_In_ii_L0_c1 (ref14_In_ii_L0_end x1 (⟨1, 0⟩ : ref14_In_ii_L0_s0)))
          · intro g0
            exact absurd g0 ft
          · intro g0
            exact w13 [.b (tbE h1), .b (tbE h2), .l (ref14_In_ii_L0_f0_1 x0 x1 1 0 (⟨1, 0⟩ : ref14_In_ii_L0_s0) (tbE h3) (tbE h4) (tbE h5))] (by kernel_rfl)
        · intro g0
          exact w13 [.b (tbE h1), .b (tbE h2), .l (ref14_In_ii_L0_f0_0 x0 x1 1 0 (⟨1, 0⟩ : ref14_In_ii_L0_s0) (tbE h3) (tbE h4))] (by kernel_rfl)
    · intro g0
      exact w13 [.b (tbE h1), .b (tbE h2)] (by kernel_rfl)
  · intro g0
    exact w13 [.b (tbE h1)] (by kernel_rfl)
end Go.Proofs.YtlenjioebdmooaaDoor.Den

namespace Go.Proofs.YtlenjioebdmooaaDoor.Den
open Go Go.Proofs
set_option linter.unusedVariables false
set_option linter.unusedSimpArgs false
set_option maxRecDepth 100000
def T14 (n : Nat) : ByteArray := trip_Text_i_r0_0 (n : Int)
def ckM (n : Nat) : Bool :=
  trip_Text_i_c0 (n : Int) && (ref14_Text_i_c0 (n : Int) && (((T14 n).data.toList == (ref14_Text_i_r0_0 (n : Int)).data.toList) && (Nat.ble (T14 n).data.toList.length 100 && (!((T14 n).data.toList == []) &&
  ((trip_Parse_s_S2_e0 (T14 n)).c1 == (n : Int))))))
theorem ckM_all : (List.range 64).all ckM = true := by kernel_rfl
def ckO (a i : Nat) : Bool := decide (0 ≤ orI .i64 (a : Int) (shlI .i64 1 (i : Int))) && decide (orI .i64 (a : Int) (shlI .i64 1 (i : Int)) ≤ 63)
theorem ckO_all : ((List.range 64).all fun a => (List.range 6).all fun i => ckO a i) = true := by kernel_rfl
def allB : Nat → List (List Bool)
  | 0 => [[]]
  | n + 1 => (allB n).map (true :: ·) ++ (allB n).map (false :: ·)
theorem allB_mem : ∀ l : List Bool, l ∈ allB l.length
  | [] => by simp [allB]
  | true :: l => by simp [allB, allB_mem l]
  | false :: l => by simp [allB, allB_mem l]
def ckB (l : List Bool) : Bool := trip_Mask_o_c0 l && (ref14_Mask_o_c0 l && (trip_Mask_o_r0_0 l == ref14_Mask_o_r0_0 l))
theorem ckB_all : ((List.range 7).all fun n => (allB n).all ckB) = true := by kernel_rfl
end Go.Proofs.YtlenjioebdmooaaDoor.Den

namespace Go.Proofs.YtlenjioebdmooaaDoor.Den
open Go Go.Proofs
set_option linter.unusedVariables false
set_option linter.unusedSimpArgs false
set_option maxRecDepth 100000
theorem bytes_eq {a b : ByteArray} (h : (a.toList == b.toList) = true) : a = b := by
  have h := eq_of_beq h
  rw [ByteArray.toList_eq, ByteArray.toList_eq] at h
  exact ByteArray.ext (Array.ext' h)
theorem bytes_self (a : ByteArray) : (a.toList == a.toList) = true := beq_self_eq_true _
theorem bytes_ne {a b : ByteArray} (h : a ≠ b) : (a.toList == b.toList) = false := by
  cases hh : (a.toList == b.toList) with
  | false => rfl
  | true => exact absurd (bytes_eq hh) h
theorem mask_in {e : Int} (h : 0 ≤ e ∧ e ≤ 63) : trip_Text_i_c0 e = true ∧ ref14_Text_i_c0 e = true ∧ ref14_Text_i_r0_0 e = trip_Text_i_r0_0 e ∧ (trip_Text_i_r0_0 e).size ≤ 100 ∧ trip_Text_i_r0_0 e ≠ ⟨#[]⟩ ∧ (trip_Parse_s_S2_e0 (trip_Text_i_r0_0 e)).c1 = e := by
  have := List.all_eq_true.1 ckM_all e.toNat (List.mem_range.2 (by omega))
  unfold ckM T14 at this
  rw [show ((e.toNat : Nat) : Int) = e by omega] at this
  simp only [Bool.and_eq_true, beq_iff_eq, Bool.not_eq_true'] at this
  obtain ⟨h0, h1, h2, h3, h4, h5⟩ := this
  refine ⟨h0, h1, ?_, by have := Nat.le_of_ble_eq_true h3; rw [Array.length_toList] at this; exact this, ?_, h5⟩
  · apply ByteArray.ext
    exact (Array.ext' h2).symm
  · intro hh
    rw [hh] at h4
    cases h4
theorem mask_out {e : Int} (h : ¬ (0 ≤ e ∧ e ≤ 63)) : trip_Text_i_c0 e = true ∧ ref14_Text_i_c0 e = true ∧ trip_Text_i_r0_0 e = ⟨#[]⟩ ∧ ref14_Text_i_r0_0 e = ⟨#[]⟩ := by
  by_cases h1 : e < 0
  · simp [trip_Text_i_c0, ref14_Text_i_c0, ref14_Text_i_r0_0, ref14_Text_i_S0_c0, trip_Text_i_r0_0, trip_Text_i_S0_c0, trip_Text_i_S0_r0_0, tb_eq, h1]
  · have h2 : 63 < e := by omega
    simp [trip_Text_i_c0, ref14_Text_i_c0, ref14_Text_i_r0_0, ref14_Text_i_S0_c0, trip_Text_i_r0_0, trip_Text_i_S0_c0, trip_Text_i_S0_r0_0, tb_eq, h1, h2]
theorem text_all (e : Int) : trip_Text_i_c0 e = true ∧ ref14_Text_i_c0 e = true ∧ ref14_Text_i_r0_0 e = trip_Text_i_r0_0 e := by
  by_cases h : 0 ≤ e ∧ e ≤ 63
  · obtain ⟨a, b, c, _⟩ := mask_in h; exact ⟨a, b, c⟩
  · obtain ⟨a, b, c, d⟩ := mask_out h; exact ⟨a, b, by rw [c, d]⟩
theorem text_inj {a b : Int} (ha : 0 ≤ a ∧ a ≤ 63) (hb : 0 ≤ b ∧ b ≤ 63) (h : trip_Text_i_r0_0 a = trip_Text_i_r0_0 b) : a = b := by
  rw [← (mask_in ha).2.2.2.2.2, ← (mask_in hb).2.2.2.2.2, h]
theorem or_in {a i : Int} (ha : 0 ≤ a ∧ a ≤ 63) (hi : 0 ≤ i ∧ i < 6) : 0 ≤ orI .i64 a (shlI .i64 1 i) ∧ orI .i64 a (shlI .i64 1 i) ≤ 63 := by
  have := List.all_eq_true.1 (List.all_eq_true.1 ckO_all a.toNat (List.mem_range.2 (by omega))) i.toNat (List.mem_range.2 (by omega))
  unfold ckO at this
  rw [show ((a.toNat : Nat) : Int) = a by omega, show ((i.toNat : Nat) : Int) = i by omega] at this
  simpa using this
theorem name_loop (x : ByteArray) (l : List ByteArray) : trip_Parse_s_L0_ok x l ⟨0⟩ = true ∧ 0 ≤ (trip_Parse_s_L0_end x l ⟨0⟩).c7 ∧ (trip_Parse_s_L0_end x l ⟨0⟩).c7 ≤ 6 := by
  obtain ⟨s1, e, ⟨a1, a2⟩, _⟩ := loop_inv (sel := trip_Parse_s_L0_sel x l) (nx := trip_Parse_s_L0_nx x l) (s0 := ⟨0⟩) (fun s => 0 ≤ s.c7 ∧ s.c7 ≤ 6) (fun s => (6 - s.c7).toNat) ⟨by decide, by decide⟩ (by decide) (fun s ⟨b1, b2⟩ hs => by
    have h6 : s.c7 < 6 := by
      by_cases h : s.c7 < 6
      · exact h
      · simp [trip_Parse_s_L0_sel, tb_eq, h] at hs
    have hw : wi (s.c7 + 1) = s.c7 + 1 := wi_eq (by omega) (by omega)
    refine ⟨⟨?_, ?_⟩, ?_⟩
    · show 0 ≤ wi (s.c7 + 1); omega
    · show wi (s.c7 + 1) ≤ 6; omega
    · show (6 - wi (s.c7 + 1)).toNat < (6 - s.c7).toNat; omega)
  have he : trip_Parse_s_L0_end x l ⟨0⟩ = s1 := by simp only [trip_Parse_s_L0_end, e, Option.getD_some]
  exact ⟨by simp only [trip_Parse_s_L0_ok, e]; rfl, by rw [he]; exact a1, by rw [he]; exact a2⟩
theorem name_c (s : trip_Parse_s_L0_s0) (h1 : 0 ≤ s.c7) : trip_Parse_s_L0_c0 s = decide (s.c7 < 6) ∧ trip_Parse_s_L0_c1 s = !(decide (s.c7 < 6)) := by
  by_cases h : s.c7 < 6
  · have i1 : inb 6 s.c7 = true := inb_of h1 h
    simp [trip_Parse_s_L0_c0, trip_Parse_s_L0_c1, tb_eq, h, i1, h1]
  · simp [trip_Parse_s_L0_c0, trip_Parse_s_L0_c1, tb_eq, h]
theorem parts_loop (l : List ByteArray) (hl : l.length < 1000000000) : trip_Parse_s_L1_ok l ((l.length : Nat) : Int) ⟨0, 0⟩ = true ∧ trip_Parse_s_L1_c0 ((l.length : Nat) : Int) (trip_Parse_s_L1_end l ((l.length : Nat) : Int) ⟨0, 0⟩) = true ∧
    0 ≤ (trip_Parse_s_L1_end l ((l.length : Nat) : Int) ⟨0, 0⟩).c1 ∧ (trip_Parse_s_L1_end l ((l.length : Nat) : Int) ⟨0, 0⟩).c1 ≤ 63 := by
  obtain ⟨s1, e, ⟨a1, a2⟩, a3⟩ := idx_loop (sel := trip_Parse_s_L1_sel l ((l.length : Nat) : Int)) (nx := trip_Parse_s_L1_nx l ((l.length : Nat) : Int)) (s0 := ⟨0, 0⟩) ((l.length : Nat) : Int) (fun s => s.c4) (fun s => 0 ≤ s.c1 ∧ s.c1 ≤ 63) (by omega) ⟨by decide, by decide⟩ (by decide) (by show (0 : Int) ≤ _; omega)
    (fun s ⟨b1, b2⟩ b3 b4 => by
      obtain ⟨n1, n2, n3⟩ := name_loop (gt l s.c4) [gl0_0, gl0_1, gl0_2, gl0_3, gl0_4, gl0_5]
      have i1 : inb l.length s.c4 = true := inb_of b3 b4
      have hE : trip_Parse_s_L1_h0_e0 l s = trip_Parse_s_L0_end (gt l s.c4) [gl0_0, gl0_1, gl0_2, gl0_3, gl0_4, gl0_5] ⟨0⟩ := rfl
      obtain ⟨c0, c1⟩ := name_c (trip_Parse_s_L1_h0_e0 l s) (by rw [hE]; exact n2)
      have hw : wi (s.c4 + 1) = s.c4 + 1 := wi_eq (by omega) (by omega)
      refine ⟨?_, ?_, ?_⟩
      · simp only [trip_Parse_s_L1_sel, i1, n1, c0, c1, tb_eq]
        rw [decide_eq_true b4]
        cases decide ((trip_Parse_s_L1_h0_e0 l s).c7 < 6) <;> rfl
      · simp only [trip_Parse_s_L1_nx, c0, tb_eq]
        by_cases h : (trip_Parse_s_L1_h0_e0 l s).c7 < 6
        · simp only [h, decide_true, cond_true]
          exact or_in ⟨b1, b2⟩ ⟨by rw [hE]; exact n2, h⟩
        · simp only [h, decide_false, cond_false]
          exact ⟨b1, b2⟩
      · simp only [trip_Parse_s_L1_nx, c0, tb_eq]
        cases decide ((trip_Parse_s_L1_h0_e0 l s).c7 < 6) <;> exact hw)
    (fun s _ b => by simp [trip_Parse_s_L1_sel, tb_eq, b])
  have he : trip_Parse_s_L1_end l ((l.length : Nat) : Int) ⟨0, 0⟩ = s1 := by simp only [trip_Parse_s_L1_end, e, Option.getD_some]
  rw [he]
  exact ⟨by simp only [trip_Parse_s_L1_ok, e]; rfl, by simp [trip_Parse_s_L1_c0, tb_eq, a3], a1, a2⟩
theorem splitC_len (b : UInt8) : ∀ l : List UInt8, (splitC b l).length ≤ l.length + 1
  | [] => by simp [splitC]
  | x :: r => by
    have := splitC_len b r
    unfold splitC
    split
    · simp only [List.length_cons]; omega
    · rename_i p q h
      rw [h] at this
      simp only [List.length_cons] at this ⊢; omega
    · simp
theorem parse_c {s : ByteArray} (hs : s.size ≤ 1000) : trip_Parse_s_c0 s = true ∧ 0 ≤ (trip_Parse_s_S2_e0 s).c1 ∧ (trip_Parse_s_S2_e0 s).c1 ≤ 63 := by
  have hl : (splitT (headB ⟨#[43]⟩) s).length < 1000000000 := by
    have h1 := splitC_len (headB ⟨#[43]⟩) s.data.toList
    have h2 : s.data.toList.length = s.size := by rw [Array.length_toList]; rfl
    unfold splitT
    rw [List.length_map]; omega
  obtain ⟨p1, p2, p3, p4⟩ := parts_loop _ hl
  have hc : strings_Split_ss_c0 s ⟨#[43]⟩ = true := by
    simp only [strings_Split_ss_c0, Bool.and_eq_true]
    exact ⟨rfl, by simp; omega⟩
  have hE : trip_Parse_s_S2_e0 s = trip_Parse_s_L1_end (splitT (headB ⟨#[43]⟩) s) (((splitT (headB ⟨#[43]⟩) s).length : Nat) : Int) ⟨0, 0⟩ := rfl
  refine ⟨?_, by rw [hE]; exact p3, by rw [hE]; exact p4⟩
  have h2 : trip_Parse_s_S2_c0 s = true := by simp only [trip_Parse_s_S2_c0, hc, p1, hE, p2, tb_eq]; rfl
  simp only [trip_Parse_s_c0, h2, (text_all _).1, tb_eq]; rfl
theorem parse_hit {m : Int} (hm : 0 ≤ m ∧ m ≤ 63) : trip_Parse_s_r0_0 (trip_Text_i_r0_0 m) = m ∧ trip_Parse_s_r0_1 (trip_Text_i_r0_0 m) = 0 := by
  have h := (mask_in hm).2.2.2.2.2
  simp only [trip_Parse_s_r0_0, trip_Parse_s_r0_1, h, bytes_self, Bool.not_true, tb_eq, cond_false, and_self]
theorem parse_miss {s : ByteArray} (hs : s.size ≤ 1000) (h : ∀ m : Int, 0 ≤ m ∧ m ≤ 63 → trip_Text_i_r0_0 m ≠ s) : trip_Parse_s_r0_0 s = 0 ∧ trip_Parse_s_r0_1 s = 3 := by
  obtain ⟨_, p1, p2⟩ := parse_c hs
  have := bytes_ne (h _ ⟨p1, p2⟩)
  simp only [trip_Parse_s_r0_0, trip_Parse_s_r0_1, this, Bool.not_false, tb_eq, cond_true, and_self]
end Go.Proofs.YtlenjioebdmooaaDoor.Den

namespace Go.Proofs.YtlenjioebdmooaaDoor.Den
open Go Go.Proofs
set_option linter.unusedVariables false
set_option linter.unusedSimpArgs false
set_option maxRecDepth 100000
def ckI (a b : Nat) : Bool := ref14_In_ii_c0 (a : Int) (b : Int) && (trip_In_ii_r0_0 (a : Int) (b : Int) == ref14_In_ii_r0_0 (a : Int) (b : Int))
def ckIK (k : Nat) : Bool := (List.range 16).all fun i => (List.range 64).all fun b => ckI (16 * k + i) b
theorem ckI_0 : ckIK 0 = true := by kernel_rfl
theorem ckI_1 : ckIK 1 = true := by kernel_rfl
theorem ckI_2 : ckIK 2 = true := by kernel_rfl
theorem ckI_3 : ckIK 3 = true := by kernel_rfl
end Go.Proofs.YtlenjioebdmooaaDoor.Den

namespace Go.Proofs.YtlenjioebdmooaaDoor.Den
open Go Go.Proofs
set_option maxRecDepth 100000
set_option maxHeartbeats 4000000
set_option linter.unusedVariables false
set_option linter.unusedSimpArgs false
theorem law14_alive_t0 : cl E0 5 [] [] = some ([(V.d (.bool true))], []) := cl_of (n := 60) (by kernel_rfl)
end Go.Proofs.YtlenjioebdmooaaDoor.Den

namespace Go.Proofs.YtlenjioebdmooaaDoor.Den
open Go Go.Proofs
set_option maxRecDepth 100000
set_option maxHeartbeats 4000000
set_option linter.unusedVariables false
set_option linter.unusedSimpArgs false
def law14_TripTells_S0_c0 (x1 : List Bool) (x5 : ByteArray) : Bool := (bif tb (decide (200 < ((x5.size : Nat) : Int))) then true else (bif tb (decide (40 < ((x1.length : Nat) : Int))) then true else false))
theorem law14_TripTells_S0_t0 (x0 : Bool) (x1 : List Bool) (x2 : Int) (x3 : Bool) (x4 : Int) (x5 : ByteArray) : law14_TripTells_S0_c0 x1 x5 = true → segG (runC E0 (cl E0) S3_0) [0, 1, 5] [6] [0, 1, 5] 1 ([(V.d (.int .i64 x4)), (V.d (.str x5)), (V.ptr 0 1 0 0)], [(Blk.gen 24 2 [[(V.d (slD encB true 1 x0 x1)), (V.d (.int .i64 x2))]] x3)]) = some (.ret, ([(V.d (.bool true))], [(Blk.gen 24 2 [[(V.d (slD encB true 1 x0 x1)), (V.d (.int .i64 x2))]] x3)])) := by
  unfold law14_TripTells_S0_c0
  cases h1 : tb (decide (200 < ((x5.size : Nat) : Int)))
  · cases h2 : tb (decide (40 < ((x1.length : Nat) : Int)))
    · intro g0
      exact absurd g0 ft
    · intro g0
      exact seg_walk [.b (tbE h1), .o 17 (fun _ => o_len_os (enc := encB) (l := x1) (fl := true) (n := x0) (s := 1)), .b (tbE h2), .c (law14_alive_t0)] (by kernel_rfl)
  · intro g0
    exact seg_walk [.b (tbE h1), .c (law14_alive_t0)] (by kernel_rfl)
theorem law14_TripTells_S0_t1 (x0 : Bool) (x1 : List Bool) (x2 : Int) (x3 : Bool) (x4 : Int) (x5 : ByteArray) : law14_TripTells_S0_c0 x1 x5 = false → segG (runC E0 (cl E0) S3_0) [0, 1, 5] [6] [0, 1, 5] 1 ([(V.d (.int .i64 x4)), (V.d (.str x5)), (V.ptr 0 1 0 0)], [(Blk.gen 24 2 [[(V.d (slD encB true 1 x0 x1)), (V.d (.int .i64 x2))]] x3)]) = some (.normal, ([(V.d (.int .i64 x4)), (V.d (.str x5)), (V.ptr 0 1 0 0)], [(Blk.gen 24 2 [[(V.d (slD encB true 1 x0 x1)), (V.d (.int .i64 x2))]] x3)])) := by
  unfold law14_TripTells_S0_c0
  cases h1 : tb (decide (200 < ((x5.size : Nat) : Int)))
  · cases h2 : tb (decide (40 < ((x1.length : Nat) : Int)))
    · intro g0
      exact seg_walk [.b (tbE h1), .o 17 (fun _ => o_len_os (enc := encB) (l := x1) (fl := true) (n := x0) (s := 1)), .b (tbE h2)] (by kernel_rfl)
    · intro g0
      exact absurd g0 tf
  · intro g0
    exact absurd g0 tf
def law14_TripTells_S1_c0 (x5 : ByteArray) : Bool := (bif tb (trip_Parse_s_c0 x5) then true else false)
theorem law14_TripTells_S1_t0 (x0 : Bool) (x1 : List Bool) (x2 : Int) (x3 : Bool) (x4 : Int) (x5 : ByteArray) : law14_TripTells_S1_c0 x5 = true → segG (runC E0 (cl E0) S3_1) [0, 1, 5] [] [0, 1, 5, 7, 8] 1 ([(V.d (.int .i64 x4)), (V.d (.str x5)), (V.ptr 0 1 0 0)], [(Blk.gen 24 2 [[(V.d (slD encB true 1 x0 x1)), (V.d (.int .i64 x2))]] x3)]) = some (.normal, ([(V.d (.int .i64 x4)), (V.d (.str x5)), (V.ptr 0 1 0 0), (V.d (.int .i64 (trip_Parse_s_r0_0 x5))), (V.d (.int .i64 (trip_Parse_s_r0_1 x5)))], [(Blk.gen 24 2 [[(V.d (slD encB true 1 x0 x1)), (V.d (.int .i64 x2))]] x3)])) := by
  unfold law14_TripTells_S1_c0
  cases h1 : tb (trip_Parse_s_c0 x5)
  · intro g0
    exact absurd g0 ft
  · intro g0
    exact seg_walk [.c (trip_Parse_s_t0 x5 (tbE h1))] (by kernel_rfl)
def law14_TripTells_S2_c0 (x5 : ByteArray) : Bool := (bif tb (ref14_Parse_s_c0 x5) then true else false)
theorem law14_TripTells_S2_t0 (x0 : Bool) (x1 : List Bool) (x2 : Int) (x3 : Bool) (x4 : Int) (x5 : ByteArray) (x6 : Int) (x7 : Int) : law14_TripTells_S2_c0 x5 = true → segG (runC E0 (cl E0) S3_2) [0, 1, 5, 7, 8] [] [0, 5, 7, 8, 9, 10] 1 ([(V.d (.int .i64 x4)), (V.d (.str x5)), (V.ptr 0 1 0 0), (V.d (.int .i64 x6)), (V.d (.int .i64 x7))], [(Blk.gen 24 2 [[(V.d (slD encB true 1 x0 x1)), (V.d (.int .i64 x2))]] x3)]) = some (.normal, ([(V.d (.int .i64 x4)), (V.ptr 0 1 0 0), (V.d (.int .i64 x6)), (V.d (.int .i64 x7)), (V.d (.int .i64 (ref14_Parse_s_r0_0 x5))), (V.d (.int .i64 (ref14_Parse_s_r0_1 x5)))], [(Blk.gen 24 2 [[(V.d (slD encB true 1 x0 x1)), (V.d (.int .i64 x2))]] x3)])) := by
  unfold law14_TripTells_S2_c0
  cases h1 : tb (ref14_Parse_s_c0 x5)
  · intro g0
    exact absurd g0 ft
  · intro g0
    exact seg_walk [.c (ref14_Parse_s_t0 x5 (tbE h1))] (by kernel_rfl)
def law14_TripTells_S3_c0 (x1 : List Bool) (x2 : Int) (x4 : Int) (x5 : Int) (x6 : Int) (x7 : Int) (x8 : Int) : Bool := (bif tb (trip_Text_i_c0 x4) then (bif tb (ref14_Text_i_c0 x4) then (bif tb ((trip_Text_i_r0_0 x4).toList == (ref14_Text_i_r0_0 x4).toList) then (bif tb ((x5 : Int) == x7) then (bif tb ((x6 : Int) == x8) then (bif tb (trip_Mask_o_c0 x1) then (bif tb (ref14_Mask_o_c0 x1) then (bif tb (((trip_Mask_o_r0_0 x1) : Int) == (ref14_Mask_o_r0_0 x1)) then (bif tb (ref14_In_ii_c0 x4 x2) then true else false) else true) else false) else false) else true) else true) else true) else false) else false)
def law14_TripTells_S3_r0_0 (x1 : List Bool) (x2 : Int) (x4 : Int) (x5 : Int) (x6 : Int) (x7 : Int) (x8 : Int) : Bool := (bif tb ((trip_Text_i_r0_0 x4).toList == (ref14_Text_i_r0_0 x4).toList) then (bif tb ((x5 : Int) == x7) then (bif tb ((x6 : Int) == x8) then (bif tb (((trip_Mask_o_r0_0 x1) : Int) == (ref14_Mask_o_r0_0 x1)) then (false != ((trip_In_ii_r0_0 x4 x2) == (ref14_In_ii_r0_0 x4 x2))) else false) else false) else false) else false)
theorem law14_TripTells_S3_t0 (x0 : Bool) (x1 : List Bool) (x2 : Int) (x3 : Bool) (x4 : Int) (x5 : Int) (x6 : Int) (x7 : Int) (x8 : Int) : law14_TripTells_S3_c0 x1 x2 x4 x5 x6 x7 x8 = true → segG (runC E0 (cl E0) S3_3) [0, 5, 7, 8, 9, 10] [] [6] 1 ([(V.d (.int .i64 x4)), (V.ptr 0 1 0 0), (V.d (.int .i64 x5)), (V.d (.int .i64 x6)), (V.d (.int .i64 x7)), (V.d (.int .i64 x8))], [(Blk.gen 24 2 [[(V.d (slD encB true 1 x0 x1)), (V.d (.int .i64 x2))]] x3)]) = some (.normal, ([(V.d (.bool (law14_TripTells_S3_r0_0 x1 x2 x4 x5 x6 x7 x8)))], [(Blk.gen 24 2 [[(V.d (slD encB true 1 x0 x1)), (V.d (.int .i64 x2))]] x3)])) := by
  unfold law14_TripTells_S3_c0 law14_TripTells_S3_r0_0
  cases h1 : tb (trip_Text_i_c0 x4)
  · intro g0
    exact absurd g0 ft
  · cases h2 : tb (ref14_Text_i_c0 x4)
    · intro g0
      exact absurd g0 ft
    · cases h3 : tb ((trip_Text_i_r0_0 x4).toList == (ref14_Text_i_r0_0 x4).toList)
      · intro g0
        exact seg_walk [.c (law14_alive_t0), .k true, .c (trip_Text_i_t0 x4 (tbE h1)), .c (ref14_Text_i_t0 x4 (tbE h2)), .b (tbE h3)] (by kernel_rfl)
      · cases h4 : tb ((x5 : Int) == x7)
        · intro g0
          exact seg_walk [.c (law14_alive_t0), .k true, .c (trip_Text_i_t0 x4 (tbE h1)), .c (ref14_Text_i_t0 x4 (tbE h2)), .b (tbE h3), .b (tbE h4)] (by kernel_rfl)
        · cases h5 : tb ((x6 : Int) == x8)
          · intro g0
            exact seg_walk [.c (law14_alive_t0), .k true, .c (trip_Text_i_t0 x4 (tbE h1)), .c (ref14_Text_i_t0 x4 (tbE h2)), .b (tbE h3), .b (tbE h4), .b (tbE h5)] (by kernel_rfl)
          · cases h6 : tb (trip_Mask_o_c0 x1)
            · intro g0
              exact absurd g0 ft
            · cases h7 : tb (ref14_Mask_o_c0 x1)
              · intro g0
                exact absurd g0 ft
              · cases h8 : tb (((trip_Mask_o_r0_0 x1) : Int) == (ref14_Mask_o_r0_0 x1))
                · intro g0
                  exact seg_walk [.c (law14_alive_t0), .k true, .c (trip_Text_i_t0 x4 (tbE h1)), .c (ref14_Text_i_t0 x4 (tbE h2)), .b (tbE h3), .b (tbE h4), .b (tbE h5), .c (trip_Mask_o_t0 x0 x1 (tbE h6)), .c (ref14_Mask_o_t0 x0 x1 (tbE h7)), .b (tbE h8)] (by kernel_rfl)
                · cases h9 : tb (ref14_In_ii_c0 x4 x2)
                  · intro g0
                    exact absurd g0 ft
                  · intro g0
                    exact seg_walk [.c (law14_alive_t0), .k true, .c (trip_Text_i_t0 x4 (tbE h1)), .c (ref14_Text_i_t0 x4 (tbE h2)), .b (tbE h3), .b (tbE h4), .b (tbE h5), .c (trip_Mask_o_t0 x0 x1 (tbE h6)), .c (ref14_Mask_o_t0 x0 x1 (tbE h7)), .b (tbE h8), .c (trip_In_ii_t0 x4 x2), .c (ref14_In_ii_t0 x4 x2 (tbE h9))] (by kernel_rfl)
def law14_TripTells_c0 (x0 : Int) (x1 : ByteArray) (x3 : List Bool) (x4 : Int) : Bool := (bif tb (law14_TripTells_S0_c0 x3 x1) then true else (bif tb (law14_TripTells_S1_c0 x1) then (bif tb (law14_TripTells_S2_c0 x1) then (bif tb (law14_TripTells_S3_c0 x3 x4 x0 (trip_Parse_s_r0_0 x1) (trip_Parse_s_r0_1 x1) (ref14_Parse_s_r0_0 x1) (ref14_Parse_s_r0_1 x1)) then true else false) else false) else false))
def law14_TripTells_r0_0 (x0 : Int) (x1 : ByteArray) (x3 : List Bool) (x4 : Int) : Bool := (bif tb (law14_TripTells_S0_c0 x3 x1) then true else (law14_TripTells_S3_r0_0 x3 x4 x0 (trip_Parse_s_r0_0 x1) (trip_Parse_s_r0_1 x1) (ref14_Parse_s_r0_0 x1) (ref14_Parse_s_r0_1 x1)))
theorem law14_TripTells_t0 (x0 : Int) (x1 : ByteArray) (x2 : Bool) (x3 : List Bool) (x4 : Int) : law14_TripTells_c0 x0 x1 x3 x4 = true → cl E0 3 [(V.d (.int .i64 x0)), (V.d (.str x1)), (V.agg [(V.d (slD encB true 1 x2 x3)), (V.d (.int .i64 x4))])] [] = some ([(V.d (.bool (law14_TripTells_r0_0 x0 x1 x3 x4)))], []) := by
  unfold law14_TripTells_c0 law14_TripTells_r0_0
  cases h1 : tb (law14_TripTells_S0_c0 x3 x1)
  · cases h2 : tb (law14_TripTells_S1_c0 x1)
    · intro g0
      exact absurd g0 ft
    · cases h3 : tb (law14_TripTells_S2_c0 x1)
      · intro g0
        exact absurd g0 ft
      · cases h4 : tb (law14_TripTells_S3_c0 x3 x4 x0 (trip_Parse_s_r0_0 x1) (trip_Parse_s_r0_1 x1) (ref14_Parse_s_r0_0 x1) (ref14_Parse_s_r0_1 x1))
        · intro g0
          exact absurd g0 ft
        · intro g0
          exact w3 [.s (law14_TripTells_S0_t1 x2 x3 x4 false x0 x1 (tbE h1)), .s (law14_TripTells_S1_t0 x2 x3 x4 false x0 x1 (tbE h2)), .s (law14_TripTells_S2_t0 x2 x3 x4 false x0 x1 (trip_Parse_s_r0_0 x1) (trip_Parse_s_r0_1 x1) (tbE h3)), .s (law14_TripTells_S3_t0 x2 x3 x4 false x0 (trip_Parse_s_r0_0 x1) (trip_Parse_s_r0_1 x1) (ref14_Parse_s_r0_0 x1) (ref14_Parse_s_r0_1 x1) (tbE h4))] (by kernel_rfl)
  · intro g0
    exact w3 [.s (law14_TripTells_S0_t0 x2 x3 x4 false x0 x1 (tbE h1))] (by kernel_rfl)
end Go.Proofs.YtlenjioebdmooaaDoor.Den

namespace Go.Proofs.YtlenjioebdmooaaDoor.Den
open Go Go.Proofs
set_option linter.unusedVariables false
set_option linter.unusedSimpArgs false
set_option maxRecDepth 100000
theorem rparse_eq {s : ByteArray} (hs : s.size ≤ 1000) : ref14_Parse_s_c0 s = true ∧ ref14_Parse_s_r0_0 s = trip_Parse_s_r0_0 s ∧ ref14_Parse_s_r0_1 s = trip_Parse_s_r0_1 s := by
  by_cases h : ∃ m : Nat, m < 64 ∧ trip_Text_i_r0_0 (m : Int) = s
  · obtain ⟨m, hm, he⟩ := h
    have run := loop_seq (sel := ref14_Parse_s_L0_sel s) (nx := ref14_Parse_s_L0_nx s) (fun k => (⟨(k : Int)⟩ : ref14_Parse_s_L0_s0)) m (by omega) (fun k hk => by
      obtain ⟨_, t2, t3⟩ := text_all (k : Int)
      have hne : ((ref14_Text_i_r0_0 (k : Int)).toList == s.toList) = false := by
        rw [t3]
        refine bytes_ne fun h9 => ?_
        have := text_inj (a := (k : Int)) (b := (m : Int)) ⟨by omega, by omega⟩ ⟨by omega, by omega⟩ (by rw [h9, he])
        omega
      have hw : wi ((k : Int) + 1) = ((k + 1 : Nat) : Int) := by rw [wi_eq (by omega) (by omega)]; omega
      constructor
      · simp only [ref14_Parse_s_L0_sel, t2, hne, tb_eq]
        rw [decide_eq_true (by omega)]; rfl
      · simp only [ref14_Parse_s_L0_nx, hw]) (by
      obtain ⟨_, t2, t3⟩ := text_all (m : Int)
      simp only [ref14_Parse_s_L0_sel, t2, t3, he, bytes_self, tb_eq]
      rw [decide_eq_true (by omega)]; rfl)
    rw [show ((0 : Nat) : Int) = 0 from rfl] at run
    have eE : ref14_Parse_s_L0_end s ⟨0⟩ = ⟨(m : Int)⟩ := by simp only [ref14_Parse_s_L0_end, run, Option.getD_some]
    have c0 : ref14_Parse_s_L0_c0 ⟨(m : Int)⟩ = true := by
      simp only [ref14_Parse_s_L0_c0, (text_all _).2.1, tb_eq]
      rw [decide_eq_true (by omega)]; rfl
    obtain ⟨q1, q2⟩ := parse_hit (m := (m : Int)) ⟨by omega, by omega⟩
    rw [he] at q1 q2
    simp only [ref14_Parse_s_c0, ref14_Parse_s_r0_0, ref14_Parse_s_r0_1, ref14_Parse_s_L0_ok, run, eE, c0, q1, q2, Option.isSome_some, tb_eq, cond_true, and_self]
  · have hno : ∀ m : Int, 0 ≤ m ∧ m ≤ 63 → trip_Text_i_r0_0 m ≠ s := fun m hm he => h ⟨m.toNat, by omega, by rw [show ((m.toNat : Nat) : Int) = m by omega]; exact he⟩
    have run := loop_seq (sel := ref14_Parse_s_L0_sel s) (nx := ref14_Parse_s_L0_nx s) (fun k => (⟨(k : Int)⟩ : ref14_Parse_s_L0_s0)) 64 (by omega) (fun k hk => by
      obtain ⟨_, t2, t3⟩ := text_all (k : Int)
      have hne : ((ref14_Text_i_r0_0 (k : Int)).toList == s.toList) = false := by
        rw [t3]; exact bytes_ne (hno _ ⟨by omega, by omega⟩)
      have hw : wi ((k : Int) + 1) = ((k + 1 : Nat) : Int) := by rw [wi_eq (by omega) (by omega)]; omega
      constructor
      · simp only [ref14_Parse_s_L0_sel, t2, hne, tb_eq]
        rw [decide_eq_true (by omega)]; rfl
      · simp only [ref14_Parse_s_L0_nx, hw]) rfl
    rw [show ((0 : Nat) : Int) = 0 from rfl] at run
    have eE : ref14_Parse_s_L0_end s ⟨0⟩ = ⟨((64 : Nat) : Int)⟩ := by simp only [ref14_Parse_s_L0_end, run, Option.getD_some]
    have c0 : ref14_Parse_s_L0_c0 ⟨((64 : Nat) : Int)⟩ = false := rfl
    have c1 : ref14_Parse_s_L0_c1 ⟨((64 : Nat) : Int)⟩ = true := rfl
    obtain ⟨q1, q2⟩ := parse_miss hs hno
    simp only [ref14_Parse_s_c0, ref14_Parse_s_r0_0, ref14_Parse_s_r0_1, ref14_Parse_s_L0_ok, run, eE, c0, c1, q1, q2, Option.isSome_some, tb_eq, cond_true, cond_false, and_self]
theorem mask_eq (l : List Bool) : trip_Mask_o_c0 l = true ∧ ref14_Mask_o_c0 l = true ∧ trip_Mask_o_r0_0 l = ref14_Mask_o_r0_0 l := by
  by_cases h : l.length ≤ 6
  · have := List.all_eq_true.1 (List.all_eq_true.1 ckB_all l.length (List.mem_range.2 (by omega))) l (allB_mem l)
    unfold ckB at this
    simp only [Bool.and_eq_true, beq_iff_eq] at this
    exact this
  · have hd : decide (6 < ((l.length : Nat) : Int)) = true := decide_eq_true (by omega)
    simp only [trip_Mask_o_c0, ref14_Mask_o_c0, trip_Mask_o_r0_0, ref14_Mask_o_r0_0, hd, tb_eq, cond_true, and_self]
theorem ckIK_all {k : Nat} (h : k < 4) : ckIK k = true := by
  rcases (by omega : k = 0 ∨ k = 1 ∨ k = 2 ∨ k = 3) with rfl | rfl | rfl | rfl
  · exact ckI_0
  · exact ckI_1
  · exact ckI_2
  · exact ckI_3
theorem in_eq (a b : Int) : ref14_In_ii_c0 a b = true ∧ trip_In_ii_r0_0 a b = ref14_In_ii_r0_0 a b := by
  by_cases ha : 0 ≤ a ∧ a ≤ 63
  · by_cases hb : 0 ≤ b ∧ b ≤ 63
    · have := List.all_eq_true.1 (List.all_eq_true.1 (ckIK_all (k := a.toNat / 16) (by omega)) (a.toNat % 16) (List.mem_range.2 (by omega))) b.toNat (List.mem_range.2 (by omega))
      unfold ckI at this
      rw [show 16 * (a.toNat / 16) + a.toNat % 16 = a.toNat by omega, show ((a.toNat : Nat) : Int) = a by omega, show ((b.toNat : Nat) : Int) = b by omega] at this
      simpa using this
    · have run := loop_seq (sel := ref14_In_ii_L0_sel b) (nx := ref14_In_ii_L0_nx b) (fun k => (⟨((2 ^ k : Nat) : Int), (k : Int)⟩ : ref14_In_ii_L0_s0)) 6 (by omega) (fun k hk => by
        have hp : (2 ^ k : Nat) ≤ 32 := Nat.pow_le_pow_right (n := 2) (by omega) (show k ≤ 5 by omega)
        have hp0 : 0 < (2 ^ k : Nat) := Nat.pow_pos (by omega)
        have hne : ((b : Int) == ((2 ^ k : Nat) : Int)) = false := beq_eq_false_iff_ne.2 (by omega)
        have hw : wi ((k : Int) + 1) = ((k + 1 : Nat) : Int) := by rw [wi_eq (by omega) (by omega)]; omega
        have hw2 : wi (2 * ((2 ^ k : Nat) : Int)) = ((2 ^ (k + 1) : Nat) : Int) := by rw [wi_eq (by omega) (by omega), Nat.pow_succ]; omega
        constructor
        · simp only [ref14_In_ii_L0_sel, hne, tb_eq]
          rw [decide_eq_true (by omega)]; rfl
        · simp only [ref14_In_ii_L0_nx, hw, hw2]) rfl
      have run : itS (ref14_In_ii_L0_sel b) (ref14_In_ii_L0_nx b) bound ⟨1, 0⟩ = some ⟨((2 ^ 6 : Nat) : Int), ((6 : Nat) : Int)⟩ := run
      have eE : ref14_In_ii_L0_end b ⟨1, 0⟩ = ⟨((2 ^ 6 : Nat) : Int), ((6 : Nat) : Int)⟩ := by simp only [ref14_In_ii_L0_end, run, Option.getD_some]
      have c0 : ref14_In_ii_L0_c0 a ⟨((2 ^ 6 : Nat) : Int), ((6 : Nat) : Int)⟩ = false := rfl
      have c1 : ref14_In_ii_L0_c1 ⟨((2 ^ 6 : Nat) : Int), ((6 : Nat) : Int)⟩ = true := rfl
      have t : trip_In_ii_r0_0 a b = false := by
        simp only [trip_In_ii_r0_0, tb_eq]
        rw [decide_eq_true ha.1, decide_eq_true ha.2]
        by_cases h1 : 1 ≤ b
        · rw [decide_eq_true h1, decide_eq_false (show ¬ b ≤ 63 by omega)]; rfl
        · rw [decide_eq_false h1]; rfl
      have d1 : decide (a < 0) = false := decide_eq_false (by omega)
      have d2 : decide (63 < a) = false := decide_eq_false (by omega)
      simp only [ref14_In_ii_c0, ref14_In_ii_r0_0, t, d1, d2, ref14_In_ii_L0_ok, run, eE, c0, c1, Option.isSome_some, tb_eq, cond_true, cond_false, and_self]
  · by_cases h1 : a < 0
    · have h2 : ¬ 0 ≤ a := by omega
      simp [ref14_In_ii_c0, ref14_In_ii_r0_0, trip_In_ii_r0_0, tb_eq, h1, h2]
    · have h2 : 0 ≤ a := by omega
      have h3 : 63 < a := by omega
      have h4 : ¬ a ≤ 63 := by omega
      simp [ref14_In_ii_c0, ref14_In_ii_r0_0, trip_In_ii_r0_0, tb_eq, h1, h2, h3, h4]
theorem pure_TripTells (x0 : Int) (x1 : ByteArray) (x2 : Bool) (x3 : List Bool) (x4 : Int) (wx0 : WfI .i64 x0) (wx1 : x1.size ≤ 140737488351232) (wx3 : (x3.length ≤ maxLen ∧ x3.length * 1 ≤ 140737488351232 ∧ ∀ z ∈ x3, True)) (wx4 : WfI .i64 x4) : law14_TripTells_c0 x0 x1 x3 x4 = true ∧ (law14_TripTells_r0_0 x0 x1 x3 x4) = true := by
  cases hS : law14_TripTells_S0_c0 x3 x1 with
  | true => simp only [law14_TripTells_c0, law14_TripTells_r0_0, hS, tb_eq, cond_true, and_self]
  | false =>
    have hs : x1.size ≤ 1000 := by
      simp only [law14_TripTells_S0_c0, tb_eq] at hS
      by_cases h : 200 < ((x1.size : Nat) : Int)
      · rw [decide_eq_true h] at hS; cases hS
      · omega
    obtain ⟨p1, _⟩ := parse_c hs
    obtain ⟨r1, r2, r3⟩ := rparse_eq hs
    obtain ⟨t1, t2, t3⟩ := text_all x0
    obtain ⟨m1, m2, m3⟩ := mask_eq x3
    obtain ⟨i1, i2⟩ := in_eq x0 x4
    have s1 : law14_TripTells_S1_c0 x1 = true := by simp only [law14_TripTells_S1_c0, p1, tb_eq]; rfl
    have s2 : law14_TripTells_S2_c0 x1 = true := by simp only [law14_TripTells_S2_c0, r1, tb_eq]; rfl
    have e1 : (false != (ref14_In_ii_r0_0 x0 x4 == ref14_In_ii_r0_0 x0 x4)) = true := by simp
    simp only [law14_TripTells_c0, law14_TripTells_r0_0, hS, s1, s2, law14_TripTells_S3_c0, law14_TripTells_S3_r0_0, t1, t2, t3, r2, r3, m1, m2, m3, i1, i2, beq_self_eq_true, tb_eq, cond_true, cond_false, true_and]
    rfl
end Go.Proofs.YtlenjioebdmooaaDoor.Den

namespace Go.Proofs.YtlenjioebdmooaaDoor.Den
open Go Go.ChangeShapes Go.WideShapes Go.ChangeAt Go.RowKit
set_option linter.unusedVariables false
set_option linter.unusedSimpArgs false
theorem laid_call {C : Checked} (hm : C.prog.follows .mixedOrders = true) {E : Env} (hE : EnvOK C.prog E) {f : FuncId} {fn : Func} {s : ChangeSpec} {H : Type} {enc : TypeId × Value → H}
    (hfn : C.prog.funcs[f]? = some fn) (hl : laidOutB C.prog = true)
    (hgood : (fn.params.toList.all fun t => goodT C.prog 20 t && C.prog.readableRec t && decide (t < C.prog.types.size)) = true) {rt : TypeId} (hres : fn.resultTypes = #[rt]) (hrt : C.prog.underlying rt = some .bool)
    (hvars : s.vars = []) (hspec : ∀ ds : List (DataW H), ds.length = fn.params.toList.length → s.fn H ds = { results := [.lit (.bool true)], args := ds })
    (hlaw : ∀ rs, TyAll C.prog 20 fn.params.toList rs → ∃ k m', callD E k f (argsV C.prog fn.params.toList rs) [] = some ([.d (.bool true)], m'))
    {W : World} {base : Nat} {args : Array Value} {ds gs : List (DataW H)} {before : List MemPlace} (hgl : GlOK E (cx0 W)) (hval : ∀ (j : Nat) t v, fn.params[j]? = some t → args[j]? = some v → Value.okWide C.prog W .any base t v)
    (hW : DataW.Whole enc C.prog fn.params.toList s.vars false W args.toList ds gs before) (hsz : (DataW.weightsEach C.prog (fn.params.toList ++ s.plain.varTypes C.prog) (ds ++ gs)).all (· ≤ reachBytes) = true) :
    Calls C.prog f args W fun e W' => ∃ v, e = .returned v ∧ s.post enc C.prog fn false true false false W args v W' := by
  have hW' := hW
  obtain ⟨p, q, hA, hV, rfl, hfz, hnd⟩ := hW
  rw [hvars] at hV
  obtain ⟨rfl, rfl⟩ := trodVars_none hV
  have hgd : ∀ t, t ∈ fn.params.toList → goodT C.prog 20 t = true ∧ C.prog.readableRec t = true ∧ t < C.prog.types.size := fun t ht => by
    have := List.all_eq_true.1 hgood t ht
    simpa [Bool.and_eq_true, and_assoc] using this
  obtain ⟨rs, h1, h2⟩ := open_args (n := 20) fn.params.toList args.toList ds p (List.all_eq_true.2 fun t ht => (hgd t ht).1) (fun j t v ht hv => hval j t v (by simpa using ht) (by simpa using hv)) (fun m hm => of_decide_eq_true (List.all_eq_true.1 hsz m (weightsEach_app hm))) hA
  obtain ⟨k, m', hk⟩ := hlaw rs h1
  refine (calls_law hm hE hgl h2 hk).mono fun e W' ⟨he, bel⟩ => ?_
  subst he
  have hlen : ds.length = fn.params.toList.length := by
    have : ∀ (ts : List TypeId) (vs : List Value) (ds : List (DataW H)) (ps : List MemPlace), DataW.TrodAll enc C.prog W 0 (fun _ => true) true ts vs ds ps → ds.length = ts.length := by
      intro ts
      induction ts with
      | nil => intro vs ds ps h; obtain ⟨_, rfl, _⟩ := trodAll_nil h; rfl
      | cons t ts ih => intro vs ds ps h; obtain ⟨v, vs', d, ds', p, q, rfl, rfl, rfl, _, h2⟩ := trodAll_cons h; simp [ih _ _ _ h2]
    exact this _ _ _ _ hA
  have hs := hspec ds hlen
  refine ⟨_, rfl, ds, [], _, [], p, [], hW', ?_, ?_, ?_, bel.frame _, fun h => by cases h⟩
  · rw [List.append_nil, hs, hres]
    exact trodAll_mk1 (shut_bool hrt _)
  · rw [List.append_nil, hs]
    exact args_back hl bel _ _ _ _ (fun t ht => (hgd t ht).2) (fun x hx => by simpa using hW'.lt x (by simpa using hx)) hA
  · rw [hvars, List.append_nil, hs]; rfl
theorem law_laidS {C : Checked} (hm : C.prog.follows .mixedOrders = true) {E : Env} (hE : EnvOK C.prog E) {laid : List (String × DataW Unit)} (hgl : ∀ w, w.ShapedOpen C.prog → laidMetH C.prog laid w → GlOK E (cx0 w)) {os : Os} {f : FuncId} {fn : Func} {s : ChangeSpec} {H : Type} {enc : TypeId × Value → H}
    (own : ownKnob C.prog.godebug = none) (started : os.Started) (noInit : C.prog.inits.idxOf? f = none) (hfn : C.prog.funcs[f]? = some fn) (hl : laidOutB C.prog = true)
    (witness : ∃ (w : World) (tape : Tape) (i : Input), w.os = os ∧ (w.forCall tape i).Shaped C.prog ∧ i.vars = [] ∧ Input.okWide C.prog (w.forCall tape i) .any w.heap.size f i ∧
      ((s.pre enc C.prog fn [] false (w.forCall tape i).memory i.args ∧ laidMetH C.prog laid (w.forCall tape i).memory) ∧ sizedMet enc C.prog fn (OpenSpec.ofChange s) false (w.forCall tape i).memory i.args) ∧
        Assume.holds {} C.prog (lone (Frame.enter C.prog f i.args .normal) [] (w.forCall tape i)))
    (hgood : (fn.params.toList.all fun t => goodT C.prog 20 t && C.prog.readableRec t && decide (t < C.prog.types.size)) = true) {rt : TypeId} (hres : fn.resultTypes = #[rt]) (hrt : C.prog.underlying rt = some .bool)
    (hvars : s.vars = []) (hspec : ∀ ds : List (DataW H), ds.length = fn.params.toList.length → s.fn H ds = { results := [.lit (.bool true)], args := ds })
    (hlaw : ∀ rs, TyAll C.prog 20 fn.params.toList rs → ∃ k m', callD E k f (argsV C.prog fn.params.toList rs) [] = some ([.d (.bool true)], m')) :
    ReturnsInHanded {} C os f .any (fun w args => (s.pre enc C.prog fn [] false w args ∧ laidMetH C.prog laid w) ∧ sizedMet enc C.prog fn (OpenSpec.ofChange s) false w args) (s.post enc C.prog fn false true false false) := by
  refine returnsInHanded_of_calls own started noInit witness ?_
  intro w tape i _ hshape _ hok hpre hholds
  obtain ⟨_, _, _, fn', hfn', _, _, _, _, hval⟩ := hok
  have e : fn' = fn := Option.some.inj (hfn'.symm.trans hfn)
  subst e
  obtain ⟨⟨⟨ds, gs, before, hw, hc⟩, hx⟩, hz⟩ := hpre
  have hw' := DataW.Whole.of_heap (w' := w.forCall tape i) (by rfl) hw
  refine (laid_call hm hE hfn hl hgood hres hrt hvars hspec hlaw (hgl _ hshape (laidMetH.of_heap (by rfl) hx)) hval hw' (hz.weights hw)).mono fun e W' ⟨v, he, hp⟩ => ?_
  subst he
  exact ChangeSpec.post_blind hp
theorem held_texts {P : Program} {W : World} {name : String} {g t n e : Nat} {ss : List ByteArray} {rest : List (String × DataW Unit)} (hg : P.globalNamed name = some g) (ht : (P.globals[g]?).map (·.type) = some t) (hu : P.underlying t = some (.array n e))
    (he : P.underlying e = some .string) (hce : P.cellsOf e = 1) (hct : P.cellsOf t = n) (hn : ss.length = n) (h : laidMet P ((name, .agg (ss.map fun s => .lit (.string s.data.toList))) :: rest) W) : Held (immAll W) W g 0 (ss.map D.str) := by
  obtain ⟨ps, hlv, _, _⟩ := h
  obtain ⟨g', t', cs, fuel, p, q, hg', ht', hv, hd, _, _⟩ := hlv
  obtain rfl := Option.some.inj (hg.symm.trans hg')
  obtain rfl := Option.some.inj (ht.symm.trans ht')
  obtain ⟨xs, m, _, ex, hlen, hl, hel⟩ := DataW.trod_array hu hd
  have e1 := (DataW.agg.inj (Prod.mk.inj ex).1)
  have hsz : g < W.heap.size := by
    simp only [World.var?, hg, Option.bind_some] at hv
    rcases Nat.lt_or_ge g W.heap.size with h | h
    · exact h
    · have : W.heap[g]? = none := by simp [h]
      rw [this] at hv; simp at hv
  have hcell : ∀ i (hi : i < ss.length), W.cell? ⟨g, i, none⟩ = some (.string ss[i]) := fun i hi => by
    have hx := hel i (by omega)
    have hi' : i < xs.length := by omega
    rw [List.getElem?_eq_getElem hi', hce, Nat.mul_one] at hx
    obtain ⟨s, h1, h2, _⟩ := DataW.trod_string he hx
    have h3 : (xs.map (·.1))[i]? = (ss.map fun s => (DataW.lit (.string s.data.toList) : DataW Unit))[i]? := by rw [e1]
    rw [List.getElem?_map, List.getElem?_map, List.getElem?_eq_getElem hi', List.getElem?_eq_getElem hi, h2] at h3
    simp only [Option.map_some, Option.some.injEq, DataW.lit.injEq, Lit.string.injEq] at h3
    have hs : s = ss[i] := by
      have : s.data = ss[i].data := Array.ext' h3
      cases s; cases hh : ss[i]; rw [hh] at this; cases this; rfl
    rw [World.var?_cell hg hv i, ← hs]
    have h4 : (cs.toList.drop i)[0]? = some (.string s) := by
      have : ((cs.toList.drop i).take 1)[0]? = some (Value.string s) := by rw [h1]; rfl
      simpa [List.getElem?_take] using this
    simpa using h4
  have key : ∀ (l : List ByteArray) (o : Nat), (∀ i (hi : i < l.length), W.cell? ⟨g, o + i, none⟩ = some (.string l[i])) → Held (immAll W) W g o (l.map D.str) := by
    intro l
    induction l with
    | nil => intro o _; simp [Held]
    | cons s r ih =>
      intro o hc
      simp only [List.map_cons, Held]
      refine ⟨⟨.string s, hc 0 (by simp), hsz, trivial, by simp [RelD]⟩, ih (o + 1) fun i hi => ?_⟩
      have := hc (i + 1) (by simp; omega)
      rw [show o + 1 + i = o + (i + 1) by omega]; simpa using this
  exact key ss 0 fun i hi => by simpa using hcell i hi
theorem laidMet_tail {P : Program} {W : World} {x : String × DataW Unit} {rest : List (String × DataW Unit)} (h : laidMet P (x :: rest) W) : laidMet P rest W := by
  obtain ⟨ps, ⟨g, t, cs, fuel, p, q, _, _, _, _, hr, rfl⟩, hn, hh⟩ := h
  exact ⟨q, hr, (List.nodup_append.1 hn).2.1, fun b off hm => hh b off (List.mem_append_right _ hm)⟩
end Go.Proofs.YtlenjioebdmooaaDoor.Den

namespace Go.Proofs.YtlenjioebdmooaaDoor.Den
open Go Go.Proofs
open Go.Proofs.YtlenjioebdmooaaDoor (Rows.laid_unicode_utf8_acceptRanges Rows.laid_rudder_trip_names Rows.laid_unicode_utf8_first)
set_option maxRecDepth 100000
set_option linter.unusedVariables false
theorem own : ownKnob Tryd.prog.godebug = none := by kernel_rfl
theorem laidOut : laidOutB Tryd.prog = true := by kernel_rfl
theorem mixed : Tryd.prog.follows .mixedOrders = true := by kernel_rfl
theorem envOK : EnvOK Tryd.prog E0 := ⟨e0_cf, ext_ok rfl e0_x e0_w, e0_del⟩
theorem gl_only {g : Nat} {cs : List D} (h : E0.gl g = some cs) : g = 0 ∧ cs = gls0.map D.str := by
  have e : E0.gl g = (match Nat.beq g 0 with | true => some (gls0.map D.str) | false => none) := rfl
  rw [e] at h
  split at h
  · rename_i hb
    exact ⟨Nat.eq_of_beq_eq_true hb, (Option.some.inj h).symm⟩
  · cases h
theorem glOK (w : World) (hs : w.ShapedOpen Tryd.prog) (h : laidMetH Tryd.prog [("unicode/utf8.acceptRanges", Rows.laid_unicode_utf8_acceptRanges), ("rudder/trip.names", Rows.laid_rudder_trip_names), ("unicode/utf8.first", Rows.laid_unicode_utf8_first)] w) : GlOK E0 (cx0 w) := by
  rw [MakeChecks.laidMetH_plain _ _ _ (by kernel_rfl)] at h
  refine ⟨fun g cs hg => ?_, fun p hp => ?_⟩
  · obtain ⟨rfl, rfl⟩ := gl_only hg
    have h' : laidMet Tryd.prog (("rudder/trip.names", .agg (gls0.map fun s => .lit (.string s.data.toList))) :: [("unicode/utf8.first", Rows.laid_unicode_utf8_first)]) w := laidMet_tail h
    have hh := held_texts (g := 0) (t := 38) (n := 6) (e := 9) (by kernel_rfl) (by kernel_rfl) Tryd.underlying38 Tryd.underlying9 (by kernel_rfl) (by kernel_rfl) rfl h'
    simp only [RelD]
    exact ⟨0, 0, rfl, hh⟩
  · have hp' : p = (1, isInt) := by
      have : p ∈ [((1 : Nat), isInt)] := hp
      simpa using this
    subst hp'
    obtain ⟨m, hm⟩ := Go.Proofs.cell_of_shapedOpen_int (g := 1) (zero := #[.int .i64 0]) (t := 3) hs (of_decide_eq_true (by kernel_rfl)) (by kernel_rfl) rfl (by kernel_rfl) (by kernel_rfl) Tryd.underlying3
    have hm' : w.cell? ⟨1, 0, none⟩ = some (.int .i64 m) := hm
    refine ⟨?_, fun id h => by cases h⟩
    unfold World.cell? at hm'
    show ∃ vs e fr, w.heap[1]? = some (.cells vs e fr) ∧ isInt vs
    cases hh : w.heap[1]? with
    | none => rw [hh] at hm'; cases hm'
    | some o =>
      rw [hh] at hm'
      cases o with
      | cells vs e fr => exact ⟨vs, e, fr, rfl, m, hm'⟩
      | _ => cases hm'
end Go.Proofs.YtlenjioebdmooaaDoor.Den

namespace Go.Proofs.YtlenjioebdmooaaDoor.Den
open Go Go.Proofs Go.ChangeShapes Go.WideShapes Go.ChangeAt Go.RowKit
open Go.Proofs.YtlenjioebdmooaaDoor (Rows.tripTellsSpec Rows.tripTellsRow Rows.TripTellsSaid Rows.TripTellsCardSaid Rows.tripTellsCard tripTells_row_tie Rows.laid_unicode_utf8_acceptRanges Rows.laid_rudder_trip_names Rows.laid_unicode_utf8_first)
set_option maxRecDepth 100000
set_option linter.unusedSimpArgs false
set_option linter.unusedVariables false
theorem row3 (rs : List (List D)) (h : TyAll Tryd.prog 20 Tryd.f3.params.toList rs) : ∃ k m', callD E0 k 3 (argsV Tryd.prog Tryd.f3.params.toList rs) [] = some ([.d (.bool true)], m') := by
  rw [Tryd.params3] at h ⊢
  simp only [TyAll] at h
  obtain ⟨_, _, rfl, q0, _, _, rfl, q1, _, _, rfl, q2, rfl⟩ := h
  have k0 := flatK_ok 20 _ _ _ (show flatK Tryd.prog 20 3 = some [.i .i64] by kernel_rfl) q0
  simp only [CellsK, CellK] at k0
  obtain ⟨_, _, rfl, ⟨a0_0, rfl, w0_0⟩, rfl⟩ := k0
  have k1 := flatK_ok 20 _ _ _ (show flatK Tryd.prog 20 9 = some [.s] by kernel_rfl) q1
  simp only [CellsK, CellK] at k1
  obtain ⟨_, _, rfl, ⟨a1_0, rfl, w1_0⟩, rfl⟩ := k1
  have k2 := flatK_ok 20 _ _ _ (show flatK Tryd.prog 20 24 = some [.l 4, .i .i64] by kernel_rfl) q2
  simp only [CellsK, CellK] at k2
  obtain ⟨d2_0, _, rfl, y2_0, _, _, rfl, ⟨a2_1, rfl, w2_1⟩, rfl⟩ := k2
  obtain ⟨n2_0, a2_0, rfl, v2_0⟩ : ∃ n l, d2_0 = slD encB true 1 n l ∧ (l.length ≤ maxLen ∧ l.length * 1 ≤ 140737488351232 ∧ ∀ z ∈ l, True) := by
    rcases y2_0 with rfl | ⟨rows1, rfl, hl1, hb1, m1, hr1⟩
    · exact ⟨true, [], rfl, by simp [maxLen], by simp, fun z hz => by simp at hz⟩
    · obtain ⟨l2, rfl, hw2⟩ : ∃ l : List Bool, rows1 = l.map encB ∧ ∀ z ∈ l, True := rows_of (T := Ty Tryd.prog m1 4) (fun r hr => by
          have q := flatK_any (show flatK Tryd.prog 20 4 = some [.b] by kernel_rfl) hr
          simp only [CellsK, CellK] at q
          obtain ⟨_, _, rfl, ⟨b0, rfl⟩, rfl⟩ := q
          exact ⟨b0, rfl, trivial⟩) rows1 hr1
      rw [List.length_map, show Tryd.prog.bytesOf 4 = 1 by kernel_rfl] at hb1
      rw [show isFlat Tryd.prog 4 = true by kernel_rfl, show Tryd.prog.cellsOf 4 = 1 by kernel_rfl]
      exact ⟨false, l2, slD_rs _ _ _ _, by simpa using hl1, hb1, hw2⟩
  simp only [argsV, argV, Tryd.underlying3, Tryd.underlying9, Tryd.underlying24, List.map_cons, List.map_nil]
  obtain ⟨g1, g2⟩ := pure_TripTells a0_0 a1_0 n2_0 a2_0 a2_1 w0_0 w1_0 v2_0 w2_1
  have hc := law14_TripTells_t0 a0_0 a1_0 n2_0 a2_0 a2_1 g1
  rw [g2] at hc
  obtain ⟨k, hk⟩ := of_cl hc
  exact ⟨k, _, hk⟩
theorem tripTells_lifted (os : Os) (started : os.Started) (H : Type) (enc : TypeId × Value → H) :
    ReturnsInHanded {} Tryd.checked os 3 .any (fun w args => (Rows.tripTellsSpec.pre enc Tryd.prog Tryd.f3 [] false w args ∧ laidMetH Tryd.prog [("unicode/utf8.acceptRanges", Rows.laid_unicode_utf8_acceptRanges), ("rudder/trip.names", Rows.laid_rudder_trip_names), ("unicode/utf8.first", Rows.laid_unicode_utf8_first)] w) ∧ sizedMet enc Tryd.prog Tryd.f3 (OpenSpec.ofChange Rows.tripTellsSpec) false w args) (Rows.tripTellsSpec.post enc Tryd.prog Tryd.f3 false true false false) :=
  law_laidS (C := Tryd.checked) (fn := Tryd.f3) mixed envOK glOK own started (by kernel_rfl) Tryd.func3 laidOut
    (ChangeSpec.witness_at (enc := enc) (C := Tryd.checked) (os := os) (X := fun w _ => laidMetH Tryd.prog [("unicode/utf8.acceptRanges", Rows.laid_unicode_utf8_acceptRanges), ("rudder/trip.names", Rows.laid_rudder_trip_names), ("unicode/utf8.first", Rows.laid_unicode_utf8_first)] w) false (World.laidAll Tryd.prog os [("unicode/utf8.acceptRanges", Rows.laid_unicode_utf8_acceptRanges), ("rudder/trip.names", Rows.laid_rudder_trip_names), ("unicode/utf8.first", Rows.laid_unicode_utf8_first)]) #[.int .i64 0, .string ByteArray.empty, .agg #[.slice none 0 0, .int .i64 0]] 8 (World.laidAll_os _ _ _) (by kernel_rfl) (by kernel_rfl) (by kernel_rfl) (by kernel_rfl) (by kernel_rfl)
      (by rw [MakeChecks.laidMetH_plain _ _ _ (by kernel_rfl)]; exact laidMet_laidAll _ (by kernel_rfl) (by kernel_rfl)))
    (by kernel_rfl) (rt := 4) rfl Tryd.underlying4 rfl
    (fun ds h => by
      match ds, h with
      | [_, _, _], _ => rfl)
    row3
theorem tripTells_row : Rows.TripTellsSaid :=
  OpenClaim.holds_of_wide 3 Tryd.f3 rfl rfl rfl rfl rfl rfl rfl ⟨rfl, rfl, rfl, rfl, rfl⟩ rfl rfl rfl rfl rfl (by kernel_rfl) Tryd.func3 (by kernel_rfl)
    (of_decide_eq_true (by kernel_rfl)) (by unfold Func.isWrapper; first | (rw [if_pos (by decide +kernel)]; kernel_rfl) | (rw [if_neg (by decide +kernel)]; exact ⟨rfl, rfl⟩))
    (fun os started H enc _ => tripTells_lifted os started H enc)
theorem tripTells_holds : Rows.TripTellsCardSaid :=
  Claim7.holds_tied_plain_at .later [] [.data, .data, .pinned] true (true, "8b26cfaa9571f3d94612a84753b6a27c2923ccd6203acbccf2d4b314deb806eb") false tripTells_row (fun _ h => by cases h) (by kernel_rfl) (fun _ h => by cases h) tripTells_row_tie rfl ⟨rfl, rfl⟩ (by kernel_rfl) rfl
    (fun f fn hf hfn => by
      obtain rfl : f = 3 := Option.some.inj ((show Tryd.prog.funcNamed "rudder/rudderlaw14.TripTells" = some 3 by kernel_rfl).symm.trans hf) |>.symm
      obtain rfl : fn = Tryd.f3 := (Option.some.inj (Tryd.func3.symm.trans hfn)).symm
      exact ⟨by kernel_rfl, fun j t ht => by
        rw [Tryd.params3] at ht
        have hm : t ∈ [3, 9, 24] := by simpa using Array.mem_of_getElem? ht
        have hall : ([3, 9, 24].all fun u => !Tryd.prog.wantsStandIn u) = true := by kernel_rfl
        exact (show Tryd.prog.wantsStandIn t = false by simpa using List.all_eq_true.1 hall t hm)⟩)
    (by kernel_rfl)
end Go.Proofs.YtlenjioebdmooaaDoor.Den
