/- StuckFrozen: part 5 of what its proof rests on: an evaluator of the program's code, proved sound; plain functions printed from the code by a program of this session, with proofs; plain laws. No condition. -/
import Derived.Test.YtdlhhoejnhjbhaaDenstuckFrozen4
import Derived.Test.YtdlhhoejnhjbhaaRows

namespace Go.Proofs.Ytdlhhoejnhjbhaa.Den
open Go Go.Proofs
set_option maxRecDepth 100000
set_option maxHeartbeats 4000000
set_option linter.unusedVariables false
set_option linter.unusedSimpArgs false
def law09_StuckFrozen_S0_c0 (x3 : List R_bool_i16_i16) : Bool := (bif tb (decide (200 < ((x3.length : Nat) : Int))) then true else false)
theorem law09_StuckFrozen_S0_t0 (x0 : Int) (x1 : Int) (x2 : Bool) (x3 : List R_bool_i16_i16) : law09_StuckFrozen_S0_c0 x3 = true → segG (runC E0 (cl E0) S11_0) [0, 1, 2] [6] [0, 1, 2] 0 ([(V.d (.int .u8 x0)), (V.d (.int .u16 x1)), (V.d (slD enc_R_bool_i16_i16 true 3 x2 x3))], []) = some (.ret, ([(V.d (.bool true))], [])) := by
  unfold law09_StuckFrozen_S0_c0
  cases h1 : tb (decide (200 < ((x3.length : Nat) : Int)))
  · intro g0
    exact absurd g0 ft
  · intro g0
    exact seg_walk [.o 20 (fun _ => o_len_os (enc := enc_R_bool_i16_i16) (l := x3) (fl := true) (n := x2) (s := 3)), .b (tbE h1), .c (law09_alive_t0)] (by kernel_rfl)
theorem law09_StuckFrozen_S0_t1 (x0 : Int) (x1 : Int) (x2 : Bool) (x3 : List R_bool_i16_i16) : law09_StuckFrozen_S0_c0 x3 = false → segG (runC E0 (cl E0) S11_0) [0, 1, 2] [6] [0, 1, 2] 0 ([(V.d (.int .u8 x0)), (V.d (.int .u16 x1)), (V.d (slD enc_R_bool_i16_i16 true 3 x2 x3))], []) = some (.normal, ([(V.d (.int .u8 x0)), (V.d (.int .u16 x1)), (V.d (slD enc_R_bool_i16_i16 true 3 x2 x3))], [])) := by
  unfold law09_StuckFrozen_S0_c0
  cases h1 : tb (decide (200 < ((x3.length : Nat) : Int)))
  · intro g0
    exact seg_walk [.o 20 (fun _ => o_len_os (enc := enc_R_bool_i16_i16) (l := x3) (fl := true) (n := x2) (s := 3)), .b (tbE h1)] (by kernel_rfl)
  · intro g0
    exact absurd g0 tf
def law09_StuckFrozen_S1_c0 (x11 : List R_bool_i16_i16) (x13 : Int) : Bool := (bif tb (decide (x13 < ((x11.length : Nat) : Int))) then true else false)
theorem law09_StuckFrozen_S1_t0 (x0 : Int) (x1 : Int) (x2 : List Int) (x3 : Int) (x4 : Int) (x5 : Bool) (x6 : Int) (x7 : Int) (x8 : Bool) (x9 : Int) (x10 : Bool) (x11 : List R_bool_i16_i16) (x12 : Int) (x13 : Int) : law09_StuckFrozen_S1_c0 x11 x13 = true → segG (runC E0 (cl E0) S11_1) [1, 2, 7, 8, 10, 11] [] [1, 2, 7, 8, 10, 11] 2 ([(V.d (.int .u16 x9)), (V.d (slD enc_R_bool_i16_i16 true 3 x10 x11)), (V.d (.int .i64 x12)), (V.ptr 0 1 0 0), (V.ptr 1 1 0 0), (V.d (.int .i64 x13))], [(Blk.flat 82 20 [([(.int .i64 x0), (.int .i64 x1)] ++ arrD .i64 x2 16 ++ [(.int .i64 x3), (.int .i64 x4)])] x5), (Blk.gen 84 3 [[(V.ptr 0 1 0 0), (V.d (.int .i64 x6)), (V.d (.int .i64 x7))]] x8)]) = some (.normal, ([(V.d (.int .u16 x9)), (V.d (slD enc_R_bool_i16_i16 true 3 x10 x11)), (V.d (.int .i64 x12)), (V.ptr 0 1 0 0), (V.ptr 1 1 0 0), (V.d (.int .i64 x13))], [(Blk.flat 82 20 [([(.int .i64 x0), (.int .i64 x1)] ++ arrD .i64 x2 16 ++ [(.int .i64 x3), (.int .i64 x4)])] x5), (Blk.gen 84 3 [[(V.ptr 0 1 0 0), (V.d (.int .i64 x6)), (V.d (.int .i64 x7))]] x8)])) := by
  unfold law09_StuckFrozen_S1_c0
  cases h1 : tb (decide (x13 < ((x11.length : Nat) : Int)))
  · intro g0
    exact absurd g0 ft
  · intro g0
    exact seg_walk [.o 48 (fun _ => o_len_os (enc := enc_R_bool_i16_i16) (l := x11) (fl := true) (n := x10) (s := 3)), .b (tbE h1)] (by kernel_rfl)
theorem law09_StuckFrozen_S1_t1 (x0 : Int) (x1 : Int) (x2 : List Int) (x3 : Int) (x4 : Int) (x5 : Bool) (x6 : Int) (x7 : Int) (x8 : Bool) (x9 : Int) (x10 : Bool) (x11 : List R_bool_i16_i16) (x12 : Int) (x13 : Int) : law09_StuckFrozen_S1_c0 x11 x13 = false → segG (runC E0 (cl E0) S11_1) [1, 2, 7, 8, 10, 11] [] [1, 2, 7, 8, 10, 11] 2 ([(V.d (.int .u16 x9)), (V.d (slD enc_R_bool_i16_i16 true 3 x10 x11)), (V.d (.int .i64 x12)), (V.ptr 0 1 0 0), (V.ptr 1 1 0 0), (V.d (.int .i64 x13))], [(Blk.flat 82 20 [([(.int .i64 x0), (.int .i64 x1)] ++ arrD .i64 x2 16 ++ [(.int .i64 x3), (.int .i64 x4)])] x5), (Blk.gen 84 3 [[(V.ptr 0 1 0 0), (V.d (.int .i64 x6)), (V.d (.int .i64 x7))]] x8)]) = some ((.exit 0), ([], [(Blk.flat 82 20 [([(.int .i64 x0), (.int .i64 x1)] ++ arrD .i64 x2 16 ++ [(.int .i64 x3), (.int .i64 x4)])] x5), (Blk.gen 84 3 [[(V.ptr 0 1 0 0), (V.d (.int .i64 x6)), (V.d (.int .i64 x7))]] x8)])) := by
  unfold law09_StuckFrozen_S1_c0
  cases h1 : tb (decide (x13 < ((x11.length : Nat) : Int)))
  · intro g0
    exact seg_walk [.o 48 (fun _ => o_len_os (enc := enc_R_bool_i16_i16) (l := x11) (fl := true) (n := x10) (s := 3)), .b (tbE h1)] (by kernel_rfl)
  · intro g0
    exact absurd g0 tf
def law09_StuckFrozen_S2_c0 (x0 : Int) (x2 : List Int) (x3 : Int) (x4 : Int) (x6 : Int) (x7 : Int) (x11 : List R_bool_i16_i16) (x13 : Int) : Bool := (bif tb (inb x11.length x13) then (bif tb ((gt x11 x13).c0) then true else (bif tb (stuck_Watch_Come_pi_Gpi2Fi20_c0 x0 x2 x3 x4 x6 x7 (wi ((gt x11 x13).c1))) then (bif tb (((stuck_Watch_Come_pi_Gpi2Fi20_r0_1 (wi ((gt x11 x13).c1))) : Int) != 0) then false else true) else false)) else false)
def law09_StuckFrozen_S2_r0_5 (x0 : Int) (x1 : Int) (x2 : List Int) (x3 : Int) (x4 : Int) (x6 : Int) (x7 : Int) (x11 : List R_bool_i16_i16) (x13 : Int) : Bool := (bif tb ((gt x11 x13).c0) then false else (stuck_Watch_Come_pi_Gpi2Fi20_r0_0 x0 x1 x2 x3 x4 x6 x7 (wi ((gt x11 x13).c1))))
def law09_StuckFrozen_S2_r0_12 (x6 : Int) (x11 : List R_bool_i16_i16) (x13 : Int) : Int := (bif tb ((gt x11 x13).c0) then x6 else (stuck_Watch_Come_pi_Gpi2Fi20_r0_2 x6 (wi ((gt x11 x13).c1))))
def law09_StuckFrozen_S2_r0_13 (x0 : Int) (x6 : Int) (x7 : Int) (x11 : List R_bool_i16_i16) (x13 : Int) : Int := (bif tb ((gt x11 x13).c0) then 0 else (stuck_Watch_Come_pi_Gpi2Fi20_r0_3 x0 x6 x7 (wi ((gt x11 x13).c1))))
def law09_StuckFrozen_S2_c1 (x0 : Int) (x2 : List Int) (x3 : Int) (x4 : Int) (x6 : Int) (x7 : Int) (x11 : List R_bool_i16_i16) (x13 : Int) : Bool := (bif tb (inb x11.length x13) then (bif tb ((gt x11 x13).c0) then false else (bif tb (stuck_Watch_Come_pi_Gpi2Fi20_c0 x0 x2 x3 x4 x6 x7 (wi ((gt x11 x13).c1))) then (bif tb (((stuck_Watch_Come_pi_Gpi2Fi20_r0_1 (wi ((gt x11 x13).c1))) : Int) != 0) then true else false) else false)) else false)
theorem law09_StuckFrozen_S2_t0 (x0 : Int) (x1 : Int) (x2 : List Int) (x3 : Int) (x4 : Int) (x5 : Bool) (x6 : Int) (x7 : Int) (x9 : Int) (x10 : Bool) (x11 : List R_bool_i16_i16) (x12 : Int) (x13 : Int) : law09_StuckFrozen_S2_c0 x0 x2 x3 x4 x6 x7 x11 x13 = true → segG (runC E0 (cl E0) S11_2) [1, 2, 7, 8, 10, 11, 12] [6] [1, 2, 7, 8, 10, 11, 12] 2 ([(V.d (.int .u16 x9)), (V.d (slD enc_R_bool_i16_i16 true 3 x10 x11)), (V.d (.int .i64 x12)), (V.ptr 0 1 0 0), (V.ptr 1 1 0 0), (V.d (.int .i64 x13)), (V.d (.bool false))], [(Blk.flat 82 20 [([(.int .i64 x0), (.int .i64 x1)] ++ arrD .i64 x2 16 ++ [(.int .i64 x3), (.int .i64 x4)])] x5), (Blk.gen 84 3 [[(V.ptr 0 1 0 0), (V.d (.int .i64 x6)), (V.d (.int .i64 x7))]] false)]) = some (.normal, ([(V.d (.int .u16 x9)), (V.d (slD enc_R_bool_i16_i16 true 3 x10 x11)), (V.d (.int .i64 x12)), (V.ptr 0 1 0 0), (V.ptr 1 1 0 0), (V.d (.int .i64 x13)), (V.d (.bool (law09_StuckFrozen_S2_r0_5 x0 x1 x2 x3 x4 x6 x7 x11 x13)))], [(Blk.flat 82 20 [([(.int .i64 x0), (.int .i64 x1)] ++ arrD .i64 x2 16 ++ [(.int .i64 x3), (.int .i64 x4)])] x5), (Blk.gen 84 3 [[(V.ptr 0 1 0 0), (V.d (.int .i64 (law09_StuckFrozen_S2_r0_12 x6 x11 x13))), (V.d (.int .i64 (law09_StuckFrozen_S2_r0_13 x0 x6 x7 x11 x13)))]] false)])) := by
  unfold law09_StuckFrozen_S2_c0 law09_StuckFrozen_S2_r0_5 law09_StuckFrozen_S2_r0_12 law09_StuckFrozen_S2_r0_13
  cases h1 : tb (inb x11.length x13)
  · intro g0
    exact absurd g0 ft
  · cases h2 : tb ((gt x11 x13).c0)
    · cases h3 : tb (stuck_Watch_Come_pi_Gpi2Fi20_c0 x0 x2 x3 x4 x6 x7 (wi ((gt x11 x13).c1)))
      · intro g0
        exact absurd g0 ft
      · cases h4 : tb (((stuck_Watch_Come_pi_Gpi2Fi20_r0_1 (wi ((gt x11 x13).c1))) : Int) != 0)
        · intro g0
          exact seg_walk [.o 54 (fun _ => o_idx_os (enc := enc_R_bool_i16_i16) (l := x11) (fl := true) (n := x10) (s := 3) (k := .i64) (tbE h1)), .b (tbE h2), .o 63 (fun _ => o_idx_os (enc := enc_R_bool_i16_i16) (l := x11) (fl := true) (n := x10) (s := 3) (k := .i64) (tbE h1)), .c (stuck_Watch_Come_pi_Gpi2Fi20_t0 x0 x1 x2 x3 x4 x6 x7 x5 (wi ((gt x11 x13).c1)) (tbE h3)), .b (tbE h4)] (by kernel_rfl)
        · intro g0
          exact absurd g0 ft
    · intro g0
      exact seg_walk [.o 54 (fun _ => o_idx_os (enc := enc_R_bool_i16_i16) (l := x11) (fl := true) (n := x10) (s := 3) (k := .i64) (tbE h1)), .b (tbE h2), .c (stuck_Watch_Miss_p_Gpi2Fi20_t0 x0 x1 x2 x3 x4 x6 x7 x5)] (by kernel_rfl)
theorem law09_StuckFrozen_S2_t1 (x0 : Int) (x1 : Int) (x2 : List Int) (x3 : Int) (x4 : Int) (x5 : Bool) (x6 : Int) (x7 : Int) (x9 : Int) (x10 : Bool) (x11 : List R_bool_i16_i16) (x12 : Int) (x13 : Int) : law09_StuckFrozen_S2_c0 x0 x2 x3 x4 x6 x7 x11 x13 = false → law09_StuckFrozen_S2_c1 x0 x2 x3 x4 x6 x7 x11 x13 = true → segG (runC E0 (cl E0) S11_2) [1, 2, 7, 8, 10, 11, 12] [6] [1, 2, 7, 8, 10, 11, 12] 2 ([(V.d (.int .u16 x9)), (V.d (slD enc_R_bool_i16_i16 true 3 x10 x11)), (V.d (.int .i64 x12)), (V.ptr 0 1 0 0), (V.ptr 1 1 0 0), (V.d (.int .i64 x13)), (V.d (.bool false))], [(Blk.flat 82 20 [([(.int .i64 x0), (.int .i64 x1)] ++ arrD .i64 x2 16 ++ [(.int .i64 x3), (.int .i64 x4)])] x5), (Blk.gen 84 3 [[(V.ptr 0 1 0 0), (V.d (.int .i64 x6)), (V.d (.int .i64 x7))]] false)]) = some (.ret, ([(V.d (.bool false))], [(Blk.flat 82 20 [([(.int .i64 x0), (.int .i64 x1)] ++ arrD .i64 x2 16 ++ [(.int .i64 x3), (.int .i64 x4)])] x5), (Blk.gen 84 3 [[(V.ptr 0 1 0 0), (V.d (.int .i64 (stuck_Watch_Come_pi_Gpi2Fi20_r0_2 x6 (wi ((gt x11 x13).c1))))), (V.d (.int .i64 (stuck_Watch_Come_pi_Gpi2Fi20_r0_3 x0 x6 x7 (wi ((gt x11 x13).c1)))))]] false)])) := by
  unfold law09_StuckFrozen_S2_c0 law09_StuckFrozen_S2_c1
  cases h1 : tb (inb x11.length x13)
  · intro g0 g1
    exact absurd g1 ft
  · cases h2 : tb ((gt x11 x13).c0)
    · cases h3 : tb (stuck_Watch_Come_pi_Gpi2Fi20_c0 x0 x2 x3 x4 x6 x7 (wi ((gt x11 x13).c1)))
      · intro g0 g1
        exact absurd g1 ft
      · cases h4 : tb (((stuck_Watch_Come_pi_Gpi2Fi20_r0_1 (wi ((gt x11 x13).c1))) : Int) != 0)
        · intro g0 g1
          exact absurd g0 tf
        · intro g0 g1
          exact seg_walk [.o 54 (fun _ => o_idx_os (enc := enc_R_bool_i16_i16) (l := x11) (fl := true) (n := x10) (s := 3) (k := .i64) (tbE h1)), .b (tbE h2), .o 63 (fun _ => o_idx_os (enc := enc_R_bool_i16_i16) (l := x11) (fl := true) (n := x10) (s := 3) (k := .i64) (tbE h1)), .c (stuck_Watch_Come_pi_Gpi2Fi20_t0 x0 x1 x2 x3 x4 x6 x7 x5 (wi ((gt x11 x13).c1)) (tbE h3)), .b (tbE h4)] (by kernel_rfl)
    · intro g0 g1
      exact absurd g0 tf
structure law09_StuckFrozen_L3_s0 where
  c6 : Bool
  c7 : Int
  c8 : Int
  c9 : Int
  deriving Inhabited
def law09_StuckFrozen_L3_enc (x0 : Int) (x1 : Int) (x2 : List Int) (x3 : Int) (x4 : Int) (x5 : Bool) (x6 : Int) (x7 : Int) (x8 : Bool) (x9 : Int) (x10 : Bool) (x11 : List R_bool_i16_i16) (x12 : Int) (x13 : Int) (x14 : Bool) (x15 : Bool) (x16 : Int) (x17 : Int) (x18 : Int) (s0 : law09_StuckFrozen_L3_s0) : List V × Mem := ([(V.d (.int .u16 x9)), (V.d (slD enc_R_bool_i16_i16 true 3 x10 x11)), (V.d (.int .i64 x12)), (V.ptr 0 1 0 0), (V.ptr 1 1 0 0), (V.d (.int .i64 x13)), (V.d (.bool x14)), (V.d (.bool s0.c6)), (V.d (.int .i64 s0.c7)), (V.d (.int .i64 s0.c8)), (V.d (.int .i64 s0.c9))], [(Blk.flat 82 20 [([(.int .i64 x0), (.int .i64 x1)] ++ arrD .i64 x2 16 ++ [(.int .i64 x3), (.int .i64 x4)])] x5), (Blk.gen 84 3 [[(V.ptr 0 1 0 0), (V.d (.int .i64 x6)), (V.d (.int .i64 x7))]] x8)])
def law09_StuckFrozen_L3_sel (x11 : List R_bool_i16_i16) (x13 : Int) (s0 : law09_StuckFrozen_L3_s0) : Bool := (bif tb (decide (s0.c9 ≤ x13)) then (bif tb (s0.c6) then (bif tb (inb x11.length s0.c9) then (bif tb ((gt x11 s0.c9).c0) then true else (bif tb (inb x11.length x13) then true else false)) else false) else (bif tb (decide (s0.c9 < x13)) then (bif tb (inb x11.length s0.c9) then true else false) else true)) else false)
def law09_StuckFrozen_L3_nx (x11 : List R_bool_i16_i16) (x13 : Int) (s0 : law09_StuckFrozen_L3_s0) : law09_StuckFrozen_L3_s0 := (bif tb (s0.c6) then (bif tb ((gt x11 s0.c9).c0) then (bif tb (decide (s0.c9 < x13)) then ⟨false, (mnI s0.c7 (wi ((gt x11 s0.c9).c2))), (mxI s0.c8 (wi ((gt x11 s0.c9).c2))), (wi (s0.c9 + 1))⟩ else ⟨false, s0.c7, s0.c8, (wi (s0.c9 + 1))⟩) else (bif tb (decide (s0.c9 < x13)) then ⟨((((gt x11 s0.c9).c1) : Int) == ((gt x11 x13).c1)), (mnI s0.c7 (wi ((gt x11 s0.c9).c2))), (mxI s0.c8 (wi ((gt x11 s0.c9).c2))), (wi (s0.c9 + 1))⟩ else ⟨((((gt x11 s0.c9).c1) : Int) == ((gt x11 x13).c1)), s0.c7, s0.c8, (wi (s0.c9 + 1))⟩)) else (bif tb (decide (s0.c9 < x13)) then ⟨false, (mnI s0.c7 (wi ((gt x11 s0.c9).c2))), (mxI s0.c8 (wi ((gt x11 s0.c9).c2))), (wi (s0.c9 + 1))⟩ else ⟨false, s0.c7, s0.c8, (wi (s0.c9 + 1))⟩))
def law09_StuckFrozen_L3_ok (x11 : List R_bool_i16_i16) (x13 : Int) (s0 : law09_StuckFrozen_L3_s0) : Bool := (itS (law09_StuckFrozen_L3_sel x11 x13) (law09_StuckFrozen_L3_nx x11 x13) bound s0).isSome
def law09_StuckFrozen_L3_end (x11 : List R_bool_i16_i16) (x13 : Int) (s0 : law09_StuckFrozen_L3_s0) : law09_StuckFrozen_L3_s0 := (itS (law09_StuckFrozen_L3_sel x11 x13) (law09_StuckFrozen_L3_nx x11 x13) bound s0).getD default
theorem law09_StuckFrozen_L3_go (x0 : Int) (x1 : Int) (x2 : List Int) (x3 : Int) (x4 : Int) (x5 : Bool) (x6 : Int) (x7 : Int) (x8 : Bool) (x9 : Int) (x10 : Bool) (x11 : List R_bool_i16_i16) (x12 : Int) (x13 : Int) (x14 : Bool) (x15 : Bool) (x16 : Int) (x17 : Int) (x18 : Int) (s0 : law09_StuckFrozen_L3_s0) : law09_StuckFrozen_L3_sel x11 x13 s0 = true → (roundG (runC E0 (cl E0) L11_3) [1, 2, 7, 8, 10, 11, 12, 15, 16, 17, 18] [1, 2, 7, 8, 10, 11, 12, 15, 16, 17] 2) (law09_StuckFrozen_L3_enc x0 x1 x2 x3 x4 x5 x6 x7 x8 x9 x10 x11 x12 x13 x14 x15 x16 x17 x18 s0) = some (.normal, law09_StuckFrozen_L3_enc x0 x1 x2 x3 x4 x5 x6 x7 x8 x9 x10 x11 x12 x13 x14 x15 x16 x17 x18 (law09_StuckFrozen_L3_nx x11 x13 s0)) := by
  unfold law09_StuckFrozen_L3_sel law09_StuckFrozen_L3_nx
  cases h1 : tb (decide (s0.c9 ≤ x13))
  · intro g0
    exact absurd g0 ft
  · cases h2 : tb (s0.c6)
    · cases h3 : tb (decide (s0.c9 < x13))
      · intro _
        exact round_walk [.b (tbE h1), .b (tbE h2), .b (tbE h3)] (by kernel_rfl)
      · cases h4 : tb (inb x11.length s0.c9)
        · intro g0
          exact absurd g0 ft
        · intro _
          exact round_walk [.b (tbE h1), .b (tbE h2), .b (tbE h3), .o 115 (fun _ => o_idx_os (enc := enc_R_bool_i16_i16) (l := x11) (fl := true) (n := x10) (s := 3) (k := .i64) (tbE h4)), .o 123 (fun _ => o_idx_os (enc := enc_R_bool_i16_i16) (l := x11) (fl := true) (n := x10) (s := 3) (k := .i64) (tbE h4))] (by kernel_rfl)
    · cases h3 : tb (inb x11.length s0.c9)
      · intro g0
        exact absurd g0 ft
      · cases h4 : tb ((gt x11 s0.c9).c0)
        · cases h5 : tb (inb x11.length x13)
          · intro g0
            exact absurd g0 ft
          · cases h6 : tb (decide (s0.c9 < x13))
            · intro _
              exact round_walk [.b (tbE h1), .b (tbE h2), .o 91 (fun _ => o_idx_os (enc := enc_R_bool_i16_i16) (l := x11) (fl := true) (n := x10) (s := 3) (k := .i64) (tbE h3)), .b (notF (tbE h4)), .o 99 (fun _ => o_idx_os (enc := enc_R_bool_i16_i16) (l := x11) (fl := true) (n := x10) (s := 3) (k := .i64) (tbE h3)), .o 104 (fun _ => o_idx_os (enc := enc_R_bool_i16_i16) (l := x11) (fl := true) (n := x10) (s := 3) (k := .i64) (tbE h5)), .b (tbE h6)] (by kernel_rfl)
            · intro _
              exact round_walk [.b (tbE h1), .b (tbE h2), .o 91 (fun _ => o_idx_os (enc := enc_R_bool_i16_i16) (l := x11) (fl := true) (n := x10) (s := 3) (k := .i64) (tbE h3)), .b (notF (tbE h4)), .o 99 (fun _ => o_idx_os (enc := enc_R_bool_i16_i16) (l := x11) (fl := true) (n := x10) (s := 3) (k := .i64) (tbE h3)), .o 104 (fun _ => o_idx_os (enc := enc_R_bool_i16_i16) (l := x11) (fl := true) (n := x10) (s := 3) (k := .i64) (tbE h5)), .b (tbE h6), .o 115 (fun _ => o_idx_os (enc := enc_R_bool_i16_i16) (l := x11) (fl := true) (n := x10) (s := 3) (k := .i64) (tbE h3)), .o 123 (fun _ => o_idx_os (enc := enc_R_bool_i16_i16) (l := x11) (fl := true) (n := x10) (s := 3) (k := .i64) (tbE h3))] (by kernel_rfl)
        · cases h5 : tb (decide (s0.c9 < x13))
          · intro _
            exact round_walk [.b (tbE h1), .b (tbE h2), .o 91 (fun _ => o_idx_os (enc := enc_R_bool_i16_i16) (l := x11) (fl := true) (n := x10) (s := 3) (k := .i64) (tbE h3)), .b (notT (tbE h4)), .b (tbE h5)] (by kernel_rfl)
          · intro _
            exact round_walk [.b (tbE h1), .b (tbE h2), .o 91 (fun _ => o_idx_os (enc := enc_R_bool_i16_i16) (l := x11) (fl := true) (n := x10) (s := 3) (k := .i64) (tbE h3)), .b (notT (tbE h4)), .b (tbE h5), .o 115 (fun _ => o_idx_os (enc := enc_R_bool_i16_i16) (l := x11) (fl := true) (n := x10) (s := 3) (k := .i64) (tbE h3)), .o 123 (fun _ => o_idx_os (enc := enc_R_bool_i16_i16) (l := x11) (fl := true) (n := x10) (s := 3) (k := .i64) (tbE h3))] (by kernel_rfl)
def law09_StuckFrozen_L3_c0 (x13 : Int) (s0 : law09_StuckFrozen_L3_s0) : Bool := (bif tb (decide (s0.c9 ≤ x13)) then false else true)
theorem law09_StuckFrozen_L3_x0 (x0 : Int) (x1 : Int) (x2 : List Int) (x3 : Int) (x4 : Int) (x5 : Bool) (x6 : Int) (x7 : Int) (x8 : Bool) (x9 : Int) (x10 : Bool) (x11 : List R_bool_i16_i16) (x12 : Int) (x13 : Int) (x14 : Bool) (x15 : Bool) (x16 : Int) (x17 : Int) (x18 : Int) (s0 : law09_StuckFrozen_L3_s0) : law09_StuckFrozen_L3_sel x11 x13 s0 = false → law09_StuckFrozen_L3_c0 x13 s0 = true → (roundG (runC E0 (cl E0) L11_3) [1, 2, 7, 8, 10, 11, 12, 15, 16, 17, 18] [1, 2, 7, 8, 10, 11, 12, 15, 16, 17] 2) (law09_StuckFrozen_L3_enc x0 x1 x2 x3 x4 x5 x6 x7 x8 x9 x10 x11 x12 x13 x14 x15 x16 x17 x18 s0) = some ((.exit 2), ([(V.d (.int .u16 x9)), (V.d (slD enc_R_bool_i16_i16 true 3 x10 x11)), (V.d (.int .i64 x12)), (V.ptr 0 1 0 0), (V.ptr 1 1 0 0), (V.d (.int .i64 x13)), (V.d (.bool x14)), (V.d (.bool s0.c6)), (V.d (.int .i64 s0.c7)), (V.d (.int .i64 s0.c8))], [(Blk.flat 82 20 [([(.int .i64 x0), (.int .i64 x1)] ++ arrD .i64 x2 16 ++ [(.int .i64 x3), (.int .i64 x4)])] x5), (Blk.gen 84 3 [[(V.ptr 0 1 0 0), (V.d (.int .i64 x6)), (V.d (.int .i64 x7))]] x8)])) := by
  unfold law09_StuckFrozen_L3_sel law09_StuckFrozen_L3_c0
  cases h1 : tb (decide (s0.c9 ≤ x13))
  · intro g0 g1
    exact round_walk [.b (tbE h1)] (by kernel_rfl)
  · cases h2 : tb (s0.c6)
    · cases h3 : tb (decide (s0.c9 < x13))
      · intro g0 g1
        exact absurd g0 tf
      · cases h4 : tb (inb x11.length s0.c9)
        · intro g0 g1
          exact absurd g1 ft
        · intro g0 g1
          exact absurd g0 tf
    · cases h3 : tb (inb x11.length s0.c9)
      · intro g0 g1
        exact absurd g1 ft
      · cases h4 : tb ((gt x11 s0.c9).c0)
        · cases h5 : tb (inb x11.length x13)
          · intro g0 g1
            exact absurd g1 ft
          · cases h6 : tb (decide (s0.c9 < x13))
            · intro g0 g1
              exact absurd g0 tf
            · intro g0 g1
              exact absurd g0 tf
        · cases h5 : tb (decide (s0.c9 < x13))
          · intro g0 g1
            exact absurd g0 tf
          · intro g0 g1
            exact absurd g0 tf
theorem law09_StuckFrozen_L3_f0_0 (x0 : Int) (x1 : Int) (x2 : List Int) (x3 : Int) (x4 : Int) (x5 : Bool) (x6 : Int) (x7 : Int) (x8 : Bool) (x9 : Int) (x10 : Bool) (x11 : List R_bool_i16_i16) (x12 : Int) (x13 : Int) (x14 : Bool) (x15 : Bool) (x16 : Int) (x17 : Int) (x18 : Int) (s : law09_StuckFrozen_L3_s0) (hok : law09_StuckFrozen_L3_ok x11 x13 s = true) (c0 : law09_StuckFrozen_L3_c0 x13 (law09_StuckFrozen_L3_end x11 x13 s) = true) : loopG (roundG (runC E0 (cl E0) L11_3) [1, 2, 7, 8, 10, 11, 12, 15, 16, 17, 18] [1, 2, 7, 8, 10, 11, 12, 15, 16, 17] 2) bound (law09_StuckFrozen_L3_enc x0 x1 x2 x3 x4 x5 x6 x7 x8 x9 x10 x11 x12 x13 x14 x15 x16 x17 x18 s) = some ((.exit 2), ([(V.d (.int .u16 x9)), (V.d (slD enc_R_bool_i16_i16 true 3 x10 x11)), (V.d (.int .i64 x12)), (V.ptr 0 1 0 0), (V.ptr 1 1 0 0), (V.d (.int .i64 x13)), (V.d (.bool x14)), (V.d (.bool ((law09_StuckFrozen_L3_end x11 x13 s).c6))), (V.d (.int .i64 ((law09_StuckFrozen_L3_end x11 x13 s).c7))), (V.d (.int .i64 ((law09_StuckFrozen_L3_end x11 x13 s).c8)))], [(Blk.flat 82 20 [([(.int .i64 x0), (.int .i64 x1)] ++ arrD .i64 x2 16 ++ [(.int .i64 x3), (.int .i64 x4)])] x5), (Blk.gen 84 3 [[(V.ptr 0 1 0 0), (V.d (.int .i64 x6)), (V.d (.int .i64 x7))]] x8)])) := by
  have e : itS (law09_StuckFrozen_L3_sel x11 x13) (law09_StuckFrozen_L3_nx x11 x13) bound s = some (law09_StuckFrozen_L3_end x11 x13 s) := itS_get hok
  have f := itS_false e
  exact loop_it (law09_StuckFrozen_L3_go x0 x1 x2 x3 x4 x5 x6 x7 x8 x9 x10 x11 x12 x13 x14 x15 x16 x17 x18) bound s _ _ _ e (fun h => by cases h) (law09_StuckFrozen_L3_x0 x0 x1 x2 x3 x4 x5 x6 x7 x8 x9 x10 x11 x12 x13 x14 x15 x16 x17 x18 (law09_StuckFrozen_L3_end x11 x13 s) f c0)
def law09_StuckFrozen_S4_e0 (x11 : List R_bool_i16_i16) (x12 : Int) (x13 : Int) (x15 : Bool) : law09_StuckFrozen_L3_s0 := law09_StuckFrozen_L3_end x11 x13 (⟨x15, 65536, (-65536), (mxI 0 (wi ((wi (x13 - x12)) + 1)))⟩ : law09_StuckFrozen_L3_s0)
def law09_StuckFrozen_S4_c0 (x11 : List R_bool_i16_i16) (x12 : Int) (x13 : Int) (x15 : Bool) : Bool := (bif tb (law09_StuckFrozen_L3_ok x11 x13 (⟨x15, 65536, (-65536), (mxI 0 (wi ((wi (x13 - x12)) + 1)))⟩ : law09_StuckFrozen_L3_s0)) then (bif tb (law09_StuckFrozen_L3_c0 x13 (law09_StuckFrozen_S4_e0 x11 x12 x13 x15)) then true else false) else false)
theorem law09_StuckFrozen_S4_t0 (x0 : Int) (x1 : Int) (x2 : List Int) (x3 : Int) (x4 : Int) (x5 : Bool) (x6 : Int) (x7 : Int) (x8 : Bool) (x9 : Int) (x10 : Bool) (x11 : List R_bool_i16_i16) (x12 : Int) (x13 : Int) (x14 : Bool) (x15 : Bool) : law09_StuckFrozen_S4_c0 x11 x12 x13 x15 = true → segG (runC E0 (cl E0) S11_4) [1, 2, 7, 8, 10, 11, 12, 15, 16, 17] [] [1, 2, 7, 8, 10, 11, 12, 15, 16, 17] 2 ([(V.d (.int .u16 x9)), (V.d (slD enc_R_bool_i16_i16 true 3 x10 x11)), (V.d (.int .i64 x12)), (V.ptr 0 1 0 0), (V.ptr 1 1 0 0), (V.d (.int .i64 x13)), (V.d (.bool x14)), (V.d (.bool x15)), (V.d (.int .i64 65536)), (V.d (.int .i64 (-65536)))], [(Blk.flat 82 20 [([(.int .i64 x0), (.int .i64 x1)] ++ arrD .i64 x2 16 ++ [(.int .i64 x3), (.int .i64 x4)])] x5), (Blk.gen 84 3 [[(V.ptr 0 1 0 0), (V.d (.int .i64 x6)), (V.d (.int .i64 x7))]] x8)]) = some (.normal, ([(V.d (.int .u16 x9)), (V.d (slD enc_R_bool_i16_i16 true 3 x10 x11)), (V.d (.int .i64 x12)), (V.ptr 0 1 0 0), (V.ptr 1 1 0 0), (V.d (.int .i64 x13)), (V.d (.bool x14)), (V.d (.bool ((law09_StuckFrozen_S4_e0 x11 x12 x13 x15).c6))), (V.d (.int .i64 ((law09_StuckFrozen_S4_e0 x11 x12 x13 x15).c7))), (V.d (.int .i64 ((law09_StuckFrozen_S4_e0 x11 x12 x13 x15).c8)))], [(Blk.flat 82 20 [([(.int .i64 x0), (.int .i64 x1)] ++ arrD .i64 x2 16 ++ [(.int .i64 x3), (.int .i64 x4)])] x5), (Blk.gen 84 3 [[(V.ptr 0 1 0 0), (V.d (.int .i64 x6)), (V.d (.int .i64 x7))]] x8)])) := by
  unfold law09_StuckFrozen_S4_c0
  cases h1 : tb (law09_StuckFrozen_L3_ok x11 x13 (⟨x15, 65536, (-65536), (mxI 0 (wi ((wi (x13 - x12)) + 1)))⟩ : law09_StuckFrozen_L3_s0))
  · intro g0
    exact absurd g0 ft
  · cases h2 : tb (law09_StuckFrozen_L3_c0 x13 (law09_StuckFrozen_S4_e0 x11 x12 x13 x15))
    · intro g0
      exact absurd g0 ft
    · intro g0
      exact seg_walk [.l (law09_StuckFrozen_L3_f0_0 x0 x1 x2 x3 x4 x5 x6 x7 x8 x9 x10 x11 x12 x13 x14 x15 65536 (-65536) (mxI 0 (wi ((wi (x13 - x12)) + 1))) (⟨x15, 65536, (-65536), (mxI 0 (wi ((wi (x13 - x12)) + 1)))⟩ : law09_StuckFrozen_L3_s0) (tbE h1) (tbE h2))] (by kernel_rfl)
def law09_StuckFrozen_S5_c0 (x0 : Int) (x3 : Int) (x9 : Int) (x11 : List R_bool_i16_i16) (x13 : Int) (x14 : Bool) (x15 : Bool) (x16 : Int) (x17 : Int) : Bool := (bif tb (x15) then (bif tb (true != (x14 == (decide ((wi (x9)) < (wi (x17 - x16)))))) then true else (bif tb (inb x11.length x13) then (bif tb (stuck_Room_Vote_pi_Fi20_c0 x0 x3 (wi ((gt x11 x13).c2))) then true else false) else false)) else (bif tb (true != (x14 == false)) then true else (bif tb (inb x11.length x13) then (bif tb (stuck_Room_Vote_pi_Fi20_c0 x0 x3 (wi ((gt x11 x13).c2))) then true else false) else false)))
def law09_StuckFrozen_S5_r0_5 (x9 : Int) (x11 : List R_bool_i16_i16) (x13 : Int) (x14 : Bool) (x15 : Bool) (x16 : Int) (x17 : Int) : Bool := (bif tb (x15) then (bif tb (true != (x14 == (decide ((wi (x9)) < (wi (x17 - x16)))))) then true else (((stuck_Room_Vote_pi_Fi20_r0_0 (wi ((gt x11 x13).c2))) : Int) != 0)) else (bif tb (true != (x14 == false)) then true else (((stuck_Room_Vote_pi_Fi20_r0_0 (wi ((gt x11 x13).c2))) : Int) != 0)))
def law09_StuckFrozen_S5_r0_8 (x2 : List Int) (x3 : Int) (x9 : Int) (x11 : List R_bool_i16_i16) (x13 : Int) (x14 : Bool) (x15 : Bool) (x16 : Int) (x17 : Int) : List Int := (bif tb (x15) then (bif tb (true != (x14 == (decide ((wi (x9)) < (wi (x17 - x16)))))) then x2 else (stuck_Room_Vote_pi_Fi20_r0_3 x2 x3 (wi ((gt x11 x13).c2)))) else (bif tb (true != (x14 == false)) then x2 else (stuck_Room_Vote_pi_Fi20_r0_3 x2 x3 (wi ((gt x11 x13).c2)))))
def law09_StuckFrozen_S5_r0_9 (x0 : Int) (x3 : Int) (x9 : Int) (x11 : List R_bool_i16_i16) (x13 : Int) (x14 : Bool) (x15 : Bool) (x16 : Int) (x17 : Int) : Int := (bif tb (x15) then (bif tb (true != (x14 == (decide ((wi (x9)) < (wi (x17 - x16)))))) then x3 else (stuck_Room_Vote_pi_Fi20_r0_4 x0 x3 (wi ((gt x11 x13).c2)))) else (bif tb (true != (x14 == false)) then x3 else (stuck_Room_Vote_pi_Fi20_r0_4 x0 x3 (wi ((gt x11 x13).c2)))))
def law09_StuckFrozen_S5_r0_10 (x0 : Int) (x4 : Int) (x9 : Int) (x11 : List R_bool_i16_i16) (x13 : Int) (x14 : Bool) (x15 : Bool) (x16 : Int) (x17 : Int) : Int := (bif tb (x15) then (bif tb (true != (x14 == (decide ((wi (x9)) < (wi (x17 - x16)))))) then x4 else (stuck_Room_Vote_pi_Fi20_r0_5 x0 x4 (wi ((gt x11 x13).c2)))) else (bif tb (true != (x14 == false)) then x4 else (stuck_Room_Vote_pi_Fi20_r0_5 x0 x4 (wi ((gt x11 x13).c2)))))
theorem law09_StuckFrozen_S5_t0 (x0 : Int) (x1 : Int) (x2 : List Int) (x3 : Int) (x4 : Int) (x6 : Int) (x7 : Int) (x8 : Bool) (x9 : Int) (x10 : Bool) (x11 : List R_bool_i16_i16) (x12 : Int) (x13 : Int) (x14 : Bool) (x15 : Bool) (x16 : Int) (x17 : Int) : law09_StuckFrozen_S5_c0 x0 x3 x9 x11 x13 x14 x15 x16 x17 = true → segG (runC E0 (cl E0) S11_5) [1, 2, 7, 8, 10, 11, 12, 15, 16, 17] [] [1, 2, 7, 8, 10, 11, 149] 2 ([(V.d (.int .u16 x9)), (V.d (slD enc_R_bool_i16_i16 true 3 x10 x11)), (V.d (.int .i64 x12)), (V.ptr 0 1 0 0), (V.ptr 1 1 0 0), (V.d (.int .i64 x13)), (V.d (.bool x14)), (V.d (.bool x15)), (V.d (.int .i64 x16)), (V.d (.int .i64 x17))], [(Blk.flat 82 20 [([(.int .i64 x0), (.int .i64 x1)] ++ arrD .i64 x2 16 ++ [(.int .i64 x3), (.int .i64 x4)])] false), (Blk.gen 84 3 [[(V.ptr 0 1 0 0), (V.d (.int .i64 x6)), (V.d (.int .i64 x7))]] x8)]) = some (.normal, ([(V.d (.int .u16 x9)), (V.d (slD enc_R_bool_i16_i16 true 3 x10 x11)), (V.d (.int .i64 x12)), (V.ptr 0 1 0 0), (V.ptr 1 1 0 0), (V.d (.int .i64 x13)), (V.d (.bool (law09_StuckFrozen_S5_r0_5 x9 x11 x13 x14 x15 x16 x17)))], [(Blk.flat 82 20 [([(.int .i64 x0), (.int .i64 x1)] ++ arrD .i64 (law09_StuckFrozen_S5_r0_8 x2 x3 x9 x11 x13 x14 x15 x16 x17) 16 ++ [(.int .i64 (law09_StuckFrozen_S5_r0_9 x0 x3 x9 x11 x13 x14 x15 x16 x17)), (.int .i64 (law09_StuckFrozen_S5_r0_10 x0 x4 x9 x11 x13 x14 x15 x16 x17))])] false), (Blk.gen 84 3 [[(V.ptr 0 1 0 0), (V.d (.int .i64 x6)), (V.d (.int .i64 x7))]] x8)])) := by
  unfold law09_StuckFrozen_S5_c0 law09_StuckFrozen_S5_r0_5 law09_StuckFrozen_S5_r0_8 law09_StuckFrozen_S5_r0_9 law09_StuckFrozen_S5_r0_10
  cases h1 : tb (x15)
  · cases h2 : tb (true != (x14 == false))
    · cases h3 : tb (inb x11.length x13)
      · intro g0
        exact absurd g0 ft
      · cases h4 : tb (stuck_Room_Vote_pi_Fi20_c0 x0 x3 (wi ((gt x11 x13).c2)))
        · intro g0
          exact absurd g0 ft
        · intro g0
          exact seg_walk [.b (tbE h1), .b (tbE h2), .o 143 (fun _ => o_idx_os (enc := enc_R_bool_i16_i16) (l := x11) (fl := true) (n := x10) (s := 3) (k := .i64) (tbE h3)), .c (stuck_Room_Vote_pi_Fi20_t0 x0 x1 x2 x3 x4 (wi ((gt x11 x13).c2)) (tbE h4))] (by kernel_rfl)
    · intro g0
      exact seg_walk [.b (tbE h1), .b (tbE h2)] (by kernel_rfl)
  · cases h2 : tb (true != (x14 == (decide ((wi (x9)) < (wi (x17 - x16))))))
    · cases h3 : tb (inb x11.length x13)
      · intro g0
        exact absurd g0 ft
      · cases h4 : tb (stuck_Room_Vote_pi_Fi20_c0 x0 x3 (wi ((gt x11 x13).c2)))
        · intro g0
          exact absurd g0 ft
        · intro g0
          exact seg_walk [.b (tbE h1), .b (tbE h2), .o 143 (fun _ => o_idx_os (enc := enc_R_bool_i16_i16) (l := x11) (fl := true) (n := x10) (s := 3) (k := .i64) (tbE h3)), .c (stuck_Room_Vote_pi_Fi20_t0 x0 x1 x2 x3 x4 (wi ((gt x11 x13).c2)) (tbE h4))] (by kernel_rfl)
    · intro g0
      exact seg_walk [.b (tbE h1), .b (tbE h2)] (by kernel_rfl)
def law09_StuckFrozen_S6_e0 (x11 : List R_bool_i16_i16) (x12 : Int) (x13 : Int) : Bool := ((law09_StuckFrozen_S4_e0 x11 x12 x13 (decide ((wi (x12 - 1)) ≤ x13))).c6)
def law09_StuckFrozen_S6_e1 (x11 : List R_bool_i16_i16) (x12 : Int) (x13 : Int) : Int := ((law09_StuckFrozen_S4_e0 x11 x12 x13 (decide ((wi (x12 - 1)) ≤ x13))).c7)
def law09_StuckFrozen_S6_e2 (x11 : List R_bool_i16_i16) (x12 : Int) (x13 : Int) : Int := ((law09_StuckFrozen_S4_e0 x11 x12 x13 (decide ((wi (x12 - 1)) ≤ x13))).c8)
def law09_StuckFrozen_S6_c0 (x0 : Int) (x1 : Int) (x2 : List Int) (x3 : Int) (x4 : Int) (x6 : Int) (x7 : Int) (x9 : Int) (x11 : List R_bool_i16_i16) (x12 : Int) (x13 : Int) : Bool := (bif tb (law09_StuckFrozen_S2_c0 x0 x2 x3 x4 x6 x7 x11 x13) then (bif tb (law09_StuckFrozen_S4_c0 x11 x12 x13 (decide ((wi (x12 - 1)) ≤ x13))) then (bif tb (law09_StuckFrozen_S5_c0 x0 x3 x9 x11 x13 (law09_StuckFrozen_S2_r0_5 x0 x1 x2 x3 x4 x6 x7 x11 x13) (law09_StuckFrozen_S6_e0 x11 x12 x13) (law09_StuckFrozen_S6_e1 x11 x12 x13) (law09_StuckFrozen_S6_e2 x11 x12 x13)) then (bif tb (law09_StuckFrozen_S5_r0_5 x9 x11 x13 (law09_StuckFrozen_S2_r0_5 x0 x1 x2 x3 x4 x6 x7 x11 x13) (law09_StuckFrozen_S6_e0 x11 x12 x13) (law09_StuckFrozen_S6_e1 x11 x12 x13) (law09_StuckFrozen_S6_e2 x11 x12 x13)) then true else false) else false) else false) else (bif tb (law09_StuckFrozen_S2_c1 x0 x2 x3 x4 x6 x7 x11 x13) then true else false))
def law09_StuckFrozen_S6_r0_3 (x0 : Int) (x1 : Int) (x2 : List Int) (x3 : Int) (x4 : Int) (x6 : Int) (x7 : Int) (x9 : Int) (x11 : List R_bool_i16_i16) (x12 : Int) (x13 : Int) : List Int := (bif tb (law09_StuckFrozen_S2_c0 x0 x2 x3 x4 x6 x7 x11 x13) then (law09_StuckFrozen_S5_r0_8 x2 x3 x9 x11 x13 (law09_StuckFrozen_S2_r0_5 x0 x1 x2 x3 x4 x6 x7 x11 x13) (law09_StuckFrozen_S6_e0 x11 x12 x13) (law09_StuckFrozen_S6_e1 x11 x12 x13) (law09_StuckFrozen_S6_e2 x11 x12 x13)) else x2)
def law09_StuckFrozen_S6_r0_4 (x0 : Int) (x1 : Int) (x2 : List Int) (x3 : Int) (x4 : Int) (x6 : Int) (x7 : Int) (x9 : Int) (x11 : List R_bool_i16_i16) (x12 : Int) (x13 : Int) : Int := (bif tb (law09_StuckFrozen_S2_c0 x0 x2 x3 x4 x6 x7 x11 x13) then (law09_StuckFrozen_S5_r0_9 x0 x3 x9 x11 x13 (law09_StuckFrozen_S2_r0_5 x0 x1 x2 x3 x4 x6 x7 x11 x13) (law09_StuckFrozen_S6_e0 x11 x12 x13) (law09_StuckFrozen_S6_e1 x11 x12 x13) (law09_StuckFrozen_S6_e2 x11 x12 x13)) else x3)
def law09_StuckFrozen_S6_r0_5 (x0 : Int) (x1 : Int) (x2 : List Int) (x3 : Int) (x4 : Int) (x6 : Int) (x7 : Int) (x9 : Int) (x11 : List R_bool_i16_i16) (x12 : Int) (x13 : Int) : Int := (bif tb (law09_StuckFrozen_S2_c0 x0 x2 x3 x4 x6 x7 x11 x13) then (law09_StuckFrozen_S5_r0_10 x0 x4 x9 x11 x13 (law09_StuckFrozen_S2_r0_5 x0 x1 x2 x3 x4 x6 x7 x11 x13) (law09_StuckFrozen_S6_e0 x11 x12 x13) (law09_StuckFrozen_S6_e1 x11 x12 x13) (law09_StuckFrozen_S6_e2 x11 x12 x13)) else x4)
def law09_StuckFrozen_S6_r0_7 (x0 : Int) (x2 : List Int) (x3 : Int) (x4 : Int) (x6 : Int) (x7 : Int) (x11 : List R_bool_i16_i16) (x13 : Int) : Int := (bif tb (law09_StuckFrozen_S2_c0 x0 x2 x3 x4 x6 x7 x11 x13) then (law09_StuckFrozen_S2_r0_12 x6 x11 x13) else (stuck_Watch_Come_pi_Gpi2Fi20_r0_2 x6 (wi ((gt x11 x13).c1))))
def law09_StuckFrozen_S6_r0_8 (x0 : Int) (x2 : List Int) (x3 : Int) (x4 : Int) (x6 : Int) (x7 : Int) (x11 : List R_bool_i16_i16) (x13 : Int) : Int := (bif tb (law09_StuckFrozen_S2_c0 x0 x2 x3 x4 x6 x7 x11 x13) then (law09_StuckFrozen_S2_r0_13 x0 x6 x7 x11 x13) else (stuck_Watch_Come_pi_Gpi2Fi20_r0_3 x0 x6 x7 (wi ((gt x11 x13).c1))))
def law09_StuckFrozen_S6_c1 (x0 : Int) (x1 : Int) (x2 : List Int) (x3 : Int) (x4 : Int) (x6 : Int) (x7 : Int) (x9 : Int) (x11 : List R_bool_i16_i16) (x12 : Int) (x13 : Int) : Bool := (bif tb (law09_StuckFrozen_S2_c0 x0 x2 x3 x4 x6 x7 x11 x13) then (bif tb (law09_StuckFrozen_S4_c0 x11 x12 x13 (decide ((wi (x12 - 1)) ≤ x13))) then (bif tb (law09_StuckFrozen_S5_c0 x0 x3 x9 x11 x13 (law09_StuckFrozen_S2_r0_5 x0 x1 x2 x3 x4 x6 x7 x11 x13) (law09_StuckFrozen_S6_e0 x11 x12 x13) (law09_StuckFrozen_S6_e1 x11 x12 x13) (law09_StuckFrozen_S6_e2 x11 x12 x13)) then (bif tb (law09_StuckFrozen_S5_r0_5 x9 x11 x13 (law09_StuckFrozen_S2_r0_5 x0 x1 x2 x3 x4 x6 x7 x11 x13) (law09_StuckFrozen_S6_e0 x11 x12 x13) (law09_StuckFrozen_S6_e1 x11 x12 x13) (law09_StuckFrozen_S6_e2 x11 x12 x13)) then false else true) else false) else false) else false)
theorem law09_StuckFrozen_S6_t0 (x0 : Int) (x1 : Int) (x2 : List Int) (x3 : Int) (x4 : Int) (x6 : Int) (x7 : Int) (x9 : Int) (x10 : Bool) (x11 : List R_bool_i16_i16) (x12 : Int) (x13 : Int) : law09_StuckFrozen_S6_c0 x0 x1 x2 x3 x4 x6 x7 x9 x11 x12 x13 = true → segG (runC E0 (cl E0) S11_6) [1, 2, 7, 8, 10, 11] [6] [1, 2, 7, 8, 10, 11] 2 ([(V.d (.int .u16 x9)), (V.d (slD enc_R_bool_i16_i16 true 3 x10 x11)), (V.d (.int .i64 x12)), (V.ptr 0 1 0 0), (V.ptr 1 1 0 0), (V.d (.int .i64 x13))], [(Blk.flat 82 20 [([(.int .i64 x0), (.int .i64 x1)] ++ arrD .i64 x2 16 ++ [(.int .i64 x3), (.int .i64 x4)])] false), (Blk.gen 84 3 [[(V.ptr 0 1 0 0), (V.d (.int .i64 x6)), (V.d (.int .i64 x7))]] false)]) = some (.ret, ([(V.d (.bool false))], [(Blk.flat 82 20 [([(.int .i64 x0), (.int .i64 x1)] ++ arrD .i64 (law09_StuckFrozen_S6_r0_3 x0 x1 x2 x3 x4 x6 x7 x9 x11 x12 x13) 16 ++ [(.int .i64 (law09_StuckFrozen_S6_r0_4 x0 x1 x2 x3 x4 x6 x7 x9 x11 x12 x13)), (.int .i64 (law09_StuckFrozen_S6_r0_5 x0 x1 x2 x3 x4 x6 x7 x9 x11 x12 x13))])] false), (Blk.gen 84 3 [[(V.ptr 0 1 0 0), (V.d (.int .i64 (law09_StuckFrozen_S6_r0_7 x0 x2 x3 x4 x6 x7 x11 x13))), (V.d (.int .i64 (law09_StuckFrozen_S6_r0_8 x0 x2 x3 x4 x6 x7 x11 x13)))]] false)])) := by
  unfold law09_StuckFrozen_S6_c0 law09_StuckFrozen_S6_r0_3 law09_StuckFrozen_S6_r0_4 law09_StuckFrozen_S6_r0_5 law09_StuckFrozen_S6_r0_7 law09_StuckFrozen_S6_r0_8
  cases h1 : tb (law09_StuckFrozen_S2_c0 x0 x2 x3 x4 x6 x7 x11 x13)
  · cases h2 : tb (law09_StuckFrozen_S2_c1 x0 x2 x3 x4 x6 x7 x11 x13)
    · intro g0
      exact absurd g0 ft
    · intro g0
      exact seg_walk [.s (law09_StuckFrozen_S2_t1 x0 x1 x2 x3 x4 false x6 x7 x9 x10 x11 x12 x13 (tbE h1) (tbE h2))] (by kernel_rfl)
  · cases h2 : tb (law09_StuckFrozen_S4_c0 x11 x12 x13 (decide ((wi (x12 - 1)) ≤ x13)))
    · intro g0
      exact absurd g0 ft
    · cases h3 : tb (law09_StuckFrozen_S5_c0 x0 x3 x9 x11 x13 (law09_StuckFrozen_S2_r0_5 x0 x1 x2 x3 x4 x6 x7 x11 x13) (law09_StuckFrozen_S6_e0 x11 x12 x13) (law09_StuckFrozen_S6_e1 x11 x12 x13) (law09_StuckFrozen_S6_e2 x11 x12 x13))
      · intro g0
        exact absurd g0 ft
      · cases h4 : tb (law09_StuckFrozen_S5_r0_5 x9 x11 x13 (law09_StuckFrozen_S2_r0_5 x0 x1 x2 x3 x4 x6 x7 x11 x13) (law09_StuckFrozen_S6_e0 x11 x12 x13) (law09_StuckFrozen_S6_e1 x11 x12 x13) (law09_StuckFrozen_S6_e2 x11 x12 x13))
        · intro g0
          exact absurd g0 ft
        · intro g0
          exact seg_walk [.s (law09_StuckFrozen_S2_t0 x0 x1 x2 x3 x4 false x6 x7 x9 x10 x11 x12 x13 (tbE h1)), .s (law09_StuckFrozen_S4_t0 x0 x1 x2 x3 x4 false (law09_StuckFrozen_S2_r0_12 x6 x11 x13) (law09_StuckFrozen_S2_r0_13 x0 x6 x7 x11 x13) false x9 x10 x11 x12 x13 (law09_StuckFrozen_S2_r0_5 x0 x1 x2 x3 x4 x6 x7 x11 x13) (decide ((wi (x12 - 1)) ≤ x13)) (tbE h2)), .s (law09_StuckFrozen_S5_t0 x0 x1 x2 x3 x4 (law09_StuckFrozen_S2_r0_12 x6 x11 x13) (law09_StuckFrozen_S2_r0_13 x0 x6 x7 x11 x13) false x9 x10 x11 x12 x13 (law09_StuckFrozen_S2_r0_5 x0 x1 x2 x3 x4 x6 x7 x11 x13) (law09_StuckFrozen_S6_e0 x11 x12 x13) (law09_StuckFrozen_S6_e1 x11 x12 x13) (law09_StuckFrozen_S6_e2 x11 x12 x13) (tbE h3)), .b (tbE h4)] (by kernel_rfl)
theorem law09_StuckFrozen_S6_t1 (x0 : Int) (x1 : Int) (x2 : List Int) (x3 : Int) (x4 : Int) (x6 : Int) (x7 : Int) (x9 : Int) (x10 : Bool) (x11 : List R_bool_i16_i16) (x12 : Int) (x13 : Int) : law09_StuckFrozen_S6_c0 x0 x1 x2 x3 x4 x6 x7 x9 x11 x12 x13 = false → law09_StuckFrozen_S6_c1 x0 x1 x2 x3 x4 x6 x7 x9 x11 x12 x13 = true → segG (runC E0 (cl E0) S11_6) [1, 2, 7, 8, 10, 11] [6] [1, 2, 7, 8, 10, 11] 2 ([(V.d (.int .u16 x9)), (V.d (slD enc_R_bool_i16_i16 true 3 x10 x11)), (V.d (.int .i64 x12)), (V.ptr 0 1 0 0), (V.ptr 1 1 0 0), (V.d (.int .i64 x13))], [(Blk.flat 82 20 [([(.int .i64 x0), (.int .i64 x1)] ++ arrD .i64 x2 16 ++ [(.int .i64 x3), (.int .i64 x4)])] false), (Blk.gen 84 3 [[(V.ptr 0 1 0 0), (V.d (.int .i64 x6)), (V.d (.int .i64 x7))]] false)]) = some (.normal, ([(V.d (.int .u16 x9)), (V.d (slD enc_R_bool_i16_i16 true 3 x10 x11)), (V.d (.int .i64 x12)), (V.ptr 0 1 0 0), (V.ptr 1 1 0 0), (V.d (.int .i64 x13))], [(Blk.flat 82 20 [([(.int .i64 x0), (.int .i64 x1)] ++ arrD .i64 (law09_StuckFrozen_S5_r0_8 x2 x3 x9 x11 x13 (law09_StuckFrozen_S2_r0_5 x0 x1 x2 x3 x4 x6 x7 x11 x13) (law09_StuckFrozen_S6_e0 x11 x12 x13) (law09_StuckFrozen_S6_e1 x11 x12 x13) (law09_StuckFrozen_S6_e2 x11 x12 x13)) 16 ++ [(.int .i64 (law09_StuckFrozen_S5_r0_9 x0 x3 x9 x11 x13 (law09_StuckFrozen_S2_r0_5 x0 x1 x2 x3 x4 x6 x7 x11 x13) (law09_StuckFrozen_S6_e0 x11 x12 x13) (law09_StuckFrozen_S6_e1 x11 x12 x13) (law09_StuckFrozen_S6_e2 x11 x12 x13))), (.int .i64 (law09_StuckFrozen_S5_r0_10 x0 x4 x9 x11 x13 (law09_StuckFrozen_S2_r0_5 x0 x1 x2 x3 x4 x6 x7 x11 x13) (law09_StuckFrozen_S6_e0 x11 x12 x13) (law09_StuckFrozen_S6_e1 x11 x12 x13) (law09_StuckFrozen_S6_e2 x11 x12 x13)))])] false), (Blk.gen 84 3 [[(V.ptr 0 1 0 0), (V.d (.int .i64 (law09_StuckFrozen_S2_r0_12 x6 x11 x13))), (V.d (.int .i64 (law09_StuckFrozen_S2_r0_13 x0 x6 x7 x11 x13)))]] false)])) := by
  unfold law09_StuckFrozen_S6_c0 law09_StuckFrozen_S6_c1
  cases h1 : tb (law09_StuckFrozen_S2_c0 x0 x2 x3 x4 x6 x7 x11 x13)
  · cases h2 : tb (law09_StuckFrozen_S2_c1 x0 x2 x3 x4 x6 x7 x11 x13)
    · intro g0 g1
      exact absurd g1 ft
    · intro g0 g1
      exact absurd g0 tf
  · cases h2 : tb (law09_StuckFrozen_S4_c0 x11 x12 x13 (decide ((wi (x12 - 1)) ≤ x13)))
    · intro g0 g1
      exact absurd g1 ft
    · cases h3 : tb (law09_StuckFrozen_S5_c0 x0 x3 x9 x11 x13 (law09_StuckFrozen_S2_r0_5 x0 x1 x2 x3 x4 x6 x7 x11 x13) (law09_StuckFrozen_S6_e0 x11 x12 x13) (law09_StuckFrozen_S6_e1 x11 x12 x13) (law09_StuckFrozen_S6_e2 x11 x12 x13))
      · intro g0 g1
        exact absurd g1 ft
      · cases h4 : tb (law09_StuckFrozen_S5_r0_5 x9 x11 x13 (law09_StuckFrozen_S2_r0_5 x0 x1 x2 x3 x4 x6 x7 x11 x13) (law09_StuckFrozen_S6_e0 x11 x12 x13) (law09_StuckFrozen_S6_e1 x11 x12 x13) (law09_StuckFrozen_S6_e2 x11 x12 x13))
        · intro g0 g1
          exact seg_walk [.s (law09_StuckFrozen_S2_t0 x0 x1 x2 x3 x4 false x6 x7 x9 x10 x11 x12 x13 (tbE h1)), .s (law09_StuckFrozen_S4_t0 x0 x1 x2 x3 x4 false (law09_StuckFrozen_S2_r0_12 x6 x11 x13) (law09_StuckFrozen_S2_r0_13 x0 x6 x7 x11 x13) false x9 x10 x11 x12 x13 (law09_StuckFrozen_S2_r0_5 x0 x1 x2 x3 x4 x6 x7 x11 x13) (decide ((wi (x12 - 1)) ≤ x13)) (tbE h2)), .s (law09_StuckFrozen_S5_t0 x0 x1 x2 x3 x4 (law09_StuckFrozen_S2_r0_12 x6 x11 x13) (law09_StuckFrozen_S2_r0_13 x0 x6 x7 x11 x13) false x9 x10 x11 x12 x13 (law09_StuckFrozen_S2_r0_5 x0 x1 x2 x3 x4 x6 x7 x11 x13) (law09_StuckFrozen_S6_e0 x11 x12 x13) (law09_StuckFrozen_S6_e1 x11 x12 x13) (law09_StuckFrozen_S6_e2 x11 x12 x13) (tbE h3)), .b (tbE h4)] (by kernel_rfl)
        · intro g0 g1
          exact absurd g0 tf
structure law09_StuckFrozen_L7_s0 where
  c4 : Int
  c7 : List Int
  c8 : Int
  c9 : Int
  c11 : Int
  c12 : Int
  deriving Inhabited
def law09_StuckFrozen_L7_enc (x0 : Int) (x1 : Int) (x2 : List Int) (x3 : Int) (x4 : Int) (x5 : Bool) (x6 : Int) (x7 : Int) (x8 : Bool) (x9 : Int) (x10 : Bool) (x11 : List R_bool_i16_i16) (x12 : Int) (x13 : Int) (s0 : law09_StuckFrozen_L7_s0) : List V × Mem := ([(V.d (.int .u16 x9)), (V.d (slD enc_R_bool_i16_i16 true 3 x10 x11)), (V.d (.int .i64 x12)), (V.ptr 0 1 0 0), (V.ptr 1 1 0 0), (V.d (.int .i64 s0.c4))], [(Blk.flat 82 20 [([(.int .i64 x0), (.int .i64 x1)] ++ arrD .i64 s0.c7 16 ++ [(.int .i64 s0.c8), (.int .i64 s0.c9)])] false), (Blk.gen 84 3 [[(V.ptr 0 1 0 0), (V.d (.int .i64 s0.c11)), (V.d (.int .i64 s0.c12))]] false)])
def law09_StuckFrozen_L7_sel (x0 : Int) (x1 : Int) (x9 : Int) (x11 : List R_bool_i16_i16) (x12 : Int) (s0 : law09_StuckFrozen_L7_s0) : Bool := (bif tb (law09_StuckFrozen_S1_c0 x11 s0.c4) then (bif tb (law09_StuckFrozen_S6_c0 x0 x1 s0.c7 s0.c8 s0.c9 s0.c11 s0.c12 x9 x11 x12 s0.c4) then false else (bif tb (law09_StuckFrozen_S6_c1 x0 x1 s0.c7 s0.c8 s0.c9 s0.c11 s0.c12 x9 x11 x12 s0.c4) then true else false)) else false)
def law09_StuckFrozen_L7_nx (x0 : Int) (x1 : Int) (x9 : Int) (x11 : List R_bool_i16_i16) (x12 : Int) (s0 : law09_StuckFrozen_L7_s0) : law09_StuckFrozen_L7_s0 := ⟨(wi (s0.c4 + 1)), (law09_StuckFrozen_S5_r0_8 s0.c7 s0.c8 x9 x11 s0.c4 (law09_StuckFrozen_S2_r0_5 x0 x1 s0.c7 s0.c8 s0.c9 s0.c11 s0.c12 x11 s0.c4) (law09_StuckFrozen_S6_e0 x11 x12 s0.c4) (law09_StuckFrozen_S6_e1 x11 x12 s0.c4) (law09_StuckFrozen_S6_e2 x11 x12 s0.c4)), (law09_StuckFrozen_S5_r0_9 x0 s0.c8 x9 x11 s0.c4 (law09_StuckFrozen_S2_r0_5 x0 x1 s0.c7 s0.c8 s0.c9 s0.c11 s0.c12 x11 s0.c4) (law09_StuckFrozen_S6_e0 x11 x12 s0.c4) (law09_StuckFrozen_S6_e1 x11 x12 s0.c4) (law09_StuckFrozen_S6_e2 x11 x12 s0.c4)), (law09_StuckFrozen_S5_r0_10 x0 s0.c9 x9 x11 s0.c4 (law09_StuckFrozen_S2_r0_5 x0 x1 s0.c7 s0.c8 s0.c9 s0.c11 s0.c12 x11 s0.c4) (law09_StuckFrozen_S6_e0 x11 x12 s0.c4) (law09_StuckFrozen_S6_e1 x11 x12 s0.c4) (law09_StuckFrozen_S6_e2 x11 x12 s0.c4)), (law09_StuckFrozen_S2_r0_12 s0.c11 x11 s0.c4), (law09_StuckFrozen_S2_r0_13 x0 s0.c11 s0.c12 x11 s0.c4)⟩
def law09_StuckFrozen_L7_ok (x0 : Int) (x1 : Int) (x9 : Int) (x11 : List R_bool_i16_i16) (x12 : Int) (s0 : law09_StuckFrozen_L7_s0) : Bool := (itS (law09_StuckFrozen_L7_sel x0 x1 x9 x11 x12) (law09_StuckFrozen_L7_nx x0 x1 x9 x11 x12) bound s0).isSome
def law09_StuckFrozen_L7_end (x0 : Int) (x1 : Int) (x9 : Int) (x11 : List R_bool_i16_i16) (x12 : Int) (s0 : law09_StuckFrozen_L7_s0) : law09_StuckFrozen_L7_s0 := (itS (law09_StuckFrozen_L7_sel x0 x1 x9 x11 x12) (law09_StuckFrozen_L7_nx x0 x1 x9 x11 x12) bound s0).getD default
theorem law09_StuckFrozen_L7_go (x0 : Int) (x1 : Int) (x2 : List Int) (x3 : Int) (x4 : Int) (x5 : Bool) (x6 : Int) (x7 : Int) (x8 : Bool) (x9 : Int) (x10 : Bool) (x11 : List R_bool_i16_i16) (x12 : Int) (x13 : Int) (s0 : law09_StuckFrozen_L7_s0) : law09_StuckFrozen_L7_sel x0 x1 x9 x11 x12 s0 = true → (roundG (runC E0 (cl E0) L11_7) [1, 2, 7, 8, 10, 11] [6] 2) (law09_StuckFrozen_L7_enc x0 x1 x2 x3 x4 x5 x6 x7 x8 x9 x10 x11 x12 x13 s0) = some (.normal, law09_StuckFrozen_L7_enc x0 x1 x2 x3 x4 x5 x6 x7 x8 x9 x10 x11 x12 x13 (law09_StuckFrozen_L7_nx x0 x1 x9 x11 x12 s0)) := by
  unfold law09_StuckFrozen_L7_sel law09_StuckFrozen_L7_nx
  cases h1 : tb (law09_StuckFrozen_S1_c0 x11 s0.c4)
  · intro g0
    exact absurd g0 ft
  · cases h2 : tb (law09_StuckFrozen_S6_c0 x0 x1 s0.c7 s0.c8 s0.c9 s0.c11 s0.c12 x9 x11 x12 s0.c4)
    · cases h3 : tb (law09_StuckFrozen_S6_c1 x0 x1 s0.c7 s0.c8 s0.c9 s0.c11 s0.c12 x9 x11 x12 s0.c4)
      · intro g0
        exact absurd g0 ft
      · intro _
        exact round_walk [.s (law09_StuckFrozen_S1_t0 x0 x1 s0.c7 s0.c8 s0.c9 false s0.c11 s0.c12 false x9 x10 x11 x12 s0.c4 (tbE h1)), .s (law09_StuckFrozen_S6_t1 x0 x1 s0.c7 s0.c8 s0.c9 s0.c11 s0.c12 x9 x10 x11 x12 s0.c4 (tbE h2) (tbE h3))] (by kernel_rfl)
    · intro g0
      exact absurd g0 ft
def law09_StuckFrozen_L7_c0 (x0 : Int) (x1 : Int) (x9 : Int) (x11 : List R_bool_i16_i16) (x12 : Int) (s0 : law09_StuckFrozen_L7_s0) : Bool := (bif tb (law09_StuckFrozen_S1_c0 x11 s0.c4) then (bif tb (law09_StuckFrozen_S6_c0 x0 x1 s0.c7 s0.c8 s0.c9 s0.c11 s0.c12 x9 x11 x12 s0.c4) then true else false) else false)
def law09_StuckFrozen_L7_c1 (x11 : List R_bool_i16_i16) (s0 : law09_StuckFrozen_L7_s0) : Bool := (bif tb (law09_StuckFrozen_S1_c0 x11 s0.c4) then false else true)
theorem law09_StuckFrozen_L7_x0 (x0 : Int) (x1 : Int) (x2 : List Int) (x3 : Int) (x4 : Int) (x5 : Bool) (x6 : Int) (x7 : Int) (x8 : Bool) (x9 : Int) (x10 : Bool) (x11 : List R_bool_i16_i16) (x12 : Int) (x13 : Int) (s0 : law09_StuckFrozen_L7_s0) : law09_StuckFrozen_L7_sel x0 x1 x9 x11 x12 s0 = false → law09_StuckFrozen_L7_c0 x0 x1 x9 x11 x12 s0 = true → (roundG (runC E0 (cl E0) L11_7) [1, 2, 7, 8, 10, 11] [6] 2) (law09_StuckFrozen_L7_enc x0 x1 x2 x3 x4 x5 x6 x7 x8 x9 x10 x11 x12 x13 s0) = some (.ret, ([(V.d (.bool false))], [(Blk.flat 82 20 [([(.int .i64 x0), (.int .i64 x1)] ++ arrD .i64 (law09_StuckFrozen_S6_r0_3 x0 x1 s0.c7 s0.c8 s0.c9 s0.c11 s0.c12 x9 x11 x12 s0.c4) 16 ++ [(.int .i64 (law09_StuckFrozen_S6_r0_4 x0 x1 s0.c7 s0.c8 s0.c9 s0.c11 s0.c12 x9 x11 x12 s0.c4)), (.int .i64 (law09_StuckFrozen_S6_r0_5 x0 x1 s0.c7 s0.c8 s0.c9 s0.c11 s0.c12 x9 x11 x12 s0.c4))])] false), (Blk.gen 84 3 [[(V.ptr 0 1 0 0), (V.d (.int .i64 (law09_StuckFrozen_S6_r0_7 x0 s0.c7 s0.c8 s0.c9 s0.c11 s0.c12 x11 s0.c4))), (V.d (.int .i64 (law09_StuckFrozen_S6_r0_8 x0 s0.c7 s0.c8 s0.c9 s0.c11 s0.c12 x11 s0.c4)))]] false)])) := by
  unfold law09_StuckFrozen_L7_sel law09_StuckFrozen_L7_c0
  cases h1 : tb (law09_StuckFrozen_S1_c0 x11 s0.c4)
  · intro g0 g1
    exact absurd g1 ft
  · cases h2 : tb (law09_StuckFrozen_S6_c0 x0 x1 s0.c7 s0.c8 s0.c9 s0.c11 s0.c12 x9 x11 x12 s0.c4)
    · cases h3 : tb (law09_StuckFrozen_S6_c1 x0 x1 s0.c7 s0.c8 s0.c9 s0.c11 s0.c12 x9 x11 x12 s0.c4)
      · intro g0 g1
        exact absurd g1 ft
      · intro g0 g1
        exact absurd g0 tf
    · intro g0 g1
      exact round_walk [.s (law09_StuckFrozen_S1_t0 x0 x1 s0.c7 s0.c8 s0.c9 false s0.c11 s0.c12 false x9 x10 x11 x12 s0.c4 (tbE h1)), .s (law09_StuckFrozen_S6_t0 x0 x1 s0.c7 s0.c8 s0.c9 s0.c11 s0.c12 x9 x10 x11 x12 s0.c4 (tbE h2))] (by kernel_rfl)
theorem law09_StuckFrozen_L7_x1 (x0 : Int) (x1 : Int) (x2 : List Int) (x3 : Int) (x4 : Int) (x5 : Bool) (x6 : Int) (x7 : Int) (x8 : Bool) (x9 : Int) (x10 : Bool) (x11 : List R_bool_i16_i16) (x12 : Int) (x13 : Int) (s0 : law09_StuckFrozen_L7_s0) : law09_StuckFrozen_L7_sel x0 x1 x9 x11 x12 s0 = false → law09_StuckFrozen_L7_c0 x0 x1 x9 x11 x12 s0 = false → law09_StuckFrozen_L7_c1 x11 s0 = true → (roundG (runC E0 (cl E0) L11_7) [1, 2, 7, 8, 10, 11] [6] 2) (law09_StuckFrozen_L7_enc x0 x1 x2 x3 x4 x5 x6 x7 x8 x9 x10 x11 x12 x13 s0) = some ((.exit 0), ([V.un], [(Blk.flat 82 20 [([(.int .i64 x0), (.int .i64 x1)] ++ arrD .i64 s0.c7 16 ++ [(.int .i64 s0.c8), (.int .i64 s0.c9)])] false), (Blk.gen 84 3 [[(V.ptr 0 1 0 0), (V.d (.int .i64 s0.c11)), (V.d (.int .i64 s0.c12))]] false)])) := by
  unfold law09_StuckFrozen_L7_sel law09_StuckFrozen_L7_c0 law09_StuckFrozen_L7_c1
  cases h1 : tb (law09_StuckFrozen_S1_c0 x11 s0.c4)
  · intro g0 g1 g2
    exact round_walk [.s (law09_StuckFrozen_S1_t1 x0 x1 s0.c7 s0.c8 s0.c9 false s0.c11 s0.c12 false x9 x10 x11 x12 s0.c4 (tbE h1))] (by kernel_rfl)
  · cases h2 : tb (law09_StuckFrozen_S6_c0 x0 x1 s0.c7 s0.c8 s0.c9 s0.c11 s0.c12 x9 x11 x12 s0.c4)
    · cases h3 : tb (law09_StuckFrozen_S6_c1 x0 x1 s0.c7 s0.c8 s0.c9 s0.c11 s0.c12 x9 x11 x12 s0.c4)
      · intro g0 g1 g2
        exact absurd g2 ft
      · intro g0 g1 g2
        exact absurd g0 tf
    · intro g0 g1 g2
      exact absurd g1 tf
theorem law09_StuckFrozen_L7_f0_0 (x0 : Int) (x1 : Int) (x2 : List Int) (x3 : Int) (x4 : Int) (x5 : Bool) (x6 : Int) (x7 : Int) (x8 : Bool) (x9 : Int) (x10 : Bool) (x11 : List R_bool_i16_i16) (x12 : Int) (x13 : Int) (s : law09_StuckFrozen_L7_s0) (hok : law09_StuckFrozen_L7_ok x0 x1 x9 x11 x12 s = true) (c0 : law09_StuckFrozen_L7_c0 x0 x1 x9 x11 x12 (law09_StuckFrozen_L7_end x0 x1 x9 x11 x12 s) = true) : loopG (roundG (runC E0 (cl E0) L11_7) [1, 2, 7, 8, 10, 11] [6] 2) bound (law09_StuckFrozen_L7_enc x0 x1 x2 x3 x4 x5 x6 x7 x8 x9 x10 x11 x12 x13 s) = some (.ret, ([(V.d (.bool false))], [(Blk.flat 82 20 [([(.int .i64 x0), (.int .i64 x1)] ++ arrD .i64 (law09_StuckFrozen_S6_r0_3 x0 x1 (law09_StuckFrozen_L7_end x0 x1 x9 x11 x12 s).c7 (law09_StuckFrozen_L7_end x0 x1 x9 x11 x12 s).c8 (law09_StuckFrozen_L7_end x0 x1 x9 x11 x12 s).c9 (law09_StuckFrozen_L7_end x0 x1 x9 x11 x12 s).c11 (law09_StuckFrozen_L7_end x0 x1 x9 x11 x12 s).c12 x9 x11 x12 (law09_StuckFrozen_L7_end x0 x1 x9 x11 x12 s).c4) 16 ++ [(.int .i64 (law09_StuckFrozen_S6_r0_4 x0 x1 (law09_StuckFrozen_L7_end x0 x1 x9 x11 x12 s).c7 (law09_StuckFrozen_L7_end x0 x1 x9 x11 x12 s).c8 (law09_StuckFrozen_L7_end x0 x1 x9 x11 x12 s).c9 (law09_StuckFrozen_L7_end x0 x1 x9 x11 x12 s).c11 (law09_StuckFrozen_L7_end x0 x1 x9 x11 x12 s).c12 x9 x11 x12 (law09_StuckFrozen_L7_end x0 x1 x9 x11 x12 s).c4)), (.int .i64 (law09_StuckFrozen_S6_r0_5 x0 x1 (law09_StuckFrozen_L7_end x0 x1 x9 x11 x12 s).c7 (law09_StuckFrozen_L7_end x0 x1 x9 x11 x12 s).c8 (law09_StuckFrozen_L7_end x0 x1 x9 x11 x12 s).c9 (law09_StuckFrozen_L7_end x0 x1 x9 x11 x12 s).c11 (law09_StuckFrozen_L7_end x0 x1 x9 x11 x12 s).c12 x9 x11 x12 (law09_StuckFrozen_L7_end x0 x1 x9 x11 x12 s).c4))])] false), (Blk.gen 84 3 [[(V.ptr 0 1 0 0), (V.d (.int .i64 (law09_StuckFrozen_S6_r0_7 x0 (law09_StuckFrozen_L7_end x0 x1 x9 x11 x12 s).c7 (law09_StuckFrozen_L7_end x0 x1 x9 x11 x12 s).c8 (law09_StuckFrozen_L7_end x0 x1 x9 x11 x12 s).c9 (law09_StuckFrozen_L7_end x0 x1 x9 x11 x12 s).c11 (law09_StuckFrozen_L7_end x0 x1 x9 x11 x12 s).c12 x11 (law09_StuckFrozen_L7_end x0 x1 x9 x11 x12 s).c4))), (V.d (.int .i64 (law09_StuckFrozen_S6_r0_8 x0 (law09_StuckFrozen_L7_end x0 x1 x9 x11 x12 s).c7 (law09_StuckFrozen_L7_end x0 x1 x9 x11 x12 s).c8 (law09_StuckFrozen_L7_end x0 x1 x9 x11 x12 s).c9 (law09_StuckFrozen_L7_end x0 x1 x9 x11 x12 s).c11 (law09_StuckFrozen_L7_end x0 x1 x9 x11 x12 s).c12 x11 (law09_StuckFrozen_L7_end x0 x1 x9 x11 x12 s).c4)))]] false)])) := by
  have e : itS (law09_StuckFrozen_L7_sel x0 x1 x9 x11 x12) (law09_StuckFrozen_L7_nx x0 x1 x9 x11 x12) bound s = some (law09_StuckFrozen_L7_end x0 x1 x9 x11 x12 s) := itS_get hok
  have f := itS_false e
  exact loop_it (law09_StuckFrozen_L7_go x0 x1 x2 x3 x4 x5 x6 x7 x8 x9 x10 x11 x12 x13) bound s _ _ _ e (fun h => by cases h) (law09_StuckFrozen_L7_x0 x0 x1 x2 x3 x4 x5 x6 x7 x8 x9 x10 x11 x12 x13 (law09_StuckFrozen_L7_end x0 x1 x9 x11 x12 s) f c0)
theorem law09_StuckFrozen_L7_f0_1 (x0 : Int) (x1 : Int) (x2 : List Int) (x3 : Int) (x4 : Int) (x5 : Bool) (x6 : Int) (x7 : Int) (x8 : Bool) (x9 : Int) (x10 : Bool) (x11 : List R_bool_i16_i16) (x12 : Int) (x13 : Int) (s : law09_StuckFrozen_L7_s0) (hok : law09_StuckFrozen_L7_ok x0 x1 x9 x11 x12 s = true) (c0 : law09_StuckFrozen_L7_c0 x0 x1 x9 x11 x12 (law09_StuckFrozen_L7_end x0 x1 x9 x11 x12 s) = false) (c1 : law09_StuckFrozen_L7_c1 x11 (law09_StuckFrozen_L7_end x0 x1 x9 x11 x12 s) = true) : loopG (roundG (runC E0 (cl E0) L11_7) [1, 2, 7, 8, 10, 11] [6] 2) bound (law09_StuckFrozen_L7_enc x0 x1 x2 x3 x4 x5 x6 x7 x8 x9 x10 x11 x12 x13 s) = some ((.exit 0), ([V.un], [(Blk.flat 82 20 [([(.int .i64 x0), (.int .i64 x1)] ++ arrD .i64 ((law09_StuckFrozen_L7_end x0 x1 x9 x11 x12 s).c7) 16 ++ [(.int .i64 ((law09_StuckFrozen_L7_end x0 x1 x9 x11 x12 s).c8)), (.int .i64 ((law09_StuckFrozen_L7_end x0 x1 x9 x11 x12 s).c9))])] false), (Blk.gen 84 3 [[(V.ptr 0 1 0 0), (V.d (.int .i64 ((law09_StuckFrozen_L7_end x0 x1 x9 x11 x12 s).c11))), (V.d (.int .i64 ((law09_StuckFrozen_L7_end x0 x1 x9 x11 x12 s).c12)))]] false)])) := by
  have e : itS (law09_StuckFrozen_L7_sel x0 x1 x9 x11 x12) (law09_StuckFrozen_L7_nx x0 x1 x9 x11 x12) bound s = some (law09_StuckFrozen_L7_end x0 x1 x9 x11 x12 s) := itS_get hok
  have f := itS_false e
  exact loop_it (law09_StuckFrozen_L7_go x0 x1 x2 x3 x4 x5 x6 x7 x8 x9 x10 x11 x12 x13) bound s _ _ _ e (fun h => by cases h) (law09_StuckFrozen_L7_x1 x0 x1 x2 x3 x4 x5 x6 x7 x8 x9 x10 x11 x12 x13 (law09_StuckFrozen_L7_end x0 x1 x9 x11 x12 s) f c0 c1)
def law09_StuckFrozen_S8_e0 (x0 : Int) (x2 : List R_bool_i16_i16) (x3 : Int) : law09_StuckFrozen_L7_s0 := law09_StuckFrozen_L7_end x3 (wi (x0)) x0 x2 x3 (⟨0, [0, 0, 0, 0, 0, 0, 0, 0, 0, 0, 0, 0, 0, 0, 0, 0], 0, 0, 0, 0⟩ : law09_StuckFrozen_L7_s0)
def law09_StuckFrozen_S8_c0 (x0 : Int) (x2 : List R_bool_i16_i16) (x3 : Int) : Bool := (bif tb (stuck_New_ii_c0 x3 (wi (x0))) then true else (bif tb (law09_StuckFrozen_L7_ok x3 (wi (x0)) x0 x2 x3 (⟨0, [0, 0, 0, 0, 0, 0, 0, 0, 0, 0, 0, 0, 0, 0, 0, 0], 0, 0, 0, 0⟩ : law09_StuckFrozen_L7_s0)) then (bif tb (law09_StuckFrozen_L7_c0 x3 (wi (x0)) x0 x2 x3 (law09_StuckFrozen_S8_e0 x0 x2 x3)) then true else false) else false))
def law09_StuckFrozen_S8_c1 (x0 : Int) (x2 : List R_bool_i16_i16) (x3 : Int) : Bool := (bif tb (stuck_New_ii_c0 x3 (wi (x0))) then false else (bif tb (law09_StuckFrozen_L7_ok x3 (wi (x0)) x0 x2 x3 (⟨0, [0, 0, 0, 0, 0, 0, 0, 0, 0, 0, 0, 0, 0, 0, 0, 0], 0, 0, 0, 0⟩ : law09_StuckFrozen_L7_s0)) then (bif tb (law09_StuckFrozen_L7_c0 x3 (wi (x0)) x0 x2 x3 (law09_StuckFrozen_S8_e0 x0 x2 x3)) then false else (bif tb (law09_StuckFrozen_L7_c1 x2 (law09_StuckFrozen_S8_e0 x0 x2 x3)) then true else false)) else false))
theorem law09_StuckFrozen_S8_t0 (x0 : Int) (x1 : Bool) (x2 : List R_bool_i16_i16) (x3 : Int) : law09_StuckFrozen_S8_c0 x0 x2 x3 = true → segG (runC E0 (cl E0) S11_8) [1, 2, 7] [6] [] 0 ([(V.d (.int .u16 x0)), (V.d (slD enc_R_bool_i16_i16 true 3 x1 x2)), (V.d (.int .i64 x3))], []) = some (.ret, ([(V.d (.bool false))], [])) := by
  unfold law09_StuckFrozen_S8_c0
  cases h1 : tb (stuck_New_ii_c0 x3 (wi (x0)))
  · cases h2 : tb (law09_StuckFrozen_L7_ok x3 (wi (x0)) x0 x2 x3 (⟨0, [0, 0, 0, 0, 0, 0, 0, 0, 0, 0, 0, 0, 0, 0, 0, 0], 0, 0, 0, 0⟩ : law09_StuckFrozen_L7_s0))
    · intro g0
      exact absurd g0 ft
    · cases h3 : tb (law09_StuckFrozen_L7_c0 x3 (wi (x0)) x0 x2 x3 (law09_StuckFrozen_S8_e0 x0 x2 x3))
      · cases h4 : tb (law09_StuckFrozen_L7_c1 x2 (law09_StuckFrozen_S8_e0 x0 x2 x3))
        · intro g0
          exact absurd g0 ft
        · intro g0
          exact absurd g0 ft
      · intro g0
        exact seg_walk [.c (stuck_New_ii_t1 x3 (wi (x0)) (tbE h1)), .c (stuck_Room_Watch_p_Fi20_t0 x3 (wi (x0)) [0, 0, 0, 0, 0, 0, 0, 0, 0, 0, 0, 0, 0, 0, 0, 0] 0 0 false), .k false, .k false, .k false, .l (law09_StuckFrozen_L7_f0_0 x3 (wi (x0)) [0, 0, 0, 0, 0, 0, 0, 0, 0, 0, 0, 0, 0, 0, 0, 0] 0 0 false 0 0 false x0 x1 x2 x3 0 (⟨0, [0, 0, 0, 0, 0, 0, 0, 0, 0, 0, 0, 0, 0, 0, 0, 0], 0, 0, 0, 0⟩ : law09_StuckFrozen_L7_s0) (tbE h2) (tbE h3))] (by kernel_rfl)
  · intro g0
    exact seg_walk [.c (stuck_New_ii_t0 x3 (wi (x0)) (tbE h1)), .c (stuck_Room_Watch_n_t0), .k true] (by kernel_rfl)
theorem law09_StuckFrozen_S8_t1 (x0 : Int) (x1 : Bool) (x2 : List R_bool_i16_i16) (x3 : Int) : law09_StuckFrozen_S8_c0 x0 x2 x3 = false → law09_StuckFrozen_S8_c1 x0 x2 x3 = true → segG (runC E0 (cl E0) S11_8) [1, 2, 7] [6] [] 0 ([(V.d (.int .u16 x0)), (V.d (slD enc_R_bool_i16_i16 true 3 x1 x2)), (V.d (.int .i64 x3))], []) = some (.normal, ([], [])) := by
  unfold law09_StuckFrozen_S8_c0 law09_StuckFrozen_S8_c1
  cases h1 : tb (stuck_New_ii_c0 x3 (wi (x0)))
  · cases h2 : tb (law09_StuckFrozen_L7_ok x3 (wi (x0)) x0 x2 x3 (⟨0, [0, 0, 0, 0, 0, 0, 0, 0, 0, 0, 0, 0, 0, 0, 0, 0], 0, 0, 0, 0⟩ : law09_StuckFrozen_L7_s0))
    · intro g0 g1
      exact absurd g1 ft
    · cases h3 : tb (law09_StuckFrozen_L7_c0 x3 (wi (x0)) x0 x2 x3 (law09_StuckFrozen_S8_e0 x0 x2 x3))
      · cases h4 : tb (law09_StuckFrozen_L7_c1 x2 (law09_StuckFrozen_S8_e0 x0 x2 x3))
        · intro g0 g1
          exact absurd g1 ft
        · intro g0 g1
          exact seg_walk [.c (stuck_New_ii_t1 x3 (wi (x0)) (tbE h1)), .c (stuck_Room_Watch_p_Fi20_t0 x3 (wi (x0)) [0, 0, 0, 0, 0, 0, 0, 0, 0, 0, 0, 0, 0, 0, 0, 0] 0 0 false), .k false, .k false, .k false, .l (law09_StuckFrozen_L7_f0_1 x3 (wi (x0)) [0, 0, 0, 0, 0, 0, 0, 0, 0, 0, 0, 0, 0, 0, 0, 0] 0 0 false 0 0 false x0 x1 x2 x3 0 (⟨0, [0, 0, 0, 0, 0, 0, 0, 0, 0, 0, 0, 0, 0, 0, 0, 0], 0, 0, 0, 0⟩ : law09_StuckFrozen_L7_s0) (tbE h2) (tbE h3) (tbE h4))] (by kernel_rfl)
      · intro g0 g1
        exact absurd g0 tf
  · intro g0 g1
    exact absurd g0 tf
def law09_StuckFrozen_c0 (x0 : Int) (x1 : Int) (x3 : List R_bool_i16_i16) : Bool := (bif tb (law09_StuckFrozen_S0_c0 x3) then true else (bif tb (law09_StuckFrozen_S8_c0 x1 x3 (wi ((wi (remI .u8 x0 15)) + 2))) then true else (bif tb (law09_StuckFrozen_S8_c1 x1 x3 (wi ((wi (remI .u8 x0 15)) + 2))) then true else false)))
def law09_StuckFrozen_r0_0 (x0 : Int) (x1 : Int) (x3 : List R_bool_i16_i16) : Bool := (bif tb (law09_StuckFrozen_S0_c0 x3) then true else (bif tb (law09_StuckFrozen_S8_c0 x1 x3 (wi ((wi (remI .u8 x0 15)) + 2))) then false else true))
theorem law09_StuckFrozen_t0 (x0 : Int) (x1 : Int) (x2 : Bool) (x3 : List R_bool_i16_i16) : law09_StuckFrozen_c0 x0 x1 x3 = true → cl E0 11 [(V.d (.int .u8 x0)), (V.d (.int .u16 x1)), (V.d (slD enc_R_bool_i16_i16 true 3 x2 x3))] [] = some ([(V.d (.bool (law09_StuckFrozen_r0_0 x0 x1 x3)))], []) := by
  unfold law09_StuckFrozen_c0 law09_StuckFrozen_r0_0
  cases h1 : tb (law09_StuckFrozen_S0_c0 x3)
  · cases h2 : tb (law09_StuckFrozen_S8_c0 x1 x3 (wi ((wi (remI .u8 x0 15)) + 2)))
    · cases h3 : tb (law09_StuckFrozen_S8_c1 x1 x3 (wi ((wi (remI .u8 x0 15)) + 2)))
      · intro g0
        exact absurd g0 ft
      · intro g0
        exact w11 [.s (law09_StuckFrozen_S0_t1 x0 x1 x2 x3 (tbE h1)), .s (law09_StuckFrozen_S8_t1 x1 x2 x3 (wi ((wi (remI .u8 x0 15)) + 2)) (tbE h2) (tbE h3)), .c (law09_alive_t0)] (by kernel_rfl)
    · intro g0
      exact w11 [.s (law09_StuckFrozen_S0_t1 x0 x1 x2 x3 (tbE h1)), .s (law09_StuckFrozen_S8_t0 x1 x2 x3 (wi ((wi (remI .u8 x0 15)) + 2)) (tbE h2))] (by kernel_rfl)
  · intro g0
    exact w11 [.s (law09_StuckFrozen_S0_t0 x0 x1 x2 x3 (tbE h1))] (by kernel_rfl)
end Go.Proofs.Ytdlhhoejnhjbhaa.Den

namespace Go.Proofs.Ytdlhhoejnhjbhaa.Den
open Go
set_option linter.unusedVariables false
set_option linter.unusedSimpArgs false
inductive CK where
  | b
  | i (k : IntKind)
  | s
  | l (e : TypeId)
def flatK (P : Program) : Nat → TypeId → Option (List CK)
  | 0, _ => none
  | n + 1, t => match P.underlying t with
    | some .bool => some [.b]
    | some (.int k) => some [.i k]
    | some .string => some [.s]
    | some (.slice e) => some [.l e]
    | some (.struct fs) => (fs.toList.mapM fun f => flatK P n f.type).map List.flatten
    | some (.array m e) => (flatK P n e).map fun l => (List.replicate m l).flatten
    | _ => none
def WfI (k : IntKind) (z : Int) : Prop := (Lit.int k z).wf = true
def CellK (P : Program) : CK → D → Prop
  | .b, d => ∃ b, d = .bool b
  | .i k, d => ∃ z, d = .int k z ∧ WfI k z
  | .s, d => ∃ s, d = .str s ∧ s.size ≤ 140737488351232
  | .l e, d => d = .nils ∨ ∃ rows, d = .rs (isFlat P e) (P.cellsOf e) rows false ∧ rows.length ≤ maxLen ∧ rows.length * P.bytesOf e ≤ 140737488351232 ∧ ∃ n, ∀ r, r ∈ rows → Ty P n e r
def CellsK (P : Program) : List CK → List D → Prop
  | [], ds => ds = []
  | k :: ks, ds => ∃ d r, ds = d :: r ∧ CellK P k d ∧ CellsK P ks r
theorem CellsK.append {P : Program} : ∀ {a b : List CK} {x y : List D}, CellsK P a x → CellsK P b y → CellsK P (a ++ b) (x ++ y)
  | [], _, _, _, h, h' => by simp only [CellsK] at h; subst h; simpa using h'
  | k :: a, b, x, y, h, h' => by
    simp only [CellsK] at h
    obtain ⟨d, r, rfl, h1, h2⟩ := h
    simp only [List.cons_append, CellsK]
    exact ⟨d, _, rfl, h1, CellsK.append h2 h'⟩
theorem flatK_fs {P : Program} {n : Nat} (ih : ∀ t ks ds, flatK P n t = some ks → Ty P n t ds → CellsK P ks ds) : ∀ (fs : List Field) (l : List (List CK)) (ds : List D), fs.mapM (fun f => flatK P n f.type) = some l → TyFs (Ty P n) fs ds → CellsK P l.flatten ds
  | [], l, ds, h, ht => by
    simp at h; subst h
    obtain rfl := tyfs_nil ht
    simp [CellsK]
  | f :: fs, l, ds, h, ht => by
    rw [List.mapM_cons] at h
    simp only [Option.bind_eq_bind, Option.bind_eq_some_iff, Option.pure_def, Option.some.injEq] at h
    obtain ⟨a, h1, b, h2, rfl⟩ := h
    obtain ⟨x, y, rfl, g1, g2⟩ := tyfs_cons ht
    simp only [List.flatten_cons]
    exact (ih _ _ _ h1 g1).append (flatK_fs ih fs b y h2 g2)
theorem flatK_ok {P : Program} : ∀ (n : Nat) (t : TypeId) (ks : List CK) (ds : List D), flatK P n t = some ks → Ty P n t ds → CellsK P ks ds
  | 0, _, _, _, h, _ => by simp [flatK] at h
  | n + 1, t, ks, ds, h, ht => by
    simp only [flatK] at h
    cases hu : P.underlying t with
    | none => simp [hu] at h
    | some u =>
      rw [hu] at h
      cases u with
      | bool => cases h; obtain ⟨b, rfl⟩ := ty_bool ht hu; exact ⟨_, [], rfl, ⟨b, rfl⟩, rfl⟩
      | int k => cases h; obtain ⟨z, rfl, hz⟩ := ty_int ht hu; exact ⟨_, [], rfl, ⟨z, rfl, hz⟩, rfl⟩
      | string => cases h; obtain ⟨z, rfl, hz⟩ := ty_str ht hu; exact ⟨_, [], rfl, ⟨z, rfl, hz⟩, rfl⟩
      | slice e =>
        cases h
        rcases ty_slice ht hu with rfl | ⟨rows, rfl, h1, h1b, h2⟩
        · exact ⟨_, [], rfl, .inl rfl, rfl⟩
        · exact ⟨_, [], rfl, .inr ⟨rows, rfl, h1, h1b, n, h2⟩, rfl⟩
      | struct fs =>
        obtain ⟨l, hl, rfl⟩ := Option.map_eq_some_iff.1 h
        exact flatK_fs (fun t ks ds => flatK_ok n t ks ds) fs.toList l ds hl (ty_struct ht hu)
      | array m e =>
        obtain ⟨l, hl, rfl⟩ := Option.map_eq_some_iff.1 h
        obtain ⟨rows, hr, rfl, hall⟩ := ty_arr ht hu
        have key : ∀ (rows : List (List D)), (∀ r, r ∈ rows → Ty P n e r) → CellsK P (List.replicate rows.length l).flatten rows.flatten := by
          intro rows
          induction rows with
          | nil => intro _; simp [CellsK]
          | cons r rows ih =>
            intro hall
            simp only [List.length_cons, List.replicate_succ, List.flatten_cons]
            exact (flatK_ok n e l r hl (hall r (by simp))).append (ih fun x hx => hall x (by simp [hx]))
        rw [← hr]; exact key rows hall
      | _ => simp at h
theorem rows_of {α : Type} {enc : α → List D} {wf : α → Prop} {T : List D → Prop} (h : ∀ r, T r → ∃ x, r = enc x ∧ wf x) : ∀ rows : List (List D), (∀ r, r ∈ rows → T r) → ∃ l : List α, rows = l.map enc ∧ ∀ x, x ∈ l → wf x
  | [], _ => ⟨[], rfl, fun _ h => by simp at h⟩
  | r :: rows, hr => by
    obtain ⟨x, rfl, hx⟩ := h r (hr r (by simp))
    obtain ⟨l, rfl, hl⟩ := rows_of h rows fun y hy => hr y (by simp [hy])
    refine ⟨x :: l, rfl, fun y hy => ?_⟩
    rcases List.mem_cons.1 hy with rfl | hy
    · exact hx
    · exact hl y hy
theorem tyFs_mono {T T' : TypeId → List D → Prop} (h : ∀ t ds, T t ds → T' t ds) : ∀ (fs : List Field) (ds : List D), TyFs T fs ds → TyFs T' fs ds
  | [], ds, ht => ht
  | f :: fs, ds, ht => by
    obtain ⟨x, y, rfl, g1, g2⟩ := tyfs_cons ht
    simp only [TyFs]
    exact ⟨x, y, rfl, h _ _ g1, tyFs_mono h fs y g2⟩
theorem ty_mono {P : Program} : ∀ (n : Nat) (t : TypeId) (ds : List D), Ty P n t ds → Ty P (n + 1) t ds
  | 0, _, _, h => by simp [Ty] at h
  | n + 1, t, ds, h => by
    rw [Ty] at h ⊢
    cases hu : P.underlying t with
    | none => simp [hu] at h
    | some u =>
      rw [hu] at h
      cases u with
      | slice e =>
        rcases h with rfl | ⟨rows, rfl, h1, h1b, h2⟩
        · exact .inl rfl
        · exact .inr ⟨rows, rfl, h1, h1b, fun r hr => ty_mono n _ _ (h2 r hr)⟩
      | struct fs => exact tyFs_mono (fun t ds => ty_mono n t ds) _ _ h
      | array m e =>
        obtain ⟨rows, h1, rfl, h2⟩ := h
        exact ⟨rows, h1, rfl, fun r hr => ty_mono n _ _ (h2 r hr)⟩
      | _ => exact h
theorem mapM_mono {α β : Type} {f g : α → Option β} (h : ∀ a b, f a = some b → g a = some b) : ∀ (l : List α) (r : List β), l.mapM f = some r → l.mapM g = some r
  | [], r, hr => by simpa using hr
  | a :: l, r, hr => by
    rw [List.mapM_cons] at hr ⊢
    simp only [Option.bind_eq_bind, Option.bind_eq_some_iff, Option.pure_def, Option.some.injEq] at hr ⊢
    obtain ⟨x, h1, y, h2, rfl⟩ := hr
    exact ⟨x, h a x h1, y, mapM_mono h l y h2, rfl⟩
theorem flatK_mono {P : Program} : ∀ (n : Nat) (t : TypeId) (ks : List CK), flatK P n t = some ks → flatK P (n + 1) t = some ks
  | 0, _, _, h => by simp [flatK] at h
  | n + 1, t, ks, h => by
    rw [flatK] at h ⊢
    cases hu : P.underlying t with
    | none => simp [hu] at h
    | some u =>
      rw [hu] at h
      cases u with
      | struct fs =>
        obtain ⟨l, hl, rfl⟩ := Option.map_eq_some_iff.1 h
        simp only [mapM_mono (fun f b hb => flatK_mono n _ _ hb) _ _ hl, Option.map_some]
      | array m e =>
        obtain ⟨l, hl, rfl⟩ := Option.map_eq_some_iff.1 h
        simp only [flatK_mono n _ _ hl, Option.map_some]
      | _ => exact h
theorem flatK_any {P : Program} {k : Nat} {t : TypeId} {ks : List CK} {ds : List D} (h : flatK P k t = some ks) {n : Nat} (ht : Ty P n t ds) : CellsK P ks ds := by
  have h1 : ∀ j, flatK P (k + j) t = some ks := fun j => by
    induction j with
    | zero => exact h
    | succ j ih => exact flatK_mono _ _ _ ih
  have h2 : ∀ j, Ty P (n + j) t ds := fun j => by
    induction j with
    | zero => exact ht
    | succ j ih => exact ty_mono _ _ _ ih
  refine flatK_ok (k + n) t ks ds (h1 n) ?_
  rw [Nat.add_comm]; exact h2 k
end Go.Proofs.Ytdlhhoejnhjbhaa.Den

namespace Go.Proofs.Ytdlhhoejnhjbhaa.Den
open Go
set_option linter.unusedVariables false
set_option linter.unusedSimpArgs false
@[simp] theorem tb_eq (b : Bool) : tb b = b := rfl
theorem wrap64 {x : Int} (h1 : -9223372036854775808 ≤ x) (h2 : x ≤ 9223372036854775807) : IntKind.i64.wrap x = x := by
  unfold IntKind.wrap
  simp [IntKind.bits, IntKind.signed]
  omega
theorem wi_eq {x : Int} (h1 : -9223372036854775808 ≤ x) (h2 : x ≤ 9223372036854775807) : wi x = x := wrap64 h1 h2
theorem wfI_u8 {z : Int} (h : WfI .u8 z) : 0 ≤ z ∧ z ≤ 255 := by
  simp [WfI, Lit.wf, IntKind.min, IntKind.max, IntKind.signed, IntKind.bits] at h
  omega
theorem mxI_eq (a b : Int) : mxI a b = max a b := by unfold mxI; split <;> omega
theorem mnI_eq (a b : Int) : mnI a b = min a b := by unfold mnI; split <;> omega
theorem inb_iff {n : Nat} {i : Int} : inb n i = true ↔ 0 ≤ i ∧ i < n := by simp [inb]
theorem inb_of {n : Nat} {i : Int} (h1 : 0 ≤ i) (h2 : i < n) : inb n i = true := inb_iff.2 ⟨h1, h2⟩
theorem loop_inv {S : Type} {sel : S → Bool} {nx : S → S} (J : S → Prop) (μ : S → Nat) {s0 : S} (h0 : J s0) (hb : μ s0 < 1152921504606846976) (hn : ∀ s, J s → sel s = true → J (nx s) ∧ μ (nx s) < μ s) :
    ∃ s1, itS sel nx bound s0 = some s1 ∧ J s1 ∧ sel s1 = false := itS_inv J μ hn bound s0 h0 hb
theorem gt_mem {α : Type} [Inhabited α] {l : List α} {i : Int} (h1 : 0 ≤ i) (h2 : i < l.length) : gt l i ∈ l := by
  have h : i.toNat < l.length := by omega
  have : gt l i = l[i.toNat] := by simp [gt, List.getD, h]
  rw [this]; exact List.getElem_mem h
theorem gt_nat {α : Type} [Inhabited α] {l : List α} {k : Nat} (h : k < l.length) : gt l (k : Int) = l[k] := by simp [gt, List.getD, h]
theorem gt_getElem {α : Type} [Inhabited α] {l : List α} {i : Int} (h1 : 0 ≤ i) (h2 : i.toNat < l.length) : gt l i = l[i.toNat] := by simp [gt, List.getD, h2]
theorem all_loop {S α : Type} [Inhabited α] {sel : S → Bool} {nx : S → S} {s0 : S} (l : List α) (ix : S → Int) (p : α → Bool) (J : S → Prop) (hl : l.length < 1152921504606846976) (h0 : ix s0 = 0) (hJ0 : J s0)
    (hnx : ∀ s, J s → 0 ≤ ix s → ix s < l.length → sel s = true → ix (nx s) = ix s + 1 ∧ J (nx s)) (hsel : ∀ s, J s → 0 ≤ ix s → ix s ≤ l.length → sel s = (decide (ix s < l.length) && p (gt l (ix s)))) :
    ∃ s1, itS sel nx bound s0 = some s1 ∧ J s1 ∧ 0 ≤ ix s1 ∧ ((ix s1 = l.length ∧ l.all p = true) ∨ (ix s1 < l.length ∧ p (gt l (ix s1)) = false ∧ l.all p = false)) := by
  obtain ⟨s1, e, ⟨hJ, a1, a2, a3⟩, hs⟩ := loop_inv (sel := sel) (nx := nx) (fun s => J s ∧ 0 ≤ ix s ∧ ix s ≤ l.length ∧ ∀ j : Nat, (j : Int) < ix s → p (gt l j) = true) (fun s => (l.length - ix s).toNat) (s0 := s0)
    ⟨hJ0, by omega, by omega, fun j hj => by omega⟩ (by omega) (fun s ⟨hJ, b1, b2, b3⟩ hs => by
      have h1 := hsel s hJ b1 b2
      rw [hs] at h1
      have h2 := (Bool.and_eq_true _ _).mp h1.symm
      have h3 : ix s < l.length := by simpa using h2.1
      obtain ⟨h4, h5⟩ := hnx s hJ b1 h3 hs
      refine ⟨⟨h5, by omega, by omega, fun j hj => ?_⟩, by omega⟩
      by_cases hjj : (j : Int) < ix s
      · exact b3 j hjj
      · have : (j : Int) = ix s := by omega
        rw [this]; exact h2.2)
  refine ⟨s1, e, hJ, a1, ?_⟩
  rcases Int.lt_or_eq_of_le a2 with h | h
  · have h1 := hsel s1 hJ a1 a2
    rw [hs] at h1
    have hp : p (gt l (ix s1)) = false := by simpa [h] using h1.symm
    refine .inr ⟨h, hp, ?_⟩
    rw [List.all_eq_false]
    exact ⟨_, gt_mem a1 h, by simp [hp]⟩
  · refine .inl ⟨h, ?_⟩
    rw [List.all_eq_true]
    intro x hx
    obtain ⟨j, hj, rfl⟩ := List.getElem_of_mem hx
    have := a3 j (by omega)
    rwa [gt_nat hj] at this
theorem idx_loop {S : Type} {sel : S → Bool} {nx : S → S} {s0 : S} (n : Int) (ix : S → Int) (J : S → Prop) (hn : n < 1152921504606846976) (h0 : J s0) (h1 : 0 ≤ ix s0) (h2 : ix s0 ≤ n)
    (hr : ∀ s, J s → 0 ≤ ix s → ix s < n → sel s = true ∧ J (nx s) ∧ ix (nx s) = ix s + 1) (he : ∀ s, J s → ix s = n → sel s = false) : ∃ s1, itS sel nx bound s0 = some s1 ∧ J s1 ∧ ix s1 = n := by
  obtain ⟨s1, e, ⟨hJ, a1, a2⟩, hs⟩ := loop_inv (sel := sel) (nx := nx) (fun s => J s ∧ 0 ≤ ix s ∧ ix s ≤ n) (fun s => (n - ix s).toNat) (s0 := s0) ⟨h0, h1, h2⟩ (by omega) (fun s ⟨hJ, b1, b2⟩ hs => by
    by_cases h : ix s = n
    · rw [he s hJ h] at hs; cases hs
    · obtain ⟨_, g1, g2⟩ := hr s hJ b1 (by omega)
      exact ⟨⟨g1, by omega, by omega⟩, by omega⟩)
  refine ⟨s1, e, hJ, ?_⟩
  by_cases h : ix s1 = n
  · exact h
  · rw [(hr s1 hJ a1 (by omega)).1] at hs; cases hs
end Go.Proofs.Ytdlhhoejnhjbhaa.Den

namespace Go.Proofs.Ytdlhhoejnhjbhaa.Den
open Go
set_option linter.unusedVariables false
set_option linter.unusedSimpArgs false
theorem loop_seq {S : Type} {sel : S → Bool} {nx : S → S} (st : Nat → S) (n : Nat) (hb : n < 1152921504606846976) (hn : ∀ k, k < n → sel (st k) = true ∧ nx (st k) = st (k + 1)) (he : sel (st n) = false) : itS sel nx bound (st 0) = some (st n) := by
  have key : ∀ (d N : Nat), d ≤ n → d < N → itS sel nx N (st (n - d)) = some (st n) := by
    intro d
    induction d with
    | zero =>
      intro N _ hN
      obtain ⟨N, rfl⟩ : ∃ M, N = M + 1 := ⟨N - 1, by omega⟩
      simp only [Nat.sub_zero, itS, he]
    | succ d ih =>
      intro N h1 hN
      obtain ⟨N, rfl⟩ : ∃ M, N = M + 1 := ⟨N - 1, by omega⟩
      obtain ⟨g1, g2⟩ := hn (n - (d + 1)) (by omega)
      simp only [itS, g1, g2]
      rw [show n - (d + 1) + 1 = n - d by omega]
      exact ih N (by omega) (by omega)
  have := key n bound (Nat.le_refl _) (by unfold bound; omega)
  rwa [Nat.sub_self] at this
theorem take_succ_gt {α : Type} [Inhabited α] {l : List α} {k : Nat} (h : k < l.length) : l.take (k + 1) = l.take k ++ [gt l (k : Int)] := by
  rw [gt_nat h, List.take_succ_eq_append_getElem h]
theorem rem_i64 {x y : Int} (h1 : 0 ≤ x) : remI .i64 x y = x % y := by
  unfold remI; exact Int.tmod_eq_emod_of_nonneg h1
end Go.Proofs.Ytdlhhoejnhjbhaa.Den

namespace Go.Proofs.Ytdlhhoejnhjbhaa.Den
open Go
set_option linter.unusedVariables false
set_option linter.unusedSimpArgs false
def Srt (l : List Int) : Prop := l.Pairwise (· ≤ ·)
def insI (x : Int) (l : List Int) : List Int := l.takeWhile (fun y => decide (y ≤ x)) ++ x :: l.dropWhile (fun y => decide (y ≤ x))
theorem insI_perm (x : Int) (l : List Int) : (insI x l).Perm (x :: l) := by
  unfold insI
  refine List.perm_middle.trans ?_
  rw [List.takeWhile_append_dropWhile]
theorem insI_cons (x y : Int) (l : List Int) : insI x (y :: l) = if y ≤ x then y :: insI x l else x :: y :: l := by
  unfold insI
  by_cases h : y ≤ x <;> simp [h]
theorem insI_srt (x : Int) : ∀ {l : List Int}, Srt l → Srt (insI x l)
  | [], _ => by simp [insI, Srt]
  | y :: l, h => by
    obtain ⟨h1, h2⟩ := List.pairwise_cons.1 h
    rw [insI_cons]
    split
    · rename_i hle
      refine List.pairwise_cons.2 ⟨fun z hz => ?_, insI_srt x h2⟩
      have := (insI_perm x l).mem_iff.1 hz
      rcases List.mem_cons.1 this with rfl | hz'
      · exact hle
      · exact h1 z hz'
    · rename_i hle
      refine List.pairwise_cons.2 ⟨fun z hz => ?_, h⟩
      rcases List.mem_cons.1 hz with rfl | hz'
      · omega
      · have := h1 z hz'; omega
def isort (l : List Int) : List Int := l.foldl (fun out x => insI x out) []
theorem foldl_ins : ∀ (l acc : List Int), Srt acc → Srt (l.foldl (fun out x => insI x out) acc) ∧ (l.foldl (fun out x => insI x out) acc).Perm (acc ++ l)
  | [], acc, h => ⟨h, by simp⟩
  | x :: l, acc, h => by
    obtain ⟨h1, h2⟩ := foldl_ins l (insI x acc) (insI_srt x h)
    refine ⟨h1, h2.trans ?_⟩
    exact ((insI_perm x acc).append_right l).trans (List.perm_middle.symm)
theorem isort_srt (l : List Int) : Srt (isort l) := (foldl_ins l [] List.Pairwise.nil).1
theorem isort_perm (l : List Int) : (isort l).Perm l := by unfold isort; simpa using (foldl_ins l [] List.Pairwise.nil).2
theorem isort_len (l : List Int) : (isort l).length = l.length := (isort_perm l).length_eq
end Go.Proofs.Ytdlhhoejnhjbhaa.Den

namespace Go.Proofs.Ytdlhhoejnhjbhaa.Den
open Go Go.Proofs
set_option maxRecDepth 100000
set_option maxHeartbeats 4000000
set_option linter.unusedVariables false
set_option linter.unusedSimpArgs false
structure fix_small_o_L0_s0 where
  c3 : Int
  deriving Inhabited
structure fix_Bits_o_L0_s0 where
  c2 : Int
  c4 : Int
  deriving Inhabited
end Go.Proofs.Ytdlhhoejnhjbhaa.Den

namespace Go.Proofs.Ytdlhhoejnhjbhaa.Den
open Go
set_option linter.unusedVariables false
set_option linter.unusedSimpArgs false
def sm (z : Int) : Bool := decide (-1099511627776 ≤ z) && decide (z ≤ 1099511627776)
theorem sm_iff {z : Int} : sm z = true ↔ -1099511627776 ≤ z ∧ z ≤ 1099511627776 := by simp [sm]
end Go.Proofs.Ytdlhhoejnhjbhaa.Den

namespace Go.Proofs.Ytdlhhoejnhjbhaa.Den
open Go
set_option linter.unusedVariables false
set_option linter.unusedSimpArgs false
theorem bigr (z : Int) : order_right_c1_i_r0_0 z = !sm z := by
  simp only [order_right_c1_i_r0_0, tb_eq, sm]
  by_cases h1 : z < -1099511627776
  · have : ¬ (-1099511627776 ≤ z) := by omega
    simp [h1, this]
  · have h2 : -1099511627776 ≤ z := by omega
    by_cases h3 : 1099511627776 < z
    · have : ¬ (z ≤ 1099511627776) := by omega
      simp [h1, h2, h3, this]
    · have : z ≤ 1099511627776 := by omega
      simp [h1, h2, h3, this]
theorem idx_big (l : List Int) (hl : l.length < 1152921504606846976) : slices_IndexFunc_int_o_order_right_c1_c0 l = true ∧ (decide (0 ≤ slices_IndexFunc_int_o_order_right_c1_r0_0 l)) = !(l.all sm) := by
  obtain ⟨s1, e, -, h0, h⟩ := all_loop (sel := slices_IndexFunc_int_o_order_right_c1_L0_sel l l.length) (nx := slices_IndexFunc_int_o_order_right_c1_L0_nx l l.length) (s0 := ⟨0⟩) l (fun s => s.c3) sm (fun _ => True) hl rfl trivial
    (fun s _ h1 h2 _ => ⟨by show wi _ = _; exact wi_eq (by omega) (by omega), trivial⟩)
    (fun s _ h1 h2 => by
      by_cases h : s.c3 < l.length
      · have hi := inb_of h1 h
        simp only [slices_IndexFunc_int_o_order_right_c1_L0_sel, h, hi, bigr, tb_eq, decide_true, cond_true, Bool.true_and]
        cases sm (gt l s.c3) <;> rfl
      · simp [slices_IndexFunc_int_o_order_right_c1_L0_sel, h])
  have hok : slices_IndexFunc_int_o_order_right_c1_L0_ok l l.length ⟨0⟩ = true := by simp [slices_IndexFunc_int_o_order_right_c1_L0_ok, e]
  have hend : slices_IndexFunc_int_o_order_right_c1_e0 l = s1 := by simp [slices_IndexFunc_int_o_order_right_c1_e0, slices_IndexFunc_int_o_order_right_c1_L0_end, e]
  simp only [slices_IndexFunc_int_o_order_right_c1_c0, slices_IndexFunc_int_o_order_right_c1_r0_0, hok, hend, tb_eq, cond_true]
  rcases h with ⟨h1, h2⟩ | ⟨h1, h2, h3⟩
  · simp [slices_IndexFunc_int_o_order_right_c1_L0_c0, slices_IndexFunc_int_o_order_right_c1_L0_c1, h1, h2]
  · have hi := inb_of h0 h1
    simp [slices_IndexFunc_int_o_order_right_c1_L0_c0, slices_IndexFunc_int_o_order_right_c1_L0_c1, h1, h3, hi, h0]
def lst16 (l : List Int) : Bool := decide (l.length ≤ 16) && l.all sm
theorem right_o (l : List Int) (hl : l.length < 1152921504606846976) : order_right_o_c0 l = true ∧ order_right_o_r0_0 l = lst16 l := by
  obtain ⟨h1, h2⟩ := idx_big l hl
  simp only [order_right_o_c0, order_right_o_r0_0, slices_ContainsFunc_int_o_order_right_c1_c0, h1, h2, tb_eq, lst16]
  by_cases h : l.length ≤ 16
  · have : ((l.length : Int) ≤ 16) := by omega
    simp [h, this]
  · have : ¬ ((l.length : Int) ≤ 16) := by omega
    simp [h, this]
theorem isort_sm {l : List Int} (h : lst16 l = true) {i : Int} (h1 : 0 ≤ i) (h2 : i < l.length) : -1099511627776 ≤ gt (isort l) i ∧ gt (isort l) i ≤ 1099511627776 := by
  have hm := gt_mem (l := isort l) h1 (by rw [isort_len]; exact h2)
  have := (isort_perm l).mem_iff.1 hm
  simp only [lst16, Bool.and_eq_true, List.all_eq_true] at h
  exact sm_iff.1 (h.2 _ this)
end Go.Proofs.Ytdlhhoejnhjbhaa.Den

namespace Go.Proofs.Ytdlhhoejnhjbhaa.Den
open Go
set_option linter.unusedVariables false
set_option linter.unusedSimpArgs false
set_option maxRecDepth 100000
theorem srt_last {l : List Int} (h : Srt l) (h0 : 1 ≤ l.length) : ∀ z, z ∈ l → z ≤ gt l ((l.length : Int) - 1) := by
  intro z hz
  obtain ⟨i, hi, rfl⟩ := List.getElem_of_mem hz
  rw [gt_getElem (by omega) (by omega)]
  rcases Nat.lt_or_ge i (((l.length : Int) - 1).toNat) with h1 | h1
  · exact List.pairwise_iff_getElem.1 h i _ hi (by omega) h1
  · have : i = ((l.length : Int) - 1).toNat := by omega
    subst this; exact Int.le_refl _
theorem srt_first {l : List Int} (h : Srt l) : ∀ z, z ∈ l → gt l 0 ≤ z := by
  intro z hz
  obtain ⟨i, hi, rfl⟩ := List.getElem_of_mem hz
  rw [gt_getElem (by omega) (by simp; omega)]
  rcases Nat.lt_or_ge 0 i with h1 | h1
  · exact List.pairwise_iff_getElem.1 h _ i (by simp; omega) hi (by simpa using h1)
  · have : i = 0 := by omega
    subst this; exact Int.le_refl _
end Go.Proofs.Ytdlhhoejnhjbhaa.Den

namespace Go.Proofs.Ytdlhhoejnhjbhaa.Den
open Go Go.Proofs
set_option maxRecDepth 100000
set_option maxHeartbeats 4000000
set_option linter.unusedVariables false
set_option linter.unusedSimpArgs false
structure ref01_All_o_L0_s0 where
  c2 : Int
  deriving Inhabited
structure ref01_Shift_ii_L0_s0 where
  c2 : Int
  c3 : Int
  deriving Inhabited
structure ref01_Bits_o_L0_s0 where
  c2 : Int
  c3 : Int
  c4 : Int
  deriving Inhabited
structure ref01_Has_ii_L1_s0 where
  c1 : Int
  c2 : Int
  deriving Inhabited
structure ref01_Count_i_L0_s0 where
  c1 : Int
  c2 : Int
  deriving Inhabited
structure ref01_All_z_L0_s0 where mk ::
  deriving Inhabited
end Go.Proofs.Ytdlhhoejnhjbhaa.Den

namespace Go.Proofs.Ytdlhhoejnhjbhaa.Den
open Go Go.Proofs
set_option maxRecDepth 100000
set_option maxHeartbeats 4000000
set_option linter.unusedVariables false
set_option linter.unusedSimpArgs false
structure ref02_Sort_o_L2_s0 where
  c4 : Bool
  c5 : Bool
  c6 : Int
  c10 : List Int
  deriving Inhabited
structure ref02_Sort_o_L2_1_s0 where
  c4 : Bool
  c5 : Bool
  c6 : Int
  c12 : List Int
  deriving Inhabited
structure ref02_Sort_o_L3_s0 where mk ::
  deriving Inhabited
structure ref02_Sort_o_L3_s1 where
  c2 : Bool
  c3 : Int
  c7 : List Int
  deriving Inhabited
inductive ref02_Sort_o_L3_S where
  | h0 (v : ref02_Sort_o_L3_s0)
  | h1 (v : ref02_Sort_o_L3_s1)
  deriving Inhabited
structure ref02_Ints_oo_L0_s0 where
  c4 : Int
  deriving Inhabited
structure ref02_Without_oi_L0_s0 where
  c3 : Bool
  c4 : Int
  c6 : List Int
  deriving Inhabited
structure ref02_Ints_oz_L0_s0 where mk ::
  deriving Inhabited
structure ref02_Sort_z_L2_s0 where
  c2 : Bool
  c4 : Int
  c8 : List Int
  deriving Inhabited
structure ref02_Sort_z_L3_s0 where mk ::
  deriving Inhabited
end Go.Proofs.Ytdlhhoejnhjbhaa.Den

namespace Go.Proofs.Ytdlhhoejnhjbhaa.Den
open Go
set_option linter.unusedVariables false
set_option linter.unusedSimpArgs false
end Go.Proofs.Ytdlhhoejnhjbhaa.Den

namespace Go.Proofs.Ytdlhhoejnhjbhaa.Den
open Go
set_option linter.unusedVariables false
set_option linter.unusedSimpArgs false
end Go.Proofs.Ytdlhhoejnhjbhaa.Den

namespace Go.Proofs.Ytdlhhoejnhjbhaa.Den
open Go
set_option linter.unusedVariables false
set_option linter.unusedSimpArgs false
end Go.Proofs.Ytdlhhoejnhjbhaa.Den

namespace Go.Proofs.Ytdlhhoejnhjbhaa.Den
open Go
set_option linter.unusedVariables false
set_option linter.unusedSimpArgs false
theorem max_loop {l : List Int} (h0 : 1 ≤ l.length) (hb : l.length ≤ 1000) : ∃ s1, itS (slices_Max_int_o_L0_sel l) (slices_Max_int_o_L0_nx l) bound ⟨gt l 0, 1⟩ = some s1 ∧ s1.c3 = l.length ∧ s1.c2 ∈ l ∧ ∀ z, z ∈ l → z ≤ s1.c2 := by
  obtain ⟨s1, e, ⟨h1, h2, h3⟩, hn⟩ := idx_loop (sel := slices_Max_int_o_L0_sel l) (nx := slices_Max_int_o_L0_nx l) (s0 := ⟨gt l 0, 1⟩) (l.length : Int) (fun s => s.c3) (fun s => s.c2 ∈ l ∧ 1 ≤ s.c3 ∧ ∀ z, z ∈ l.take s.c3.toNat → z ≤ s.c2) (by omega)
    ⟨gt_mem (by omega) (by omega), by simp, fun z hz => by
      have : l.take 1 = [gt l 0] := by
        have := take_succ_gt (l := l) (k := 0) (by omega)
        simpa using this
      have hz' : z ∈ l.take 1 := hz
      rw [this] at hz'
      simp at hz'; simp [hz']⟩ (by simp) (by simp; omega)
    (fun s ⟨a, a2, b⟩ h1 h2 => by
      have hin := inb_of h1 h2
      have hw : wi (s.c3 + 1) = s.c3 + 1 := wi_eq (by omega) (by omega)
      have ht : l.take (s.c3 + 1).toNat = l.take s.c3.toNat ++ [gt l s.c3] := by
        rw [show (s.c3 + 1).toNat = s.c3.toNat + 1 by omega, List.take_succ_eq_append_getElem (by omega), gt_getElem h1 (by omega)]
      refine ⟨by simp [slices_Max_int_o_L0_sel, h2, hin], ?_⟩
      simp only [slices_Max_int_o_L0_nx, hw, mxI_eq]
      refine ⟨⟨?_, by omega, fun z hz => ?_⟩, trivial⟩
      · have := gt_mem (l := l) h1 (by omega)
        rcases Int.le_total (gt l s.c3) s.c2 with q | q
        · rw [Int.max_eq_left q]; exact a
        · rw [Int.max_eq_right q]; exact this
      · rw [ht] at hz
        rcases List.mem_append.1 hz with hz | hz
        · have := b z hz; omega
        · simp at hz; omega)
    (fun s _ hs => by simp [slices_Max_int_o_L0_sel, hs])
  have hn' : s1.c3 = l.length := hn
  exact ⟨s1, e, hn', h1, fun z hz => h3 z (by rw [hn']; simpa using hz)⟩
theorem min_loop {l : List Int} (h0 : 1 ≤ l.length) (hb : l.length ≤ 1000) : ∃ s1, itS (slices_Min_int_o_L0_sel l) (slices_Min_int_o_L0_nx l) bound ⟨gt l 0, 1⟩ = some s1 ∧ s1.c3 = l.length ∧ s1.c2 ∈ l ∧ ∀ z, z ∈ l → s1.c2 ≤ z := by
  obtain ⟨s1, e, ⟨h1, h2, h3⟩, hn⟩ := idx_loop (sel := slices_Min_int_o_L0_sel l) (nx := slices_Min_int_o_L0_nx l) (s0 := ⟨gt l 0, 1⟩) (l.length : Int) (fun s => s.c3) (fun s => s.c2 ∈ l ∧ 1 ≤ s.c3 ∧ ∀ z, z ∈ l.take s.c3.toNat → s.c2 ≤ z) (by omega)
    ⟨gt_mem (by omega) (by omega), by simp, fun z hz => by
      have : l.take 1 = [gt l 0] := by
        have := take_succ_gt (l := l) (k := 0) (by omega)
        simpa using this
      have hz' : z ∈ l.take 1 := hz
      rw [this] at hz'
      simp at hz'; simp [hz']⟩ (by simp) (by simp; omega)
    (fun s ⟨a, a2, b⟩ h1 h2 => by
      have hin := inb_of h1 h2
      have hw : wi (s.c3 + 1) = s.c3 + 1 := wi_eq (by omega) (by omega)
      have ht : l.take (s.c3 + 1).toNat = l.take s.c3.toNat ++ [gt l s.c3] := by
        rw [show (s.c3 + 1).toNat = s.c3.toNat + 1 by omega, List.take_succ_eq_append_getElem (by omega), gt_getElem h1 (by omega)]
      refine ⟨by simp [slices_Min_int_o_L0_sel, h2, hin], ?_⟩
      simp only [slices_Min_int_o_L0_nx, hw, mnI_eq]
      refine ⟨⟨?_, by omega, fun z hz => ?_⟩, trivial⟩
      · have := gt_mem (l := l) h1 (by omega)
        rcases Int.le_total s.c2 (gt l s.c3) with q | q
        · rw [Int.min_eq_left q]; exact a
        · rw [Int.min_eq_right q]; exact this
      · rw [ht] at hz
        rcases List.mem_append.1 hz with hz | hz
        · have := b z hz; omega
        · simp at hz; omega)
    (fun s _ hs => by simp [slices_Min_int_o_L0_sel, hs])
  have hn' : s1.c3 = l.length := hn
  exact ⟨s1, e, hn', h1, fun z hz => h3 z (by rw [hn']; simpa using hz)⟩
def spreadI (l : List Int) : Int := if l.length = 0 then 0 else gt (isort l) ((l.length : Int) - 1) - gt (isort l) 0
theorem Spread_r {l : List Int} (hl : l.length < 1152921504606846976) : order_Spread_o_c0 l = true ∧ order_Spread_o_r0_0 l = if lst16 l then spreadI l else 0 := by
  obtain ⟨a1, a2⟩ := right_o l hl
  cases h : lst16 l with
  | false => simp [order_Spread_o_c0, order_Spread_o_r0_0, a1, a2, h]
  | true =>
    have h16 : l.length ≤ 16 := by simp only [lst16, Bool.and_eq_true, decide_eq_true_eq] at h; exact h.1
    by_cases h0 : l.length = 0
    · have : ((l.length : Int) == 0) = true := by simp; simpa using h0
      simp [order_Spread_o_c0, order_Spread_o_r0_0, a1, a2, h, this, spreadI, h0]
    · have hne : ((l.length : Int) == 0) = false := by simp; simpa using h0
      obtain ⟨s1, e1, n1, p1, q1⟩ := max_loop (l := l) (by omega) (by omega)
      obtain ⟨s2, e2, n2, p2, q2⟩ := min_loop (l := l) (by omega) (by omega)
      have i0 : inb l.length 0 = true := inb_of (by omega) (by omega)
      have hlt : ¬ (l.length : Int) < 1 := by omega
      have k1 : slices_Max_int_o_c0 l = true := by
        simp [slices_Max_int_o_c0, slices_Max_int_o_e0, slices_Max_int_o_L0_ok, slices_Max_int_o_L0_end, e1, i0, hlt, slices_Max_int_o_L0_c0, n1]
      have k2 : slices_Min_int_o_c0 l = true := by
        simp [slices_Min_int_o_c0, slices_Min_int_o_e0, slices_Min_int_o_L0_ok, slices_Min_int_o_L0_end, e2, i0, hlt, slices_Min_int_o_L0_c0, n2]
      have hmax : s1.c2 = gt (isort l) ((l.length : Int) - 1) := by
        apply Int.le_antisymm
        · have := srt_last (isort_srt l) (by rw [isort_len]; omega) s1.c2 ((isort_perm l).mem_iff.2 p1)
          rwa [isort_len] at this
        · exact q1 _ ((isort_perm l).mem_iff.1 (gt_mem (by omega) (by rw [isort_len]; omega)))
      have hmin : s2.c2 = gt (isort l) 0 := by
        apply Int.le_antisymm
        · exact q2 _ ((isort_perm l).mem_iff.1 (gt_mem (by omega) (by rw [isort_len]; omega)))
        · exact srt_first (isort_srt l) s2.c2 ((isort_perm l).mem_iff.2 p2)
      have m1 := isort_sm h (i := (l.length : Int) - 1) (by omega) (by omega)
      have m2 := isort_sm h (i := 0) (by omega) (by omega)
      refine ⟨by simp [order_Spread_o_c0, a1, a2, h, hne, k1, k2], ?_⟩
      simp only [order_Spread_o_r0_0, a2, h, hne, tb_eq, cond_true, cond_false, if_true, order_Spread_o_e0, slices_Max_int_o_e0, slices_Min_int_o_e0, slices_Max_int_o_L0_end, slices_Min_int_o_L0_end, e1, e2, Option.getD_some, spreadI, h0, if_false, hmax, hmin]
      exact wi_eq (by omega) (by omega)
end Go.Proofs.Ytdlhhoejnhjbhaa.Den

namespace Go.Proofs.Ytdlhhoejnhjbhaa.Den
open Go
set_option linter.unusedVariables false
set_option linter.unusedSimpArgs false
set_option maxRecDepth 100000
def Room9 (w : Int) (vote : Nat → Int) (i : Nat) (ring : List Int) (at_ n : Int) : Prop :=
  at_ = (i : Int) % (w - 1) ∧ n = min (i : Int) (w - 1) ∧ ∀ j : Nat, (i : Int) - n ≤ j → j < i → gt ring ((j : Int) % (w - 1)) = vote j
def held (w : Int) (vote : Nat → Int) (i : Nat) : List Int := (List.range (min i (w - 1).toNat)).map fun j => vote (i - min i (w - 1).toNat + j)
theorem mod_room {i room : Int} (hr : 0 < room) (z : Int) : (i % room + z + room) % room = (i + z) % room := by
  have e : i = room * (i / room) + i % room := (Int.mul_ediv_add_emod i room).symm
  have : i % room + z + room = (i + z) + room * (1 - i / room) := by
    rw [Int.mul_sub, Int.mul_one]; omega
  rw [this, Int.add_mul_emod_self_left]
def vSt (w : Int) (vote : Nat → Int) (i : Nat) (j : Nat) : stuck_Room_votes_c1_yp_Y53_1pGvLGpFi20_L0_s0 := ⟨(j : Int), decide (j = 0), (List.range j).map fun q => vote (i - min i (w - 1).toNat + q)⟩
theorem votes_run {w : Int} (hw : 2 ≤ w ∧ w ≤ 16) {vote : Nat → Int} {i : Nat} (hi : i ≤ 1000) {ring : List Int} {at_ n : Int} (h : Room9 w vote i ring at_ n) :
    itS (stuck_Room_votes_c1_yp_Y53_1pGvLGpFi20_L0_sel ring at_ n (w - 1) n) (stuck_Room_votes_c1_yp_Y53_1pGvLGpFi20_L0_nx ring at_ n (w - 1) n) bound ⟨0, true, []⟩ = some (vSt w vote i (min i (w - 1).toNat)) := by
  obtain ⟨h1, h2, h3⟩ := h
  have hn : n = ((min i (w - 1).toNat : Nat) : Int) := by omega
  have a0 : 0 ≤ at_ := by rw [h1]; exact Int.emod_nonneg _ (by omega)
  have a1 : at_ < w - 1 := by rw [h1]; exact Int.emod_lt_of_pos _ (by omega)
  refine loop_seq (sel := stuck_Room_votes_c1_yp_Y53_1pGvLGpFi20_L0_sel ring at_ n (w - 1) n) (nx := stuck_Room_votes_c1_yp_Y53_1pGvLGpFi20_L0_nx ring at_ n (w - 1) n) (vSt w vote i) (min i (w - 1).toNat) (by omega) (fun j hj => ?_) ?_
  · have w1 : wi (at_ - n) = at_ - n := wi_eq (by omega) (by omega)
    have w2 : wi (at_ - n + (j : Int)) = at_ - n + j := wi_eq (by omega) (by omega)
    have w3 : wi (at_ - n + (j : Int) + (w - 1)) = at_ - n + j + (w - 1) := wi_eq (by omega) (by omega)
    have w4 : wi ((j : Int) + 1) = (j : Int) + 1 := wi_eq (by omega) (by omega)
    have hlt : decide ((j : Int) < n) = true := decide_eq_true (by omega)
    have hz : ((w - 1) == 0) = false := by rw [beq_eq_false_iff_ne]; omega
    have hr : remI .i64 (at_ - n + j + (w - 1)) (w - 1) = (at_ - n + j + (w - 1)) % (w - 1) := rem_i64 (by omega)
    have hm : (at_ - n + j + (w - 1)) % (w - 1) = ((i : Int) - n + j) % (w - 1) := by
      have := mod_room (i := (i : Int)) (room := w - 1) (by omega) (-n + j)
      rw [← h1] at this
      rw [show at_ - n + (j : Int) + (w - 1) = at_ + (-n + j) + (w - 1) by omega, this]
      congr 1; omega
    have m0 : 0 ≤ ((i : Int) - n + j) % (w - 1) := Int.emod_nonneg _ (by omega)
    have m1 : ((i : Int) - n + j) % (w - 1) < w - 1 := Int.emod_lt_of_pos _ (by omega)
    have hin : inb 16 (((i : Int) - n + j) % (w - 1)) = true := inb_of m0 (by omega)
    have hv : gt ring (((i : Int) - n + j) % (w - 1)) = vote (i - min i (w - 1).toNat + j) := by
      have := h3 (i - min i (w - 1).toNat + j) (by omega) (by omega)
      rw [← this]; congr 1; congr 1; omega
    have hs : decide ((((List.range j).map fun q => vote (i - min i (w - 1).toNat + q)).length + [vote (i - min i (w - 1).toNat + j)].length) * 8 ≤ 140737488355328) = true := decide_eq_true (by simp; omega)
    have e1 : stuck_Room_votes_c1_yp_Y53_1pGvLGpFi20_L0_h0_e1 ring at_ n (w - 1) (vSt w vote i j) = vote (i - min i (w - 1).toNat + j) := by
      simp only [stuck_Room_votes_c1_yp_Y53_1pGvLGpFi20_L0_h0_e1, stuck_Room_votes_c1_yp_Y53_1pGvLGpFi20_L0_h0_e0, vSt, w1, w2, w3, hr, hm, hv]
    refine ⟨?_, ?_⟩
    · simp only [stuck_Room_votes_c1_yp_Y53_1pGvLGpFi20_L0_sel, e1]
      simp only [vSt, hz, w1, w2, w3, hr, hm, hin, stuck_Room_Votes_Y1_i_Y53_1pGvL_c0, tb_eq, cond_true, cond_false]
      have p1 : (j : Int) < n := by omega
      have p2 := of_decide_eq_true hs
      simp only [p1, p2, decide_true, cond_true]
    · simp only [stuck_Room_votes_c1_yp_Y53_1pGvLGpFi20_L0_nx, e1]
      simp only [vSt, w4, List.range_succ, List.map_append, List.map_cons, List.map_nil]
      simp
  · have : ¬ ((min i (w - 1).toNat : Nat) : Int) < n := by omega
    simp only [stuck_Room_votes_c1_yp_Y53_1pGvLGpFi20_L0_sel, vSt, this, decide_false, tb_eq, cond_false]
theorem votes_r {w : Int} (hw : 2 ≤ w ∧ w ≤ 16) {vote : Nat → Int} {i : Nat} (hi : i ≤ 1000) {ring : List Int} {at_ n : Int} (h : Room9 w vote i ring at_ n) :
    stuck_Room_Votes_p_Fi20_c0 w ring at_ n = true ∧ stuck_Room_Moved_p_Fi20_e1 w ring at_ n = held w vote i ∧ stuck_Room_Moved_p_Fi20_e0 w ring at_ n = decide (i = 0) := by
  have e := votes_run hw hi h
  have w0 : wi (w - 1) = w - 1 := wi_eq (by omega) (by omega)
  have hn : n = ((min i (w - 1).toNat : Nat) : Int) := by have := h.2.1; omega
  have e0 : stuck_Room_votes_c1_yp_Y53_1pGvLGpFi20_e0 [] w ring at_ n true = vSt w vote i (min i (w - 1).toNat) := by
    simp only [stuck_Room_votes_c1_yp_Y53_1pGvLGpFi20_e0, w0, stuck_Room_votes_c1_yp_Y53_1pGvLGpFi20_L0_end, e]; rfl
  have ok : stuck_Room_votes_c1_yp_Y53_1pGvLGpFi20_L0_ok ring at_ n (w - 1) n ⟨0, true, []⟩ = true := by simp only [stuck_Room_votes_c1_yp_Y53_1pGvLGpFi20_L0_ok, e]; rfl
  have hf : ¬ ((min i (w - 1).toNat : Nat) : Int) < n := by omega
  refine ⟨?_, ?_, ?_⟩
  · simp only [stuck_Room_Votes_p_Fi20_c0, stuck_Room_votes_c1_yp_Y53_1pGvLGpFi20_c0, w0, ok, e0, stuck_Room_votes_c1_yp_Y53_1pGvLGpFi20_L0_c0, vSt, hf, decide_false, tb_eq, cond_true, cond_false]
  · simp only [stuck_Room_Moved_p_Fi20_e1, e0, vSt, held]
  · simp only [stuck_Room_Moved_p_Fi20_e0, e0, vSt]
    rw [decide_eq_decide]; omega
theorem held_len (w : Int) (vote : Nat → Int) (i : Nat) : (held w vote i).length = min i (w - 1).toNat := by simp [held]
theorem moved_r {w b : Int} (hw : 2 ≤ w ∧ w ≤ 16) {vote : Nat → Int} (hv : ∀ j, sm (vote j) = true) {i : Nat} (hi : i ≤ 1000) {ring : List Int} {at_ n : Int} (h : Room9 w vote i ring at_ n) :
    stuck_Room_Moved_p_Fi20_c0 w ring at_ n = true ∧ stuck_Room_Moved_p_Fi20_r0_0 w b ring at_ n = (decide (w - 1 ≤ (i : Int)) && decide (b < spreadI (held w vote i))) := by
  obtain ⟨v1, v2, v3⟩ := votes_r hw hi h
  have w0 : wi (w - 1) = w - 1 := wi_eq (by omega) (by omega)
  have hl := held_len w vote i
  obtain ⟨s1, s2⟩ := Spread_r (l := held w vote i) (by omega)
  have h16 : lst16 (held w vote i) = true := by
    simp only [lst16, Bool.and_eq_true, decide_eq_true_eq, List.all_eq_true]
    refine ⟨by omega, fun z hz => ?_⟩
    obtain ⟨j, _, rfl⟩ := List.mem_map.1 hz
    exact hv _
  rw [if_pos h16] at s2
  have hn := h.2.1
  by_cases hk : w - 1 ≤ (i : Int)
  · have : (n == w - 1) = true := by rw [beq_iff_eq]; omega
    simp only [stuck_Room_Moved_p_Fi20_c0, stuck_Room_Moved_p_Fi20_r0_0, w0, this, v1, v2, s1, s2, hk, decide_true, Bool.true_and, tb_eq, cond_true, and_self]
  · have : (n == w - 1) = false := by rw [beq_eq_false_iff_ne]; omega
    simp only [stuck_Room_Moved_p_Fi20_c0, stuck_Room_Moved_p_Fi20_r0_0, w0, this, hk, decide_false, Bool.false_and, tb_eq, cond_false, and_self]
theorem vote_r9 {w : Int} (hw : 2 ≤ w ∧ w ≤ 16) {vote : Nat → Int} {i : Nat} (hi : i ≤ 1000) {ring : List Int} {at_ n : Int} (h : Room9 w vote i ring at_ n) (hv : -2147483648 ≤ vote i ∧ vote i ≤ 2147483647) :
    stuck_Room_Vote_pi_Fi20_c0 w at_ (vote i) = true ∧ stuck_Room_Vote_pi_Fi20_r0_0 (vote i) = 0 ∧
    Room9 w vote (i + 1) (stuck_Room_Vote_pi_Fi20_r0_3 ring at_ (vote i)) (stuck_Room_Vote_pi_Fi20_r0_4 w at_ (vote i)) (stuck_Room_Vote_pi_Fi20_r0_5 w n (vote i)) := by
  obtain ⟨h1, h2, h3⟩ := h
  have hr : stuck_right_i_r0_0 (vote i) = true := by
    have g1 : decide (-2147483648 ≤ vote i) = true := decide_eq_true hv.1
    have g2 : decide (vote i ≤ 2147483647) = true := decide_eq_true hv.2
    simp only [stuck_right_i_r0_0, g1, g2, tb_eq, cond_true]
  have a0 : 0 ≤ at_ := by rw [h1]; exact Int.emod_nonneg _ (by omega)
  have a1 : at_ < w - 1 := by rw [h1]; exact Int.emod_lt_of_pos _ (by omega)
  have w0 : wi (w - 1) = w - 1 := wi_eq (by omega) (by omega)
  have w1 : wi (at_ + 1) = at_ + 1 := wi_eq (by omega) (by omega)
  have w2 : wi (n + 1) = n + 1 := wi_eq (by omega) (by omega)
  have hin : inb 16 at_ = true := inb_of a0 (by omega)
  have hz : ((w - 1) == 0) = false := by rw [beq_eq_false_iff_ne]; omega
  have r1 : remI .i64 (at_ + 1) (w - 1) = (at_ + 1) % (w - 1) := rem_i64 (by omega)
  have hmn : mnI (n + 1) (w - 1) = min (n + 1) (w - 1) := by unfold mnI; split <;> omega
  refine ⟨by simp only [stuck_Room_Vote_pi_Fi20_c0, hr, hin, w0, hz, tb_eq, cond_true, cond_false], by simp only [stuck_Room_Vote_pi_Fi20_r0_0, hr, tb_eq, cond_true], ?_⟩
  simp only [stuck_Room_Vote_pi_Fi20_r0_3, stuck_Room_Vote_pi_Fi20_r0_4, stuck_Room_Vote_pi_Fi20_r0_5, hr, w0, w1, w2, r1, hmn, tb_eq, cond_true]
  have ei : ((i + 1 : Nat) : Int) = (i : Int) + 1 := by omega
  refine ⟨?_, by omega, fun j g1 g2 => ?_⟩
  · rw [h1, ei, Int.emod_add_emod]
  · have m0 : 0 ≤ (j : Int) % (w - 1) := Int.emod_nonneg _ (by omega)
    have m1 : (j : Int) % (w - 1) < w - 1 := Int.emod_lt_of_pos _ (by omega)
    rw [gt_sta m0 (by omega) a0]
    by_cases hj : j = i
    · subst hj; rw [if_pos h1.symm]
    · rw [if_neg ?_]
      · exact h3 j (by omega) (by omega)
      · intro he
        rw [h1] at he
        have d : ((i : Int) - j) % (w - 1) = 0 := by rw [Int.sub_emod, he]; simp
        have d1 : 0 < (i : Int) - j := by omega
        have d2 : (i : Int) - j < w - 1 := by omega
        rw [Int.emod_eq_of_lt (by omega) d2] at d
        omega
end Go.Proofs.Ytdlhhoejnhjbhaa.Den

namespace Go.Proofs.Ytdlhhoejnhjbhaa.Den
open Go
set_option linter.unusedVariables false
set_option linter.unusedSimpArgs false
set_option maxRecDepth 100000
def rowF (k : Nat) (ms : Nat → Bool) (N : Nat → Int) : Nat → Nat
  | 0 => 0
  | i + 1 => if ms i then 0 else if rowF k ms N i = 0 ∨ N i ≠ N (i - 1) then min 1 k else min (rowF k ms N i + 1) k
theorem rowF_le (k : Nat) (ms : Nat → Bool) (N : Nat → Int) : ∀ i, rowF k ms N i ≤ k
  | 0 => by simp [rowF]
  | i + 1 => by
    simp only [rowF]
    split
    · omega
    · split <;> omega
theorem run_iff {k : Nat} (hk : 1 ≤ k) {ms : Nat → Bool} {N : Nat → Int} : ∀ (i c : Nat), 1 ≤ c → c ≤ k → (c ≤ rowF k ms N (i + 1) ↔ c ≤ i + 1 ∧ ∀ m, i + 1 - c ≤ m → m ≤ i → ms m = false ∧ N m = N i)
  | i, c, h1, h2 => by
    have one : (c ≤ min 1 k ∧ ms i = false → c ≤ i + 1 ∧ ∀ m, i + 1 - c ≤ m → m ≤ i → ms m = false ∧ N m = N i) := fun ⟨h, hm⟩ => by
      have hc : c = 1 := by omega
      subst hc
      exact ⟨by omega, fun m g1 g2 => by have : m = i := by omega
                                         subst this; exact ⟨hm, rfl⟩⟩
    simp only [rowF]
    cases hm : ms i with
    | true =>
      simp only [if_true]
      refine ⟨fun h => by omega, fun ⟨h, g⟩ => ?_⟩
      have := (g i (by omega) (Nat.le_refl _)).1
      rw [hm] at this; cases this
    | false =>
      simp only [Bool.false_eq_true, if_false]
      by_cases hr : rowF k ms N i = 0 ∨ N i ≠ N (i - 1)
      · rw [if_pos hr]
        refine ⟨fun h => one ⟨h, hm⟩, fun ⟨h, g⟩ => ?_⟩
        by_cases hc : c = 1
        · omega
        · exfalso
          have hp := g (i - 1) (by omega) (by omega)
          rcases hr with hr | hr
          · have := (run_iff hk (ms := ms) (N := N) (i - 1) 1 (by omega) (by omega)).2 ⟨by omega, fun m g1 g2 => by
              have : m = i - 1 := by omega
              subst this; exact ⟨hp.1, rfl⟩⟩
            rw [show i - 1 + 1 = i by omega] at this
            omega
          · exact hr hp.2.symm
      · rw [if_neg hr]
        have hr0 : rowF k ms N i ≠ 0 := fun h => hr (.inl h)
        have hN : N i = N (i - 1) := Classical.byContradiction fun h => hr (.inr h)
        have hi : 1 ≤ i := by
          rcases Nat.eq_zero_or_pos i with h | h
          · subst h; exact absurd rfl hr0
          · exact h
        by_cases hc : c = 1
        · subst hc
          exact ⟨fun _ => one ⟨by omega, hm⟩, fun _ => by omega⟩
        · have ih := run_iff hk (ms := ms) (N := N) (i - 1) (c - 1) (by omega) (by omega)
          rw [show i - 1 + 1 = i by omega] at ih
          constructor
          · intro h
            obtain ⟨e1, e2⟩ := ih.1 (by omega)
            refine ⟨by omega, fun m g1 g2 => ?_⟩
            by_cases hm' : m = i
            · subst hm'; exact ⟨hm, rfl⟩
            · have := e2 m (by omega) (by omega)
              exact ⟨this.1, by rw [this.2, hN]⟩
          · intro ⟨e1, e2⟩
            have := ih.2 ⟨by omega, fun m g1 g2 => by
              have a := e2 m (by omega) (by omega)
              exact ⟨a.1, by rw [a.2, hN]⟩⟩
            omega
def loF (V : Nat → Int) (n0 : Nat) : Nat → Int
  | 0 => 65536
  | d + 1 => min (loF V n0 d) (V (n0 + d))
def hiF (V : Nat → Int) (n0 : Nat) : Nat → Int
  | 0 => -65536
  | d + 1 => max (hiF V n0 d) (V (n0 + d))
theorem lo_spec {V : Nat → Int} {n0 : Nat} (hV : ∀ j, -32768 ≤ V j ∧ V j ≤ 32767) : ∀ d, (∀ q, q < d → loF V n0 d ≤ V (n0 + q)) ∧ (d = 0 ∨ ∃ q, q < d ∧ loF V n0 d = V (n0 + q)) ∧ loF V n0 d ≤ 65536 ∧ -65536 ≤ loF V n0 d
  | 0 => ⟨fun q hq => by omega, .inl rfl, by simp [loF], by simp [loF]⟩
  | d + 1 => by
    obtain ⟨h1, h2, h3, h4⟩ := lo_spec (n0 := n0) hV d
    have hv := hV (n0 + d)
    simp only [loF]
    refine ⟨fun q hq => ?_, .inr ?_, by omega, by omega⟩
    · by_cases h : q = d
      · subst h; omega
      · have := h1 q (by omega); omega
    · rcases Int.le_total (V (n0 + d)) (loF V n0 d) with h | h
      · exact ⟨d, by omega, by omega⟩
      · rcases h2 with rfl | ⟨q, hq, e⟩
        · exfalso
          have e : loF V n0 0 = 65536 := rfl
          omega
        · exact ⟨q, by omega, by rw [← e]; omega⟩
theorem hi_spec {V : Nat → Int} {n0 : Nat} (hV : ∀ j, -32768 ≤ V j ∧ V j ≤ 32767) : ∀ d, (∀ q, q < d → V (n0 + q) ≤ hiF V n0 d) ∧ (d = 0 ∨ ∃ q, q < d ∧ hiF V n0 d = V (n0 + q)) ∧ hiF V n0 d ≤ 65536 ∧ -65536 ≤ hiF V n0 d
  | 0 => ⟨fun q hq => by omega, .inl rfl, by simp [hiF], by simp [hiF]⟩
  | d + 1 => by
    obtain ⟨h1, h2, h3, h4⟩ := hi_spec (n0 := n0) hV d
    have hv := hV (n0 + d)
    simp only [hiF]
    refine ⟨fun q hq => ?_, .inr ?_, by omega, by omega⟩
    · by_cases h : q = d
      · subst h; omega
      · have := h1 q (by omega); omega
    · rcases Int.le_total (hiF V n0 d) (V (n0 + d)) with h | h
      · exact ⟨d, by omega, by omega⟩
      · rcases h2 with rfl | ⟨q, hq, e⟩
        · exfalso
          have e : hiF V n0 0 = -65536 := rfl
          omega
        · exact ⟨q, by omega, by rw [← e]; omega⟩
theorem spread_is {V : Nat → Int} {n0 d : Nat} (hV : ∀ j, -32768 ≤ V j ∧ V j ≤ 32767) (hd : 1 ≤ d) : spreadI ((List.range d).map fun q => V (n0 + q)) = hiF V n0 d - loF V n0 d := by
  obtain ⟨l1, l2, -, -⟩ := lo_spec (n0 := n0) hV d
  obtain ⟨g1, g2, -, -⟩ := hi_spec (n0 := n0) hV d
  generalize hL : ((List.range d).map fun q => V (n0 + q)) = L
  have hlen : L.length = d := by rw [← hL]; simp
  have mem : ∀ q, q < d → V (n0 + q) ∈ L := fun q hq => by rw [← hL]; exact List.mem_map.2 ⟨q, List.mem_range.2 hq, rfl⟩
  have inv : ∀ z, z ∈ L → ∃ q, q < d ∧ z = V (n0 + q) := fun z hz => by
    rw [← hL] at hz
    obtain ⟨q, hq, rfl⟩ := List.mem_map.1 hz
    exact ⟨q, List.mem_range.1 hq, rfl⟩
  have hs := isort_srt L
  have hp := isort_perm L
  have hsl := isort_len L
  have m0 := gt_mem (l := isort L) (i := 0) (by omega) (by omega)
  have m1 := gt_mem (l := isort L) (i := (L.length : Int) - 1) (by omega) (by omega)
  unfold spreadI
  rw [if_neg (by omega)]
  have e0 : gt (isort L) 0 = loF V n0 d := by
    obtain ⟨q, hq, e⟩ := inv _ (hp.mem_iff.1 m0)
    have a := l1 q hq
    rcases l2 with h | ⟨p, hp', e'⟩
    · omega
    · have b := srt_first hs _ (hp.mem_iff.2 (mem p hp'))
      omega
  have e1 : gt (isort L) ((L.length : Int) - 1) = hiF V n0 d := by
    obtain ⟨q, hq, e⟩ := inv _ (hp.mem_iff.1 m1)
    have a := g1 q hq
    rcases g2 with h | ⟨p, hp', e'⟩
    · omega
    · have b := srt_last hs (by omega) _ (hp.mem_iff.2 (mem p hp'))
      rw [hsl] at b
      omega
  rw [e0, e1]
section
variable (l : List R_bool_i16_i16)
def ms9 (j : Nat) : Bool := (gt l (j : Int)).c0
def N9 (j : Nat) : Int := (gt l (j : Int)).c1
def V9 (j : Nat) : Int := (gt l (j : Int)).c2
end
theorem wf9 {l : List R_bool_i16_i16} (h : ∀ z ∈ l, WfI .i16 z.c1 ∧ WfI .i16 z.c2 ∧ True) (j : Nat) : (-32768 ≤ N9 l j ∧ N9 l j ≤ 32767) ∧ (-32768 ≤ V9 l j ∧ V9 l j ≤ 32767) := by
  by_cases hj : j < l.length
  · have := h _ (gt_mem (l := l) (i := (j : Int)) (by omega) (by omega))
    obtain ⟨h1, h2, -⟩ := this
    simp [WfI, Lit.wf, IntKind.min, IntKind.max, IntKind.signed, IntKind.bits] at h1 h2
    exact ⟨h1, h2⟩
  · have e : gt l (j : Int) = default := by
      unfold gt
      rw [List.getD_eq_getElem?_getD, List.getElem?_eq_none (by omega)]; rfl
    unfold N9 V9
    rw [e]
    exact ⟨by decide, by decide⟩
theorem right9 {n : Int} (h : -32768 ≤ n ∧ n ≤ 32767) : stuck_right_i_r0_0 n = true := by
  have g1 : decide (-2147483648 ≤ n) = true := decide_eq_true (by omega)
  have g2 : decide (n ≤ 2147483647) = true := decide_eq_true (by omega)
  simp only [stuck_right_i_r0_0, g1, g2, tb_eq, cond_true]
theorem come_r {k : Nat} (hk : 2 ≤ k ∧ k ≤ 16) {b : Int} {ms : Nat → Bool} {N V : Nat → Int} (hN : ∀ j, -32768 ≤ N j ∧ N j ≤ 32767) (hV : ∀ j, -32768 ≤ V j ∧ V j ≤ 32767) {i : Nat} (hi : i ≤ 1000) (hm : ms i = false) {ring : List Int} {at_ n last : Int}
    (h : Room9 k V i ring at_ n) (hl : rowF k ms N i ≠ 0 → last = N (i - 1)) :
    stuck_Watch_Come_pi_Gpi2Fi20_c0 k ring at_ n last (rowF k ms N i : Nat) (N i) = true ∧ stuck_Watch_Come_pi_Gpi2Fi20_r0_1 (N i) = 0 ∧ stuck_Watch_Come_pi_Gpi2Fi20_r0_2 last (N i) = N i ∧
    stuck_Watch_Come_pi_Gpi2Fi20_r0_3 k last (rowF k ms N i : Nat) (N i) = (rowF k ms N (i + 1) : Nat) ∧
    stuck_Watch_Come_pi_Gpi2Fi20_r0_0 k b ring at_ n last (rowF k ms N i : Nat) (N i) = (decide (rowF k ms N (i + 1) = k) && (decide ((k : Int) - 1 ≤ (i : Int)) && decide (b < spreadI (held k V i)))) := by
  have hr := right9 (hN i)
  obtain ⟨m1, m2⟩ := moved_r (w := (k : Int)) (b := b) (by omega) (vote := V) (fun j => sm_iff.2 (by have := hV j; omega)) hi h
  have hle := rowF_le k ms N i
  have w1 : wi (((rowF k ms N i : Nat) : Int) + 1) = ((rowF k ms N i : Nat) : Int) + 1 := wi_eq (by omega) (by omega)
  have mn1 : mnI 1 (k : Int) = 1 := by unfold mnI; split <;> omega
  have k1 : ((1 : Int) == (k : Int)) = false := by rw [beq_eq_false_iff_ne]; omega
  have mn2 : mnI (((rowF k ms N i : Nat) : Int) + 1) (k : Int) = ((min (rowF k ms N i + 1) k : Nat) : Int) := by unfold mnI; split <;> omega
  have e1 : min 1 k = 1 := by omega
  have nk : ¬ (1 = k) := by omega
  have F : rowF k ms N (i + 1) = if rowF k ms N i = 0 ∨ N i ≠ N (i - 1) then 1 else min (rowF k ms N i + 1) k := by
    simp only [rowF, hm, Bool.false_eq_true, if_false, e1]
  rw [F]
  by_cases h0 : rowF k ms N i = 0
  · have z : (((rowF k ms N i : Nat) : Int) == 0) = true := by rw [h0]; rfl
    rw [if_pos (.inl h0)]
    simp [stuck_Watch_Come_pi_Gpi2Fi20_c0, stuck_Watch_Come_pi_Gpi2Fi20_r0_1, stuck_Watch_Come_pi_Gpi2Fi20_r0_2, stuck_Watch_Come_pi_Gpi2Fi20_r0_3, stuck_Watch_Come_pi_Gpi2Fi20_r0_0, hr, h0, mn1, k1, nk]
  · have z : (((rowF k ms N i : Nat) : Int) == 0) = false := by rw [beq_eq_false_iff_ne]; omega
    have hl := hl h0
    by_cases hn : N i = N (i - 1)
    · rw [if_neg (by intro h; rcases h with h | h; exact h0 h; exact h hn)]
      have ne : ((N i : Int) != last) = false := by rw [hl, hn]; simp
      have eqk : ((((min (rowF k ms N i + 1) k : Nat) : Int)) == (k : Int)) = decide (min (rowF k ms N i + 1) k = k) := by
        by_cases q : min (rowF k ms N i + 1) k = k
        · rw [q]; simp
        · rw [decide_eq_false q, beq_eq_false_iff_ne]; omega
      simp only [stuck_Watch_Come_pi_Gpi2Fi20_c0, stuck_Watch_Come_pi_Gpi2Fi20_r0_1, stuck_Watch_Come_pi_Gpi2Fi20_r0_2, stuck_Watch_Come_pi_Gpi2Fi20_r0_3, stuck_Watch_Come_pi_Gpi2Fi20_r0_0, hr, z, ne, w1, mn2, eqk, m1, m2, tb_eq, cond_true, cond_false]
      cases decide (min (rowF k ms N i + 1) k = k) <;> simp
    · rw [if_pos (.inr hn)]
      have ne : ((N i : Int) != last) = true := by rw [hl]; simpa using hn
      simp only [stuck_Watch_Come_pi_Gpi2Fi20_c0, stuck_Watch_Come_pi_Gpi2Fi20_r0_1, stuck_Watch_Come_pi_Gpi2Fi20_r0_2, stuck_Watch_Come_pi_Gpi2Fi20_r0_3, stuck_Watch_Come_pi_Gpi2Fi20_r0_0, hr, z, ne, mn1, k1, tb_eq, cond_true, cond_false]
      simp [nk]
def allB (ms : Nat → Bool) (N : Nat → Int) (i n0 : Nat) : Nat → Bool
  | 0 => true
  | d + 1 => allB ms N i n0 d && (!ms (n0 + d) && (N (n0 + d) == N i))
theorem allB_iff {ms : Nat → Bool} {N : Nat → Int} {i n0 : Nat} : ∀ d, allB ms N i n0 d = true ↔ ∀ q, q < d → ms (n0 + q) = false ∧ N (n0 + q) = N i
  | 0 => by simp [allB]
  | d + 1 => by
    simp only [allB, Bool.and_eq_true, allB_iff d, Bool.not_eq_true', beq_iff_eq]
    constructor
    · intro ⟨h1, h2⟩ q hq
      by_cases e : q = d
      · subst e; exact h2
      · exact h1 q (by omega)
    · intro h
      exact ⟨fun q hq => h q (by omega), h d (by omega)⟩
def wSt (l : List R_bool_i16_i16) (k i d : Nat) : law09_StuckFrozen_L3_s0 :=
  ⟨decide (k ≤ i + 1) && allB (ms9 l) (N9 l) i (i + 1 - k) d, loF (V9 l) (i + 1 - k) (min d (i - (i + 1 - k))), hiF (V9 l) (i + 1 - k) (min d (i - (i + 1 - k))), ((i + 1 - k + d : Nat) : Int)⟩
theorem L3_run {l : List R_bool_i16_i16} (hw : ∀ z ∈ l, WfI .i16 z.c1 ∧ WfI .i16 z.c2 ∧ True) {k i : Nat} (hk : 2 ≤ k ∧ k ≤ 16) (hi : i < l.length) (hl : l.length ≤ 200) :
    itS (law09_StuckFrozen_L3_sel l (i : Int)) (law09_StuckFrozen_L3_nx l (i : Int)) bound ⟨decide (k ≤ i + 1), 65536, -65536, ((i + 1 - k : Nat) : Int)⟩ = some (wSt l k i (i + 1 - (i + 1 - k))) := by
  have h0 : wSt l k i 0 = ⟨decide (k ≤ i + 1), 65536, -65536, ((i + 1 - k : Nat) : Int)⟩ := by simp [wSt, allB, loF, hiF]
  rw [← h0]
  have hin : inb l.length (i : Int) = true := inb_of (by omega) (by omega)
  refine loop_seq (sel := law09_StuckFrozen_L3_sel l (i : Int)) (nx := law09_StuckFrozen_L3_nx l (i : Int)) (wSt l k i) _ (by omega) (fun d hd => ?_) ?_
  · obtain ⟨n0, hn0⟩ : ∃ n0, n0 = i + 1 - k := ⟨_, rfl⟩
    have hj : n0 + d ≤ i := by omega
    have g1 : ((n0 + d : Nat) : Int) ≤ (i : Int) := by omega
    have gin : inb l.length ((n0 + d : Nat) : Int) = true := inb_of (by omega) (by omega)
    have wj : wi (((n0 + d : Nat) : Int) + 1) = ((n0 + (d + 1) : Nat) : Int) := by rw [wi_eq (by omega) (by omega)]; omega
    have hv := (wf9 hw (n0 + d)).2
    have wv : wi ((gt l ((n0 + d : Nat) : Int)).c2) = V9 l (n0 + d) := wi_eq (x := V9 l (n0 + d)) (by omega) (by omega)
    have mx_ : ∀ a b : Int, mxI a b = max a b := fun a b => by unfold mxI; split <;> omega
    have mn_ : ∀ a b : Int, mnI a b = min a b := fun a b => by unfold mnI; split <;> omega
    have hm : (gt l ((n0 + d : Nat) : Int)).c0 = ms9 l (n0 + d) := rfl
    have hN : (gt l ((n0 + d : Nat) : Int)).c1 = N9 l (n0 + d) := rfl
    have hNi : (gt l ((i : Nat) : Int)).c1 = N9 l i := rfl
    have S1 : wSt l k i (d + 1) = ⟨(decide (k ≤ i + 1) && allB (ms9 l) (N9 l) i n0 d) && (!ms9 l (n0 + d) && (N9 l (n0 + d) == N9 l i)),
        if n0 + d < i then min (loF (V9 l) n0 d) (V9 l (n0 + d)) else loF (V9 l) n0 (min d (i - n0)), if n0 + d < i then max (hiF (V9 l) n0 d) (V9 l (n0 + d)) else hiF (V9 l) n0 (min d (i - n0)), ((n0 + (d + 1) : Nat) : Int)⟩ := by
      simp only [wSt, ← hn0, allB, Bool.and_assoc]
      by_cases hlt : n0 + d < i
      · rw [if_pos hlt, if_pos hlt, show min (d + 1) (i - n0) = d + 1 by omega]; rfl
      · rw [if_neg hlt, if_neg hlt, show min (d + 1) (i - n0) = min d (i - n0) by omega]
    have S0 : wSt l k i d = ⟨decide (k ≤ i + 1) && allB (ms9 l) (N9 l) i n0 d, loF (V9 l) n0 (min d (i - n0)), hiF (V9 l) n0 (min d (i - n0)), ((n0 + d : Nat) : Int)⟩ := by simp only [wSt, ← hn0]
    rw [S1, S0]
    generalize (decide (k ≤ i + 1) && allB (ms9 l) (N9 l) i n0 d) = W
    by_cases hlt : n0 + d < i
    · have g2 : ((n0 + d : Nat) : Int) < (i : Int) := by omega
      rw [if_pos hlt, if_pos hlt, show min d (i - n0) = d by omega]
      cases W <;> cases hmm : ms9 l (n0 + d) <;> simp only [law09_StuckFrozen_L3_sel, law09_StuckFrozen_L3_nx, g1, g2, gin, hin, hm, hN, hNi, hmm, wj, wv, mx_, mn_, decide_true, tb_eq, cond_true, cond_false, Bool.false_and, Bool.true_and, Bool.not_true, Bool.not_false, and_self]
    · have g2 : ¬ ((n0 + d : Nat) : Int) < (i : Int) := by omega
      rw [if_neg hlt, if_neg hlt]
      cases W <;> cases hmm : ms9 l (n0 + d) <;> simp only [law09_StuckFrozen_L3_sel, law09_StuckFrozen_L3_nx, g1, g2, gin, hin, hm, hN, hNi, hmm, wj, wv, mx_, mn_, decide_true, decide_false, tb_eq, cond_true, cond_false, Bool.false_and, Bool.true_and, Bool.not_true, Bool.not_false, and_self]
  · have : ¬ (((i + 1 - k + (i + 1 - (i + 1 - k)) : Nat) : Int) ≤ (i : Int)) := by omega
    simp only [law09_StuckFrozen_L3_sel, wSt, this, decide_false, tb_eq, cond_false]
theorem S4_r {l : List R_bool_i16_i16} (hw : ∀ z ∈ l, WfI .i16 z.c1 ∧ WfI .i16 z.c2 ∧ True) {k i : Nat} (hk : 2 ≤ k ∧ k ≤ 16) (hi : i < l.length) (hl : l.length ≤ 200) :
    law09_StuckFrozen_S4_c0 l (k : Int) (i : Int) (decide ((wi ((k : Int) - 1)) ≤ (i : Int))) = true ∧ law09_StuckFrozen_S4_e0 l (k : Int) (i : Int) (decide ((wi ((k : Int) - 1)) ≤ (i : Int))) = wSt l k i (i + 1 - (i + 1 - k)) := by
  have e := L3_run hw hk hi hl
  have w1 : wi ((k : Int) - 1) = (k : Int) - 1 := wi_eq (by omega) (by omega)
  have w2 : wi ((i : Int) - k) = (i : Int) - k := wi_eq (by omega) (by omega)
  have w3 : wi ((i : Int) - k + 1) = (i : Int) - k + 1 := wi_eq (by omega) (by omega)
  have mx : mxI 0 ((i : Int) - k + 1) = ((i + 1 - k : Nat) : Int) := by unfold mxI; split <;> omega
  have d1 : decide (((k : Int) - 1) ≤ (i : Int)) = decide (k ≤ i + 1) := by rw [decide_eq_decide]; omega
  have e0 : law09_StuckFrozen_S4_e0 l (k : Int) (i : Int) (decide ((wi ((k : Int) - 1)) ≤ (i : Int))) = wSt l k i (i + 1 - (i + 1 - k)) := by
    simp only [law09_StuckFrozen_S4_e0, w1, w2, w3, mx, d1, law09_StuckFrozen_L3_end, e]; rfl
  have ok : law09_StuckFrozen_L3_ok l (i : Int) ⟨decide (k ≤ i + 1), 65536, -65536, ((i + 1 - k : Nat) : Int)⟩ = true := by simp only [law09_StuckFrozen_L3_ok, e]; rfl
  refine ⟨?_, e0⟩
  simp only [law09_StuckFrozen_S4_c0, e0]
  have : ¬ (((i + 1 - k + (i + 1 - (i + 1 - k)) : Nat) : Int) ≤ (i : Int)) := by omega
  simp only [w1, w2, w3, mx, d1, ok, law09_StuckFrozen_L3_c0, wSt, this, decide_false, tb_eq, cond_true, cond_false]
theorem frozen_is {l : List R_bool_i16_i16} (hw : ∀ z ∈ l, WfI .i16 z.c1 ∧ WfI .i16 z.c2 ∧ True) {k i : Nat} (hk : 2 ≤ k ∧ k ≤ 16) (hi : i < l.length) (hl : l.length ≤ 200) {b : Int} {ring : List Int} {at_ n last : Int}
    (h : Room9 k (V9 l) i ring at_ n) (hla : rowF k (ms9 l) (N9 l) i ≠ 0 → last = N9 l (i - 1)) :
    law09_StuckFrozen_S2_c0 k ring at_ n last (rowF k (ms9 l) (N9 l) i : Nat) l i = true ∧
    law09_StuckFrozen_S2_r0_5 k b ring at_ n last (rowF k (ms9 l) (N9 l) i : Nat) l i = ((wSt l k i (i + 1 - (i + 1 - k))).c6 && decide (b < (wSt l k i (i + 1 - (i + 1 - k))).c8 - (wSt l k i (i + 1 - (i + 1 - k))).c7)) ∧
    law09_StuckFrozen_S2_r0_13 k last (rowF k (ms9 l) (N9 l) i : Nat) l i = (rowF k (ms9 l) (N9 l) (i + 1) : Nat) ∧
    (rowF k (ms9 l) (N9 l) (i + 1) ≠ 0 → law09_StuckFrozen_S2_r0_12 last l i = N9 l i) := by
  have hin : inb l.length (i : Int) = true := inb_of (by omega) (by omega)
  have hN := fun j => (wf9 hw j).1
  have hV := fun j => (wf9 hw j).2
  have wn : wi ((gt l (i : Int)).c1) = N9 l i := wi_eq (x := N9 l i) (by have := hN i; omega) (by have := hN i; omega)
  have hc6 : (wSt l k i (i + 1 - (i + 1 - k))).c6 = (decide (k ≤ i + 1) && allB (ms9 l) (N9 l) i (i + 1 - k) (i + 1 - (i + 1 - k))) := rfl
  cases hm : ms9 l i with
  | true =>
    have hm' : (gt l (i : Int)).c0 = true := hm
    have hf : (wSt l k i (i + 1 - (i + 1 - k))).c6 = false := by
      rw [hc6]
      cases ha : allB (ms9 l) (N9 l) i (i + 1 - k) (i + 1 - (i + 1 - k)) with
      | false => simp
      | true =>
        have := ((allB_iff _).1 ha (i - (i + 1 - k)) (by omega)).1
        rw [show i + 1 - k + (i - (i + 1 - k)) = i by omega, hm] at this
        cases this
    have hr : rowF k (ms9 l) (N9 l) (i + 1) = 0 := by simp [rowF, hm]
    rw [hf, hr]
    simp [law09_StuckFrozen_S2_c0, law09_StuckFrozen_S2_r0_5, law09_StuckFrozen_S2_r0_13, hin, hm']
  | false =>
    have hm' : (gt l (i : Int)).c0 = false := hm
    obtain ⟨q1, q2, q3, q4, q5⟩ := come_r hk (b := b) hN hV (i := i) (by omega) hm h hla
    have z : ((0 : Int) != 0) = false := rfl
    refine ⟨by simp only [law09_StuckFrozen_S2_c0, hin, hm', wn, q1, q2, z, tb_eq, cond_true, cond_false], ?_, by simp only [law09_StuckFrozen_S2_r0_13, hm', wn, q4, tb_eq, cond_false], fun _ => by simp only [law09_StuckFrozen_S2_r0_12, hm', wn, q3, tb_eq, cond_false]⟩
    simp only [law09_StuckFrozen_S2_r0_5, hm', wn, q5, tb_eq, cond_false]
    have hle := rowF_le k (ms9 l) (N9 l) (i + 1)
    have iff := run_iff (k := k) (by omega) (ms := ms9 l) (N := N9 l) i k (by omega) (Nat.le_refl _)
    by_cases hW : rowF k (ms9 l) (N9 l) (i + 1) = k
    · obtain ⟨g1, g2⟩ := iff.1 (by omega)
      have ha : allB (ms9 l) (N9 l) i (i + 1 - k) (i + 1 - (i + 1 - k)) = true := (allB_iff _).2 fun q hq => g2 _ (by omega) (by omega)
      have hheld : spreadI (held (k : Int) (V9 l) i) = (wSt l k i (i + 1 - (i + 1 - k))).c8 - (wSt l k i (i + 1 - (i + 1 - k))).c7 := by
        have e : held (k : Int) (V9 l) i = (List.range (k - 1)).map fun q => V9 l (i + 1 - k + q) := by
          unfold held
          rw [show min i ((k : Int) - 1).toNat = k - 1 by omega, show i - (k - 1) = i + 1 - k by omega]
        rw [e, spread_is hV (by omega)]
        simp only [wSt]
        rw [show min (i + 1 - (i + 1 - k)) (i - (i + 1 - k)) = k - 1 by omega]
      have d1 : decide ((k : Int) - 1 ≤ (i : Int)) = true := decide_eq_true (by omega)
      rw [hheld, hc6, ha, decide_eq_true hW, d1, decide_eq_true g1]
      simp
    · have : (decide (k ≤ i + 1) && allB (ms9 l) (N9 l) i (i + 1 - k) (i + 1 - (i + 1 - k))) = false := by
        cases hx : (decide (k ≤ i + 1) && allB (ms9 l) (N9 l) i (i + 1 - k) (i + 1 - (i + 1 - k))) with
        | false => rfl
        | true =>
          simp only [Bool.and_eq_true, decide_eq_true_eq] at hx
          have := iff.2 ⟨hx.1, fun m a1 a2 => by
            have := (allB_iff _).1 hx.2 (m - (i + 1 - k)) (by omega)
            rwa [show i + 1 - k + (m - (i + 1 - k)) = m by omega] at this⟩
          omega
      rw [hc6, this, decide_eq_false hW]
      simp
def Inv9 (l : List R_bool_i16_i16) (k : Nat) (i : Nat) (s : law09_StuckFrozen_L7_s0) : Prop :=
  s.c4 = (i : Int) ∧ Room9 k (V9 l) i s.c7 s.c8 s.c9 ∧ s.c12 = (rowF k (ms9 l) (N9 l) i : Nat) ∧ (rowF k (ms9 l) (N9 l) i ≠ 0 → s.c11 = N9 l (i - 1))
theorem round9 {l : List R_bool_i16_i16} (hw : ∀ z ∈ l, WfI .i16 z.c1 ∧ WfI .i16 z.c2 ∧ True) {k i : Nat} (hk : 2 ≤ k ∧ k ≤ 16) (hi : i < l.length) (hl : l.length ≤ 200) {b : Int} (hb : 0 ≤ b ∧ b ≤ 65535) {s : law09_StuckFrozen_L7_s0} (h : Inv9 l k i s) :
    law09_StuckFrozen_L7_sel k b b l k s = true ∧ Inv9 l k (i + 1) (law09_StuckFrozen_L7_nx k b b l k s) := by
  obtain ⟨h1, h2, h3, h4⟩ := h
  obtain ⟨c4, c7, c8, c9, c11, c12⟩ := s
  simp only at h1 h2 h3 h4
  subst h1 h3
  obtain ⟨f1, f2, f3, f4⟩ := frozen_is hw hk hi hl (b := b) h2 h4
  obtain ⟨s1, s2⟩ := S4_r hw hk hi hl
  have hV := (wf9 hw i).2
  obtain ⟨v1, v2, v3⟩ := vote_r9 (w := (k : Int)) (by omega) (i := i) (by omega) h2 (by omega)
  have hin : inb l.length (i : Int) = true := inb_of (by omega) (by omega)
  have wv : wi ((gt l (i : Int)).c2) = V9 l i := wi_eq (x := V9 l i) (by omega) (by omega)
  have wb : wi b = b := wi_eq (by omega) (by omega)
  have w1 : wi ((i : Int) + 1) = ((i + 1 : Nat) : Int) := by rw [wi_eq (by omega) (by omega)]; omega
  have hlt : decide ((i : Int) < ((l.length : Nat) : Int)) = true := decide_eq_true (by omega)
  obtain ⟨W, hW⟩ : ∃ W, W = wSt l k i (i + 1 - (i + 1 - k)) := ⟨_, rfl⟩
  have hlo := lo_spec (V := V9 l) (n0 := i + 1 - k) (fun j => (wf9 hw j).2) (min (i + 1 - (i + 1 - k)) (i - (i + 1 - k)))
  have hhi := hi_spec (V := V9 l) (n0 := i + 1 - k) (fun j => (wf9 hw j).2) (min (i + 1 - (i + 1 - k)) (i - (i + 1 - k)))
  have b7 : -65536 ≤ W.c7 ∧ W.c7 ≤ 65536 := by rw [hW]; exact ⟨hlo.2.2.2, hlo.2.2.1⟩
  have b8 : -65536 ≤ W.c8 ∧ W.c8 ≤ 65536 := by rw [hW]; exact ⟨hhi.2.2.2, hhi.2.2.1⟩
  have wd : wi (W.c8 - W.c7) = W.c8 - W.c7 := wi_eq (by omega) (by omega)
  rw [← hW] at f2 s2
  have e0 : law09_StuckFrozen_S6_e0 l (k : Int) (i : Int) = W.c6 := by simp only [law09_StuckFrozen_S6_e0, s2]
  have e1 : law09_StuckFrozen_S6_e1 l (k : Int) (i : Int) = W.c7 := by simp only [law09_StuckFrozen_S6_e1, s2]
  have e2 : law09_StuckFrozen_S6_e2 l (k : Int) (i : Int) = W.c8 := by simp only [law09_StuckFrozen_S6_e2, s2]
  generalize hF : law09_StuckFrozen_S2_r0_5 k b c7 c8 c9 c11 (rowF k (ms9 l) (N9 l) i : Nat) l i = F at f2
  have z0 : ((0 : Int) != 0) = false := rfl
  have S5 : law09_StuckFrozen_S5_c0 k c8 b l i F W.c6 W.c7 W.c8 = true ∧ law09_StuckFrozen_S5_r0_5 b l i F W.c6 W.c7 W.c8 = false ∧
      law09_StuckFrozen_S5_r0_8 c7 c8 b l i F W.c6 W.c7 W.c8 = stuck_Room_Vote_pi_Fi20_r0_3 c7 c8 (V9 l i) ∧ law09_StuckFrozen_S5_r0_9 k c8 b l i F W.c6 W.c7 W.c8 = stuck_Room_Vote_pi_Fi20_r0_4 k c8 (V9 l i) ∧
      law09_StuckFrozen_S5_r0_10 k c9 b l i F W.c6 W.c7 W.c8 = stuck_Room_Vote_pi_Fi20_r0_5 k c9 (V9 l i) := by
    have vz : stuck_Room_Vote_pi_Fi20_r0_0 (V9 l i) = 0 := v2
    rw [f2]
    cases W.c6 <;> cases hd : decide (b < W.c8 - W.c7) <;>
      simp [law09_StuckFrozen_S5_c0, law09_StuckFrozen_S5_r0_5, law09_StuckFrozen_S5_r0_8, law09_StuckFrozen_S5_r0_9, law09_StuckFrozen_S5_r0_10, wb, wd, hd, hin, wv, v1, vz]
  obtain ⟨t1, t2, t3, t4, t5⟩ := S5
  have S6 : law09_StuckFrozen_S6_c0 k b c7 c8 c9 c11 (rowF k (ms9 l) (N9 l) i : Nat) b l k i = false ∧ law09_StuckFrozen_S6_c1 k b c7 c8 c9 c11 (rowF k (ms9 l) (N9 l) i : Nat) b l k i = true := by
    simp only [law09_StuckFrozen_S6_c0, law09_StuckFrozen_S6_c1, f1, s1, e0, e1, e2, hF, t1, t2, tb_eq, cond_true, cond_false, and_self]
  refine ⟨by simp only [law09_StuckFrozen_L7_sel, law09_StuckFrozen_S1_c0, hlt, S6.1, S6.2, tb_eq, cond_true, cond_false], ?_⟩
  simp only [law09_StuckFrozen_L7_nx, e0, e1, e2, hF, t3, t4, t5]
  exact ⟨w1, v3, f3, fun h => f4 h⟩
theorem pure_StuckFrozen (x0 : Int) (x1 : Int) (x2 : Bool) (x3 : List R_bool_i16_i16) (wx0 : WfI .u8 x0) (wx1 : WfI .u16 x1) (wx3 : (x3.length ≤ maxLen ∧ x3.length * 6 ≤ 140737488351232 ∧ ∀ z ∈ x3, WfI .i16 z.c1 ∧ WfI .i16 z.c2 ∧ True)) : law09_StuckFrozen_c0 x0 x1 x3 = true ∧ (law09_StuckFrozen_r0_0 x0 x1 x3) = true := by
  by_cases hl : 200 < x3.length
  · have : decide (200 < ((x3.length : Nat) : Int)) = true := decide_eq_true (by omega)
    simp [law09_StuckFrozen_c0, law09_StuckFrozen_r0_0, law09_StuckFrozen_S0_c0, this]
  have d0 : decide (200 < ((x3.length : Nat) : Int)) = false := decide_eq_false (by omega)
  have S0 : law09_StuckFrozen_S0_c0 x3 = false := by simp only [law09_StuckFrozen_S0_c0, d0, tb_eq, cond_false]
  have hx0 := wfI_u8 wx0
  simp [WfI, Lit.wf, IntKind.min, IntKind.max, IntKind.signed, IntKind.bits] at wx1
  have r0 : remI .u8 x0 15 = x0 % 15 := by unfold remI; exact Int.tmod_eq_emod_of_nonneg hx0.1
  have r1 : wi (x0 % 15) = x0 % 15 := wi_eq (by omega) (by omega)
  have r2 : wi (x0 % 15 + 2) = x0 % 15 + 2 := wi_eq (by omega) (by omega)
  obtain ⟨k, hk⟩ : ∃ k : Nat, x0 % 15 + 2 = (k : Int) := ⟨(x0 % 15 + 2).toNat, by omega⟩
  have hk2 : 2 ≤ k ∧ k ≤ 16 := by omega
  have wb : wi x1 = x1 := wi_eq (by omega) (by omega)
  have hw := wx3.2.2
  have N0 : stuck_New_ii_c0 (k : Int) x1 = false := by
    have g1 : decide ((k : Int) < 2) = false := decide_eq_false (by omega)
    have g2 : decide (16 < (k : Int)) = false := decide_eq_false (by omega)
    have g3 : decide (x1 < 0) = false := decide_eq_false (by omega)
    have g4 : decide (-2147483648 ≤ x1) = true := decide_eq_true (by omega)
    have g5 : decide (x1 ≤ 2147483647) = true := decide_eq_true (by omega)
    simp only [stuck_New_ii_c0, stuck_right_i_r0_0, g1, g2, g3, g4, g5, tb_eq, cond_true, cond_false]
  obtain ⟨s1, e, ⟨i, hJ1, hJ2⟩, hn⟩ := idx_loop (sel := law09_StuckFrozen_L7_sel (k : Int) x1 x1 x3 (k : Int)) (nx := law09_StuckFrozen_L7_nx (k : Int) x1 x1 x3 (k : Int)) (s0 := ⟨0, [0, 0, 0, 0, 0, 0, 0, 0, 0, 0, 0, 0, 0, 0, 0, 0], 0, 0, 0, 0⟩) (x3.length : Int) (fun s => s.c4)
    (fun s => ∃ i : Nat, i ≤ x3.length ∧ Inv9 x3 k i s) (by omega) ⟨0, by omega, rfl, ⟨by simp, by show (0 : Int) = min ((0 : Nat) : Int) ((k : Int) - 1); omega, fun j _ hj => by omega⟩, rfl, fun h => by simp [rowF] at h⟩ (by simp) (by simp)
    (fun s ⟨i, hi1, hi2⟩ g1 g2 => by
      have hc : s.c4 = (i : Int) := hi2.1
      obtain ⟨q1, q2⟩ := round9 hw hk2 (i := i) (by omega) (by omega) (b := x1) (by omega) hi2
      exact ⟨q1, ⟨i + 1, by omega, q2⟩, by rw [q2.1, hc]; omega⟩)
    (fun s _ hs => by
      have : ¬ (s.c4 < ((x3.length : Nat) : Int)) := by omega
      simp only [law09_StuckFrozen_L7_sel, law09_StuckFrozen_S1_c0, this, decide_false, tb_eq, cond_false])
  have hn' : s1.c4 = x3.length := hn
  have ok : law09_StuckFrozen_L7_ok (k : Int) x1 x1 x3 (k : Int) ⟨0, [0, 0, 0, 0, 0, 0, 0, 0, 0, 0, 0, 0, 0, 0, 0, 0], 0, 0, 0, 0⟩ = true := by simp only [law09_StuckFrozen_L7_ok, e]; rfl
  have en : law09_StuckFrozen_S8_e0 x1 x3 (k : Int) = s1 := by simp only [law09_StuckFrozen_S8_e0, wb, law09_StuckFrozen_L7_end, e]; rfl
  have hf : ¬ (s1.c4 < ((x3.length : Nat) : Int)) := by omega
  have S1f : law09_StuckFrozen_S1_c0 x3 s1.c4 = false := by simp only [law09_StuckFrozen_S1_c0, hf, decide_false, tb_eq, cond_false]
  have c0 : law09_StuckFrozen_L7_c0 (k : Int) x1 x1 x3 (k : Int) s1 = false := by simp only [law09_StuckFrozen_L7_c0, S1f, tb_eq, cond_false]
  have c1 : law09_StuckFrozen_L7_c1 x3 s1 = true := by simp only [law09_StuckFrozen_L7_c1, S1f, tb_eq, cond_false]
  have S8 : law09_StuckFrozen_S8_c0 x1 x3 (k : Int) = false ∧ law09_StuckFrozen_S8_c1 x1 x3 (k : Int) = true := by
    simp only [law09_StuckFrozen_S8_c0, law09_StuckFrozen_S8_c1, wb, N0, ok, en, c0, c1, tb_eq, cond_true, cond_false, and_self]
  rw [hk] at r2
  simp only [law09_StuckFrozen_c0, law09_StuckFrozen_r0_0, S0, r0, r1, hk, r2, S8.1, S8.2, tb_eq, cond_true, cond_false, and_self]
end Go.Proofs.Ytdlhhoejnhjbhaa.Den

namespace Go.Proofs.Ytdlhhoejnhjbhaa.Den
open Go Go.Proofs
set_option maxRecDepth 100000
theorem own : ownKnob Try.prog.godebug = none := by kernel_rfl
theorem laidOut : laidOutB Try.prog = true := by kernel_rfl
theorem mixed : Try.prog.follows .mixedOrders = true := by kernel_rfl
theorem envOK : EnvOK Try.prog E0 := ⟨e0_cf, fun f args m r m' h => by simp [E0] at h, e0_del⟩
theorem glOK (w : World) : GlOK E0 (cx0 w) := fun g cs h => by simp [E0] at h
end Go.Proofs.Ytdlhhoejnhjbhaa.Den

namespace Go.Proofs.Ytdlhhoejnhjbhaa.Den
open Go Go.Proofs Go.ChangeShapes Go.WideShapes Go.ChangeAt Go.RowKit
open Go.Proofs.Ytdlhhoejnhjbhaa (Rows.stuckFrozenSpec Rows.stuckFrozenRow Rows.StuckFrozenSaid)
set_option maxRecDepth 100000
set_option linter.unusedSimpArgs false
set_option linter.unusedVariables false
theorem row11 (rs : List (List D)) (h : TyAll Try.prog 20 Try.f11.params.toList rs) : ∃ k m', callD E0 k 11 (argsV Try.prog Try.f11.params.toList rs) [] = some ([.d (.bool true)], m') := by
  rw [Try.params11] at h ⊢
  simp only [TyAll] at h
  obtain ⟨_, _, rfl, q0, _, _, rfl, q1, _, _, rfl, q2, rfl⟩ := h
  have k0 := flatK_ok 20 _ _ _ (show flatK Try.prog 20 5 = some [.i .u8] by kernel_rfl) q0
  simp only [CellsK, CellK] at k0
  obtain ⟨_, _, rfl, ⟨a0_0, rfl, w0_0⟩, rfl⟩ := k0
  have k1 := flatK_ok 20 _ _ _ (show flatK Try.prog 20 64 = some [.i .u16] by kernel_rfl) q1
  simp only [CellsK, CellK] at k1
  obtain ⟨_, _, rfl, ⟨a1_0, rfl, w1_0⟩, rfl⟩ := k1
  have k2 := flatK_ok 20 _ _ _ (show flatK Try.prog 20 65 = some [.l 68] by kernel_rfl) q2
  simp only [CellsK, CellK] at k2
  obtain ⟨d2_0, _, rfl, y2_0, rfl⟩ := k2
  obtain ⟨n2_0, a2_0, rfl, v2_0⟩ : ∃ n l, d2_0 = slD enc_R_bool_i16_i16 true 3 n l ∧ (l.length ≤ maxLen ∧ l.length * 6 ≤ 140737488351232 ∧ ∀ z ∈ l, WfI .i16 z.c1 ∧ WfI .i16 z.c2 ∧ True) := by
    rcases y2_0 with rfl | ⟨rows1, rfl, hl1, hb1, m1, hr1⟩
    · exact ⟨true, [], rfl, by simp [maxLen], by simp, fun z hz => by simp at hz⟩
    · obtain ⟨l2, rfl, hw2⟩ : ∃ l : List R_bool_i16_i16, rows1 = l.map enc_R_bool_i16_i16 ∧ ∀ z ∈ l, WfI .i16 z.c1 ∧ WfI .i16 z.c2 ∧ True := rows_of (T := Ty Try.prog m1 68) (fun r hr => by
          have q := flatK_any (show flatK Try.prog 20 68 = some [.b, .i .i16, .i .i16] by kernel_rfl) hr
          simp only [CellsK, CellK] at q
          obtain ⟨_, _, rfl, ⟨b0, rfl⟩, _, _, rfl, ⟨b1, rfl, w1⟩, _, _, rfl, ⟨b2, rfl, w2⟩, rfl⟩ := q
          exact ⟨⟨b0, b1, b2⟩, rfl, ⟨w1, w2, trivial⟩⟩) rows1 hr1
      rw [List.length_map, show Try.prog.bytesOf 68 = 6 by kernel_rfl] at hb1
      rw [show isFlat Try.prog 68 = true by kernel_rfl, show Try.prog.cellsOf 68 = 3 by kernel_rfl]
      exact ⟨false, l2, slD_rs _ _ _ _, by simpa using hl1, hb1, hw2⟩
  simp only [argsV, argV, Try.underlying5, Try.underlying64, Try.underlying65, List.map_cons, List.map_nil]
  obtain ⟨g1, g2⟩ := pure_StuckFrozen a0_0 a1_0 n2_0 a2_0 w0_0 w1_0 v2_0
  have hc := law09_StuckFrozen_t0 a0_0 a1_0 n2_0 a2_0 g1
  rw [g2] at hc
  obtain ⟨k, hk⟩ := of_cl hc
  exact ⟨k, _, hk⟩
theorem stuckFrozen_lifted (os : Os) (started : os.Started) (H : Type) (enc : TypeId × Value → H) :
    ReturnsInHanded {} Try.checked os 11 .any (Rows.stuckFrozenSpec.pre6 enc Try.prog Try.f11 Rows.stuckFrozenRow.domain false) (Rows.stuckFrozenSpec.post enc Try.prog Try.f11 false true false false) :=
  law_lifted (C := Try.checked) (fn := Try.f11) mixed envOK glOK own started (by kernel_rfl) Try.func11 laidOut
    (ChangeSpec.witness6 (enc := enc) (C := Try.checked) false ⟨#[], #[.int .u8 0, .int .u16 0, .slice none 0 0], []⟩ 8 (by kernel_rfl) (by kernel_rfl) (by kernel_rfl) (by kernel_rfl))
    (by kernel_rfl) (rt := 4) rfl Try.underlying4 rfl
    (fun ds h => by
      match ds, h with
      | [_, _, _], _ => rfl)
    row11
theorem stuckFrozen_holds : Rows.StuckFrozenSaid :=
  OpenClaim.holds_of_wide 11 Try.f11 rfl rfl rfl rfl rfl rfl rfl ⟨rfl, rfl, rfl, rfl, rfl⟩ rfl rfl rfl rfl rfl (by kernel_rfl) Try.func11 (by kernel_rfl)
    (of_decide_eq_true (by kernel_rfl)) (by unfold Func.isWrapper; first | (rw [if_pos (by decide +kernel)]; kernel_rfl) | (rw [if_neg (by decide +kernel)]; exact ⟨rfl, rfl⟩))
    (fun os started H enc _ => stuckFrozen_lifted os started H enc)
end Go.Proofs.Ytdlhhoejnhjbhaa.Den
